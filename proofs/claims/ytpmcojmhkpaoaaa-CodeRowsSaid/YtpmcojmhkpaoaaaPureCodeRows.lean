/- The plain law behind CodeRows: numbers, texts and rows of numbers, written one behind another, are taken one behind another. -/
import Derived.Test.YtpmcojmhkpaoaaaStatCodeRows
import Derived.Test.YtpmcojmhkpaoaaaLibV
set_option linter.unusedVariables false
set_option linter.unusedSimpArgs false
namespace Go.Proofs.Ytpmcojmhkpaoaaa.PA
open Go.RowKit Go.Proofs.YtpmcojmhkpaoaaaW.PrintWords Go.Proofs.YtpmcojmhkpaoaaaW.PrintLast Go.Proofs.YtpmcojmhkpaoaaaW.PrintMore

theorem rd43 (l : List S43) (i : Nat) (h : i < l.length) : rd_T43 l (i : Int) = l[i] := by simp [rd_T43, h]
theorem heavy5 (x : S43) : arraslaw5_heavy.f x.f0 x.f1 x.f2 x.f3 = some (decide ((x.f1.size : Int) > 65546 ∨ (x.f2.length : Int) > 2000 ∨ (x.f3.length : Int) > 3000)) := by
  unfold arraslaw5_heavy.f
  by_cases h1 : (x.f1.size : Int) > 65546
  · rw [if_pos h1]; simp [h1]
  · rw [if_neg h1]
    by_cases h2 : (x.f2.length : Int) > 2000
    · rw [if_pos h2]; simp [h2]
    · rw [if_neg h2]
      congr 1
      exact decide_eq_decide.2 ⟨fun h => .inr (.inr h), fun h => h.elim (absurd · h1) (fun h => h.elim (absurd · h2) id)⟩
def numsIs (l : List Int) : Bool := decide (l.length ≤ 1024 ∧ ∀ x ∈ l, 0 ≤ x ∧ x ≤ 4611686018427387904)
theorem numsIs_iff {l : List Int} : numsIs l = true ↔ l.length ≤ 1024 ∧ ∀ x ∈ l, numIs x := by unfold numsIs numIs; rw [decide_eq_true_eq]
theorem nums_L (l : List Int) (hl : l.length ≤ 1024) : ∀ (d i : Nat), i ≤ l.length → l.length - i = d → (∀ x ∈ l.take i, numIs x) →
    code_Nums.L0 l l (l.length : Int) (i : Int) = some (if numsIs l = true then (encN l, 0) else ([], 1)) := by
  intro d
  induction d with
  | zero =>
    intro i hi hd h
    rw [List.take_of_length_le (by omega)] at h
    rw [code_Nums.L0_eq, if_neg (by omega), putAll l hl h, if_pos (numsIs_iff.2 ⟨hl, h⟩)]
    rfl
  | succ d ih =>
    intro i hi hd h
    have hil : i < l.length := by omega
    rw [code_Nums.L0_eq, if_pos (by omega), if_pos (by omega), if_pos (by omega), rd_nat l i hil]
    have bad : ¬ numIs l[i] → numsIs l ≠ true := fun g e => g ((numsIs_iff.1 e).2 _ (List.getElem_mem hil))
    by_cases h1 : l[i] < 0
    · rw [if_pos h1, if_neg (bad (by unfold numIs; omega))]
    · rw [if_neg h1]
      by_cases h2 : l[i] > 4611686018427387904
      · rw [if_pos h2, if_neg (bad (by unfold numIs; omega))]
      · rw [if_neg h2, w64s (by omega) (by omega)]
        refine ih (i + 1) (by omega) (by omega) ?_
        rw [take_succ' l i hil]
        intro x hx
        rcases List.mem_append.1 hx with g | g
        · exact h x g
        · have : x = l[i] := by simpa using g
          subst this
          unfold numIs
          omega
theorem nums_F (l : List Int) : code_Nums.F l = some (if numsIs l = true then (encN l, 0) else ([], 1)) := by
  rw [code_Nums.F_eq]
  by_cases h : (l.length : Int) > 1024
  · rw [if_pos h, if_neg (fun e => by have := (numsIs_iff.1 e).1; omega)]
  · rw [if_neg h]
    exact nums_L l (by omega) l.length 0 (by omega) (by omega) (by simp)
theorem refNumbers_L (l : List Int) (hl : l.length < 9223372036854775807) : ∀ (d i : Nat), i ≤ l.length → l.length - i = d → (∀ x ∈ l.take i, numIs x) → arrasref5_Numbers.L0 l (i : Int) = some (numsIs l) := by
  intro d
  induction d with
  | zero =>
    intro i hi hd h
    rw [List.take_of_length_le (by omega)] at h
    rw [arrasref5_Numbers.L0_eq, if_neg (by omega)]
    congr 1
    unfold numsIs
    exact decide_eq_decide.2 ⟨fun g => ⟨by omega, h⟩, fun g => by omega⟩
  | succ d ih =>
    intro i hi hd h
    have hil : i < l.length := by omega
    have bad : ¬ numIs l[i] → numsIs l = false := fun g => by
      cases e : numsIs l
      · rfl
      · exact absurd ((numsIs_iff.1 e).2 _ (List.getElem_mem hil)) g
    rw [arrasref5_Numbers.L0_eq, if_pos (by omega), if_pos (by omega), rd_nat l i hil]
    unfold arrasref5_Number.f
    by_cases h1 : l[i] ≥ 0
    · rw [if_pos h1, Option.bind_some]
      by_cases h2 : l[i] ≤ 4611686018427387904
      · rw [if_pos (decide_eq_true h2), w64s (by omega) (by omega)]
        refine ih (i + 1) (by omega) (by omega) ?_
        rw [take_succ' l i hil]
        intro x hx
        rcases List.mem_append.1 hx with g | g
        · exact h x g
        · have : x = l[i] := by simpa using g
          subst this
          unfold numIs
          omega
      · rw [if_neg (by rw [decide_eq_true_eq]; exact h2), bad (by unfold numIs; omega)]
    · rw [if_neg h1, Option.bind_some, if_neg (by decide), bad (by unfold numIs; omega)]
theorem refNumbers (l : List Int) (hl : l.length < 9223372036854775807) : arrasref5_Numbers.F l = some (numsIs l) := by
  rw [arrasref5_Numbers.F_eq]
  exact refNumbers_L l hl l.length 0 (by omega) (by omega) (by simp)
def wv (a : Int) : Nat := (a % 18446744073709551616 % 4611686018427387904).toNat
theorem within62 (a : Int) : arraslaw0_Within.f a 4611686018427387904 = some (wv a : Int) ∧ wv a ≤ 4611686018427387904 := by
  have e : ∀ x, IntKind.u64.wrap x = x % 18446744073709551616 := fun x => by simp [IntKind.wrap, IntKind.bits, IntKind.signed]
  unfold arraslaw0_Within.f wv
  rw [e, e, if_neg (by decide), show (4611686018427387904 : Int) % 18446744073709551616 = 4611686018427387904 from rfl, Int.tmod_eq_emod_of_nonneg (by omega), w64 (by omega) (by omega)]
  exact ⟨by congr 1; omega, by omega⟩

/-- What one asked for adds. -/
def piece (x : S43) : List Int := enc (wv x.f0) ++ (encT x.f1 ++ (if numsIs x.f2 = true then encN x.f2 else []))
def pieces : List S43 → List Int
  | [] => []
  | x :: r => piece x ++ pieces r
theorem pieces_append : ∀ a b : List S43, pieces (a ++ b) = pieces a ++ pieces b
  | [], _ => rfl
  | x :: r, b => by
    show piece x ++ pieces (r ++ b) = piece x ++ pieces r ++ pieces b
    rw [pieces_append r b, List.append_assoc]
theorem piece_bytes (x : S43) : IsBytes (piece x) := by
  refine (enc_bytes _).append ((encT_bytes _).append ?_)
  split
  · exact encN_bytes _
  · exact fun _ h => nomatch h
theorem pieces_bytes : ∀ l, IsBytes (pieces l)
  | [] => fun _ h => nomatch h
  | x :: r => (piece_bytes x).append (pieces_bytes r)
theorem piece_length (x : S43) (h : x.f1.size ≤ 65536) : (piece x).length ≤ 80000 := by
  have h9 := enc_length9 (within62 x.f0).2
  have hT := encT_length x.f1 h
  unfold piece
  rw [List.length_append, List.length_append]
  split
  · have g := numsIs_iff.1 ‹_›
    have := encN_length x.f2 g.1 g.2
    omega
  · simp
    omega
theorem pieces_length : ∀ l : List S43, (∀ x ∈ l, x.f1.size ≤ 65536) → (pieces l).length ≤ 80000 * l.length
  | [], _ => by simp [pieces]
  | x :: r, h => by
    have h1 := piece_length x (h x List.mem_cons_self)
    have h2 := pieces_length r (fun y hy => h y (List.mem_cons_of_mem _ hy))
    unfold pieces
    rw [List.length_append, List.length_cons]
    omega

theorem rows_L1 (l : List S43) (hl : l.length ≤ 9223372036854775807) (m : Nat) (hm : m ≤ 20) (hm2 : m ≤ l.length) (hm3 : m = l.length ∨ m = 20) (hs : ∀ x ∈ l.take m, x.f1.size ≤ 65536) (hn : ∀ x ∈ l.take m, x.f2.length ≤ 2000) (B : List Int) (hB : IsBytes B) (hBl : B.length ≤ 1600000) :
    ∀ (r : List S43) (j : Nat) (pre : List Int), j ≤ m → (l.take m).drop j = r → B = pre ++ pieces r → arraslaw5_CodeRows.L1 l B (pre.length : Int) (j : Int) = some true := by
  intro r
  induction r with
  | nil =>
    intro j pre hj hr e
    have hjm : j = m := by
      have : ((l.take m).drop j).length = 0 := by rw [hr]; rfl
      rw [List.length_drop, List.length_take] at this
      omega
    have hlen : pre.length = B.length := by rw [e]; simp [pieces]
    have j5 : arraslaw5_CodeRows.J5 l B (pre.length : Int) (j : Int) false = some true := by
      rw [arraslaw5_CodeRows.J5_eq, if_neg (by decide), if_pos (by omega), wakes5]
      rfl
    rw [arraslaw5_CodeRows.L1_eq]
    by_cases h : (j : Int) < (l.length : Int)
    · rw [if_pos h, decide_eq_false (by omega)]
      exact j5
    · rw [if_neg h]
      exact j5
  | cons x r ih =>
    intro j pre hj hr e
    have hjm : j < m := by
      have : ((l.take m).drop j).length = r.length + 1 := by rw [hr]; rfl
      rw [List.length_drop, List.length_take] at this
      omega
    have hjl : j < l.length := by omega
    have hx : l[j] = x := by
      have h1 : (l.take m).drop j = (l.take m)[j]'(by rw [List.length_take]; omega) :: (l.take m).drop (j + 1) := List.drop_eq_getElem_cons _
      rw [hr] at h1
      have := (List.cons.inj h1).1
      rw [this]
      simp
    have hr' : (l.take m).drop (j + 1) = r := by
      have h1 : (l.take m).drop j = (l.take m)[j]'(by rw [List.length_take]; omega) :: (l.take m).drop (j + 1) := List.drop_eq_getElem_cons _
      rw [hr] at h1
      exact (List.cons.inj h1).2.symm
    have hmem : x ∈ l.take m := by
      have : x ∈ (l.take m).drop j := by rw [hr]; exact List.mem_cons_self
      exact List.mem_of_mem_drop this
    have hsz := hs x hmem
    have hnl := hn x hmem
    have er := rd43 l j hjl
    rw [hx] at er
    have h9 := enc_length9 (within62 x.f0).2
    have hTl := encT_length x.f1 hsz
    -- where each part stands
    generalize hC : (if numsIs x.f2 = true then encN x.f2 else []) = C at *
    have eP : B = pre ++ (enc (wv x.f0) ++ (encT x.f1 ++ (C ++ pieces r))) := by
      rw [e]
      show pre ++ (piece x ++ pieces r) = _
      unfold piece
      rw [hC]
      simp only [List.append_assoc]
    have d1 : B.drop pre.length = enc (wv x.f0) ++ (encT x.f1 ++ (C ++ pieces r)) := by rw [eP, List.drop_left]
    have l1 : pre.length + (enc (wv x.f0)).length + (encT x.f1).length + C.length ≤ B.length := by
      rw [eP]
      simp only [List.length_append]
      omega
    have d2 : B.drop (pre.length + (enc (wv x.f0)).length) = encT x.f1 ++ (C ++ pieces r) := by
      rw [← List.drop_drop, d1, List.drop_left]
    have d3 : B.drop (pre.length + (enc (wv x.f0)).length + (encT x.f1).length) = C ++ pieces r := by
      rw [← List.drop_drop, d2, List.drop_left]
    have c1 : (pre.length : Int) + ((enc (wv x.f0)).length : Int) = ((pre.length + (enc (wv x.f0)).length : Nat) : Int) := by omega
    have c2 : ((pre.length + (enc (wv x.f0)).length : Nat) : Int) + ((encT x.f1).length : Int) = ((pre.length + (enc (wv x.f0)).length + (encT x.f1).length : Nat) : Int) := by omega
    have last : ∀ q : Nat, q = pre.length + (enc (wv x.f0)).length + (encT x.f1).length + C.length → arraslaw5_CodeRows.L1 l B (q : Int) (wrap64 ((j : Int) + 1)) = some true := by
      intro q hq
      have e3 : B = (pre ++ (enc (wv x.f0) ++ (encT x.f1 ++ C))) ++ pieces r := by rw [eP]; simp only [List.append_assoc]
      have := ih (j + 1) (pre ++ (enc (wv x.f0) ++ (encT x.f1 ++ C))) (by omega) hr' e3
      rw [w64s (by omega) (by omega)]
      have e4 : ((pre ++ (enc (wv x.f0) ++ (encT x.f1 ++ C))).length : Int) = (q : Int) := by
        simp only [List.length_append]
        omega
      rw [e4] at this
      exact this
    rw [arraslaw5_CodeRows.L1_eq, if_pos (by omega), decide_eq_true (by omega : (j : Int) < 20), arraslaw5_CodeRows.J5_eq, if_pos rfl, if_pos (by omega), if_pos (by omega), Int.toNat_natCast,
      takeNum _ (hB.drop _) (by rw [List.length_drop]; omega), d1, tk_put _ _ (within62 x.f0).2, Option.bind_some]
    simp only [arraslaw5_num.f, Option.bind_some, if_true]
    rw [if_pos (by omega), if_pos (by omega), er, (within62 x.f0).1, Option.bind_some, bne_self_eq_false, arraslaw5_CodeRows.J6_eq, if_neg (by decide), c1, w64 (by omega) (by omega), if_pos (by omega), if_pos (by omega), Int.toNat_natCast,
      takeText _ (hB.drop _) (by rw [List.length_drop]; omega), d2, tkText_put _ _ hsz, Option.bind_some]
    simp only [arraslaw5_num.f, Option.bind_some, if_true]
    rw [if_pos (by omega), if_pos (by omega), er, bne_self_eq_false, arraslaw5_CodeRows.J7_eq, if_neg (by decide), if_pos (by omega), if_pos (by omega), er, refNumbers _ (by omega), Option.bind_some, c2, w64 (by omega) (by omega)]
    by_cases hN : numsIs x.f2 = true
    · have g := numsIs_iff.1 hN
      rw [if_pos hN] at hC
      subst hC
      have hNl := encN_length x.f2 g.1 g.2
      have c3 : ((pre.length + (enc (wv x.f0)).length + (encT x.f1).length : Nat) : Int) + ((encN x.f2).length : Int) = ((pre.length + (enc (wv x.f0)).length + (encT x.f1).length + (encN x.f2).length : Nat) : Int) := by omega
      rw [if_pos hN, if_pos (by omega), if_pos (by omega), Int.toNat_natCast, takeNums _ (hB.drop _) (by rw [List.length_drop]; omega), d3, tkNums_put _ _ g.1 g.2, Option.bind_some]
      simp only [arraslaw5_num.f, Option.bind_some, if_true]
      rw [eqNumbers _ _ (by omega), Option.bind_some, if_pos (by simp), c3, w64 (by omega) (by omega)]
      exact last _ rfl
    · rw [if_neg hN] at hC
      subst hC
      rw [if_neg hN]
      exact last _ (by simp)

theorem rows_L0 (l : List S43) (hl : l.length ≤ 9223372036854775807) (hok : ∀ a ∈ l, ok_T43 a) : ∀ (d i : Nat), i ≤ l.length → i ≤ 20 → l.length - i = d → (∀ x ∈ l.take i, x.f1.size ≤ 65536) → (∀ x ∈ l.take i, x.f2.length ≤ 2000) → arraslaw5_CodeRows.L0 l (pieces (l.take i)) (i : Int) = some true := by
  have fin : ∀ m : Nat, m ≤ 20 → m ≤ l.length → (m = l.length ∨ m = 20) → (∀ x ∈ l.take m, x.f1.size ≤ 65536) → (∀ x ∈ l.take m, x.f2.length ≤ 2000) → arraslaw5_CodeRows.J1 l (pieces (l.take m)) (m : Int) false = some true := by
    intro m h1 h2 h3 h4 h5
    have hB := pieces_length (l.take m) h4
    rw [List.length_take] at hB
    rw [arraslaw5_CodeRows.J1_eq, if_neg (by decide)]
    exact rows_L1 l hl m h1 h2 h3 h4 h5 (pieces (l.take m)) (pieces_bytes _) (by omega) (l.take m) 0 [] (by omega) (by simp) (by simp)
  intro d
  induction d with
  | zero =>
    intro i hi h20 hd h4 h5
    rw [arraslaw5_CodeRows.L0_eq, if_neg (by omega)]
    exact fin i h20 hi (by omega) h4 h5
  | succ d ih =>
    intro i hi h20 hd h4 h5
    have hil : i < l.length := by omega
    rw [arraslaw5_CodeRows.L0_eq, if_pos (by omega)]
    by_cases hlt : i < 20
    · have hpl := pieces_length (l.take i) h4
      rw [List.length_take] at hpl
      rw [decide_eq_true (by omega : (i : Int) < 20), arraslaw5_CodeRows.J1_eq, if_pos rfl, if_pos (by omega), if_pos (by omega), rd43 l i hil]
      have etk : pieces (l.take (i + 1)) = pieces (l.take i) ++ piece l[i] := by
        rw [List.take_succ_eq_append_getElem hil, pieces_append]
        congr 1
        exact List.append_nil _
      have mem : ∀ y ∈ l.take (i + 1), y ∈ l.take i ∨ y = l[i] := by
        intro y hy
        rw [List.take_succ_eq_append_getElem hil] at hy
        rcases List.mem_append.1 hy with g | g
        · exact .inl g
        · exact .inr (by simpa using g)
      generalize l[i] = x at *
      rw [heavy5, Option.bind_some]
      by_cases hv : (x.f1.size : Int) > 65546 ∨ (x.f2.length : Int) > 2000 ∨ (x.f3.length : Int) > 3000
      · rw [if_pos (decide_eq_true hv), arraslaw5_CodeRows.J2_eq, if_pos rfl]
      · rw [if_neg (by rw [decide_eq_true_eq]; exact hv)]
        by_cases hv2 : (x.f1.size : Int) > 300
        · rw [if_pos hv2, arraslaw5_CodeRows.J2_eq, if_pos rfl]
        · rw [if_neg hv2, arraslaw5_CodeRows.J2_eq]
          by_cases hv3 : (x.f2.length : Int) > 50
          · rw [if_pos (decide_eq_true hv3)]
          · have hs' : x.f1.size ≤ 65536 := by omega
            have hT := encT_length x.f1 hs'
            have h9 := enc_length9 (within62 x.f0).2
            have hp := piece_length x hs'
            have hw := within62 x.f0
            rw [if_neg (by rw [decide_eq_true_eq]; exact hv3), hw.1, Option.bind_some, code_num, if_pos ⟨by omega, by omega⟩, Option.bind_some, text_F, if_pos hs', Option.bind_some, nums_F, Option.bind_some, Int.toNat_natCast]
            simp only [arraslaw5_num.f, Option.bind_some, if_true]
            rw [refNumbers _ (by omega), Option.bind_some]
            have eb : (((if numsIs x.f2 = true then (encN x.f2, (0 : Int)) else ([], 1)).2 == 0) != numsIs x.f2) = false := by
              by_cases g : numsIs x.f2 = true
              · rw [if_pos g, g]; rfl
              · rw [if_neg g]
                have : numsIs x.f2 = false := by simpa using g
                rw [this]; rfl
            have ec : (if numsIs x.f2 = true then (encN x.f2, (0 : Int)) else ([], 1)).1 = (if numsIs x.f2 = true then encN x.f2 else []) := by
              split <;> rfl
            rw [eb, ec, arraslaw5_CodeRows.J3_eq, if_neg (by decide)]
            have hpc : piece x = enc (wv x.f0) ++ (encT x.f1 ++ (if numsIs x.f2 = true then encN x.f2 else [])) := rfl
            generalize (if numsIs x.f2 = true then encN x.f2 else []) = C at *
            have hl3 : (piece x).length = (enc (wv x.f0)).length + ((encT x.f1).length + C.length) := by rw [hpc, List.length_append, List.length_append]
            rw [if_pos (by omega), Option.bind_some, if_pos (by rw [List.length_append]; omega), Option.bind_some, if_pos (by rw [List.length_append, List.length_append]; omega), w64s (by omega) (by omega)]
            have e5 : pieces (l.take i) ++ enc (wv x.f0) ++ encT x.f1 ++ C = pieces (l.take (i + 1)) := by
              rw [etk, hpc]
              simp only [List.append_assoc]
            rw [e5]
            exact ih (i + 1) (by omega) (by omega) (by omega) (fun y hy => (mem y hy).elim (h4 y) (fun e => by rw [e]; exact hs')) (fun y hy => (mem y hy).elim (h5 y) (fun e => by rw [e]; omega))
    · rw [decide_eq_false (by omega)]
      exact fin i h20 hi (by omega) h4 h5
theorem arraslaw5_CodeRows.proof : arraslaw5_CodeRows.Pure := by
  intro l ⟨hm, _, hok⟩
  refine Go.Proofs.YtpmcojmhkpaoaaaLabel.Lim.rounds (arraslaw5_CodeRows.F_lim l) ?_
  rw [arraslaw5_CodeRows.F_eq]
  exact rows_L0 l hm hok l.length 0 (by omega) (by omega) (by omega) (by simp) (by simp)
end Go.Proofs.Ytpmcojmhkpaoaaa.PA
