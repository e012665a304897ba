/- The plain law behind CodeBack: what is written is taken, cut off it is cut off, and what is taken was written so. -/
import Derived.Test.YtpmcojmhkpaoaaaStatCodeBack
import Derived.Test.YtpmcojmhkpaoaaaLibV
set_option linter.unusedVariables false
set_option linter.unusedSimpArgs false
namespace Go.Proofs.Ytpmcojmhkpaoaaa.PA
open Go.RowKit Go.Proofs.YtpmcojmhkpaoaaaW.PrintWords Go.Proofs.YtpmcojmhkpaoaaaW.PrintLast Go.Proofs.YtpmcojmhkpaoaaaW.PrintMore

theorem rd43 (l : List S43) (i : Nat) (h : i < l.length) : rd_T43 l (i : Int) = l[i] := by simp [rd_T43, h]
theorem heavy5 (x : S43) : arraslaw5_heavy.f x.f0 x.f1 x.f2 x.f3 = some (decide ((x.f1.size : Int) > 65546 ∨ (x.f2.length : Int) > 2000 ∨ (x.f3.length : Int) > 3000)) := by
  unfold arraslaw5_heavy.f
  by_cases h1 : (x.f1.size : Int) > 65546
  · rw [if_pos h1]; simp [h1]
  · rw [if_neg h1]
    by_cases h2 : (x.f2.length : Int) > 2000
    · rw [if_pos h2]; simp [h2]
    · rw [if_neg h2]
      congr 1
      exact decide_eq_decide.2 ⟨fun h => .inr (.inr h), fun h => h.elim (absurd · h1) (fun h => h.elim (absurd · h2) id)⟩
theorem nums_L (l : List Int) (hl : l.length ≤ 1024) : ∀ (d i : Nat), i ≤ l.length → l.length - i = d → (∀ x ∈ l.take i, numIs x) →
    code_Nums.L0 l l (l.length : Int) (i : Int) = some (encN l, 0) ∧ (∀ x ∈ l, numIs x) ∨ code_Nums.L0 l l (l.length : Int) (i : Int) = some ([], 1) := by
  intro d
  induction d with
  | zero =>
    intro i hi hd h
    rw [List.take_of_length_le (by omega)] at h
    rw [code_Nums.L0_eq, if_neg (by omega), putAll l hl h]
    exact .inl ⟨rfl, h⟩
  | succ d ih =>
    intro i hi hd h
    have hil : i < l.length := by omega
    rw [code_Nums.L0_eq, if_pos (by omega), if_pos (by omega), if_pos (by omega), rd_nat l i hil]
    by_cases h1 : l[i] < 0
    · rw [if_pos h1]
      exact .inr rfl
    · rw [if_neg h1]
      by_cases h2 : l[i] > 4611686018427387904
      · rw [if_pos h2]
        exact .inr rfl
      · rw [if_neg h2, w64s (by omega) (by omega)]
        refine ih (i + 1) (by omega) (by omega) ?_
        rw [take_succ' l i hil]
        intro x hx
        rcases List.mem_append.1 hx with g | g
        · exact h x g
        · have : x = l[i] := by simpa using g
          subst this
          unfold numIs
          omega
theorem nums_F (l : List Int) : (code_Nums.F l = some (encN l, 0) ∧ l.length ≤ 1024 ∧ ∀ x ∈ l, numIs x) ∨ code_Nums.F l = some ([], 1) := by
  rw [code_Nums.F_eq]
  by_cases h : (l.length : Int) > 1024
  · rw [if_pos h]
    exact .inr rfl
  · rw [if_neg h]
    rcases nums_L l (by omega) l.length 0 (by omega) (by omega) (by simp) with g | g
    · exact .inl ⟨g.1, by omega, g.2⟩
    · exact .inr g

theorem back_L1 (l : List S43) (x3 : Int) (n : Int) (s : ByteArray) (v x : List Int) (hs : s.size ≤ 65536) (hb : IsBytes x) (hx : x.length ≤ 3000) (next : arraslaw5_CodeBack.L0 l (wrap64 (x3 + 1)) = some true) :
    ∀ (d j : Nat), j ≤ (encT s).length → (encT s).length - j = d → arraslaw5_CodeBack.L1 l x3 (encT s) (j : Int) n s v x = some true := by
  have hT := encT_length s hs
  intro d
  induction d with
  | zero =>
    intro j hj hd
    rw [arraslaw5_CodeBack.L1_eq, if_neg (by omega), takeNum x hb (by omega), Option.bind_some]
    simp only [arraslaw5_num.f, Option.bind_some]
    by_cases h : (tk x 0 0).2.2 = 0
    · obtain ⟨h1, h2, h3, h4⟩ := tk_ok x 0 0 h
      rw [if_pos h, code_num, if_pos ⟨h1, h2⟩, Option.bind_some]
      simp only [arraslaw5_num.f, Option.bind_some, if_true]
      have h9 := enc_length9 (n := (tk x 0 0).1.toNat) (by omega)
      rw [if_pos (by omega), if_pos (by omega), eqBytes _ _ (by omega), Option.bind_some, if_pos (decide_eq_true (tk_was x hb h))]
      exact next
    · rw [if_neg h]
      exact next
  | succ d ih =>
    intro j hj hd
    rw [arraslaw5_CodeBack.L1_eq, if_pos (by omega), if_pos (by omega), if_pos (by omega), Int.toNat_natCast, takeText _ ((encT_bytes s).take j) (by rw [List.length_take]; omega), Option.bind_some]
    simp only [arraslaw5_num.f, Option.bind_some]
    rw [if_pos (tkText_cut s j hs (by omega)), w64s (by omega) (by omega)]
    exact ih (j + 1) (by omega) (by omega)

theorem codeBack_L (l : List S43) (hl : l.length ≤ 9223372036854775807) (hok : ∀ a ∈ l, ok_T43 a) : ∀ (d i : Nat), i ≤ l.length → l.length - i = d → arraslaw5_CodeBack.L0 l (i : Int) = some true := by
  intro d
  induction d with
  | zero =>
    intro i hi hd
    rw [arraslaw5_CodeBack.L0_eq, if_neg (by omega), arraslaw5_CodeBack.J1_eq, if_neg (by simp), wakes5]
    rfl
  | succ d ih =>
    intro i hi hd
    have hil : i < l.length := by omega
    have next : arraslaw5_CodeBack.L0 l (wrap64 ((i : Int) + 1)) = some true := by
      rw [w64s (by omega) (by omega)]
      exact ih (i + 1) (by omega) (by omega)
    rw [arraslaw5_CodeBack.L0_eq, if_pos (by omega), arraslaw5_CodeBack.J1_eq]
    by_cases h20 : (i : Int) < 20
    · rw [if_pos (decide_eq_true h20), if_pos (by omega), if_pos (by omega), rd43 l i hil]
      obtain ⟨_, hs, hn, hx⟩ := hok l[i] (List.getElem_mem hil)
      generalize l[i] = x at *
      rw [heavy5, Option.bind_some]
      by_cases hv : (x.f1.size : Int) > 65546 ∨ (x.f2.length : Int) > 2000 ∨ (x.f3.length : Int) > 3000
      · rw [if_pos (decide_eq_true hv), arraslaw5_CodeBack.J2_eq, if_pos rfl]
      · rw [if_neg (by rw [decide_eq_true_eq]; exact hv)]
        by_cases hv2 : (x.f1.size : Int) > 300
        · rw [if_pos hv2, arraslaw5_CodeBack.J2_eq, if_pos rfl]
        · rw [if_neg hv2, arraslaw5_CodeBack.J2_eq]
          by_cases hv3 : (x.f2.length : Int) > 50
          · rw [if_pos (decide_eq_true hv3)]
          · have hb := IsBytes.of_wf hx.2.2
            have hlen : x.f3.length ≤ 3000 := by omega
            have hs' : x.f1.size ≤ 65536 := by omega
            have hT := encT_length x.f1 hs'
            have j5 : arraslaw5_CodeBack.J5 l (i : Int) (encT x.f1) false x.f0 x.f1 x.f2 x.f3 = some true := by
              rw [arraslaw5_CodeBack.J5_eq, if_neg (by simp)]
              exact back_L1 l i x.f0 x.f1 x.f2 x.f3 hs' hb hlen next (encT x.f1).length 0 (by omega) (by omega)
            have j4 : arraslaw5_CodeBack.J4 l (i : Int) (encT x.f1) false x.f0 x.f1 x.f2 x.f3 = some true := by
              rw [arraslaw5_CodeBack.J4_eq, if_neg (by simp)]
              rcases nums_F x.f2 with ⟨g, g1, g2⟩ | g
              · have h9 := encN_length x.f2 g1 g2
                rw [g, Option.bind_some]
                dsimp only
                rw [copyBytes _ (by omega), Option.bind_some, if_pos (by omega), takeNums _ ((encN_bytes _).append hb) (by rw [List.length_append]; omega), tkNums_put _ _ g1 g2, Option.bind_some]
                simp only [arraslaw5_num.f, Option.bind_some, if_true]
                rw [eqNumbers _ _ (by omega), Option.bind_some, if_pos (by simp), bne_self_eq_false]
                exact j5
              · rw [g, Option.bind_some]
                dsimp only
                rw [copyBytes _ (by simp), Option.bind_some, List.nil_append, if_pos (by simp; omega), takeNums _ hb (by omega), Option.bind_some]
                simp only [arraslaw5_num.f, Option.bind_some]
                rw [if_neg (by decide)]
                exact j5
            have j3 : arraslaw5_CodeBack.J3 l (i : Int) false x.f0 x.f1 x.f2 x.f3 = some true := by
              rw [arraslaw5_CodeBack.J3_eq, if_neg (by simp), text_F, if_pos hs', Option.bind_some]
              dsimp only
              rw [copyBytes _ (by omega), Option.bind_some, if_pos (by omega), takeText _ ((encT_bytes _).append hb) (by rw [List.length_append]; omega), tkText_put _ _ hs', Option.bind_some]
              simp only [arraslaw5_num.f, Option.bind_some, if_true]
              rw [bne_self_eq_false]
              exact j4
            rw [if_neg (by rw [decide_eq_true_eq]; exact hv3), code_num]
            by_cases hN : 0 ≤ x.f0 ∧ x.f0 ≤ 4611686018427387904
            · have h9 := enc_length9 (n := x.f0.toNat) (by omega)
              have e : ((x.f0.toNat : Nat) : Int) = x.f0 := by omega
              rw [if_pos hN, Option.bind_some]
              dsimp only
              rw [copyBytes _ (by omega), Option.bind_some, if_pos (by omega), takeNum _ ((enc_bytes _).append hb) (by rw [List.length_append]; omega), tk_put _ _ (by omega), Option.bind_some]
              simp only [arraslaw5_num.f, Option.bind_some, if_true, e]
              rw [bne_self_eq_false]
              exact j3
            · rw [if_neg hN, Option.bind_some]
              dsimp only
              rw [copyBytes _ (by simp), Option.bind_some, List.nil_append, if_pos (by simp; omega), takeNum _ hb (by omega), Option.bind_some]
              simp only [arraslaw5_num.f, Option.bind_some]
              rw [if_neg (by decide)]
              exact j3
    · rw [if_neg (by rw [decide_eq_true_eq]; exact h20), wakes5]
      rfl
theorem arraslaw5_CodeBack.proof : arraslaw5_CodeBack.Pure := by
  intro l ⟨hm, _, hok⟩
  refine Go.Proofs.YtpmcojmhkpaoaaaLabel.Lim.rounds (arraslaw5_CodeBack.F_lim l) ?_
  rw [arraslaw5_CodeBack.F_eq]
  exact codeBack_L l hm hok l.length 0 (by omega) (by omega)
end Go.Proofs.Ytpmcojmhkpaoaaa.PA
