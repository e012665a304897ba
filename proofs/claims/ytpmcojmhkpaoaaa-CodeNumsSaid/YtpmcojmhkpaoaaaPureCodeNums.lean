/- The plain law behind CodeNums: the bytes of a number, of a text, of a row of numbers are the page's, or refused. -/
import Derived.Test.YtpmcojmhkpaoaaaStatCodeNums
import Derived.Laws.BitsLemmas
import Derived.Laws.Bits128
set_option linter.unusedVariables false
set_option linter.unusedSimpArgs false
namespace Go.Proofs.Ytpmcojmhkpaoaaa.PN
open Go.RowKit Go.Proofs.YtpmcojmhkpaoaaaW.PrintWords Go.Proofs.YtpmcojmhkpaoaaaW.PrintLast Go.Proofs.YtpmcojmhkpaoaaaW.PrintMore

theorem w64 {x : Int} (h0 : -9223372036854775808 ≤ x) (h1 : x < 9223372036854775808) : wrap64 x = x := by unfold wrap64; omega
theorem w64s {x : Int} (h0 : 0 ≤ x) (h1 : x < 9223372036854775807) : wrap64 (x + 1) = x + 1 := w64 (by omega) (by omega)
theorem rd_nat (l : List Int) (i : Nat) (h : i < l.length) : rd l (i : Int) = l[i] := by simp [rd, h]
theorem take_succ' {α : Type} (l : List α) (i : Nat) (h : i < l.length) : l.take (i + 1) = l.take i ++ [l[i]] := by
  rw [List.take_succ_eq_append_getElem h]

theorem eqBytes_L (a b : List Int) (hab : a.length = b.length) (hl : a.length < 9223372036854775807) : ∀ (d i : Nat), i ≤ a.length → a.length - i = d → arrasref0_EqBytes.L0 a b (i : Int) = some (decide (a.drop i = b.drop i)) := by
  intro d
  induction d with
  | zero =>
    intro i hi hd
    rw [arrasref0_EqBytes.L0_eq, if_neg (by omega), List.drop_of_length_le (by omega), List.drop_of_length_le (by omega)]
    simp
  | succ d ih =>
    intro i hi hd
    have ha : i < a.length := by omega
    have hb : i < b.length := by omega
    rw [arrasref0_EqBytes.L0_eq, if_pos (by omega), if_pos (by omega), if_pos (by omega), rd_nat a i ha, rd_nat b i hb, w64s (by omega) (by omega), List.drop_eq_getElem_cons ha, List.drop_eq_getElem_cons hb]
    by_cases h : a[i] = b[i]
    · rw [if_pos h, show ((i : Int) + 1) = ((i + 1 : Nat) : Int) from rfl, ih (i + 1) (by omega) (by omega)]
      exact congrArg some (decide_eq_decide.2 (by rw [List.cons.injEq]; exact ⟨fun e => ⟨h, e⟩, fun e => e.2⟩))
    · rw [if_neg h]
      exact congrArg some (decide_eq_false (fun e => h (List.cons.inj e).1)).symm
theorem eqBytes (a b : List Int) (hl : a.length < 9223372036854775807) : arrasref0_EqBytes.F a b = some (decide (a = b)) := by
  rw [arrasref0_EqBytes.F_eq]
  by_cases h : a.length = b.length
  · rw [if_pos (by omega)]
    exact eqBytes_L a b h hl a.length 0 (by omega) (by omega)
  · rw [if_neg (by omega)]
    have : ¬ a = b := fun e => h (by rw [e])
    simp [this]
def enc (n : Nat) : List Int := if h : n < 128 then [(n : Int)] else ((n % 128 + 128 : Nat) : Int) :: enc (n / 128)
 termination_by n
 decreasing_by omega
theorem enc_small {n : Nat} (h : n < 128) : enc n = [(n : Int)] := by rw [enc, dif_pos h]
theorem enc_big {n : Nat} (h : ¬ n < 128) : enc n = ((n % 128 + 128 : Nat) : Int) :: enc (n / 128) := by rw [enc, dif_neg h]
theorem enc_length_pos (n : Nat) : 0 < (enc n).length := by
  by_cases h : n < 128
  · simp [enc_small h]
  · simp [enc_big h]
theorem enc_length (n : Nat) : ∀ m, n < 128 ^ m → 0 < m → (enc n).length ≤ m := by
  induction n using Nat.strongRecOn with
  | _ n ih =>
    intro m hm h0
    by_cases h : n < 128
    · simp [enc_small h]; omega
    · obtain ⟨q, rfl⟩ : ∃ q, m = q + 1 := ⟨m - 1, by omega⟩
      rw [Nat.pow_succ] at hm
      have hq : 0 < q := by
        rcases Nat.eq_zero_or_pos q with rfl | hq
        · simp at hm; omega
        · exact hq
      have := ih (n / 128) (by omega) q (Nat.div_lt_of_lt_mul (by rw [Nat.mul_comm]; exact hm)) hq
      rw [enc_big h]
      simp
      omega
theorem enc_length9 {n : Nat} (h : n ≤ 4611686018427387904) : (enc n).length ≤ 9 := enc_length n 9 (by omega) (by omega)
theorem put_L : ∀ (n : Nat) (acc : List Int), n ≤ 4611686018427387904 → acc.length + (enc n).length < 140737488355328 → code_Put.L0 acc (n : Int) = some (acc ++ enc n) := by
  intro n
  induction n using Nat.strongRecOn with
  | _ n ih =>
    intro acc hn hl
    have := enc_length_pos n
    rw [code_Put.L0_eq]
    by_cases h : n < 128
    · rw [if_neg (by omega), if_pos (by omega), enc_small h, Int.emod_eq_of_lt (by omega) (by omega)]
    · rw [enc_big h] at hl ⊢
      simp only [List.length_cons] at hl
      rw [if_pos (by omega), if_pos (by omega)]
      have e1 : bits .or .u8 ((n : Int) % 256) 128 = ((n % 128 + 128 : Nat) : Int) := by
        by_cases hb : (n : Int) % 256 < 128
        · rw [u8_or128_right _ (by omega) hb]; omega
        · have e2 : (n : Int) % 256 = 128 + ((n % 128 : Nat) : Int) := by omega
          have hx : n % 256 < 256 := by omega
          have e3 := (bits_nat .u8 8 (by decide) wraps_u8 (n % 256) 128 (by omega) (by decide)).2
          rw [show ((n : Int) % 256) = ((n % 256 : Nat) : Int) by omega, show (128 : Int) = ((128 : Nat) : Int) from rfl, e3]
          have e4 : n % 256 ||| 128 = n % 256 := by
            have e5 : n % 256 = 2 ^ 7 * 1 + n % 128 := by omega
            rw [e5, Nat.two_pow_add_eq_or_of_lt (by omega) 1]
            apply Nat.eq_of_testBit_eq
            intro i
            simp only [Nat.testBit_or]
            cases Nat.testBit (2 ^ 7 * 1) i <;> cases Nat.testBit (n % 128) i <;> cases h : Nat.testBit 128 i <;> simp_all
          rw [e4]; omega
      rw [e1, show (n : Int) / 128 = ((n / 128 : Nat) : Int) by omega, ih (n / 128) (by omega) _ (by omega) (by simp; omega)]
      simp
theorem put_F (n : Nat) (acc : List Int) (hn : n ≤ 4611686018427387904) (hl : acc.length + (enc n).length < 140737488355328) : code_Put.F acc (n : Int) = some (acc ++ enc n) := by
  rw [code_Put.F_eq]; exact put_L n acc hn hl
theorem code_num (n : Int) : code_Num.F n = some (if 0 ≤ n ∧ n ≤ 4611686018427387904 then (enc n.toNat, 0) else ([], 1)) := by
  rw [code_Num.F_eq]
  by_cases h1 : n < 0
  · rw [if_pos h1, if_neg (by omega)]
  · rw [if_neg h1]
    by_cases h2 : n > 4611686018427387904
    · rw [if_pos h2, if_neg (by omega)]
    · rw [if_neg h2, if_pos (by omega)]
      obtain ⟨m, rfl⟩ := Int.eq_ofNat_of_zero_le (show 0 ≤ n by omega)
      have := enc_length9 (n := m) (by omega)
      rw [put_F m [] (by omega) (by simp; omega)]
      simp
theorem bits_or_comm (k : IntKind) (x y : Int) : bits .or k x y = bits .or k y x := by
  unfold bits
  simp only [BitVec.or_comm]
theorem wraps_i64 (n : Int) (h₀ : 0 ≤ n) (h₁ : n < 2 ^ 63) : IntKind.i64.wrap n = n := by rw [IntKind.wrap_i64]; omega
theorem wakes5 : arraslaw5_wakes.F = some true := by
  rw [arraslaw5_wakes.F_eq, code_num, Option.bind_some, if_pos (by decide)]
  have e : enc (Int.toNat 300) = [172, 2] := by
    rw [show Int.toNat 300 = 300 from rfl, enc_big (by decide), enc_small (by decide)]
    rfl
  rw [e]
  simp only [arraslaw5_num.f, Option.bind_some, if_true]
  rw [eqBytes _ _ (by decide)]
  rfl
theorem or128 (q : Int) (h0 : 0 ≤ q) (h1 : q < 128) : bits .or .u8 q 128 = q + 128 := by
  rw [bits_or_comm, bits_join .u8 8 (by decide) wraps_u8 7 128 q (by decide) (by decide) (by decide) h0 h1 (by omega), Int.add_comm]
theorem and127_i64 (c : Int) (h0 : 0 ≤ c) (h1 : c < 9223372036854775808) : bits .and .i64 c 127 = c % 128 := bits_mask .i64 63 (by decide) wraps_i64 7 (by decide) c h0 h1
theorem refNum_L : ∀ (n : Nat) (acc : List Int), n ≤ 4611686018427387904 → acc.length + (enc n).length < 140737488355328 → arrasref5_Num.L0 (n : Int) acc = some (acc ++ enc n) := by
  intro n
  induction n using Nat.strongRecOn with
  | _ n ih =>
    intro acc hn hl
    have hp := enc_length_pos n
    rw [arrasref5_Num.L0_eq]
    by_cases h : n < 128
    · rw [if_neg (by omega), if_pos (by omega), enc_small h]
      have : (n : Int) % 256 = n := by omega
      rw [this]
    · rw [enc_big h] at hl ⊢
      simp only [List.length_cons] at hl
      rw [if_pos (by omega), if_pos (by omega), and127_i64 _ (by omega) (by omega)]
      have e : (n : Int) % 128 % 256 = (n : Int) % 128 := by omega
      rw [e, or128 _ (by omega) (by omega)]
      have e1 : (n : Int) / 128 = ((n / 128 : Nat) : Int) := by omega
      have e2 : (n : Int) % 128 + 128 = ((n % 128 + 128 : Nat) : Int) := by omega
      rw [e1, e2, ih (n / 128) (by omega) _ (by omega) (by rw [List.length_append]; simp only [List.length_cons, List.length_nil]; omega)]
      simp
theorem refNum_F (n : Nat) (hn : n ≤ 4611686018427387904) : arrasref5_Num.F (n : Int) = some (enc n) := by
  have := enc_length9 hn
  rw [arrasref5_Num.F_eq, refNum_L n [] hn (by simp; omega)]
  simp
def encs : List Int → List Int
  | [] => []
  | x :: r => enc x.toNat ++ encs r
def numIs (x : Int) : Prop := 0 ≤ x ∧ x ≤ 4611686018427387904
def encN (l : List Int) : List Int := enc l.length ++ encs l
theorem encs_length : ∀ l : List Int, (∀ x ∈ l, numIs x) → (encs l).length ≤ 9 * l.length
  | [], _ => by simp [encs]
  | x :: r, h => by
    have h1 := encs_length r (fun y hy => h y (List.mem_cons_of_mem _ hy))
    have hx := h x List.mem_cons_self
    unfold numIs at hx
    have h2 := enc_length9 (n := x.toNat) (by omega)
    unfold encs
    rw [List.length_append, List.length_cons]
    omega
theorem encN_length (l : List Int) (hl : l.length ≤ 1024) (h : ∀ x ∈ l, numIs x) : (encN l).length ≤ 9225 := by
  have h1 := encs_length l h
  have h2 := enc_length9 (n := l.length) (by omega)
  unfold encN
  rw [List.length_append]
  omega
theorem putAll_L (l : List Int) (hl : l.length ≤ 1024) (h : ∀ x ∈ l, numIs x) : ∀ (d i : Nat) (acc : List Int), i ≤ l.length → l.length - i = d → acc.length + 9 * d < 140737488355328 →
    code_PutAll.L0 acc l (l.length : Int) (i : Int) = some (acc ++ encs (l.drop i)) := by
  intro d
  induction d with
  | zero =>
    intro i acc hi hd ha
    rw [code_PutAll.L0_eq, if_neg (by omega), List.drop_of_length_le (by omega)]
    simp [encs]
  | succ d ih =>
    intro i acc hi hd ha
    have hil : i < l.length := by omega
    have hx := h l[i] (List.getElem_mem hil)
    unfold numIs at hx
    have h9 := enc_length9 (n := l[i].toNat) (by omega)
    have e : l[i] = (l[i].toNat : Int) := by omega
    rw [code_PutAll.L0_eq, if_pos (by omega), if_pos (by omega), if_pos (by omega), rd_nat l i hil, List.drop_eq_getElem_cons hil]
    show (code_Put.F acc l[i]).bind _ = some (acc ++ (enc l[i].toNat ++ encs (l.drop (i + 1))))
    rw [e, put_F _ _ (by omega) (by omega), Option.bind_some, w64s (by omega) (by omega), ← List.append_assoc, Int.toNat_natCast]
    exact ih (i + 1) _ (by omega) (by omega) (by rw [List.length_append]; omega)
theorem putAll (l : List Int) (hl : l.length ≤ 1024) (h : ∀ x ∈ l, numIs x) : code_PutAll.F [] l = some (encN l) := by
  have h9 := enc_length9 (n := l.length) (by omega)
  rw [code_PutAll.F_eq, put_F l.length [] (by omega) (by simp; omega), Option.bind_some]
  have := putAll_L l hl h l.length 0 ([] ++ enc l.length) (by omega) (by omega) (by simp; omega)
  rw [List.drop_zero] at this
  simpa [encN] using this
def encT (s : ByteArray) : List Int := enc s.size ++ bytesOf s
theorem encT_length (s : ByteArray) (h : s.size ≤ 65536) : (encT s).length ≤ 65545 := by
  have h2 := enc_length9 (n := s.size) (by omega)
  unfold encT
  rw [List.length_append, bytesOf_length]
  omega
theorem text_F (s : ByteArray) : code_Text.F s = some (if s.size ≤ 65536 then (encT s, 0) else ([], 1)) := by
  rw [code_Text.F_eq]
  by_cases h : s.size ≤ 65536
  · have h2 := enc_length9 (n := s.size) (by omega)
    rw [if_neg (by omega), if_pos h, code_PutText.F_eq, put_F _ _ (by omega) (by simp; omega), Option.bind_some, List.nil_append, if_pos (by omega), Option.bind_some]
    rfl
  · rw [if_pos (by omega), if_neg h]
theorem rd43 (l : List S43) (i : Nat) (h : i < l.length) : rd_T43 l (i : Int) = l[i] := by simp [rd_T43, h]
theorem heavy5 (x : S43) : arraslaw5_heavy.f x.f0 x.f1 x.f2 x.f3 = some (decide ((x.f1.size : Int) > 65546 ∨ (x.f2.length : Int) > 2000 ∨ (x.f3.length : Int) > 3000)) := by
  unfold arraslaw5_heavy.f
  by_cases h1 : (x.f1.size : Int) > 65546
  · rw [if_pos h1]; simp [h1]
  · rw [if_neg h1]
    by_cases h2 : (x.f2.length : Int) > 2000
    · rw [if_pos h2]; simp [h2]
    · rw [if_neg h2]
      congr 1
      exact decide_eq_decide.2 ⟨fun h => .inr (.inr h), fun h => h.elim (absurd · h1) (fun h => h.elim (absurd · h2) id)⟩
def numsIs (l : List Int) : Bool := decide (l.length ≤ 1024 ∧ ∀ x ∈ l, 0 ≤ x ∧ x ≤ 4611686018427387904)
theorem numsIs_iff {l : List Int} : numsIs l = true ↔ l.length ≤ 1024 ∧ ∀ x ∈ l, numIs x := by unfold numsIs numIs; rw [decide_eq_true_eq]
theorem nums_L (l : List Int) (hl : l.length ≤ 1024) : ∀ (d i : Nat), i ≤ l.length → l.length - i = d → (∀ x ∈ l.take i, numIs x) →
    code_Nums.L0 l l (l.length : Int) (i : Int) = some (if numsIs l = true then (encN l, 0) else ([], 1)) := by
  intro d
  induction d with
  | zero =>
    intro i hi hd h
    rw [List.take_of_length_le (by omega)] at h
    rw [code_Nums.L0_eq, if_neg (by omega), putAll l hl h, if_pos (numsIs_iff.2 ⟨hl, h⟩)]
    rfl
  | succ d ih =>
    intro i hi hd h
    have hil : i < l.length := by omega
    rw [code_Nums.L0_eq, if_pos (by omega), if_pos (by omega), if_pos (by omega), rd_nat l i hil]
    have bad : ¬ numIs l[i] → numsIs l ≠ true := fun g e => g ((numsIs_iff.1 e).2 _ (List.getElem_mem hil))
    by_cases h1 : l[i] < 0
    · rw [if_pos h1, if_neg (bad (by unfold numIs; omega))]
    · rw [if_neg h1]
      by_cases h2 : l[i] > 4611686018427387904
      · rw [if_pos h2, if_neg (bad (by unfold numIs; omega))]
      · rw [if_neg h2, w64s (by omega) (by omega)]
        refine ih (i + 1) (by omega) (by omega) ?_
        rw [take_succ' l i hil]
        intro x hx
        rcases List.mem_append.1 hx with g | g
        · exact h x g
        · have : x = l[i] := by simpa using g
          subst this
          unfold numIs
          omega
theorem nums_F (l : List Int) : code_Nums.F l = some (if numsIs l = true then (encN l, 0) else ([], 1)) := by
  rw [code_Nums.F_eq]
  by_cases h : (l.length : Int) > 1024
  · rw [if_pos h, if_neg (fun e => by have := (numsIs_iff.1 e).1; omega)]
  · rw [if_neg h]
    exact nums_L l (by omega) l.length 0 (by omega) (by omega) (by simp)
theorem refNumbers_L (l : List Int) (hl : l.length < 9223372036854775807) : ∀ (d i : Nat), i ≤ l.length → l.length - i = d → (∀ x ∈ l.take i, numIs x) → arrasref5_Numbers.L0 l (i : Int) = some (numsIs l) := by
  intro d
  induction d with
  | zero =>
    intro i hi hd h
    rw [List.take_of_length_le (by omega)] at h
    rw [arrasref5_Numbers.L0_eq, if_neg (by omega)]
    congr 1
    unfold numsIs
    exact decide_eq_decide.2 ⟨fun g => ⟨by omega, h⟩, fun g => by omega⟩
  | succ d ih =>
    intro i hi hd h
    have hil : i < l.length := by omega
    have bad : ¬ numIs l[i] → numsIs l = false := fun g => by
      cases e : numsIs l
      · rfl
      · exact absurd ((numsIs_iff.1 e).2 _ (List.getElem_mem hil)) g
    rw [arrasref5_Numbers.L0_eq, if_pos (by omega), if_pos (by omega), rd_nat l i hil]
    unfold arrasref5_Number.f
    by_cases h1 : l[i] ≥ 0
    · rw [if_pos h1, Option.bind_some]
      by_cases h2 : l[i] ≤ 4611686018427387904
      · rw [if_pos (decide_eq_true h2), w64s (by omega) (by omega)]
        refine ih (i + 1) (by omega) (by omega) ?_
        rw [take_succ' l i hil]
        intro x hx
        rcases List.mem_append.1 hx with g | g
        · exact h x g
        · have : x = l[i] := by simpa using g
          subst this
          unfold numIs
          omega
      · rw [if_neg (by rw [decide_eq_true_eq]; exact h2), bad (by unfold numIs; omega)]
    · rw [if_neg h1, Option.bind_some, if_neg (by decide), bad (by unfold numIs; omega)]
theorem refNumbers (l : List Int) (hl : l.length < 9223372036854775807) : arrasref5_Numbers.F l = some (numsIs l) := by
  rw [arrasref5_Numbers.F_eq]
  exact refNumbers_L l hl l.length 0 (by omega) (by omega) (by simp)
theorem refText (s : ByteArray) (h : s.size ≤ 65536) : arrasref5_Text.F s = some (encT s) := by
  have h9 := enc_length9 (n := s.size) (by omega)
  rw [arrasref5_Text.F_eq, refNum_F _ (by omega), Option.bind_some, if_pos (by omega)]
  rfl
theorem refNums_L (l : List Int) (hl : l.length ≤ 1024) (h : ∀ x ∈ l, numIs x) : ∀ (d i : Nat) (acc : List Int), i ≤ l.length → l.length - i = d → acc.length + 9 * d < 140737488355328 →
    arrasref5_Nums.L0 l acc (i : Int) = some (acc ++ encs (l.drop i)) := by
  intro d
  induction d with
  | zero =>
    intro i acc hi hd ha
    rw [arrasref5_Nums.L0_eq, if_neg (by omega), List.drop_of_length_le (by omega)]
    simp [encs]
  | succ d ih =>
    intro i acc hi hd ha
    have hil : i < l.length := by omega
    have hx := h l[i] (List.getElem_mem hil)
    unfold numIs at hx
    have h9 := enc_length9 (n := l[i].toNat) (by omega)
    have e : l[i] = (l[i].toNat : Int) := by omega
    rw [arrasref5_Nums.L0_eq, if_pos (by omega), if_pos (by omega), rd_nat l i hil, List.drop_eq_getElem_cons hil]
    show (arrasref5_Num.F l[i]).bind _ = some (acc ++ (enc l[i].toNat ++ encs (l.drop (i + 1))))
    rw [e, refNum_F _ (by omega), Option.bind_some, if_pos (by omega), w64s (by omega) (by omega), ← List.append_assoc, Int.toNat_natCast]
    exact ih (i + 1) _ (by omega) (by omega) (by rw [List.length_append]; omega)
theorem refNums (l : List Int) (hl : l.length ≤ 1024) (h : ∀ x ∈ l, numIs x) : arrasref5_Nums.F l = some (encN l) := by
  have h9 := enc_length9 (n := l.length) (by omega)
  rw [arrasref5_Nums.F_eq, refNum_F _ (by omega), Option.bind_some]
  have := refNums_L l hl h l.length 0 (enc l.length) (by omega) (by omega) (by omega)
  rw [List.drop_zero] at this
  exact this
theorem refNumber (n : Int) : arrasref5_Number.f n = some (decide (0 ≤ n ∧ n ≤ 4611686018427387904)) := by
  unfold arrasref5_Number.f
  by_cases h1 : n ≥ 0
  · rw [if_pos h1]
    congr 1
    exact decide_eq_decide.2 (by omega)
  · rw [if_neg h1, decide_eq_false (by omega)]

theorem codeNums_L (l : List S43) (hl : l.length ≤ 9223372036854775807) (hok : ∀ a ∈ l, ok_T43 a) : ∀ (d i : Nat), i ≤ l.length → l.length - i = d → arraslaw5_CodeNums.L0 l (i : Int) = some true := by
  intro d
  induction d with
  | zero =>
    intro i hi hd
    rw [arraslaw5_CodeNums.L0_eq, if_neg (by omega), arraslaw5_CodeNums.J1_eq, if_neg (by simp), wakes5]
    rfl
  | succ d ih =>
    intro i hi hd
    have hil : i < l.length := by omega
    have next : arraslaw5_CodeNums.L0 l (wrap64 ((i : Int) + 1)) = some true := by
      rw [w64s (by omega) (by omega)]
      exact ih (i + 1) (by omega) (by omega)
    rw [arraslaw5_CodeNums.L0_eq, if_pos (by omega), arraslaw5_CodeNums.J1_eq]
    by_cases h20 : (i : Int) < 20
    · rw [if_pos (decide_eq_true h20), if_pos (by omega), if_pos (by omega), rd43 l i hil]
      obtain ⟨_, hs, hn, hx⟩ := hok l[i] (List.getElem_mem hil)
      generalize l[i] = x at *
      rw [heavy5, Option.bind_some]
      by_cases hv : (x.f1.size : Int) > 65546 ∨ (x.f2.length : Int) > 2000 ∨ (x.f3.length : Int) > 3000
      · rw [if_pos (decide_eq_true hv)]
      · rw [if_neg (by rw [decide_eq_true_eq]; exact hv)]
        -- what each of the three says, and what the page says
        have fin : ∀ (a b c a' b' c' : List Int) (e f g : Int), a = a' → b = b' → c = c' → a.length < 9223372036854775807 → b.length < 9223372036854775807 → c.length < 9223372036854775807 →
            arraslaw5_CodeNums.J4 l i a e b f c g a' b' c' e f g = some true := by
          intro a b c a' b' c' e f g h1 h2 h3 l1 l2 l3
          subst h1 h2 h3
          rw [arraslaw5_CodeNums.J4_eq]
          simp only [arraslaw5_num.f, Option.bind_some, if_true]
          rw [eqBytes _ _ l1, Option.bind_some, if_pos (by simp), eqBytes _ _ l2, Option.bind_some, if_pos (by simp), eqBytes _ _ l3, Option.bind_some, arraslaw5_CodeNums.J5_eq, if_neg (by simp)]
          exact next
        have j3 : ∀ (a b a' b' : List Int) (e f : Int), a = a' → b = b' → a.length < 9223372036854775807 → b.length < 9223372036854775807 →
            arraslaw5_CodeNums.J3 l i a e b f (if numsIs x.f2 = true then (encN x.f2, (0 : Int)) else ([], 1)).1 (if numsIs x.f2 = true then (encN x.f2, (0 : Int)) else ([], 1)).2 x.f0 x.f1 x.f2 x.f3 a' b' e f 1 = some true := by
          intro a b a' b' e f h1 h2 l1 l2
          rw [arraslaw5_CodeNums.J3_eq, refNumbers _ (by omega), Option.bind_some]
          by_cases g : numsIs x.f2 = true
          · have g' := numsIs_iff.1 g
            have hN := encN_length x.f2 g'.1 g'.2
            rw [if_pos g, if_pos g, refNums _ g'.1 g'.2, Option.bind_some]
            exact fin _ _ _ _ _ _ _ _ _ h1 h2 rfl l1 l2 (by show (encN x.f2).length < _; omega)
          · rw [if_neg g, if_neg g]
            exact fin _ _ _ _ _ _ _ _ _ h1 h2 rfl l1 l2 (by simp)
        have j2 : ∀ (a a' : List Int) (e : Int), a = a' → a.length < 9223372036854775807 →
            arraslaw5_CodeNums.J2 l i a e (if x.f1.size ≤ 65536 then (encT x.f1, (0 : Int)) else ([], 1)).1 (if x.f1.size ≤ 65536 then (encT x.f1, (0 : Int)) else ([], 1)).2 (if numsIs x.f2 = true then (encN x.f2, (0 : Int)) else ([], 1)).1 (if numsIs x.f2 = true then (encN x.f2, (0 : Int)) else ([], 1)).2 x.f0 x.f1 x.f2 x.f3 a' e 1 1 = some true := by
          intro a a' e h1 l1
          rw [arraslaw5_CodeNums.J2_eq]
          by_cases g : x.f1.size ≤ 65536
          · have hT := encT_length x.f1 g
            rw [if_pos (by omega), if_pos g, refText _ g, Option.bind_some]
            exact j3 _ _ _ _ _ _ h1 rfl l1 (by show (encT x.f1).length < _; omega)
          · rw [if_neg (by omega), if_neg g]
            exact j3 _ _ _ _ _ _ h1 rfl l1 (by simp)
        rw [code_num, Option.bind_some, text_F, Option.bind_some, nums_F, Option.bind_some, refNumber, Option.bind_some]
        by_cases hN : 0 ≤ x.f0 ∧ x.f0 ≤ 4611686018427387904
        · have h9 := enc_length9 (n := x.f0.toNat) (by omega)
          have e0 : x.f0 = ((x.f0.toNat : Nat) : Int) := by omega
          have er : arrasref5_Num.F x.f0 = some (enc x.f0.toNat) := by
            have := refNum_F x.f0.toNat (by omega)
            rw [← e0] at this
            exact this
          rw [if_pos (decide_eq_true hN), if_pos hN, er, Option.bind_some]
          exact j2 _ _ _ rfl (by show (enc x.f0.toNat).length < _; omega)
        · rw [if_neg (by rw [decide_eq_true_eq]; exact hN), if_neg hN]
          exact j2 _ _ _ rfl (by simp)
    · rw [if_neg (by rw [decide_eq_true_eq]; exact h20), wakes5]
      rfl
theorem arraslaw5_CodeNums.proof : arraslaw5_CodeNums.Pure := by
  intro l ⟨hm, _, hok⟩
  refine Go.Proofs.YtpmcojmhkpaoaaaLabel.Lim.rounds (arraslaw5_CodeNums.F_lim l) ?_
  rw [arraslaw5_CodeNums.F_eq]
  exact codeNums_L l hm hok l.length 0 (by omega) (by omega)
end Go.Proofs.Ytpmcojmhkpaoaaa.PN
