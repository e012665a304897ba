/- Plain laws of the small functions: texts and rows of numbers. -/
import Derived.Test.YtpmcojmhkpaoaaaLibB
set_option linter.unusedVariables false
set_option linter.unusedSimpArgs false
namespace Go.Proofs.Ytpmcojmhkpaoaaa.PA
open Go.RowKit Go.Proofs.YtpmcojmhkpaoaaaW.PrintWords Go.Proofs.YtpmcojmhkpaoaaaW.PrintLast Go.Proofs.YtpmcojmhkpaoaaaW.PrintMore

theorem IsBytes.drop {l : List Int} (h : IsBytes l) (i : Nat) : IsBytes (l.drop i) := fun x hx => h x (List.mem_of_mem_drop hx)
theorem IsBytes.take {l : List Int} (h : IsBytes l) (i : Nat) : IsBytes (l.take i) := fun x hx => h x (List.mem_of_mem_take hx)
theorem IsBytes.append {l m : List Int} (h : IsBytes l) (k : IsBytes m) : IsBytes (l ++ m) := fun x hx => (List.mem_append.1 hx).elim (h x) (k x)
theorem IsBytes.of_wf {l : List Int} (h : ∀ a ∈ l, (Lit.int .u8 a).wf = true) : IsBytes l := fun x hx => by
  have := h x hx
  simp [Lit.wf, IntKind.min, IntKind.max, IntKind.signed, IntKind.bits] at this
  omega
theorem tk_ok : ∀ (l : List Int) (n i : Nat), (tk l n i).2.2 = 0 → 0 ≤ (tk l n i).1 ∧ (tk l n i).1 ≤ 4611686018427387904 ∧ (i : Int) + 1 ≤ (tk l n i).2.1 ∧ (tk l n i).2.1 ≤ i + l.length
  | [], n, i, h => by simp [tk] at h
  | c :: r, n, i, h => by
    unfold tk at h ⊢
    by_cases h1 : 128 ≤ c
    · rw [if_pos h1] at h ⊢
      by_cases h2 : i = 8
      · rw [if_pos h2] at h
        simp at h
      · rw [if_neg h2] at h ⊢
        have := tk_ok r _ _ h
        simp only [List.length_cons]
        exact ⟨this.1, this.2.1, by omega, by omega⟩
    · rw [if_neg h1] at h ⊢
      by_cases h2 : (c = 0 ∧ 0 < i) ∨ 4611686018427387904 < n + c.toNat * 128 ^ i
      · rw [if_pos h2] at h
        simp at h
      · rw [if_neg h2]
        have h3 : ¬ 4611686018427387904 < n + c.toNat * 128 ^ i := fun h => h2 (.inr h)
        simp only [List.length_cons]
        omega

/-! ### Texts -/
def tkText (l : List Int) : ByteArray × Int × Int :=
  if (tk l 0 0).2.2 = 0 then (if (tk l 0 0).1 > 65536 then ((⟨#[]⟩ : ByteArray), 0, 1) else (if (tk l 0 0).1 > (l.length : Int) - (tk l 0 0).2.1 then ((⟨#[]⟩ : ByteArray), 0, 7) else
    (strOfNums ((l.take ((tk l 0 0).2.1 + (tk l 0 0).1).toNat).drop (tk l 0 0).2.1.toNat), (tk l 0 0).2.1 + (tk l 0 0).1, 0))) else ((⟨#[]⟩ : ByteArray), 0, (tk l 0 0).2.2)
theorem takeText (l : List Int) (hb : IsBytes l) (hl : l.length < 4611686018427387904) : code_TakeText.F l = some (tkText l) := by
  rw [code_TakeText.F_eq, takeNum l hb hl, Option.bind_some]
  unfold tkText
  by_cases h : (tk l 0 0).2.2 = 0
  · obtain ⟨h1, h2, h3, h4⟩ := tk_ok l 0 0 h
    rw [if_pos h, if_pos h]
    by_cases hm : (tk l 0 0).1 > 65536
    · rw [if_pos hm, if_pos hm]
    · rw [if_neg hm, if_neg hm, w64 (x := (l.length : Int) - (tk l 0 0).2.1) (by omega) (by omega)]
      by_cases hc : (tk l 0 0).1 > (l.length : Int) - (tk l 0 0).2.1
      · rw [if_pos hc, if_pos hc]
      · rw [if_neg hc, if_neg hc, w64 (by omega) (by omega), if_pos (by omega), if_pos (by omega), if_pos (by omega)]
  · rw [if_neg h, if_neg h]
theorem refTakeText (l : List Int) (hb : IsBytes l) (hl : l.length < 4611686018427387904) : arrasref5_TakeText.F l = some (tkText l) := by
  rw [arrasref5_TakeText.F_eq, refTakeNum l hb hl, Option.bind_some]
  unfold tkText
  by_cases h : (tk l 0 0).2.2 = 0
  · obtain ⟨h1, h2, h3, h4⟩ := tk_ok l 0 0 h
    rw [if_pos h, if_pos h]
    by_cases hm : (tk l 0 0).1 > 65536
    · rw [if_pos hm, if_pos hm]
    · rw [if_neg hm, if_neg hm, w64 (x := (l.length : Int) - (tk l 0 0).2.1) (by omega) (by omega)]
      by_cases hc : (tk l 0 0).1 > (l.length : Int) - (tk l 0 0).2.1
      · rw [if_pos hc, if_pos hc]
      · rw [if_neg hc, if_neg hc, w64 (by omega) (by omega), if_pos (by omega), if_pos (by omega), if_pos (by omega)]
  · rw [if_neg h, if_neg h]

/-! ### Rows of numbers -/
def tkNs (l : List Int) : Nat → Int → List Int → List Int × Int × Int
  | 0, k, acc => (acc, k, 0)
  | m + 1, k, acc => if (tk (l.drop k.toNat) 0 0).2.2 = 0 then tkNs l m (k + (tk (l.drop k.toNat) 0 0).2.1) (acc ++ [(tk (l.drop k.toNat) 0 0).1]) else ([], 0, (tk (l.drop k.toNat) 0 0).2.2)
def tkNums (l : List Int) : List Int × Int × Int :=
  if (tk l 0 0).2.2 = 0 then (if (tk l 0 0).1 > 1024 then ([], 0, 1) else tkNs l (tk l 0 0).1.toNat (tk l 0 0).2.1 []) else ([], 0, (tk l 0 0).2.2)
theorem takeNums_L (l : List Int) (hb : IsBytes l) (hl : l.length < 4611686018427387904) (many : Nat) (hm : many ≤ 1024) : ∀ (d j : Nat) (k : Int) (acc : List Int), j ≤ many → many - j = d → 0 ≤ k → k ≤ l.length → acc.length + d < 17592186044416 →
    code_TakeNums.L0 l acc k many j = some (tkNs l d k acc) := by
  intro d
  induction d with
  | zero =>
    intro j k acc hj hd h0 h1 ha
    rw [code_TakeNums.L0_eq, if_neg (by omega)]
    rfl
  | succ d ih =>
    intro j k acc hj hd h0 h1 ha
    have hdl : (l.drop k.toNat).length < 4611686018427387904 := by rw [List.length_drop]; omega
    rw [code_TakeNums.L0_eq, if_pos (by omega), if_pos h0, if_pos h1, takeNum _ (hb.drop _) hdl, Option.bind_some, tkNs]
    by_cases h : (tk (l.drop k.toNat) 0 0).2.2 = 0
    · obtain ⟨a1, a2, a3, a4⟩ := tk_ok _ 0 0 h
      rw [List.length_drop] at a4
      rw [if_pos h, if_pos h, if_pos (by omega), w64 (by omega) (by omega), w64s (by omega) (by omega)]
      exact ih (j + 1) _ _ (by omega) (by omega) (by omega) (by omega) (by simp; omega)
    · rw [if_neg h, if_neg h]
theorem takeNums (l : List Int) (hb : IsBytes l) (hl : l.length < 4611686018427387904) : code_TakeNums.F l = some (tkNums l) := by
  rw [code_TakeNums.F_eq, takeNum l hb hl, Option.bind_some]
  unfold tkNums
  by_cases h : (tk l 0 0).2.2 = 0
  · obtain ⟨h1, h2, h3, h4⟩ := tk_ok l 0 0 h
    rw [if_pos h, if_pos h]
    by_cases hm : (tk l 0 0).1 > 1024
    · rw [if_pos hm, if_pos hm]
    · rw [if_neg hm, if_neg hm]
      have e : (tk l 0 0).1 = (((tk l 0 0).1.toNat : Nat) : Int) := by omega
      have := takeNums_L l hb hl (tk l 0 0).1.toNat (by omega) (tk l 0 0).1.toNat 0 (tk l 0 0).2.1 [] (by omega) (by omega) (by omega) (by omega) (by simp; omega)
      rw [← e] at this
      exact this
  · rw [if_neg h, if_neg h]
theorem refTakeNums_L (l : List Int) (hb : IsBytes l) (hl : l.length < 4611686018427387904) (many : Nat) (hm : many ≤ 1024) : ∀ (d j : Nat) (k : Int) (acc : List Int), j ≤ many → many - j = d → 0 ≤ k → k ≤ l.length → acc.length + d < 17592186044416 →
    arrasref5_TakeNums.L0 l many k acc j = some (tkNs l d k acc) := by
  intro d
  induction d with
  | zero =>
    intro j k acc hj hd h0 h1 ha
    rw [arrasref5_TakeNums.L0_eq, if_neg (by omega)]
    rfl
  | succ d ih =>
    intro j k acc hj hd h0 h1 ha
    have hdl : (l.drop k.toNat).length < 4611686018427387904 := by rw [List.length_drop]; omega
    rw [arrasref5_TakeNums.L0_eq, if_pos (by omega), if_pos h0, if_pos h1, refTakeNum _ (hb.drop _) hdl, Option.bind_some, tkNs]
    by_cases h : (tk (l.drop k.toNat) 0 0).2.2 = 0
    · obtain ⟨a1, a2, a3, a4⟩ := tk_ok _ 0 0 h
      rw [List.length_drop] at a4
      rw [if_pos h, if_pos h, if_pos (by omega), w64 (by omega) (by omega), w64s (by omega) (by omega)]
      exact ih (j + 1) _ _ (by omega) (by omega) (by omega) (by omega) (by simp; omega)
    · rw [if_neg h, if_neg h]
theorem refTakeNums (l : List Int) (hb : IsBytes l) (hl : l.length < 4611686018427387904) : arrasref5_TakeNums.F l = some (tkNums l) := by
  rw [arrasref5_TakeNums.F_eq, refTakeNum l hb hl, Option.bind_some]
  unfold tkNums
  by_cases h : (tk l 0 0).2.2 = 0
  · obtain ⟨h1, h2, h3, h4⟩ := tk_ok l 0 0 h
    rw [if_pos h, if_pos h]
    by_cases hm : (tk l 0 0).1 > 1024
    · rw [if_pos hm, if_pos hm]
    · rw [if_neg hm, if_neg hm]
      have e : (tk l 0 0).1 = (((tk l 0 0).1.toNat : Nat) : Int) := by omega
      have := refTakeNums_L l hb hl (tk l 0 0).1.toNat (by omega) (tk l 0 0).1.toNat 0 (tk l 0 0).2.1 [] (by omega) (by omega) (by omega) (by omega) (by simp; omega)
      rw [← e] at this
      exact this
  · rw [if_neg h, if_neg h]
theorem tkNs_length (l : List Int) : ∀ (m : Nat) (k : Int) (acc : List Int), (tkNs l m k acc).1.length ≤ m + acc.length
  | 0, k, acc => by simp [tkNs]
  | m + 1, k, acc => by
    unfold tkNs
    split
    · have := tkNs_length l m (k + (tk (l.drop k.toNat) 0 0).2.1) (acc ++ [(tk (l.drop k.toNat) 0 0).1])
      simp at this
      omega
    · simp
theorem tkNums_length (l : List Int) : (tkNums l).1.length ≤ 1024 := by
  unfold tkNums
  split
  · split
    · simp
    · have := tkNs_length l (tk l 0 0).1.toNat (tk l 0 0).2.1 []
      simp at this
      omega
  · simp

/-! ### What is written over -/
theorem numbers_L : ∀ (d i : Nat) (l : List Int), l.length < 17592186044416 → i ≤ l.length → l.length - i = d → arraslaw0_Numbers.L0 l (i : Int) = some () := by
  intro d
  induction d with
  | zero =>
    intro i l hl hi hd
    rw [arraslaw0_Numbers.L0_eq, if_neg (by omega), if_pos hl]
  | succ d ih =>
    intro i l hl hi hd
    rw [arraslaw0_Numbers.L0_eq, if_pos (by omega), if_pos (by omega), w64s (by omega) (by omega)]
    exact ih (i + 1) _ (by simpa using hl) (by simp; omega) (by simp; omega)
theorem numbersOver (l : List Int) (hl : l.length < 17592186044416) : arraslaw0_Numbers.F l = some () := by
  rw [arraslaw0_Numbers.F_eq]
  exact numbers_L l.length 0 l hl (by omega) (by omega)
theorem wakes5 : arraslaw5_wakes.F = some true := by
  rw [arraslaw5_wakes.F_eq, code_num, Option.bind_some, if_pos (by decide)]
  have e : enc (Int.toNat 300) = [172, 2] := by
    rw [show Int.toNat 300 = 300 from rfl, enc_big (by decide), enc_small (by decide)]
    rfl
  rw [e]
  simp only [arraslaw5_num.f, Option.bind_some, if_true]
  rw [eqBytes _ _ (by decide)]
  rfl
end Go.Proofs.Ytpmcojmhkpaoaaa.PA
