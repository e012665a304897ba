/- Plain laws of the small functions: stamps. -/
import Derived.Test.YtpmcojmhkpaoaaaLibC
set_option linter.unusedVariables false
set_option linter.unusedSimpArgs false
namespace Go.Proofs.Ytpmcojmhkpaoaaa.PA
open Go.RowKit Go.Proofs.YtpmcojmhkpaoaaaW.PrintWords Go.Proofs.YtpmcojmhkpaoaaaW.PrintLast Go.Proofs.YtpmcojmhkpaoaaaW.PrintMore

def isStamp (t r : Int) : Bool := decide (1 ≤ t ∧ t ≤ 1099511627776 ∧ 0 ≤ r ∧ r < 16)
def isPlace (t r : Int) : Bool := isStamp t r || (t == 0 && r == 0) || (t == 0 && r == 1)
theorem stampIs (t r : Int) : stamp_Is.f t r = some (isStamp t r) := by
  unfold stamp_Is.f isStamp
  split
  · split
    · split
      · exact congrArg some (decide_eq_decide.2 (by omega))
      · exact congrArg some (decide_eq_false (by omega)).symm
    · exact congrArg some (decide_eq_false (by omega)).symm
  · exact congrArg some (decide_eq_false (by omega)).symm
theorem refNum (a m : Int) : arrasref0_Num.f a m = some (decide (0 ≤ a ∧ a ≤ m)) := by
  unfold arrasref0_Num.f
  split
  · exact congrArg some (decide_eq_decide.2 (by omega))
  · exact congrArg some (decide_eq_false (by omega)).symm
theorem refStamp (t r : Int) : arrasref6_Stamp.f t r = some (isStamp t r) := by
  unfold arrasref6_Stamp.f isStamp
  rw [refNum]
  split
  · split
    · exact congrArg some (decide_eq_decide.2 (by omega))
    · exact congrArg some (decide_eq_false (by omega)).symm
  · exact congrArg some (decide_eq_false (by omega)).symm
theorem stampPlace (t r : Int) : stamp_Place.f t r = some (isPlace t r) := by
  unfold stamp_Place.f isPlace
  rw [stampIs]
  simp only [Option.bind_some, stamp_Root.f, stamp_Trash.f]
  cases isStamp t r <;> simp
  split <;> simp_all
theorem refPlace (t r : Int) : arrasref6_Place.f t r = some (isPlace t r) := by
  unfold arrasref6_Place.f isPlace
  rw [refStamp]
  simp only [Option.bind_some, arrasref6_Root.f, arrasref6_Trash.f]
  cases isStamp t r <;> simp
  split <;> simp_all
theorem stampCheck (t r : Int) : stamp_Check.f t r = some (if isStamp t r = true then 0 else 1) := by
  unfold stamp_Check.f
  rw [stampIs, Option.bind_some]
  split <;> rfl
def cmpS (a b c d : Int) : Int := if a < c then -1 else if c < a then 1 else if b < d then -1 else if d < b then 1 else 0
theorem compare_int (a b : Int) : cmp_Compare_int.f a b = some (if a < b then -1 else if b < a then 1 else 0) := by
  unfold cmp_Compare_int.f cmp_isNaN_int.f
  simp only [bne_self_eq_false, Option.bind_some, if_neg Bool.false_ne_true]
  split
  · rfl
  · split <;> rfl
theorem or_two (x y : Int) : cmp_Or_int.F [x, y] = some (if x = 0 then y else x) := by
  have hl : (([x, y] : List Int).length : Int) = 2 := rfl
  have e0 : rd [x, y] 0 = x := rfl
  have e1 : rd [x, y] 1 = y := rfl
  rw [cmp_Or_int.F_eq, cmp_Or_int.L0_eq, hl, if_pos (by decide), if_pos (by decide), if_pos (by decide), e0, w64s (by decide) (by decide)]
  split
  · rw [cmp_Or_int.L0_eq, hl, if_pos (by decide), if_pos (by decide), if_pos (by decide), Int.zero_add, e1]
    split
    · rename_i h
      rw [w64s (by decide) (by decide), cmp_Or_int.L0_eq, hl, if_neg (by decide), h]
    · rfl
  · rfl
theorem stampCmp (a b c d : Int) : stamp_Cmp.F a b c d = some (cmpS a b c d) := by
  rw [stamp_Cmp.F_eq, compare_int, Option.bind_some, compare_int, Option.bind_some, or_two, Option.bind_some]
  unfold cmpS
  by_cases h1 : a < c
  · simp [h1]
  · by_cases h2 : c < a
    · simp [h1, h2]
    · simp [h1, h2]
theorem refCmp (a b c d : Int) : arrasref6_Cmp.F a b c d = some (cmpS a b c d) := by
  rw [arrasref6_Cmp.F_eq]
  unfold cmpS
  simp only [arrasref6_Cmp.J0_eq]
  by_cases h1 : a < c
  · simp [h1]
  · by_cases h2 : c < a
    · have h3 : ¬ a = c := by omega
      simp [h1, h2, h3]
    · have h3 : a = c := by omega
      subst h3
      by_cases h4 : b < d
      · simp [h4]
      · by_cases h5 : d < b
        · have h6 : ¬ b = d := by omega
          simp [h4, h5, h6]
        · have h6 : b = d := by omega
          simp [h6]
theorem stampNext (t r : Int) : stamp_Next.F t r = some (if 0 ≤ t ∧ t ≤ 1099511627776 ∧ 0 ≤ r ∧ r < 16 then (if t = 1099511627776 then (0, 0, 5) else (t + 1, r, 0)) else (0, 0, 1)) := by
  rw [stamp_Next.F_eq]
  simp only [stamp_Next.J0_eq]
  by_cases h1 : t < 0
  · rw [if_pos h1, if_pos trivial, if_neg (by omega)]
  · rw [if_neg h1]
    by_cases h2 : t > 1099511627776
    · rw [if_pos h2, if_pos trivial, if_neg (by omega)]
    · rw [if_neg h2]
      by_cases h3 : r < 0
      · rw [if_pos h3, if_pos trivial, if_neg (by omega)]
      · rw [if_neg h3]
        by_cases h4 : r ≥ 16
        · rw [if_pos (decide_eq_true h4), if_neg (by omega)]
        · rw [if_neg (by rw [decide_eq_true_eq]; exact h4), if_pos (show 0 ≤ t ∧ t ≤ 1099511627776 ∧ 0 ≤ r ∧ r < 16 by omega), w64s (x := t) (by omega) (by omega)]
          split <;> rfl
theorem wakes6 : arraslaw6_wakes.F = some true := by
  rw [arraslaw6_wakes.F_eq, stampNext, Option.bind_some]
  rfl
theorem rd70 (l : List S70) (i : Nat) (h : i < l.length) : rd_T70 l (i : Int) = l[i] := by simp [rd_T70, h]
end Go.Proofs.Ytpmcojmhkpaoaaa.PA
