/- The plain law behind StampNexts: the next stamp is the page's, or refused, and it is above all of that time. -/
import Derived.Test.YtpmcojmhkpaoaaaStatStampNexts
import Derived.Test.YtpmcojmhkpaoaaaLibS
set_option linter.unusedVariables false
set_option linter.unusedSimpArgs false
namespace Go.Proofs.Ytpmcojmhkpaoaaa.PA
open Go.RowKit Go.Proofs.YtpmcojmhkpaoaaaW.PrintWords Go.Proofs.YtpmcojmhkpaoaaaW.PrintLast Go.Proofs.YtpmcojmhkpaoaaaW.PrintMore

theorem stampNexts_L (l : List S70) (hl : l.length ≤ 9223372036854775807) (hok : ∀ a ∈ l, ok_T70 a) : ∀ (d i : Nat), i ≤ l.length → l.length - i = d → arraslaw6_StampNexts.L0 l (i : Int) = some true := by
  intro d
  induction d with
  | zero =>
    intro i hi hd
    rw [arraslaw6_StampNexts.L0_eq, if_neg (by omega), arraslaw6_StampNexts.J1_eq, if_neg (by simp), wakes6]
    rfl
  | succ d ih =>
    intro i hi hd
    have hil : i < l.length := by omega
    rw [arraslaw6_StampNexts.L0_eq, if_pos (by omega), arraslaw6_StampNexts.J1_eq]
    by_cases h20 : (i : Int) < 20
    · rw [if_pos (decide_eq_true h20), if_pos (by omega), if_pos (by omega), rd70 l i hil]
      generalize l[i] = x at *
      have done : arraslaw6_StampNexts.J4 l (i : Int) false = some true := by
        rw [arraslaw6_StampNexts.J4_eq, if_neg (by simp), w64s (by omega) (by omega)]
        exact ih (i + 1) (by omega) (by omega)
      generalize x.f0.f0 = t
      generalize x.f0.f1 = r
      rw [stampNext, Option.bind_some, refNum, Option.bind_some, refNum, Option.bind_some]
      have h16 : (0 ≤ r ∧ r ≤ 15) ↔ (0 ≤ r ∧ r < 16) := by omega
      simp only [arraslaw6_StampNexts.J2_eq, arraslaw6_StampNexts.J3_eq, arraslaw6_num.f, Option.bind_some, stampCmp]
      by_cases h1 : 0 ≤ t ∧ t ≤ 1099511627776
      · by_cases h2 : 0 ≤ r ∧ r ≤ 15
        · have h3 : 0 ≤ t ∧ t ≤ 1099511627776 ∧ 0 ≤ r ∧ r < 16 := by omega
          by_cases h4 : t = 1099511627776
          · have h5 : ¬ t < 1099511627776 := by omega
            simp [h1, h2, h3, h4, done]
          · have h5 : t < 1099511627776 := by omega
            have h6 : cmpS t 16 (t + 1) r = -1 := by unfold cmpS; rw [if_pos (by omega)]
            simp [h1, h2, h3, h4, h5, h6, w64s h1.1 (by omega), done]
        · have h3 : ¬ (0 ≤ t ∧ t ≤ 1099511627776 ∧ 0 ≤ r ∧ r < 16) := by omega
          rw [if_neg h3]
          simp [h1, h2, done]
      · have h3 : ¬ (0 ≤ t ∧ t ≤ 1099511627776 ∧ 0 ≤ r ∧ r < 16) := by omega
        rw [if_neg h3]
        simp [h1, done]
    · rw [if_neg (by rw [decide_eq_true_eq]; exact h20), wakes6]
      rfl
theorem arraslaw6_StampNexts.proof : arraslaw6_StampNexts.Pure := by
  intro l ⟨hm, _, hok⟩
  refine Go.Proofs.YtpmcojmhkpaoaaaLabel.Lim.rounds (arraslaw6_StampNexts.F_lim l) ?_
  rw [arraslaw6_StampNexts.F_eq]
  exact stampNexts_L l hm hok l.length 0 (by omega) (by omega)
end Go.Proofs.Ytpmcojmhkpaoaaa.PA
