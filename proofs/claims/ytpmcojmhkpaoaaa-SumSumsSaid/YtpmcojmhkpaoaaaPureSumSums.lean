/- The plain law behind SumSums: the program's sum of any bytes, behind any sum, is the page's, and the bytes stay. -/
import Derived.Test.YtpmcojmhkpaoaaaStatSumSums
import Derived.Test.YtpmcojmhkpaoaaaLibC
import Derived.Test.YtpmcojmhkpaoaaaLibM
set_option linter.unusedVariables false
set_option linter.unusedSimpArgs false
namespace Go.Proofs.Ytpmcojmhkpaoaaa.PA
open Go.RowKit Go.Proofs.YtpmcojmhkpaoaaaW.PrintWords Go.Proofs.YtpmcojmhkpaoaaaW.PrintLast Go.Proofs.YtpmcojmhkpaoaaaW.PrintMore

theorem sumSums_L (l : List S26) (hl : l.length ≤ 9223372036854775807) (hok : ∀ a ∈ l, ok_T26 a) : ∀ (d i : Nat), i ≤ l.length → l.length - i = d → arraslaw4_SumSums.L0 l (i : Int) = some true := by
  intro d
  induction d with
  | zero =>
    intro i hi hd
    rw [arraslaw4_SumSums.L0_eq, if_neg (by omega), arraslaw4_SumSums.J1_eq, if_neg (by simp), wakes4]
    rfl
  | succ d ih =>
    intro i hi hd
    have hil : i < l.length := by omega
    rw [arraslaw4_SumSums.L0_eq, if_pos (by omega), arraslaw4_SumSums.J1_eq]
    by_cases h20 : (i : Int) < 15
    · rw [if_pos (decide_eq_true h20), if_pos (by omega), if_pos (by omega), rd26 l i hil]
      obtain ⟨hs, hx, hn⟩ := hok l[i] (List.getElem_mem hil)
      generalize l[i] = x at *
      by_cases hv : (x.f1.length : Int) > 3000
      · rw [if_pos hv]
      · obtain ⟨s, es, hs⟩ := u32_of hs
        have hb := IsBytes.of_wf hx.2.2
        rw [if_neg hv, copyBytes _ (by omega), Option.bind_some, es, sum_is s _ hs hb (by omega), Option.bind_some, ref_is s _ hs hb (by omega), Option.bind_some, if_pos rfl,
          eqBytes _ _ (by omega), Option.bind_some, if_pos (by simp), w64s (by omega) (by omega)]
        exact ih (i + 1) (by omega) (by omega)
    · rw [if_neg (by rw [decide_eq_true_eq]; exact h20), wakes4]
      rfl
theorem arraslaw4_SumSums.proof : arraslaw4_SumSums.Pure := by
  intro l ⟨hm, _, hok⟩
  refine Go.Proofs.YtpmcojmhkpaoaaaLabel.Lim.rounds (arraslaw4_SumSums.F_lim l) ?_
  rw [arraslaw4_SumSums.F_eq]
  exact sumSums_L l hm hok l.length 0 (by omega) (by omega)
end Go.Proofs.Ytpmcojmhkpaoaaa.PA
