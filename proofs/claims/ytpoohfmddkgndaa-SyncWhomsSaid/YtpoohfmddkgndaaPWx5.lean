-- Printed by this session's wip/myprint.py
import Derived.Test.YtpoohfmddkgndaaPWx0
import Derived.Test.YtpoohfmddkgndaaPWx1
namespace Go.Proofs.Ytpoohfmddkgndaa.PW
open Go.RowKit Go.Proofs.YtpoohfmddkgndaaW.PrintWords Go.Proofs.YtpoohfmddkgndaaW.PrintLast Go.Proofs.YtpoohfmddkgndaaW.PrintMore
attribute [local go_sem] max2_int min2_int max_two min_two max_three min_three max_four min_four   -- for this text's walks alone
set_option linter.unusedVariables false
set_option linter.unusedSimpArgs false

/-! ### arrasref25_Whom: function 20 -/
set_option maxHeartbeats 8000000 in
set_option maxRecDepth 100000 in
theorem arrasref25_Whom.calls (a0 : Int) (a1 : Int) (a2 : Int) (r1 : Int) (r2 : Int) (w : World) (h : arrasref25_Whom.f a0 a1 a2 = some (r1, r2)) :
  Calls Try.prog 20 #[.int .i64 a0, .int .i64 a1, .int .i64 a2] w fun e w' => e = .returned (.tuple #[.int .i64 r1, .int .i64 r2]) ∧ Drawn0 w w' := by
 have H : (if a0 = a1 then (if a2 = 0 then (none) else (some (Int.tmod (wrap64 (a0 + 1)) a2, Int.tmod (wrap64 ((Int.tmod (wrap64 (a0 + 1)) a2) + 1)) a2))) else (if a2 = 0 then (none) else (some (a0, Int.tmod (wrap64 (a0 + 1)) a2)))) = some (r1, r2) := h
 clear h
 by_cases c4 : a0 = a1
 ·rw [if_pos c4] at H
  have c4b0 : (a0 == a1) = true := beq_iff_eq.mpr c4
  have c4b1 : (a0 != a1) = false := bne_eq_false_iff_eq.mpr c4
  clear c4
  by_cases c5 : a2 = 0
  ·rw [if_pos c5] at H
   exact absurd H (by simp)
  ·rw [if_neg c5] at H
   have c5b0 : (a2 == 0) = false := beq_eq_false_iff_ne.mpr c5
   have c5b1 : (a2 != 0) = true := bne_iff_ne.mpr c5
   simp only [Option.some.injEq, Prod.mk.injEq] at H
   obtain ⟨rfl, rfl⟩ := H
   go_enter Try.func20, Try.ntmps20
   go_wp2
   repeat (go_quiet (fail); try go_wp2)
   go_ret2
   exact ⟨by first | rfl | (simp; done) | (simp [*]; done), by repeat (first | exact Drawn0.refl _ | apply Drawn0.step)⟩
 ·rw [if_neg c4] at H
  have c4b0 : (a0 == a1) = false := beq_eq_false_iff_ne.mpr c4
  have c4b1 : (a0 != a1) = true := bne_iff_ne.mpr c4
  by_cases c6 : a2 = 0
  ·rw [if_pos c6] at H
   exact absurd H (by simp)
  ·rw [if_neg c6] at H
   have c6b0 : (a2 == 0) = false := beq_eq_false_iff_ne.mpr c6
   have c6b1 : (a2 != 0) = true := bne_iff_ne.mpr c6
   simp only [Option.some.injEq, Prod.mk.injEq] at H
   obtain ⟨rfl, rfl⟩ := H
   go_enter Try.func20, Try.ntmps20
   go_wp2
   repeat (go_quiet (fail); try go_wp2)
   go_ret2
   exact ⟨by first | rfl | (simp; done) | (simp [*]; done), by repeat (first | exact Drawn0.refl _ | apply Drawn0.step)⟩

end Go.Proofs.Ytpoohfmddkgndaa.PW
