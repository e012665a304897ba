-- Printed by this session's wip/myprint.py
import Derived.Test.YtpmcojmhkpaoaaaPAx0
import Derived.Test.YtpmcojmhkpaoaaaPAx2
import Derived.Test.YtpmcojmhkpaoaaaPAx6
namespace Go.Proofs.Ytpmcojmhkpaoaaa.PA
open Go.RowKit Go.Proofs.YtpmcojmhkpaoaaaW.PrintWords Go.Proofs.YtpmcojmhkpaoaaaW.PrintLast Go.Proofs.YtpmcojmhkpaoaaaW.PrintMore
attribute [local go_sem] max2_int min2_int max_two min_two max_three min_three max_four min_four   -- for this text's walks alone
set_option linter.unusedVariables false
set_option linter.unusedSimpArgs false

/-! ### arraslaw4_wakes: function 21 -/
set_option maxHeartbeats 400000 in
theorem arraslaw4_wakes.calls (k : Nat)  (r : Bool) (w : World) (h : arraslaw4_wakes.f k  = some r) :
    Calls Try.prog 21 #[] w fun e w' => e = .returned (.bool r) ∧ Below w.heap.size w w' := by
  obtain ⟨t, A1, H⟩ := Option.bind_eq_some_iff.mp h
  obtain rfl := Option.some.inj H
  clear h H
  have A := Aside0.mk A1
  clear A1
  have kc := fun (w : World) (C : Array Value) (n c : Nat) => Lib.run_convert_bytes_const (P := Try.prog) w 24 5 C n c Try.underlying24 Try.underlying5
  go_enter Try.func21, Try.ntmps21
  go_wp2_with fail
  refine calls_of_args (args' := #[.int .u32 0, .slice (some ⟨w.heap.size, 0, none⟩) ([49, 50, 51, 52, 53, 54, 55, 56, 57] : List Int).length 9]) rfl ?_
  refine (sum_Sum.calls k 0 _ 9 [49, 50, 51, 52, 53, 54, 55, 56, 57] t _ (Go.Proofs.YtpmcojmhkpaoaaaLabel.C_new_u8 w _ 5 (9, 10) _ rfl (by decide)) (by decide) A.out).mono ?_
  rintro e w' ⟨rfl, ⟨nd, rfl⟩⟩
  go_wp2
  go_ret
  exact ⟨rfl, pw_below_drewN (below_alloc (Below.refl _ _) _) nd⟩

end Go.Proofs.Ytpmcojmhkpaoaaa.PA
