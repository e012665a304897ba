/- The row of the law StoreOrder: called with any argument it returns true, and the argument reads as it did: the evaluator's run of the call, which looks at nothing of the argument but a length, tells true, and the model's call comes to what the evaluator tells. -/
import Derived.Test.YtcigbgnipbmcmaaRows
import Derived.Test.YtcigbgnipbmcmaaRunStoreOrder
import Derived.WalkKit
import Derived.ProofKit
import Derived.OpenShut
import Derived.ShutString
import Derived.ChangeOld
import Derived.Below
import Derived.SizedLaws
import Derived.Carry
namespace Go.Proofs.Ytcigbgnipbmcmaa.storeOrder
open Go Go.ChangeShapes Go.WideShapes Go.ChangeAt Go.RowKit Go.Proofs.YtcigbgnipbmcmaaAm
theorem own : ownKnob Try.prog.godebug = none := by kernel_rfl
theorem laidOut : laidOutB Try.prog = true := by kernel_rfl
set_option maxRecDepth 100000 in
theorem lifted (os : Os) (started : os.Started) (H : Type) (enc : TypeId × Value → H) :
    ReturnsInHanded {} Try.checked os 8 .any (Rows.storeOrderSpec.pre6 enc Try.prog Try.f8 Rows.storeOrderRow.domain false) (Rows.storeOrderSpec.post enc Try.prog Try.f8 false true false false) := by
  refine returnsInHanded_of_change_sized (C := Try.checked) own started (by kernel_rfl) Try.func8
    (ChangeSpec.witness6 (enc := enc) (C := Try.checked) false ⟨#[], #[.agg #[.slice none 0 0, .slice none 0 0]], []⟩ 8 (by kernel_rfl) (by kernel_rfl) (by kernel_rfl) (by kernel_rfl)) ?_
  intro W base args ds gs before hval0 hW hcnd hsz0 _
  have hval : ∀ (j : Nat) t v, Try.f8.params[j]? = some t → args[j]? = some v → Value.okWide Try.prog W .any base t v := hval0
  have hW' := hW
  obtain ⟨p, q, hA0, hV, rfl, hfz, hnd⟩ := hW
  have hA : DataW.TrodAll enc Try.prog W 0 (fun _ => true) true Try.f8.params.toList args.toList ds p := hA0
  rw [Try.params8] at hA hval
  obtain ⟨v0, vs0, d0, ds0, p0, q0, hargs, rfl, rfl, h0, r0⟩ := trodAll_cons hA
  obtain ⟨rfl, rfl, rfl⟩ := trodAll_nil r0
  obtain rfl : args = #[v0] := by cases args; simp_all
  obtain ⟨rfl, rfl⟩ := trodVars_none hV
  have k0 := h0
  have lt0 : ∀ x ∈ p0, x.block < W.heap.size := by obtain ⟨m, hm⟩ := k0; exact DataW.trod_lt m _ _ _ hm
  have hv := hval 0 69 v0 rfl rfl
  clear hA0 hval0 hsz0
  obtain ⟨l, rfl, hl, a, n, c, hk⟩ := struct_cells (k := 0) (ts := [67, 23]) Try.underlying69 (by kernel_rfl) (by kernel_rfl) rfl Try.underlying67 hv
  have hsz : Try.prog.cellsOf 69 = 2 := by kernel_rfl
  rw [hsz] at hl
  rcases l with _ | ⟨x0, _ | ⟨x1, _ | ⟨_, _⟩⟩⟩
  all_goals first
    | (simp at hl; done)
    | skip
  have hk : x0 = .slice a n c := by simpa using hk
  subst hk
  have ht := run x1 a n c
  have hvr : VRs noInj [.agg [.x (.slice a n c), .x x1]] [.agg [.slice a n c, x1].toArray] := .cons (VR.agg' (.cons (.x _) (.cons (.x _) (.nil)))) .nil
  refine (calls_closed mixed hvr ht).mono fun e W' ⟨he, bel⟩ => ?_
  subst he
  exact ⟨_, rfl, _, _, _, [], _, [], hW', trodAll_mk1 (shut_bool Try.underlying4 _), (trodAll_cons_mk (Below.trod laidOut (by kernel_rfl) (of_decide_eq_true (by kernel_rfl)) k0 bel lt0) trodAll_mk0), rfl, bel.frame _, fun h => by cases h⟩
theorem over : Rows.storeOrderRow.holds Try.pinned (OpenSpec.ofChange Rows.storeOrderSpec) :=
  OpenClaim.holds_of_wide 8 Try.f8 rfl rfl rfl rfl rfl rfl rfl ⟨rfl, rfl, rfl, rfl, rfl⟩ rfl rfl rfl rfl rfl (by kernel_rfl) Try.func8 (by kernel_rfl)
    (of_decide_eq_true (by kernel_rfl)) (by unfold Func.isWrapper; first | (rw [if_pos (by decide +kernel)]; kernel_rfl) | (rw [if_neg (by decide +kernel)]; exact ⟨rfl, rfl⟩))
    (fun os started H enc _ => lifted os started H enc)
theorem proved : Rows.StoreOrderSaid := over
#print axioms proved
end Go.Proofs.Ytcigbgnipbmcmaa.storeOrder
namespace Go.Proofs.Ytcigbgnipbmcmaa
/-- The row, under a short name, for the claim. -/
theorem storeOrder_holds : Rows.StoreOrderSaid := storeOrder.proved
end Go.Proofs.Ytcigbgnipbmcmaa
