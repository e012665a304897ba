/- The row of the law CodeRows, out of its pure statement and the walk of its function: called with any arguments it returns true, and they read as they did. -/
import Derived.Test.YtpmcojmhkpaoaaaRows
import Derived.Test.YtpmcojmhkpaoaaaStatCodeRows
import Derived.Test.YtpmcojmhkpaoaaaPureCodeRows
import Derived.Test.YtpmcojmhkpaoaaaPAx38
import Derived.WalkKit
import Derived.ProofKit
import Derived.OpenShut
import Derived.ShutString
import Derived.ChangeOld
import Derived.Below
import Derived.SizedLaws
import Derived.Carry
namespace Go.Proofs.Ytpmcojmhkpaoaaa.codeRows
open Go.ChangeShapes Go.WideShapes Go.ChangeAt Go.RowKit Go.Proofs.YtpmcojmhkpaoaaaOpens Go.Proofs.Ytpmcojmhkpaoaaa.PA Go.Proofs.YtpmcojmhkpaoaaaW.PrintWords
theorem own : ownKnob Try.prog.godebug = none := by kernel_rfl
theorem laidOut : laidOutB Try.prog = true := by kernel_rfl
theorem opens_T43 : Opens Try.prog 43 k43 ok_T43 :=
  opens_struct (P := Try.prog) (t := 43) Try.underlying43 (by kernel_rfl) (by kernel_rfl) (opens_cons (opens_int (P := Try.prog) Try.underlying3) (opens_cons (opens_string (P := Try.prog) Try.underlying9) (opens_cons (opens_slice (P := Try.prog) 0 8 Try.underlying41 (by kernel_rfl) (by kernel_rfl) (opens_int (P := Try.prog) Try.underlying3)) (opens_one (opens_slice (P := Try.prog) 0 1 Try.underlying24 (by kernel_rfl) (by kernel_rfl) (opens_int (P := Try.prog) Try.underlying5)))))) (fun x : S43 => (x.f0, x.f1, x.f2, x.f3)) (fun y => ⟨y.1, y.2.1, y.2.2.1, y.2.2.2⟩) (fun _ => rfl)
set_option maxRecDepth 100000 in
theorem lifted (os : Os) (started : os.Started) (H : Type) (enc : TypeId × Value → H) :
    ReturnsInHanded {} Try.checked os 9 .any (Rows.codeRowsSpec.pre6 enc Try.prog Try.f9 Rows.codeRowsRow.domain false) (Rows.codeRowsSpec.post enc Try.prog Try.f9 false true false false) := by
  refine returnsInHanded_of_change_sized (C := Try.checked) own started (by kernel_rfl) Try.func9
    (ChangeSpec.witness6 (enc := enc) (C := Try.checked) false ⟨#[], #[.slice none 0 0], []⟩ 8 (by kernel_rfl) (by kernel_rfl) (by kernel_rfl) (by kernel_rfl)) ?_
  intro W base args ds gs before hval0 hW hcnd hsz0 _
  have hsz : (DataW.weightsEach Try.prog (Try.f9.params.toList ++ Rows.codeRowsSpec.plain.varTypes Try.prog) (ds ++ gs)).all (· ≤ reachBytes) = true := hsz0
  have hval : ∀ (j : Nat) t v, Try.f9.params[j]? = some t → args[j]? = some v → Value.okWide Try.prog W .any base t v := hval0
  have hW' := hW
  obtain ⟨p, q, hA0, hV, rfl, hfz, hnd⟩ := hW
  have hA : DataW.TrodAll enc Try.prog W 0 (fun _ => true) true Try.f9.params.toList args.toList ds p := hA0
  rw [Try.params9] at hA hval hsz
  obtain ⟨v0, vs0, d0, ds0, p0, q0, hargs, rfl, rfl, h0, r0⟩ := trodAll_cons hA
  obtain ⟨rfl, rfl, rfl⟩ := trodAll_nil r0
  obtain rfl : args = #[v0] := by cases args; simp_all
  obtain ⟨rfl, rfl⟩ := trodVars_none hV
  have k0 := h0
  have lt0 : ∀ x ∈ p0, x.block < W.heap.size := by obtain ⟨m, hm⟩ := k0; exact DataW.trod_lt m _ _ _ hm
  have hwt := weights_of hsz (j := 0) (t := 33) (d := d0) rfl rfl
  have hv := hval 0 33 v0 rfl rfl
  obtain ⟨fuel, hf⟩ := h0
  obtain ⟨l0, hK, hok⟩ := (show Opens Try.prog 33 (Kd.slice 43 k43) (fun l => (l.length ≤ maxLen ∧ l.length * 72 ≤ 140737488351232 ∧ ∀ a ∈ l, ok_T43 a)) from (opens_slice (P := Try.prog) z43 72 Try.underlying33 (by kernel_rfl) (by kernel_rfl) opens_T43)) enc W 0 _ _ fuel _ d0 p0 hf hwt
  obtain ⟨a0, len0, cap0, rfl⟩ := okWide_slice Try.underlying33 hv
  obtain ⟨A0, c0, hcs, hle, hC⟩ := hK
  simp only [Value.cells, List.cons.injEq, Value.slice.injEq, and_true] at hcs
  obtain ⟨rfl, rfl, rfl⟩ := hcs
  clear hA0 hval0 hsz0 hsz hf hwt
  obtain ⟨k, h⟩ := arraslaw5_CodeRows.proof l0 hok
  refine (arraslaw5_CodeRows.calls k _ _ l0 true W hC hle h).mono fun e W' ⟨he, bel⟩ => ?_
  subst he
  exact ⟨_, rfl, _, _, _, [], _, [], hW', trodAll_mk1 (shut_bool Try.underlying4 _), (trodAll_cons_mk (Below.trod laidOut (by kernel_rfl) (of_decide_eq_true (by kernel_rfl)) k0 bel lt0) trodAll_mk0), rfl, bel.frame _, fun h => by cases h⟩
theorem over : Rows.codeRowsRow.holds Try.pinned (OpenSpec.ofChange Rows.codeRowsSpec) :=
  OpenClaim.holds_of_wide 9 Try.f9 rfl rfl rfl rfl rfl rfl rfl ⟨rfl, rfl, rfl, rfl, rfl⟩ rfl rfl rfl rfl rfl (by kernel_rfl) Try.func9 (by kernel_rfl)
    (of_decide_eq_true (by kernel_rfl)) (by unfold Func.isWrapper; first | (rw [if_pos (by decide +kernel)]; kernel_rfl) | (rw [if_neg (by decide +kernel)]; exact ⟨rfl, rfl⟩))
    (fun os started H enc _ => lifted os started H enc)
theorem proved : Rows.CodeRowsSaid := over
#print axioms proved
end Go.Proofs.Ytpmcojmhkpaoaaa.codeRows
namespace Go.Proofs.Ytpmcojmhkpaoaaa
/-- The row, under a short name, for the claim. -/
theorem codeRows_holds : Rows.CodeRowsSaid := codeRows.proved
end Go.Proofs.Ytpmcojmhkpaoaaa
