/- The row of the law OpStyles, out of its pure statement and the walk of its function: called with any arguments it returns true, and they read as they did. -/
import Derived.Test.YtddnlnjmikcgfaaPkSty0
import Derived.Test.YtddnlnjmikcgfaaPkSty1
import Derived.Test.YtddnlnjmikcgfaaPkSty2
import Derived.Test.YtddnlnjmikcgfaaPkSty3
import Derived.Test.YtddnlnjmikcgfaaPkSty4
import Derived.Test.YtddnlnjmikcgfaaPkSty5
import Derived.Test.YtddnlnjmikcgfaaRows
import Derived.WalkKit
import Derived.ProofKit
import Derived.OpenShut
import Derived.ShutString
import Derived.ChangeOld
import Derived.Below
import Derived.SizedLaws
import Derived.Carry
namespace Go.Proofs.Ytddnlnjmikcgfaa.opStyles
open Go.ChangeShapes Go.WideShapes Go.ChangeAt Go.RowKit Go.OB Go.Proofs.Ytddnlnjmikcgfaa.PC Go.WB.PrintWords
theorem own : ownKnob Try.prog.godebug = none := by kernel_rfl
theorem laidOut : laidOutB Try.prog = true := by kernel_rfl
theorem opens_T25 : Opens Try.prog 25 k25 ok_T25 :=
  opens_struct (P := Try.prog) (t := 25) Try.underlying25 (by kernel_rfl) (by kernel_rfl) (kG (opens_int (P := Try.prog) Try.underlying3) (opens_one (opens_int (P := Try.prog) Try.underlying3))) (fun x : S25 => (x.f0, x.f1)) (fun y => ⟨y.1, y.2⟩) (fun _ => rfl)
theorem opens_T28 : Opens Try.prog 28 k28 ok_T28 :=
  opens_struct (P := Try.prog) (t := 28) Try.underlying28 (by kernel_rfl) (by kernel_rfl) (kG opens_T25 (kG (opens_int (P := Try.prog) Try.underlying3) (kG (opens_slice (P := Try.prog) 0 8 Try.underlying26 (by kernel_rfl) (by kernel_rfl) (opens_int (P := Try.prog) Try.underlying3)) (kG (opens_int (P := Try.prog) Try.underlying3) (kG opens_T25 (kG opens_T25 (kG (opens_string (P := Try.prog) Try.underlying9) (kG (opens_int (P := Try.prog) Try.underlying3) (opens_one (opens_int (P := Try.prog) Try.underlying3)))))))))) (fun x : S28 => (x.f0, x.f1, x.f2, x.f3, x.f4, x.f5, x.f6, x.f7, x.f8)) (fun y => ⟨y.1, y.2.1, y.2.2.1, y.2.2.2.1, y.2.2.2.2.1, y.2.2.2.2.2.1, y.2.2.2.2.2.2.1, y.2.2.2.2.2.2.2.1, y.2.2.2.2.2.2.2.2⟩) (fun _ => rfl)
theorem opens_T31 : Opens Try.prog 31 k31 ok_T31 :=
  opens_struct (P := Try.prog) (t := 31) Try.underlying31 (by kernel_rfl) (by kernel_rfl) (kG opens_T28 (opens_one (opens_slice (P := Try.prog) 0 1 Try.underlying29 (by kernel_rfl) (by kernel_rfl) (opens_int (P := Try.prog) Try.underlying5)))) (fun x : S31 => (x.f0, x.f1)) (fun y => ⟨y.1, y.2⟩) (fun _ => rfl)
set_option maxRecDepth 100000 in
theorem lifted (os : Os) (started : os.Started) (H : Type) (enc : TypeId × Value → H) :
    ReturnsInHanded {} Try.checked os 6 .any (Rows.opStylesSpec.pre6 enc Try.prog Try.f6 Rows.opStylesRow.domain false) (Rows.opStylesSpec.post enc Try.prog Try.f6 false true false false) := by
  refine returnsInHanded_of_change_sized (C := Try.checked) own started (by kernel_rfl) Try.func6
    (ChangeSpec.witness6 (enc := enc) (C := Try.checked) false ⟨#[], #[.slice none 0 0], []⟩ 8 (by kernel_rfl) (by kernel_rfl) (by kernel_rfl) (by kernel_rfl)) ?_
  intro W base args ds gs before hval0 hW hcnd hsz0 _
  have hsz : (DataW.weightsEach Try.prog (Try.f6.params.toList ++ Rows.opStylesSpec.plain.varTypes Try.prog) (ds ++ gs)).all (· ≤ reachBytes) = true := hsz0
  have hval : ∀ (j : Nat) t v, Try.f6.params[j]? = some t → args[j]? = some v → Value.okWide Try.prog W .any base t v := hval0
  have hW' := hW
  obtain ⟨p, q, hA0, hV, rfl, hfz, hnd⟩ := hW
  have hA : DataW.TrodAll enc Try.prog W 0 (fun _ => true) true Try.f6.params.toList args.toList ds p := hA0
  rw [Try.params6] at hA hval hsz
  obtain ⟨v0, vs0, d0, ds0, p0, q0, hargs, rfl, rfl, h0, r0⟩ := trodAll_cons hA
  obtain ⟨rfl, rfl, rfl⟩ := trodAll_nil r0
  obtain rfl : args = #[v0] := by cases args; simp_all
  obtain ⟨rfl, rfl⟩ := trodVars_none hV
  have k0 := h0
  have lt0 : ∀ x ∈ p0, x.block < W.heap.size := by obtain ⟨m, hm⟩ := k0; exact DataW.trod_lt m _ _ _ hm
  have hwt := weights_of hsz (j := 0) (t := 22) (d := d0) rfl rfl
  have hv := hval 0 22 v0 rfl rfl
  obtain ⟨fuel, hf⟩ := h0
  obtain ⟨l0, hK, hok⟩ := (show Opens Try.prog 22 (Kd.slice 31 k31) (fun l => (l.length ≤ maxLen ∧ l.length * 144 ≤ 140737488351232 ∧ ∀ a ∈ l, ok_T31 a)) from (opens_slice (P := Try.prog) z31 144 Try.underlying22 (by kernel_rfl) (by kernel_rfl) opens_T31)) enc W 0 _ _ fuel _ d0 p0 hf hwt
  obtain ⟨a0, len0, cap0, rfl⟩ := okWide_slice Try.underlying22 hv
  obtain ⟨A0, c0, hcs, hle, hC⟩ := hK
  simp only [Value.cells, List.cons.injEq, Value.slice.injEq, and_true] at hcs
  obtain ⟨rfl, rfl, rfl⟩ := hcs
  clear hA0 hval0 hsz0 hsz hf hwt
  obtain ⟨k, h⟩ := cz.proof l0 hok
  refine (cz.calls k _ _ l0 true W hC hle h).mono fun e W' ⟨he, bel⟩ => ?_
  subst he
  exact ⟨_, rfl, _, _, _, [], _, [], hW', trodAll_mk1 (shut_bool Try.underlying4 _), (trodAll_cons_mk (Below.trod laidOut (by kernel_rfl) (of_decide_eq_true (by kernel_rfl)) k0 bel lt0) trodAll_mk0), rfl, bel.frame _, fun h => by cases h⟩
theorem over : Rows.opStylesRow.holds Try.pinned (OpenSpec.ofChange Rows.opStylesSpec) :=
  OpenClaim.holds_of_wide 6 Try.f6 rfl rfl rfl rfl rfl rfl rfl ⟨rfl, rfl, rfl, rfl, rfl⟩ rfl rfl rfl rfl rfl (by kernel_rfl) Try.func6 (by kernel_rfl)
    (of_decide_eq_true (by kernel_rfl)) (by unfold Func.isWrapper; first | (rw [if_pos (by decide +kernel)]; kernel_rfl) | (rw [if_neg (by decide +kernel)]; exact ⟨rfl, rfl⟩))
    (fun os started H enc _ => lifted os started H enc)
theorem proved : Rows.OpStylesSaid := over
#print axioms proved
end Go.Proofs.Ytddnlnjmikcgfaa.opStyles
namespace Go.Proofs.Ytddnlnjmikcgfaa
/-- The row, under a short name, for the claim. -/
theorem opStyles_holds : Rows.OpStylesSaid := opStyles.proved
end Go.Proofs.Ytddnlnjmikcgfaa
