/-
  No cell of these rows narrows 'for every input' (looked for: loops, veiled, ifaces, maps, wideKeys, modest, calm, conditions, laid).
  DERIVED. THE GIVEN ROWS OF THIS SEAT. 4 by the template 'for every input the law returns true; each argument reads behind the call as it read before'; 0 by the template 'total and deterministic' (their statements: YtecjbmibngfpmaaTotals.lean).
  GIVEN WITH THE SEED: the statements are not yours to turn. If you find one false, say at which input.
  Laid BY PROGRAM, IN A SANDBOX (cutbox-rows.mjs): the forced cells as the released guide's own fill.sh prints them over the translation b4500f40df63d426… (all of the seat's roots in one cut). By AI agents, Wed Nov 11 2026. No macro, syntax, notation, axiom, sorry.
-/
import Derived.Test.YtecjbmibngfpmaaChecked
import GoSem.Claim
import GoSem.ClaimJoined
import GoSem.ClaimMapViews
import Derived.JoinedTies
import Derived.KernelRfl
namespace Go.Proofs.Ytecjbmibngfpmaa
/- THE CELL 'sum', in the pinned program and in every row, IS THE sha256 OF THE DUMP (.gsa) THAT YtecjbmibngfpmaaProg.lean LOADS. Nothing in Lean hashes anything: it is a label: what it is worth is what the hold of that sum in a sandbox is worth. -/
noncomputable def Try.pinned : Pinned := { name := "ytecjbmibngfpmaa", sum := "b4500f40df63d4261dcdd9b4eaad9e5f47e20ea1a93f69d1f23d68e11bf9eb87", checked := Try.checked }
namespace Rows
def none {H : Type} : Left H := { results := [], args := [] }

/-- 'arraslaw14.HoldOrders': WHATEVER THE INPUT: true; the input reads as it did. -/
def holdOrdersSpec : ChangeSpec := { name := "holdOrders", fn := fun _ => fun
  | [d] => { results := [.lit (.bool true)], args := [d] }
  | _ => none }
def holdOrdersRow : OpenClaim := { program := "ytecjbmibngfpmaa", sum := "b4500f40df63d4261dcdd9b4eaad9e5f47e20ea1a93f69d1f23d68e11bf9eb87", func := "arras/arraslaw14.HoldOrders", spec := "holdOrders", inPlace := ["slices.overlaps[arras/api.Op]"], unfollowed := true, recurses := true, apart := false }
def HoldOrdersSaid : Prop := holdOrdersRow.holds Try.pinned (OpenSpec.ofChange holdOrdersSpec)

/-- ITS FALSE NEIGHBOUR: 'it returns false'. Refute it at one input. -/
def holdOrdersWrong : ChangeSpec := { name := "holdOrders", fn := fun _ => fun
  | [d] => { results := [.lit (.bool false)], args := [d] }
  | _ => none }
def HoldOrdersWrongFalsely : Prop := holdOrdersRow.holds Try.pinned (OpenSpec.ofChange holdOrdersWrong)

/-- 'arraslaw14.HoldReady': WHATEVER THE INPUT: true; the input reads as it did. -/
def holdReadySpec : ChangeSpec := { name := "holdReady", fn := fun _ => fun
  | [d] => { results := [.lit (.bool true)], args := [d] }
  | _ => none }
def holdReadyRow : OpenClaim := { program := "ytecjbmibngfpmaa", sum := "b4500f40df63d4261dcdd9b4eaad9e5f47e20ea1a93f69d1f23d68e11bf9eb87", func := "arras/arraslaw14.HoldReady", spec := "holdReady", inPlace := ["slices.overlaps[arras/api.Op]"], unfollowed := true, recurses := true, apart := false }
def HoldReadySaid : Prop := holdReadyRow.holds Try.pinned (OpenSpec.ofChange holdReadySpec)

/-- ITS FALSE NEIGHBOUR: 'it returns false'. Refute it at one input. -/
def holdReadyWrong : ChangeSpec := { name := "holdReady", fn := fun _ => fun
  | [d] => { results := [.lit (.bool false)], args := [d] }
  | _ => none }
def HoldReadyWrongFalsely : Prop := holdReadyRow.holds Try.pinned (OpenSpec.ofChange holdReadyWrong)

/-- 'arraslaw14.HoldExact': WHATEVER THE INPUT: true; the input reads as it did. -/
def holdExactSpec : ChangeSpec := { name := "holdExact", fn := fun _ => fun
  | [d] => { results := [.lit (.bool true)], args := [d] }
  | _ => none }
def holdExactRow : OpenClaim := { program := "ytecjbmibngfpmaa", sum := "b4500f40df63d4261dcdd9b4eaad9e5f47e20ea1a93f69d1f23d68e11bf9eb87", func := "arras/arraslaw14.HoldExact", spec := "holdExact", inPlace := ["slices.overlaps[arras/api.Op]"], unfollowed := true, recurses := true, apart := false }
def HoldExactSaid : Prop := holdExactRow.holds Try.pinned (OpenSpec.ofChange holdExactSpec)

/-- ITS FALSE NEIGHBOUR: 'it returns false'. Refute it at one input. -/
def holdExactWrong : ChangeSpec := { name := "holdExact", fn := fun _ => fun
  | [d] => { results := [.lit (.bool false)], args := [d] }
  | _ => none }
def HoldExactWrongFalsely : Prop := holdExactRow.holds Try.pinned (OpenSpec.ofChange holdExactWrong)

/-- 'arraslaw14.HoldTakes': WHATEVER THE INPUT: true; the input reads as it did. -/
def holdTakesSpec : ChangeSpec := { name := "holdTakes", fn := fun _ => fun
  | [d] => { results := [.lit (.bool true)], args := [d] }
  | _ => none }
def holdTakesRow : OpenClaim := { program := "ytecjbmibngfpmaa", sum := "b4500f40df63d4261dcdd9b4eaad9e5f47e20ea1a93f69d1f23d68e11bf9eb87", func := "arras/arraslaw14.HoldTakes", spec := "holdTakes", inPlace := ["slices.overlaps[arras/api.Op]"], unfollowed := true, recurses := true, apart := false }
def HoldTakesSaid : Prop := holdTakesRow.holds Try.pinned (OpenSpec.ofChange holdTakesSpec)

/-- ITS FALSE NEIGHBOUR: 'it returns false'. Refute it at one input. -/
def holdTakesWrong : ChangeSpec := { name := "holdTakes", fn := fun _ => fun
  | [d] => { results := [.lit (.bool false)], args := [d] }
  | _ => none }
def HoldTakesWrongFalsely : Prop := holdTakesRow.holds Try.pinned (OpenSpec.ofChange holdTakesWrong)

/- THE SECOND FORM. 'bulk': how many values and letters a reading holds, each counted each time it is reached (what is shared counts as often as it is met; a slice's spare places count too). A statement '..UptoSaid' is the law's where the arguments, and the package variables that the reading takes, are together of bulk at most 1048576: NARROWER than '..Said'. Prove '..Said' where nothing that the law and all that it calls make is longer than what came in: it says more and counts as full. Else prove '..UptoSaid'. A law counts once. -/
mutual
def uptoBulk {H : Type} : DataW H → Nat
  | .lit (.string bytes) => bytes.length + 1
  | .lit _ => 1
  | .nil => 1
  | .ptr d => uptoBulk d + 1
  | .slice elems spare => uptoBulkAll elems + uptoBulkAll spare + 1
  | .agg parts => uptoBulkAll parts + 1
  | .iface _ d => uptoBulk d + 1
  | .map entries => uptoBulkEntries entries + 1
  | .held _ => 1
def uptoBulkAll {H : Type} : List (DataW H) → Nat
  | [] => 0
  | d :: r => uptoBulk d + uptoBulkAll r
def uptoBulkEntries {H : Type} : List (Lit × DataW H) → Nat
  | [] => 0
  | x :: r => uptoBulkEntry x + uptoBulkEntries r
def uptoBulkEntry {H : Type} : Lit × DataW H → Nat
  | (.string bytes, d) => bytes.length + uptoBulk d + 1
  | (_, d) => uptoBulk d + 1
 end
def uptoSmall : (H : Type) → List (DataW H) → Bool := fun _ ds => decide (uptoBulkAll ds ≤ 1048576)
def OpenSpec.upto (s : _root_.Go.ChangeSpec) : _root_.Go.OpenSpec := { _root_.Go.OpenSpec.ofChange s with cond := some uptoSmall }

/-- 'arraslaw14.HoldOrders', WHERE WHAT IT READS IS OF BULK AT MOST 1048576: true; the input reads as it did. -/
def holdOrdersUptoRow : OpenClaim := { program := "ytecjbmibngfpmaa", sum := "b4500f40df63d4261dcdd9b4eaad9e5f47e20ea1a93f69d1f23d68e11bf9eb87", func := "arras/arraslaw14.HoldOrders", spec := "holdOrders", inPlace := ["slices.overlaps[arras/api.Op]"], unfollowed := true, recurses := true, apart := false, narrowed := true }
def HoldOrdersUptoSaid : Prop := holdOrdersUptoRow.holds Try.pinned (OpenSpec.upto holdOrdersSpec)

/-- 'arraslaw14.HoldReady', WHERE WHAT IT READS IS OF BULK AT MOST 1048576: true; the input reads as it did. -/
def holdReadyUptoRow : OpenClaim := { program := "ytecjbmibngfpmaa", sum := "b4500f40df63d4261dcdd9b4eaad9e5f47e20ea1a93f69d1f23d68e11bf9eb87", func := "arras/arraslaw14.HoldReady", spec := "holdReady", inPlace := ["slices.overlaps[arras/api.Op]"], unfollowed := true, recurses := true, apart := false, narrowed := true }
def HoldReadyUptoSaid : Prop := holdReadyUptoRow.holds Try.pinned (OpenSpec.upto holdReadySpec)

/-- 'arraslaw14.HoldExact', WHERE WHAT IT READS IS OF BULK AT MOST 1048576: true; the input reads as it did. -/
def holdExactUptoRow : OpenClaim := { program := "ytecjbmibngfpmaa", sum := "b4500f40df63d4261dcdd9b4eaad9e5f47e20ea1a93f69d1f23d68e11bf9eb87", func := "arras/arraslaw14.HoldExact", spec := "holdExact", inPlace := ["slices.overlaps[arras/api.Op]"], unfollowed := true, recurses := true, apart := false, narrowed := true }
def HoldExactUptoSaid : Prop := holdExactUptoRow.holds Try.pinned (OpenSpec.upto holdExactSpec)

/-- 'arraslaw14.HoldTakes', WHERE WHAT IT READS IS OF BULK AT MOST 1048576: true; the input reads as it did. -/
def holdTakesUptoRow : OpenClaim := { program := "ytecjbmibngfpmaa", sum := "b4500f40df63d4261dcdd9b4eaad9e5f47e20ea1a93f69d1f23d68e11bf9eb87", func := "arras/arraslaw14.HoldTakes", spec := "holdTakes", inPlace := ["slices.overlaps[arras/api.Op]"], unfollowed := true, recurses := true, apart := false, narrowed := true }
def HoldTakesUptoSaid : Prop := holdTakesUptoRow.holds Try.pinned (OpenSpec.upto holdTakesSpec)

end Rows
end Go.Proofs.Ytecjbmibngfpmaa
