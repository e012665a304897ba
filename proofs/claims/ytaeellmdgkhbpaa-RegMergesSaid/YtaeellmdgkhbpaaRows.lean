/-
  No cell of these rows narrows 'for every input' (looked for: loops, veiled, ifaces, maps, wideKeys, modest, calm, conditions, laid).
  DERIVED. THE GIVEN ROWS OF THIS SEAT. 4 by the template 'for every input the law returns true; each argument reads behind the call as it read before'; 0 by the template 'total and deterministic' (their statements: YtaeellmdgkhbpaaTotals.lean).
  GIVEN WITH THE SEED: the statements are not yours to turn. If you find one false, say at which input.
  Laid BY PROGRAM, IN A SANDBOX (cutbox-rows.mjs): the forced cells as the released guide's own fill.sh prints them over the translation a7bdf397b99cfd1b… (all of the seat's roots in one cut). By AI agents, Wed Nov 11 2026. No macro, syntax, notation, axiom, sorry.
-/
import Derived.Test.YtaeellmdgkhbpaaChecked
import GoSem.Claim
import GoSem.ClaimJoined
import GoSem.ClaimMapViews
import Derived.JoinedTies
import Derived.KernelRfl
namespace Go.Proofs.Ytaeellmdgkhbpaa
/- THE CELL 'sum', in the pinned program and in every row, IS THE sha256 OF THE DUMP (.gsa) THAT YtaeellmdgkhbpaaProg.lean LOADS. Nothing in Lean hashes anything: it is a label: what it is worth is what the hold of that sum in a sandbox is worth. -/
noncomputable def Try.pinned : Pinned := { name := "ytaeellmdgkhbpaa", sum := "a7bdf397b99cfd1b28fae4b89335c6b596717c1f7a22d28759f93217ee0570a6", checked := Try.checked }
namespace Rows
def none {H : Type} : Left H := { results := [], args := [] }

/-- 'arraslaw15.RegSets': WHATEVER THE INPUT: true; the input reads as it did. -/
def regSetsSpec : ChangeSpec := { name := "regSets", fn := fun _ => fun
  | [d] => { results := [.lit (.bool true)], args := [d] }
  | _ => none }
def regSetsRow : OpenClaim := { program := "ytaeellmdgkhbpaa", sum := "a7bdf397b99cfd1b28fae4b89335c6b596717c1f7a22d28759f93217ee0570a6", func := "arras/arraslaw15.RegSets", spec := "regSets", inPlace := ["slices.overlaps[arras/api.Reg]"], unfollowed := true, recurses := true, apart := false }
def RegSetsSaid : Prop := regSetsRow.holds Try.pinned (OpenSpec.ofChange regSetsSpec)

/-- ITS FALSE NEIGHBOUR: 'it returns false'. Refute it at one input. -/
def regSetsWrong : ChangeSpec := { name := "regSets", fn := fun _ => fun
  | [d] => { results := [.lit (.bool false)], args := [d] }
  | _ => none }
def RegSetsWrongFalsely : Prop := regSetsRow.holds Try.pinned (OpenSpec.ofChange regSetsWrong)

/-- 'arraslaw15.RegOrders': WHATEVER THE INPUT: true; the input reads as it did. -/
def regOrdersSpec : ChangeSpec := { name := "regOrders", fn := fun _ => fun
  | [d] => { results := [.lit (.bool true)], args := [d] }
  | _ => none }
def regOrdersRow : OpenClaim := { program := "ytaeellmdgkhbpaa", sum := "a7bdf397b99cfd1b28fae4b89335c6b596717c1f7a22d28759f93217ee0570a6", func := "arras/arraslaw15.RegOrders", spec := "regOrders", inPlace := ["slices.overlaps[arras/api.Reg]"], unfollowed := true, recurses := true, apart := false }
def RegOrdersSaid : Prop := regOrdersRow.holds Try.pinned (OpenSpec.ofChange regOrdersSpec)

/-- ITS FALSE NEIGHBOUR: 'it returns false'. Refute it at one input. -/
def regOrdersWrong : ChangeSpec := { name := "regOrders", fn := fun _ => fun
  | [d] => { results := [.lit (.bool false)], args := [d] }
  | _ => none }
def RegOrdersWrongFalsely : Prop := regOrdersRow.holds Try.pinned (OpenSpec.ofChange regOrdersWrong)

/-- 'arraslaw15.RegMerges': WHATEVER THE INPUT: true; the input reads as it did. -/
def regMergesSpec : ChangeSpec := { name := "regMerges", fn := fun _ => fun
  | [d] => { results := [.lit (.bool true)], args := [d] }
  | _ => none }
def regMergesRow : OpenClaim := { program := "ytaeellmdgkhbpaa", sum := "a7bdf397b99cfd1b28fae4b89335c6b596717c1f7a22d28759f93217ee0570a6", func := "arras/arraslaw15.RegMerges", spec := "regMerges", inPlace := ["slices.overlaps[arras/api.Reg]"], unfollowed := true, recurses := true, apart := false }
def RegMergesSaid : Prop := regMergesRow.holds Try.pinned (OpenSpec.ofChange regMergesSpec)

/-- ITS FALSE NEIGHBOUR: 'it returns false'. Refute it at one input. -/
def regMergesWrong : ChangeSpec := { name := "regMerges", fn := fun _ => fun
  | [d] => { results := [.lit (.bool false)], args := [d] }
  | _ => none }
def RegMergesWrongFalsely : Prop := regMergesRow.holds Try.pinned (OpenSpec.ofChange regMergesWrong)

/-- 'arraslaw15.RegExact': WHATEVER THE INPUT: true; the input reads as it did. -/
def regExactSpec : ChangeSpec := { name := "regExact", fn := fun _ => fun
  | [d] => { results := [.lit (.bool true)], args := [d] }
  | _ => none }
def regExactRow : OpenClaim := { program := "ytaeellmdgkhbpaa", sum := "a7bdf397b99cfd1b28fae4b89335c6b596717c1f7a22d28759f93217ee0570a6", func := "arras/arraslaw15.RegExact", spec := "regExact", inPlace := ["slices.overlaps[arras/api.Reg]"], unfollowed := true, recurses := true, apart := false }
def RegExactSaid : Prop := regExactRow.holds Try.pinned (OpenSpec.ofChange regExactSpec)

/-- ITS FALSE NEIGHBOUR: 'it returns false'. Refute it at one input. -/
def regExactWrong : ChangeSpec := { name := "regExact", fn := fun _ => fun
  | [d] => { results := [.lit (.bool false)], args := [d] }
  | _ => none }
def RegExactWrongFalsely : Prop := regExactRow.holds Try.pinned (OpenSpec.ofChange regExactWrong)

/- THE SECOND FORM. 'bulk': how many values and letters a reading holds, each counted each time it is reached (what is shared counts as often as it is met; a slice's spare places count too). A statement '..UptoSaid' is the law's where the arguments, and the package variables that the reading takes, are together of bulk at most 1048576: NARROWER than '..Said'. Prove '..Said' where nothing that the law and all that it calls make is longer than what came in: it says more and counts as full. Else prove '..UptoSaid'. A law counts once. -/
mutual
def uptoBulk {H : Type} : DataW H → Nat
  | .lit (.string bytes) => bytes.length + 1
  | .lit _ => 1
  | .nil => 1
  | .ptr d => uptoBulk d + 1
  | .slice elems spare => uptoBulkAll elems + uptoBulkAll spare + 1
  | .agg parts => uptoBulkAll parts + 1
  | .iface _ d => uptoBulk d + 1
  | .map entries => uptoBulkEntries entries + 1
  | .held _ => 1
def uptoBulkAll {H : Type} : List (DataW H) → Nat
  | [] => 0
  | d :: r => uptoBulk d + uptoBulkAll r
def uptoBulkEntries {H : Type} : List (Lit × DataW H) → Nat
  | [] => 0
  | x :: r => uptoBulkEntry x + uptoBulkEntries r
def uptoBulkEntry {H : Type} : Lit × DataW H → Nat
  | (.string bytes, d) => bytes.length + uptoBulk d + 1
  | (_, d) => uptoBulk d + 1
 end
def uptoSmall : (H : Type) → List (DataW H) → Bool := fun _ ds => decide (uptoBulkAll ds ≤ 1048576)
def OpenSpec.upto (s : _root_.Go.ChangeSpec) : _root_.Go.OpenSpec := { _root_.Go.OpenSpec.ofChange s with cond := some uptoSmall }

/-- 'arraslaw15.RegSets', WHERE WHAT IT READS IS OF BULK AT MOST 1048576: true; the input reads as it did. -/
def regSetsUptoRow : OpenClaim := { program := "ytaeellmdgkhbpaa", sum := "a7bdf397b99cfd1b28fae4b89335c6b596717c1f7a22d28759f93217ee0570a6", func := "arras/arraslaw15.RegSets", spec := "regSets", inPlace := ["slices.overlaps[arras/api.Reg]"], unfollowed := true, recurses := true, apart := false, narrowed := true }
def RegSetsUptoSaid : Prop := regSetsUptoRow.holds Try.pinned (OpenSpec.upto regSetsSpec)

/-- 'arraslaw15.RegOrders', WHERE WHAT IT READS IS OF BULK AT MOST 1048576: true; the input reads as it did. -/
def regOrdersUptoRow : OpenClaim := { program := "ytaeellmdgkhbpaa", sum := "a7bdf397b99cfd1b28fae4b89335c6b596717c1f7a22d28759f93217ee0570a6", func := "arras/arraslaw15.RegOrders", spec := "regOrders", inPlace := ["slices.overlaps[arras/api.Reg]"], unfollowed := true, recurses := true, apart := false, narrowed := true }
def RegOrdersUptoSaid : Prop := regOrdersUptoRow.holds Try.pinned (OpenSpec.upto regOrdersSpec)

/-- 'arraslaw15.RegMerges', WHERE WHAT IT READS IS OF BULK AT MOST 1048576: true; the input reads as it did. -/
def regMergesUptoRow : OpenClaim := { program := "ytaeellmdgkhbpaa", sum := "a7bdf397b99cfd1b28fae4b89335c6b596717c1f7a22d28759f93217ee0570a6", func := "arras/arraslaw15.RegMerges", spec := "regMerges", inPlace := ["slices.overlaps[arras/api.Reg]"], unfollowed := true, recurses := true, apart := false, narrowed := true }
def RegMergesUptoSaid : Prop := regMergesUptoRow.holds Try.pinned (OpenSpec.upto regMergesSpec)

/-- 'arraslaw15.RegExact', WHERE WHAT IT READS IS OF BULK AT MOST 1048576: true; the input reads as it did. -/
def regExactUptoRow : OpenClaim := { program := "ytaeellmdgkhbpaa", sum := "a7bdf397b99cfd1b28fae4b89335c6b596717c1f7a22d28759f93217ee0570a6", func := "arras/arraslaw15.RegExact", spec := "regExact", inPlace := ["slices.overlaps[arras/api.Reg]"], unfollowed := true, recurses := true, apart := false, narrowed := true }
def RegExactUptoSaid : Prop := regExactUptoRow.holds Try.pinned (OpenSpec.upto regExactSpec)

end Rows
end Go.Proofs.Ytaeellmdgkhbpaa
