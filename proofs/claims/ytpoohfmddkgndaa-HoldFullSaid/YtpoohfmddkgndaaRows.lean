/-
  No cell of these rows narrows 'for every input' (looked for: loops, veiled, ifaces, maps, wideKeys, modest, calm, conditions, laid).
  DERIVED. THE GIVEN ROWS OF THIS SEAT. 14 by the template 'for every input the law returns true; each argument reads behind the call as it read before'; 0 by the template 'total and deterministic' (their statements: YtpoohfmddkgndaaTotals.lean).
  GIVEN WITH THE SEED: the statements are not yours to turn. If you find one false, say at which input.
  Laid BY PROGRAM, IN A SANDBOX (cutbox-rows.mjs): the forced cells as the released guide's own fill.sh prints them over the translation d08e18a916192295… (all of the seat's roots in one cut). By AI agents, Wed Nov 11 2026. No macro, syntax, notation, axiom, sorry.
-/
import Derived.Test.YtpoohfmddkgndaaChecked
import GoSem.Claim
import GoSem.ClaimJoined
import GoSem.ClaimMapViews
import Derived.JoinedTies
import Derived.KernelRfl
namespace Go.Proofs.Ytpoohfmddkgndaa
/- THE CELL 'sum', in the pinned program and in every row, IS THE sha256 OF THE DUMP (.gsa) THAT YtpoohfmddkgndaaProg.lean LOADS. Nothing in Lean hashes anything: it is a label: what it is worth is what the hold of that sum in a sandbox is worth. -/
noncomputable def Try.pinned : Pinned := { name := "ytpoohfmddkgndaa", sum := "d08e18a916192295be8ff75e20d3a3789d15df9bf15b2e8f09956ee45ff8a439", checked := Try.checked }
namespace Rows
def none {H : Type} : Left H := { results := [], args := [] }

/-- 'arraslaw25.SyncWhoms': WHATEVER THE INPUT: true; the input reads as it did. -/
def syncWhomsSpec : ChangeSpec := { name := "syncWhoms", fn := fun _ => fun
  | [d] => { results := [.lit (.bool true)], args := [d] }
  | _ => none }
def syncWhomsRow : OpenClaim := { program := "ytpoohfmddkgndaa", sum := "d08e18a916192295be8ff75e20d3a3789d15df9bf15b2e8f09956ee45ff8a439", func := "arras/arraslaw25.SyncWhoms", spec := "syncWhoms", apart := false }
def SyncWhomsSaid : Prop := syncWhomsRow.holds Try.pinned (OpenSpec.ofChange syncWhomsSpec)

/-- ITS FALSE NEIGHBOUR: 'it returns false'. Refute it at one input. -/
def syncWhomsWrong : ChangeSpec := { name := "syncWhoms", fn := fun _ => fun
  | [d] => { results := [.lit (.bool false)], args := [d] }
  | _ => none }
def SyncWhomsWrongFalsely : Prop := syncWhomsRow.holds Try.pinned (OpenSpec.ofChange syncWhomsWrong)

/-- 'arraslaw25.SyncRounds': WHATEVER THE INPUT: true; the input reads as it did. -/
def syncRoundsSpec : ChangeSpec := { name := "syncRounds", fn := fun _ => fun
  | [d] => { results := [.lit (.bool true)], args := [d] }
  | _ => none }
def syncRoundsRow : OpenClaim := { program := "ytpoohfmddkgndaa", sum := "d08e18a916192295be8ff75e20d3a3789d15df9bf15b2e8f09956ee45ff8a439", func := "arras/arraslaw25.SyncRounds", spec := "syncRounds", apart := false }
def SyncRoundsSaid : Prop := syncRoundsRow.holds Try.pinned (OpenSpec.ofChange syncRoundsSpec)

/-- ITS FALSE NEIGHBOUR: 'it returns false'. Refute it at one input. -/
def syncRoundsWrong : ChangeSpec := { name := "syncRounds", fn := fun _ => fun
  | [d] => { results := [.lit (.bool false)], args := [d] }
  | _ => none }
def SyncRoundsWrongFalsely : Prop := syncRoundsRow.holds Try.pinned (OpenSpec.ofChange syncRoundsWrong)

/-- 'arraslaw25.SyncOthers': WHATEVER THE INPUT: true; the input reads as it did. -/
def syncOthersSpec : ChangeSpec := { name := "syncOthers", fn := fun _ => fun
  | [d] => { results := [.lit (.bool true)], args := [d] }
  | _ => none }
def syncOthersRow : OpenClaim := { program := "ytpoohfmddkgndaa", sum := "d08e18a916192295be8ff75e20d3a3789d15df9bf15b2e8f09956ee45ff8a439", func := "arras/arraslaw25.SyncOthers", spec := "syncOthers", apart := false }
def SyncOthersSaid : Prop := syncOthersRow.holds Try.pinned (OpenSpec.ofChange syncOthersSpec)

/-- ITS FALSE NEIGHBOUR: 'it returns false'. Refute it at one input. -/
def syncOthersWrong : ChangeSpec := { name := "syncOthers", fn := fun _ => fun
  | [d] => { results := [.lit (.bool false)], args := [d] }
  | _ => none }
def SyncOthersWrongFalsely : Prop := syncOthersRow.holds Try.pinned (OpenSpec.ofChange syncOthersWrong)

/-- 'arraslaw25.SyncAsks': WHATEVER THE INPUT: true; the input reads as it did. -/
def syncAsksSpec : ChangeSpec := { name := "syncAsks", fn := fun _ => fun
  | [d] => { results := [.lit (.bool true)], args := [d] }
  | _ => none }
def syncAsksRow : OpenClaim := { program := "ytpoohfmddkgndaa", sum := "d08e18a916192295be8ff75e20d3a3789d15df9bf15b2e8f09956ee45ff8a439", func := "arras/arraslaw25.SyncAsks", spec := "syncAsks", apart := false }
def SyncAsksSaid : Prop := syncAsksRow.holds Try.pinned (OpenSpec.ofChange syncAsksSpec)

/-- ITS FALSE NEIGHBOUR: 'it returns false'. Refute it at one input. -/
def syncAsksWrong : ChangeSpec := { name := "syncAsks", fn := fun _ => fun
  | [d] => { results := [.lit (.bool false)], args := [d] }
  | _ => none }
def SyncAsksWrongFalsely : Prop := syncAsksRow.holds Try.pinned (OpenSpec.ofChange syncAsksWrong)

/-- 'arraslaw14.HoldOrders': WHATEVER THE INPUT: true; the input reads as it did. -/
def holdOrdersSpec : ChangeSpec := { name := "holdOrders", fn := fun _ => fun
  | [d] => { results := [.lit (.bool true)], args := [d] }
  | _ => none }
def holdOrdersRow : OpenClaim := { program := "ytpoohfmddkgndaa", sum := "d08e18a916192295be8ff75e20d3a3789d15df9bf15b2e8f09956ee45ff8a439", func := "arras/arraslaw14.HoldOrders", spec := "holdOrders", inPlace := ["slices.overlaps[arras/api.Op]"], unfollowed := true, recurses := true, apart := false }
def HoldOrdersSaid : Prop := holdOrdersRow.holds Try.pinned (OpenSpec.ofChange holdOrdersSpec)

/-- ITS FALSE NEIGHBOUR: 'it returns false'. Refute it at one input. -/
def holdOrdersWrong : ChangeSpec := { name := "holdOrders", fn := fun _ => fun
  | [d] => { results := [.lit (.bool false)], args := [d] }
  | _ => none }
def HoldOrdersWrongFalsely : Prop := holdOrdersRow.holds Try.pinned (OpenSpec.ofChange holdOrdersWrong)

/-- 'arraslaw14.HoldFull': WHATEVER THE INPUT: true; the input reads as it did. -/
def holdFullSpec : ChangeSpec := { name := "holdFull", fn := fun _ => fun
  | [d] => { results := [.lit (.bool true)], args := [d] }
  | _ => none }
def holdFullRow : OpenClaim := { program := "ytpoohfmddkgndaa", sum := "d08e18a916192295be8ff75e20d3a3789d15df9bf15b2e8f09956ee45ff8a439", func := "arras/arraslaw14.HoldFull", spec := "holdFull", inPlace := ["slices.overlaps[arras/api.Op]"], unfollowed := true, recurses := true, apart := false }
def HoldFullSaid : Prop := holdFullRow.holds Try.pinned (OpenSpec.ofChange holdFullSpec)

/-- ITS FALSE NEIGHBOUR: 'it returns false'. Refute it at one input. -/
def holdFullWrong : ChangeSpec := { name := "holdFull", fn := fun _ => fun
  | [d] => { results := [.lit (.bool false)], args := [d] }
  | _ => none }
def HoldFullWrongFalsely : Prop := holdFullRow.holds Try.pinned (OpenSpec.ofChange holdFullWrong)

/-- 'arraslaw14.HoldReady': WHATEVER THE INPUT: true; the input reads as it did. -/
def holdReadySpec : ChangeSpec := { name := "holdReady", fn := fun _ => fun
  | [d] => { results := [.lit (.bool true)], args := [d] }
  | _ => none }
def holdReadyRow : OpenClaim := { program := "ytpoohfmddkgndaa", sum := "d08e18a916192295be8ff75e20d3a3789d15df9bf15b2e8f09956ee45ff8a439", func := "arras/arraslaw14.HoldReady", spec := "holdReady", inPlace := ["slices.overlaps[arras/api.Op]"], unfollowed := true, recurses := true, apart := false }
def HoldReadySaid : Prop := holdReadyRow.holds Try.pinned (OpenSpec.ofChange holdReadySpec)

/-- ITS FALSE NEIGHBOUR: 'it returns false'. Refute it at one input. -/
def holdReadyWrong : ChangeSpec := { name := "holdReady", fn := fun _ => fun
  | [d] => { results := [.lit (.bool false)], args := [d] }
  | _ => none }
def HoldReadyWrongFalsely : Prop := holdReadyRow.holds Try.pinned (OpenSpec.ofChange holdReadyWrong)

/-- 'arraslaw14.HoldExact': WHATEVER THE INPUT: true; the input reads as it did. -/
def holdExactSpec : ChangeSpec := { name := "holdExact", fn := fun _ => fun
  | [d] => { results := [.lit (.bool true)], args := [d] }
  | _ => none }
def holdExactRow : OpenClaim := { program := "ytpoohfmddkgndaa", sum := "d08e18a916192295be8ff75e20d3a3789d15df9bf15b2e8f09956ee45ff8a439", func := "arras/arraslaw14.HoldExact", spec := "holdExact", inPlace := ["slices.overlaps[arras/api.Op]"], unfollowed := true, recurses := true, apart := false }
def HoldExactSaid : Prop := holdExactRow.holds Try.pinned (OpenSpec.ofChange holdExactSpec)

/-- ITS FALSE NEIGHBOUR: 'it returns false'. Refute it at one input. -/
def holdExactWrong : ChangeSpec := { name := "holdExact", fn := fun _ => fun
  | [d] => { results := [.lit (.bool false)], args := [d] }
  | _ => none }
def HoldExactWrongFalsely : Prop := holdExactRow.holds Try.pinned (OpenSpec.ofChange holdExactWrong)

/-- 'arraslaw14.HoldTakes': WHATEVER THE INPUT: true; the input reads as it did. -/
def holdTakesSpec : ChangeSpec := { name := "holdTakes", fn := fun _ => fun
  | [d] => { results := [.lit (.bool true)], args := [d] }
  | _ => none }
def holdTakesRow : OpenClaim := { program := "ytpoohfmddkgndaa", sum := "d08e18a916192295be8ff75e20d3a3789d15df9bf15b2e8f09956ee45ff8a439", func := "arras/arraslaw14.HoldTakes", spec := "holdTakes", inPlace := ["slices.overlaps[arras/api.Op]"], unfollowed := true, recurses := true, apart := false }
def HoldTakesSaid : Prop := holdTakesRow.holds Try.pinned (OpenSpec.ofChange holdTakesSpec)

/-- ITS FALSE NEIGHBOUR: 'it returns false'. Refute it at one input. -/
def holdTakesWrong : ChangeSpec := { name := "holdTakes", fn := fun _ => fun
  | [d] => { results := [.lit (.bool false)], args := [d] }
  | _ => none }
def HoldTakesWrongFalsely : Prop := holdTakesRow.holds Try.pinned (OpenSpec.ofChange holdTakesWrong)

/-- 'arraslaw15.RegSets': WHATEVER THE INPUT: true; the input reads as it did. -/
def regSetsSpec : ChangeSpec := { name := "regSets", fn := fun _ => fun
  | [d] => { results := [.lit (.bool true)], args := [d] }
  | _ => none }
def regSetsRow : OpenClaim := { program := "ytpoohfmddkgndaa", sum := "d08e18a916192295be8ff75e20d3a3789d15df9bf15b2e8f09956ee45ff8a439", func := "arras/arraslaw15.RegSets", spec := "regSets", inPlace := ["slices.overlaps[arras/api.Reg]"], unfollowed := true, recurses := true, apart := false }
def RegSetsSaid : Prop := regSetsRow.holds Try.pinned (OpenSpec.ofChange regSetsSpec)

/-- ITS FALSE NEIGHBOUR: 'it returns false'. Refute it at one input. -/
def regSetsWrong : ChangeSpec := { name := "regSets", fn := fun _ => fun
  | [d] => { results := [.lit (.bool false)], args := [d] }
  | _ => none }
def RegSetsWrongFalsely : Prop := regSetsRow.holds Try.pinned (OpenSpec.ofChange regSetsWrong)

/-- 'arraslaw15.RegSame': WHATEVER THE INPUT: true; the input reads as it did. -/
def regSameSpec : ChangeSpec := { name := "regSame", fn := fun _ => fun
  | [d] => { results := [.lit (.bool true)], args := [d] }
  | _ => none }
def regSameRow : OpenClaim := { program := "ytpoohfmddkgndaa", sum := "d08e18a916192295be8ff75e20d3a3789d15df9bf15b2e8f09956ee45ff8a439", func := "arras/arraslaw15.RegSame", spec := "regSame", inPlace := ["slices.overlaps[arras/api.Reg]"], unfollowed := true, recurses := true, apart := false }
def RegSameSaid : Prop := regSameRow.holds Try.pinned (OpenSpec.ofChange regSameSpec)

/-- ITS FALSE NEIGHBOUR: 'it returns false'. Refute it at one input. -/
def regSameWrong : ChangeSpec := { name := "regSame", fn := fun _ => fun
  | [d] => { results := [.lit (.bool false)], args := [d] }
  | _ => none }
def RegSameWrongFalsely : Prop := regSameRow.holds Try.pinned (OpenSpec.ofChange regSameWrong)

/-- 'arraslaw15.RegOrders': WHATEVER THE INPUT: true; the input reads as it did. -/
def regOrdersSpec : ChangeSpec := { name := "regOrders", fn := fun _ => fun
  | [d] => { results := [.lit (.bool true)], args := [d] }
  | _ => none }
def regOrdersRow : OpenClaim := { program := "ytpoohfmddkgndaa", sum := "d08e18a916192295be8ff75e20d3a3789d15df9bf15b2e8f09956ee45ff8a439", func := "arras/arraslaw15.RegOrders", spec := "regOrders", inPlace := ["slices.overlaps[arras/api.Reg]"], unfollowed := true, recurses := true, apart := false }
def RegOrdersSaid : Prop := regOrdersRow.holds Try.pinned (OpenSpec.ofChange regOrdersSpec)

/-- ITS FALSE NEIGHBOUR: 'it returns false'. Refute it at one input. -/
def regOrdersWrong : ChangeSpec := { name := "regOrders", fn := fun _ => fun
  | [d] => { results := [.lit (.bool false)], args := [d] }
  | _ => none }
def RegOrdersWrongFalsely : Prop := regOrdersRow.holds Try.pinned (OpenSpec.ofChange regOrdersWrong)

/-- 'arraslaw15.RegMerges': WHATEVER THE INPUT: true; the input reads as it did. -/
def regMergesSpec : ChangeSpec := { name := "regMerges", fn := fun _ => fun
  | [d] => { results := [.lit (.bool true)], args := [d] }
  | _ => none }
def regMergesRow : OpenClaim := { program := "ytpoohfmddkgndaa", sum := "d08e18a916192295be8ff75e20d3a3789d15df9bf15b2e8f09956ee45ff8a439", func := "arras/arraslaw15.RegMerges", spec := "regMerges", inPlace := ["slices.overlaps[arras/api.Reg]"], unfollowed := true, recurses := true, apart := false }
def RegMergesSaid : Prop := regMergesRow.holds Try.pinned (OpenSpec.ofChange regMergesSpec)

/-- ITS FALSE NEIGHBOUR: 'it returns false'. Refute it at one input. -/
def regMergesWrong : ChangeSpec := { name := "regMerges", fn := fun _ => fun
  | [d] => { results := [.lit (.bool false)], args := [d] }
  | _ => none }
def RegMergesWrongFalsely : Prop := regMergesRow.holds Try.pinned (OpenSpec.ofChange regMergesWrong)

/-- 'arraslaw15.RegExact': WHATEVER THE INPUT: true; the input reads as it did. -/
def regExactSpec : ChangeSpec := { name := "regExact", fn := fun _ => fun
  | [d] => { results := [.lit (.bool true)], args := [d] }
  | _ => none }
def regExactRow : OpenClaim := { program := "ytpoohfmddkgndaa", sum := "d08e18a916192295be8ff75e20d3a3789d15df9bf15b2e8f09956ee45ff8a439", func := "arras/arraslaw15.RegExact", spec := "regExact", inPlace := ["slices.overlaps[arras/api.Reg]"], unfollowed := true, recurses := true, apart := false }
def RegExactSaid : Prop := regExactRow.holds Try.pinned (OpenSpec.ofChange regExactSpec)

/-- ITS FALSE NEIGHBOUR: 'it returns false'. Refute it at one input. -/
def regExactWrong : ChangeSpec := { name := "regExact", fn := fun _ => fun
  | [d] => { results := [.lit (.bool false)], args := [d] }
  | _ => none }
def RegExactWrongFalsely : Prop := regExactRow.holds Try.pinned (OpenSpec.ofChange regExactWrong)

/- THE SECOND FORM. 'bulk': how many values and letters a reading holds, each counted each time it is reached (what is shared counts as often as it is met; a slice's spare places count too). A statement '..UptoSaid' is the law's where the arguments, and the package variables that the reading takes, are together of bulk at most 1048576: NARROWER than '..Said'. Prove '..Said' where nothing that the law and all that it calls make is longer than what came in: it says more and counts as full. Else prove '..UptoSaid'. A law counts once. -/
mutual
def uptoBulk {H : Type} : DataW H → Nat
  | .lit (.string bytes) => bytes.length + 1
  | .lit _ => 1
  | .nil => 1
  | .ptr d => uptoBulk d + 1
  | .slice elems spare => uptoBulkAll elems + uptoBulkAll spare + 1
  | .agg parts => uptoBulkAll parts + 1
  | .iface _ d => uptoBulk d + 1
  | .map entries => uptoBulkEntries entries + 1
  | .held _ => 1
def uptoBulkAll {H : Type} : List (DataW H) → Nat
  | [] => 0
  | d :: r => uptoBulk d + uptoBulkAll r
def uptoBulkEntries {H : Type} : List (Lit × DataW H) → Nat
  | [] => 0
  | x :: r => uptoBulkEntry x + uptoBulkEntries r
def uptoBulkEntry {H : Type} : Lit × DataW H → Nat
  | (.string bytes, d) => bytes.length + uptoBulk d + 1
  | (_, d) => uptoBulk d + 1
 end
def uptoSmall : (H : Type) → List (DataW H) → Bool := fun _ ds => decide (uptoBulkAll ds ≤ 1048576)
def OpenSpec.upto (s : _root_.Go.ChangeSpec) : _root_.Go.OpenSpec := { _root_.Go.OpenSpec.ofChange s with cond := some uptoSmall }

/-- 'arraslaw25.SyncWhoms', WHERE WHAT IT READS IS OF BULK AT MOST 1048576: true; the input reads as it did. -/
def syncWhomsUptoRow : OpenClaim := { program := "ytpoohfmddkgndaa", sum := "d08e18a916192295be8ff75e20d3a3789d15df9bf15b2e8f09956ee45ff8a439", func := "arras/arraslaw25.SyncWhoms", spec := "syncWhoms", apart := false, narrowed := true }
def SyncWhomsUptoSaid : Prop := syncWhomsUptoRow.holds Try.pinned (OpenSpec.upto syncWhomsSpec)

/-- 'arraslaw25.SyncRounds', WHERE WHAT IT READS IS OF BULK AT MOST 1048576: true; the input reads as it did. -/
def syncRoundsUptoRow : OpenClaim := { program := "ytpoohfmddkgndaa", sum := "d08e18a916192295be8ff75e20d3a3789d15df9bf15b2e8f09956ee45ff8a439", func := "arras/arraslaw25.SyncRounds", spec := "syncRounds", apart := false, narrowed := true }
def SyncRoundsUptoSaid : Prop := syncRoundsUptoRow.holds Try.pinned (OpenSpec.upto syncRoundsSpec)

/-- 'arraslaw25.SyncOthers', WHERE WHAT IT READS IS OF BULK AT MOST 1048576: true; the input reads as it did. -/
def syncOthersUptoRow : OpenClaim := { program := "ytpoohfmddkgndaa", sum := "d08e18a916192295be8ff75e20d3a3789d15df9bf15b2e8f09956ee45ff8a439", func := "arras/arraslaw25.SyncOthers", spec := "syncOthers", apart := false, narrowed := true }
def SyncOthersUptoSaid : Prop := syncOthersUptoRow.holds Try.pinned (OpenSpec.upto syncOthersSpec)

/-- 'arraslaw25.SyncAsks', WHERE WHAT IT READS IS OF BULK AT MOST 1048576: true; the input reads as it did. -/
def syncAsksUptoRow : OpenClaim := { program := "ytpoohfmddkgndaa", sum := "d08e18a916192295be8ff75e20d3a3789d15df9bf15b2e8f09956ee45ff8a439", func := "arras/arraslaw25.SyncAsks", spec := "syncAsks", apart := false, narrowed := true }
def SyncAsksUptoSaid : Prop := syncAsksUptoRow.holds Try.pinned (OpenSpec.upto syncAsksSpec)

/-- 'arraslaw14.HoldOrders', WHERE WHAT IT READS IS OF BULK AT MOST 1048576: true; the input reads as it did. -/
def holdOrdersUptoRow : OpenClaim := { program := "ytpoohfmddkgndaa", sum := "d08e18a916192295be8ff75e20d3a3789d15df9bf15b2e8f09956ee45ff8a439", func := "arras/arraslaw14.HoldOrders", spec := "holdOrders", inPlace := ["slices.overlaps[arras/api.Op]"], unfollowed := true, recurses := true, apart := false, narrowed := true }
def HoldOrdersUptoSaid : Prop := holdOrdersUptoRow.holds Try.pinned (OpenSpec.upto holdOrdersSpec)

/-- 'arraslaw14.HoldFull', WHERE WHAT IT READS IS OF BULK AT MOST 1048576: true; the input reads as it did. -/
def holdFullUptoRow : OpenClaim := { program := "ytpoohfmddkgndaa", sum := "d08e18a916192295be8ff75e20d3a3789d15df9bf15b2e8f09956ee45ff8a439", func := "arras/arraslaw14.HoldFull", spec := "holdFull", inPlace := ["slices.overlaps[arras/api.Op]"], unfollowed := true, recurses := true, apart := false, narrowed := true }
def HoldFullUptoSaid : Prop := holdFullUptoRow.holds Try.pinned (OpenSpec.upto holdFullSpec)

/-- 'arraslaw14.HoldReady', WHERE WHAT IT READS IS OF BULK AT MOST 1048576: true; the input reads as it did. -/
def holdReadyUptoRow : OpenClaim := { program := "ytpoohfmddkgndaa", sum := "d08e18a916192295be8ff75e20d3a3789d15df9bf15b2e8f09956ee45ff8a439", func := "arras/arraslaw14.HoldReady", spec := "holdReady", inPlace := ["slices.overlaps[arras/api.Op]"], unfollowed := true, recurses := true, apart := false, narrowed := true }
def HoldReadyUptoSaid : Prop := holdReadyUptoRow.holds Try.pinned (OpenSpec.upto holdReadySpec)

/-- 'arraslaw14.HoldExact', WHERE WHAT IT READS IS OF BULK AT MOST 1048576: true; the input reads as it did. -/
def holdExactUptoRow : OpenClaim := { program := "ytpoohfmddkgndaa", sum := "d08e18a916192295be8ff75e20d3a3789d15df9bf15b2e8f09956ee45ff8a439", func := "arras/arraslaw14.HoldExact", spec := "holdExact", inPlace := ["slices.overlaps[arras/api.Op]"], unfollowed := true, recurses := true, apart := false, narrowed := true }
def HoldExactUptoSaid : Prop := holdExactUptoRow.holds Try.pinned (OpenSpec.upto holdExactSpec)

/-- 'arraslaw14.HoldTakes', WHERE WHAT IT READS IS OF BULK AT MOST 1048576: true; the input reads as it did. -/
def holdTakesUptoRow : OpenClaim := { program := "ytpoohfmddkgndaa", sum := "d08e18a916192295be8ff75e20d3a3789d15df9bf15b2e8f09956ee45ff8a439", func := "arras/arraslaw14.HoldTakes", spec := "holdTakes", inPlace := ["slices.overlaps[arras/api.Op]"], unfollowed := true, recurses := true, apart := false, narrowed := true }
def HoldTakesUptoSaid : Prop := holdTakesUptoRow.holds Try.pinned (OpenSpec.upto holdTakesSpec)

/-- 'arraslaw15.RegSets', WHERE WHAT IT READS IS OF BULK AT MOST 1048576: true; the input reads as it did. -/
def regSetsUptoRow : OpenClaim := { program := "ytpoohfmddkgndaa", sum := "d08e18a916192295be8ff75e20d3a3789d15df9bf15b2e8f09956ee45ff8a439", func := "arras/arraslaw15.RegSets", spec := "regSets", inPlace := ["slices.overlaps[arras/api.Reg]"], unfollowed := true, recurses := true, apart := false, narrowed := true }
def RegSetsUptoSaid : Prop := regSetsUptoRow.holds Try.pinned (OpenSpec.upto regSetsSpec)

/-- 'arraslaw15.RegSame', WHERE WHAT IT READS IS OF BULK AT MOST 1048576: true; the input reads as it did. -/
def regSameUptoRow : OpenClaim := { program := "ytpoohfmddkgndaa", sum := "d08e18a916192295be8ff75e20d3a3789d15df9bf15b2e8f09956ee45ff8a439", func := "arras/arraslaw15.RegSame", spec := "regSame", inPlace := ["slices.overlaps[arras/api.Reg]"], unfollowed := true, recurses := true, apart := false, narrowed := true }
def RegSameUptoSaid : Prop := regSameUptoRow.holds Try.pinned (OpenSpec.upto regSameSpec)

/-- 'arraslaw15.RegOrders', WHERE WHAT IT READS IS OF BULK AT MOST 1048576: true; the input reads as it did. -/
def regOrdersUptoRow : OpenClaim := { program := "ytpoohfmddkgndaa", sum := "d08e18a916192295be8ff75e20d3a3789d15df9bf15b2e8f09956ee45ff8a439", func := "arras/arraslaw15.RegOrders", spec := "regOrders", inPlace := ["slices.overlaps[arras/api.Reg]"], unfollowed := true, recurses := true, apart := false, narrowed := true }
def RegOrdersUptoSaid : Prop := regOrdersUptoRow.holds Try.pinned (OpenSpec.upto regOrdersSpec)

/-- 'arraslaw15.RegMerges', WHERE WHAT IT READS IS OF BULK AT MOST 1048576: true; the input reads as it did. -/
def regMergesUptoRow : OpenClaim := { program := "ytpoohfmddkgndaa", sum := "d08e18a916192295be8ff75e20d3a3789d15df9bf15b2e8f09956ee45ff8a439", func := "arras/arraslaw15.RegMerges", spec := "regMerges", inPlace := ["slices.overlaps[arras/api.Reg]"], unfollowed := true, recurses := true, apart := false, narrowed := true }
def RegMergesUptoSaid : Prop := regMergesUptoRow.holds Try.pinned (OpenSpec.upto regMergesSpec)

/-- 'arraslaw15.RegExact', WHERE WHAT IT READS IS OF BULK AT MOST 1048576: true; the input reads as it did. -/
def regExactUptoRow : OpenClaim := { program := "ytpoohfmddkgndaa", sum := "d08e18a916192295be8ff75e20d3a3789d15df9bf15b2e8f09956ee45ff8a439", func := "arras/arraslaw15.RegExact", spec := "regExact", inPlace := ["slices.overlaps[arras/api.Reg]"], unfollowed := true, recurses := true, apart := false, narrowed := true }
def RegExactUptoSaid : Prop := regExactUptoRow.holds Try.pinned (OpenSpec.upto regExactSpec)

end Rows
end Go.Proofs.Ytpoohfmddkgndaa
