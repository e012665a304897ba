/-
  No cell of these rows narrows 'for every input' (looked for: loops, veiled, ifaces, maps, wideKeys, modest, calm, conditions, laid).
  DERIVED. THE GIVEN ROWS OF THIS SEAT. 11 by the template 'for every input the law returns true; each argument reads behind the call as it read before'; 0 by the template 'total and deterministic' (their statements: YtddnlnjmikcgfaaTotals.lean).
  GIVEN WITH THE SEED: the statements are not yours to turn. If you find one false, say at which input.
  Laid BY PROGRAM, IN A SANDBOX (cutbox-rows.mjs): the forced cells as the released guide's own fill.sh prints them over the translation 4fb56c3cad69d33d… (all of the seat's roots in one cut). By AI agents, Wed Nov 11 2026. No macro, syntax, notation, axiom, sorry.
-/
import Derived.Test.YtddnlnjmikcgfaaChecked
import GoSem.Claim
import GoSem.ClaimJoined
import GoSem.ClaimMapViews
import Derived.JoinedTies
import Derived.KernelRfl
namespace Go.Proofs.Ytddnlnjmikcgfaa
/- THE CELL 'sum', in the pinned program and in every row, IS THE sha256 OF THE DUMP (.gsa) THAT YtddnlnjmikcgfaaProg.lean LOADS. Nothing in Lean hashes anything: it is a label: what it is worth is what the hold of that sum in a sandbox is worth. -/
noncomputable def Try.pinned : Pinned := { name := "ytddnlnjmikcgfaa", sum := "4fb56c3cad69d33d4e7920bf382b0f733b79ab85d1b26e71a8f4d15b3c949bbc", checked := Try.checked }
namespace Rows
def none {H : Type} : Left H := { results := [], args := [] }

/-- 'arraslaw10.OpTakes': WHATEVER THE INPUT: true; the input reads as it did. -/
def opTakesSpec : ChangeSpec := { name := "opTakes", fn := fun _ => fun
  | [d] => { results := [.lit (.bool true)], args := [d] }
  | _ => none }
def opTakesRow : OpenClaim := { program := "ytddnlnjmikcgfaa", sum := "4fb56c3cad69d33d4e7920bf382b0f733b79ab85d1b26e71a8f4d15b3c949bbc", func := "arras/arraslaw10.OpTakes", spec := "opTakes", apart := false }
def OpTakesSaid : Prop := opTakesRow.holds Try.pinned (OpenSpec.ofChange opTakesSpec)

/-- ITS FALSE NEIGHBOUR: 'it returns false'. Refute it at one input. -/
def opTakesWrong : ChangeSpec := { name := "opTakes", fn := fun _ => fun
  | [d] => { results := [.lit (.bool false)], args := [d] }
  | _ => none }
def OpTakesWrongFalsely : Prop := opTakesRow.holds Try.pinned (OpenSpec.ofChange opTakesWrong)

/-- 'arraslaw10.OpBack': WHATEVER THE INPUT: true; the input reads as it did. -/
def opBackSpec : ChangeSpec := { name := "opBack", fn := fun _ => fun
  | [d] => { results := [.lit (.bool true)], args := [d] }
  | _ => none }
def opBackRow : OpenClaim := { program := "ytddnlnjmikcgfaa", sum := "4fb56c3cad69d33d4e7920bf382b0f733b79ab85d1b26e71a8f4d15b3c949bbc", func := "arras/arraslaw10.OpBack", spec := "opBack", apart := false }
def OpBackSaid : Prop := opBackRow.holds Try.pinned (OpenSpec.ofChange opBackSpec)

/-- ITS FALSE NEIGHBOUR: 'it returns false'. Refute it at one input. -/
def opBackWrong : ChangeSpec := { name := "opBack", fn := fun _ => fun
  | [d] => { results := [.lit (.bool false)], args := [d] }
  | _ => none }
def OpBackWrongFalsely : Prop := opBackRow.holds Try.pinned (OpenSpec.ofChange opBackWrong)

/-- 'arraslaw10.OpMoves': WHATEVER THE INPUT: true; the input reads as it did. -/
def opMovesSpec : ChangeSpec := { name := "opMoves", fn := fun _ => fun
  | [d] => { results := [.lit (.bool true)], args := [d] }
  | _ => none }
def opMovesRow : OpenClaim := { program := "ytddnlnjmikcgfaa", sum := "4fb56c3cad69d33d4e7920bf382b0f733b79ab85d1b26e71a8f4d15b3c949bbc", func := "arras/arraslaw10.OpMoves", spec := "opMoves", apart := false }
def OpMovesSaid : Prop := opMovesRow.holds Try.pinned (OpenSpec.ofChange opMovesSpec)

/-- ITS FALSE NEIGHBOUR: 'it returns false'. Refute it at one input. -/
def opMovesWrong : ChangeSpec := { name := "opMoves", fn := fun _ => fun
  | [d] => { results := [.lit (.bool false)], args := [d] }
  | _ => none }
def OpMovesWrongFalsely : Prop := opMovesRow.holds Try.pinned (OpenSpec.ofChange opMovesWrong)

/-- 'arraslaw10.OpStyles': WHATEVER THE INPUT: true; the input reads as it did. -/
def opStylesSpec : ChangeSpec := { name := "opStyles", fn := fun _ => fun
  | [d] => { results := [.lit (.bool true)], args := [d] }
  | _ => none }
def opStylesRow : OpenClaim := { program := "ytddnlnjmikcgfaa", sum := "4fb56c3cad69d33d4e7920bf382b0f733b79ab85d1b26e71a8f4d15b3c949bbc", func := "arras/arraslaw10.OpStyles", spec := "opStyles", apart := false }
def OpStylesSaid : Prop := opStylesRow.holds Try.pinned (OpenSpec.ofChange opStylesSpec)

/-- ITS FALSE NEIGHBOUR: 'it returns false'. Refute it at one input. -/
def opStylesWrong : ChangeSpec := { name := "opStyles", fn := fun _ => fun
  | [d] => { results := [.lit (.bool false)], args := [d] }
  | _ => none }
def OpStylesWrongFalsely : Prop := opStylesRow.holds Try.pinned (OpenSpec.ofChange opStylesWrong)

/-- 'arraslaw10.OpBytes': WHATEVER THE INPUT: true; the input reads as it did. -/
def opBytesSpec : ChangeSpec := { name := "opBytes", fn := fun _ => fun
  | [d] => { results := [.lit (.bool true)], args := [d] }
  | _ => none }
def opBytesRow : OpenClaim := { program := "ytddnlnjmikcgfaa", sum := "4fb56c3cad69d33d4e7920bf382b0f733b79ab85d1b26e71a8f4d15b3c949bbc", func := "arras/arraslaw10.OpBytes", spec := "opBytes", apart := false }
def OpBytesSaid : Prop := opBytesRow.holds Try.pinned (OpenSpec.ofChange opBytesSpec)

/-- ITS FALSE NEIGHBOUR: 'it returns false'. Refute it at one input. -/
def opBytesWrong : ChangeSpec := { name := "opBytes", fn := fun _ => fun
  | [d] => { results := [.lit (.bool false)], args := [d] }
  | _ => none }
def OpBytesWrongFalsely : Prop := opBytesRow.holds Try.pinned (OpenSpec.ofChange opBytesWrong)

/-- 'arraslaw10.OpWrongs': WHATEVER THE INPUT: true; the input reads as it did. -/
def opWrongsSpec : ChangeSpec := { name := "opWrongs", fn := fun _ => fun
  | [d] => { results := [.lit (.bool true)], args := [d] }
  | _ => none }
def opWrongsRow : OpenClaim := { program := "ytddnlnjmikcgfaa", sum := "4fb56c3cad69d33d4e7920bf382b0f733b79ab85d1b26e71a8f4d15b3c949bbc", func := "arras/arraslaw10.OpWrongs", spec := "opWrongs", apart := false }
def OpWrongsSaid : Prop := opWrongsRow.holds Try.pinned (OpenSpec.ofChange opWrongsSpec)

/-- ITS FALSE NEIGHBOUR: 'it returns false'. Refute it at one input. -/
def opWrongsWrong : ChangeSpec := { name := "opWrongs", fn := fun _ => fun
  | [d] => { results := [.lit (.bool false)], args := [d] }
  | _ => none }
def OpWrongsWrongFalsely : Prop := opWrongsRow.holds Try.pinned (OpenSpec.ofChange opWrongsWrong)

/-- 'arraslaw10.OpOrders': WHATEVER THE INPUT: true; the input reads as it did. -/
def opOrdersSpec : ChangeSpec := { name := "opOrders", fn := fun _ => fun
  | [d] => { results := [.lit (.bool true)], args := [d] }
  | _ => none }
def opOrdersRow : OpenClaim := { program := "ytddnlnjmikcgfaa", sum := "4fb56c3cad69d33d4e7920bf382b0f733b79ab85d1b26e71a8f4d15b3c949bbc", func := "arras/arraslaw10.OpOrders", spec := "opOrders", apart := false }
def OpOrdersSaid : Prop := opOrdersRow.holds Try.pinned (OpenSpec.ofChange opOrdersSpec)

/-- ITS FALSE NEIGHBOUR: 'it returns false'. Refute it at one input. -/
def opOrdersWrong : ChangeSpec := { name := "opOrders", fn := fun _ => fun
  | [d] => { results := [.lit (.bool false)], args := [d] }
  | _ => none }
def OpOrdersWrongFalsely : Prop := opOrdersRow.holds Try.pinned (OpenSpec.ofChange opOrdersWrong)

/-- 'arraslaw11.FrameParses': WHATEVER THE INPUT: true; the input reads as it did. -/
def frameParsesSpec : ChangeSpec := { name := "frameParses", fn := fun _ => fun
  | [d] => { results := [.lit (.bool true)], args := [d] }
  | _ => none }
def frameParsesRow : OpenClaim := { program := "ytddnlnjmikcgfaa", sum := "4fb56c3cad69d33d4e7920bf382b0f733b79ab85d1b26e71a8f4d15b3c949bbc", func := "arras/arraslaw11.FrameParses", spec := "frameParses", apart := false }
def FrameParsesSaid : Prop := frameParsesRow.holds Try.pinned (OpenSpec.ofChange frameParsesSpec)

/-- ITS FALSE NEIGHBOUR: 'it returns false'. Refute it at one input. -/
def frameParsesWrong : ChangeSpec := { name := "frameParses", fn := fun _ => fun
  | [d] => { results := [.lit (.bool false)], args := [d] }
  | _ => none }
def FrameParsesWrongFalsely : Prop := frameParsesRow.holds Try.pinned (OpenSpec.ofChange frameParsesWrong)

/-- 'arraslaw11.FrameBack': WHATEVER THE INPUT: true; the input reads as it did. -/
def frameBackSpec : ChangeSpec := { name := "frameBack", fn := fun _ => fun
  | [d] => { results := [.lit (.bool true)], args := [d] }
  | _ => none }
def frameBackRow : OpenClaim := { program := "ytddnlnjmikcgfaa", sum := "4fb56c3cad69d33d4e7920bf382b0f733b79ab85d1b26e71a8f4d15b3c949bbc", func := "arras/arraslaw11.FrameBack", spec := "frameBack", apart := false }
def FrameBackSaid : Prop := frameBackRow.holds Try.pinned (OpenSpec.ofChange frameBackSpec)

/-- ITS FALSE NEIGHBOUR: 'it returns false'. Refute it at one input. -/
def frameBackWrong : ChangeSpec := { name := "frameBack", fn := fun _ => fun
  | [d] => { results := [.lit (.bool false)], args := [d] }
  | _ => none }
def FrameBackWrongFalsely : Prop := frameBackRow.holds Try.pinned (OpenSpec.ofChange frameBackWrong)

/-- 'arraslaw11.FrameBytes': WHATEVER THE INPUT: true; the input reads as it did. -/
def frameBytesSpec : ChangeSpec := { name := "frameBytes", fn := fun _ => fun
  | [d] => { results := [.lit (.bool true)], args := [d] }
  | _ => none }
def frameBytesRow : OpenClaim := { program := "ytddnlnjmikcgfaa", sum := "4fb56c3cad69d33d4e7920bf382b0f733b79ab85d1b26e71a8f4d15b3c949bbc", func := "arras/arraslaw11.FrameBytes", spec := "frameBytes", apart := false }
def FrameBytesSaid : Prop := frameBytesRow.holds Try.pinned (OpenSpec.ofChange frameBytesSpec)

/-- ITS FALSE NEIGHBOUR: 'it returns false'. Refute it at one input. -/
def frameBytesWrong : ChangeSpec := { name := "frameBytes", fn := fun _ => fun
  | [d] => { results := [.lit (.bool false)], args := [d] }
  | _ => none }
def FrameBytesWrongFalsely : Prop := frameBytesRow.holds Try.pinned (OpenSpec.ofChange frameBytesWrong)

/-- 'arraslaw11.FrameWrongs': WHATEVER THE INPUT: true; the input reads as it did. -/
def frameWrongsSpec : ChangeSpec := { name := "frameWrongs", fn := fun _ => fun
  | [d] => { results := [.lit (.bool true)], args := [d] }
  | _ => none }
def frameWrongsRow : OpenClaim := { program := "ytddnlnjmikcgfaa", sum := "4fb56c3cad69d33d4e7920bf382b0f733b79ab85d1b26e71a8f4d15b3c949bbc", func := "arras/arraslaw11.FrameWrongs", spec := "frameWrongs", apart := false }
def FrameWrongsSaid : Prop := frameWrongsRow.holds Try.pinned (OpenSpec.ofChange frameWrongsSpec)

/-- ITS FALSE NEIGHBOUR: 'it returns false'. Refute it at one input. -/
def frameWrongsWrong : ChangeSpec := { name := "frameWrongs", fn := fun _ => fun
  | [d] => { results := [.lit (.bool false)], args := [d] }
  | _ => none }
def FrameWrongsWrongFalsely : Prop := frameWrongsRow.holds Try.pinned (OpenSpec.ofChange frameWrongsWrong)

/- THE SECOND FORM. 'bulk': how many values and letters a reading holds, each counted each time it is reached (what is shared counts as often as it is met; a slice's spare places count too). A statement '..UptoSaid' is the law's where the arguments, and the package variables that the reading takes, are together of bulk at most 1048576: NARROWER than '..Said'. Prove '..Said' where nothing that the law and all that it calls make is longer than what came in: it says more and counts as full. Else prove '..UptoSaid'. A law counts once. -/
mutual
def uptoBulk {H : Type} : DataW H → Nat
  | .lit (.string bytes) => bytes.length + 1
  | .lit _ => 1
  | .nil => 1
  | .ptr d => uptoBulk d + 1
  | .slice elems spare => uptoBulkAll elems + uptoBulkAll spare + 1
  | .agg parts => uptoBulkAll parts + 1
  | .iface _ d => uptoBulk d + 1
  | .map entries => uptoBulkEntries entries + 1
  | .held _ => 1
def uptoBulkAll {H : Type} : List (DataW H) → Nat
  | [] => 0
  | d :: r => uptoBulk d + uptoBulkAll r
def uptoBulkEntries {H : Type} : List (Lit × DataW H) → Nat
  | [] => 0
  | x :: r => uptoBulkEntry x + uptoBulkEntries r
def uptoBulkEntry {H : Type} : Lit × DataW H → Nat
  | (.string bytes, d) => bytes.length + uptoBulk d + 1
  | (_, d) => uptoBulk d + 1
 end
def uptoSmall : (H : Type) → List (DataW H) → Bool := fun _ ds => decide (uptoBulkAll ds ≤ 1048576)
def OpenSpec.upto (s : _root_.Go.ChangeSpec) : _root_.Go.OpenSpec := { _root_.Go.OpenSpec.ofChange s with cond := some uptoSmall }

/-- 'arraslaw10.OpTakes', WHERE WHAT IT READS IS OF BULK AT MOST 1048576: true; the input reads as it did. -/
def opTakesUptoRow : OpenClaim := { program := "ytddnlnjmikcgfaa", sum := "4fb56c3cad69d33d4e7920bf382b0f733b79ab85d1b26e71a8f4d15b3c949bbc", func := "arras/arraslaw10.OpTakes", spec := "opTakes", apart := false, narrowed := true }
def OpTakesUptoSaid : Prop := opTakesUptoRow.holds Try.pinned (OpenSpec.upto opTakesSpec)

/-- 'arraslaw10.OpBack', WHERE WHAT IT READS IS OF BULK AT MOST 1048576: true; the input reads as it did. -/
def opBackUptoRow : OpenClaim := { program := "ytddnlnjmikcgfaa", sum := "4fb56c3cad69d33d4e7920bf382b0f733b79ab85d1b26e71a8f4d15b3c949bbc", func := "arras/arraslaw10.OpBack", spec := "opBack", apart := false, narrowed := true }
def OpBackUptoSaid : Prop := opBackUptoRow.holds Try.pinned (OpenSpec.upto opBackSpec)

/-- 'arraslaw10.OpMoves', WHERE WHAT IT READS IS OF BULK AT MOST 1048576: true; the input reads as it did. -/
def opMovesUptoRow : OpenClaim := { program := "ytddnlnjmikcgfaa", sum := "4fb56c3cad69d33d4e7920bf382b0f733b79ab85d1b26e71a8f4d15b3c949bbc", func := "arras/arraslaw10.OpMoves", spec := "opMoves", apart := false, narrowed := true }
def OpMovesUptoSaid : Prop := opMovesUptoRow.holds Try.pinned (OpenSpec.upto opMovesSpec)

/-- 'arraslaw10.OpStyles', WHERE WHAT IT READS IS OF BULK AT MOST 1048576: true; the input reads as it did. -/
def opStylesUptoRow : OpenClaim := { program := "ytddnlnjmikcgfaa", sum := "4fb56c3cad69d33d4e7920bf382b0f733b79ab85d1b26e71a8f4d15b3c949bbc", func := "arras/arraslaw10.OpStyles", spec := "opStyles", apart := false, narrowed := true }
def OpStylesUptoSaid : Prop := opStylesUptoRow.holds Try.pinned (OpenSpec.upto opStylesSpec)

/-- 'arraslaw10.OpBytes', WHERE WHAT IT READS IS OF BULK AT MOST 1048576: true; the input reads as it did. -/
def opBytesUptoRow : OpenClaim := { program := "ytddnlnjmikcgfaa", sum := "4fb56c3cad69d33d4e7920bf382b0f733b79ab85d1b26e71a8f4d15b3c949bbc", func := "arras/arraslaw10.OpBytes", spec := "opBytes", apart := false, narrowed := true }
def OpBytesUptoSaid : Prop := opBytesUptoRow.holds Try.pinned (OpenSpec.upto opBytesSpec)

/-- 'arraslaw10.OpWrongs', WHERE WHAT IT READS IS OF BULK AT MOST 1048576: true; the input reads as it did. -/
def opWrongsUptoRow : OpenClaim := { program := "ytddnlnjmikcgfaa", sum := "4fb56c3cad69d33d4e7920bf382b0f733b79ab85d1b26e71a8f4d15b3c949bbc", func := "arras/arraslaw10.OpWrongs", spec := "opWrongs", apart := false, narrowed := true }
def OpWrongsUptoSaid : Prop := opWrongsUptoRow.holds Try.pinned (OpenSpec.upto opWrongsSpec)

/-- 'arraslaw10.OpOrders', WHERE WHAT IT READS IS OF BULK AT MOST 1048576: true; the input reads as it did. -/
def opOrdersUptoRow : OpenClaim := { program := "ytddnlnjmikcgfaa", sum := "4fb56c3cad69d33d4e7920bf382b0f733b79ab85d1b26e71a8f4d15b3c949bbc", func := "arras/arraslaw10.OpOrders", spec := "opOrders", apart := false, narrowed := true }
def OpOrdersUptoSaid : Prop := opOrdersUptoRow.holds Try.pinned (OpenSpec.upto opOrdersSpec)

/-- 'arraslaw11.FrameParses', WHERE WHAT IT READS IS OF BULK AT MOST 1048576: true; the input reads as it did. -/
def frameParsesUptoRow : OpenClaim := { program := "ytddnlnjmikcgfaa", sum := "4fb56c3cad69d33d4e7920bf382b0f733b79ab85d1b26e71a8f4d15b3c949bbc", func := "arras/arraslaw11.FrameParses", spec := "frameParses", apart := false, narrowed := true }
def FrameParsesUptoSaid : Prop := frameParsesUptoRow.holds Try.pinned (OpenSpec.upto frameParsesSpec)

/-- 'arraslaw11.FrameBack', WHERE WHAT IT READS IS OF BULK AT MOST 1048576: true; the input reads as it did. -/
def frameBackUptoRow : OpenClaim := { program := "ytddnlnjmikcgfaa", sum := "4fb56c3cad69d33d4e7920bf382b0f733b79ab85d1b26e71a8f4d15b3c949bbc", func := "arras/arraslaw11.FrameBack", spec := "frameBack", apart := false, narrowed := true }
def FrameBackUptoSaid : Prop := frameBackUptoRow.holds Try.pinned (OpenSpec.upto frameBackSpec)

/-- 'arraslaw11.FrameBytes', WHERE WHAT IT READS IS OF BULK AT MOST 1048576: true; the input reads as it did. -/
def frameBytesUptoRow : OpenClaim := { program := "ytddnlnjmikcgfaa", sum := "4fb56c3cad69d33d4e7920bf382b0f733b79ab85d1b26e71a8f4d15b3c949bbc", func := "arras/arraslaw11.FrameBytes", spec := "frameBytes", apart := false, narrowed := true }
def FrameBytesUptoSaid : Prop := frameBytesUptoRow.holds Try.pinned (OpenSpec.upto frameBytesSpec)

/-- 'arraslaw11.FrameWrongs', WHERE WHAT IT READS IS OF BULK AT MOST 1048576: true; the input reads as it did. -/
def frameWrongsUptoRow : OpenClaim := { program := "ytddnlnjmikcgfaa", sum := "4fb56c3cad69d33d4e7920bf382b0f733b79ab85d1b26e71a8f4d15b3c949bbc", func := "arras/arraslaw11.FrameWrongs", spec := "frameWrongs", apart := false, narrowed := true }
def FrameWrongsUptoSaid : Prop := frameWrongsUptoRow.holds Try.pinned (OpenSpec.upto frameWrongsSpec)

end Rows
end Go.Proofs.Ytddnlnjmikcgfaa
