/-
  No cell of these rows narrows 'for every input' (looked for: loops, veiled, ifaces, maps, wideKeys, modest, calm, conditions, laid).
  DERIVED. THE GIVEN ROWS OF THIS SEAT. 14 by the template 'for every input the law returns true; each argument reads behind the call as it read before'; 0 by the template 'total and deterministic' (their statements: YtpmcojmhkpaoaaaTotals.lean).
  GIVEN WITH THE SEED: the statements are not yours to turn. If you find one false, say at which input.
  Laid BY PROGRAM, IN A SANDBOX (cutbox-rows.mjs): the forced cells as the released guide's own fill.sh prints them over the translation 3a6838e145d53de3… (all of the seat's roots in one cut). By AI agents, Wed Nov 11 2026. No macro, syntax, notation, axiom, sorry.
-/
import Derived.Test.YtpmcojmhkpaoaaaChecked
import GoSem.Claim
import GoSem.ClaimJoined
import GoSem.ClaimMapViews
import Derived.JoinedTies
import Derived.KernelRfl
namespace Go.Proofs.Ytpmcojmhkpaoaaa
/- THE CELL 'sum', in the pinned program and in every row, IS THE sha256 OF THE DUMP (.gsa) THAT YtpmcojmhkpaoaaaProg.lean LOADS. Nothing in Lean hashes anything: it is a label: what it is worth is what the hold of that sum in a sandbox is worth. -/
noncomputable def Try.pinned : Pinned := { name := "ytpmcojmhkpaoaaa", sum := "3a6838e145d53de3628f5c08b419a703b6e06c5283f83e560c05f33b693d96b8", checked := Try.checked }
namespace Rows
def none {H : Type} : Left H := { results := [], args := [] }

/-- 'arraslaw4.SumSums': WHATEVER THE INPUT: true; the input reads as it did. -/
def sumSumsSpec : ChangeSpec := { name := "sumSums", fn := fun _ => fun
  | [d] => { results := [.lit (.bool true)], args := [d] }
  | _ => none }
def sumSumsRow : OpenClaim := { program := "ytpmcojmhkpaoaaa", sum := "3a6838e145d53de3628f5c08b419a703b6e06c5283f83e560c05f33b693d96b8", func := "arras/arraslaw4.SumSums", spec := "sumSums", apart := false }
def SumSumsSaid : Prop := sumSumsRow.holds Try.pinned (OpenSpec.ofChange sumSumsSpec)

/-- ITS FALSE NEIGHBOUR: 'it returns false'. Refute it at one input. -/
def sumSumsWrong : ChangeSpec := { name := "sumSums", fn := fun _ => fun
  | [d] => { results := [.lit (.bool false)], args := [d] }
  | _ => none }
def SumSumsWrongFalsely : Prop := sumSumsRow.holds Try.pinned (OpenSpec.ofChange sumSumsWrong)

/-- 'arraslaw4.SumParts': WHATEVER THE INPUT: true; the input reads as it did. -/
def sumPartsSpec : ChangeSpec := { name := "sumParts", fn := fun _ => fun
  | [d] => { results := [.lit (.bool true)], args := [d] }
  | _ => none }
def sumPartsRow : OpenClaim := { program := "ytpmcojmhkpaoaaa", sum := "3a6838e145d53de3628f5c08b419a703b6e06c5283f83e560c05f33b693d96b8", func := "arras/arraslaw4.SumParts", spec := "sumParts", apart := false }
def SumPartsSaid : Prop := sumPartsRow.holds Try.pinned (OpenSpec.ofChange sumPartsSpec)

/-- ITS FALSE NEIGHBOUR: 'it returns false'. Refute it at one input. -/
def sumPartsWrong : ChangeSpec := { name := "sumParts", fn := fun _ => fun
  | [d] => { results := [.lit (.bool false)], args := [d] }
  | _ => none }
def SumPartsWrongFalsely : Prop := sumPartsRow.holds Try.pinned (OpenSpec.ofChange sumPartsWrong)

/-- 'arraslaw5.CodeEdges': WHATEVER THE INPUT: true; the input reads as it did. -/
def codeEdgesSpec : ChangeSpec := { name := "codeEdges", fn := fun _ => fun
  | [d] => { results := [.lit (.bool true)], args := [d] }
  | _ => none }
def codeEdgesRow : OpenClaim := { program := "ytpmcojmhkpaoaaa", sum := "3a6838e145d53de3628f5c08b419a703b6e06c5283f83e560c05f33b693d96b8", func := "arras/arraslaw5.CodeEdges", spec := "codeEdges", apart := false }
def CodeEdgesSaid : Prop := codeEdgesRow.holds Try.pinned (OpenSpec.ofChange codeEdgesSpec)

/-- ITS FALSE NEIGHBOUR: 'it returns false'. Refute it at one input. -/
def codeEdgesWrong : ChangeSpec := { name := "codeEdges", fn := fun _ => fun
  | [d] => { results := [.lit (.bool false)], args := [d] }
  | _ => none }
def CodeEdgesWrongFalsely : Prop := codeEdgesRow.holds Try.pinned (OpenSpec.ofChange codeEdgesWrong)

/-- 'arraslaw5.CodeNums': WHATEVER THE INPUT: true; the input reads as it did. -/
def codeNumsSpec : ChangeSpec := { name := "codeNums", fn := fun _ => fun
  | [d] => { results := [.lit (.bool true)], args := [d] }
  | _ => none }
def codeNumsRow : OpenClaim := { program := "ytpmcojmhkpaoaaa", sum := "3a6838e145d53de3628f5c08b419a703b6e06c5283f83e560c05f33b693d96b8", func := "arras/arraslaw5.CodeNums", spec := "codeNums", apart := false }
def CodeNumsSaid : Prop := codeNumsRow.holds Try.pinned (OpenSpec.ofChange codeNumsSpec)

/-- ITS FALSE NEIGHBOUR: 'it returns false'. Refute it at one input. -/
def codeNumsWrong : ChangeSpec := { name := "codeNums", fn := fun _ => fun
  | [d] => { results := [.lit (.bool false)], args := [d] }
  | _ => none }
def CodeNumsWrongFalsely : Prop := codeNumsRow.holds Try.pinned (OpenSpec.ofChange codeNumsWrong)

/-- 'arraslaw5.CodeTakes': WHATEVER THE INPUT: true; the input reads as it did. -/
def codeTakesSpec : ChangeSpec := { name := "codeTakes", fn := fun _ => fun
  | [d] => { results := [.lit (.bool true)], args := [d] }
  | _ => none }
def codeTakesRow : OpenClaim := { program := "ytpmcojmhkpaoaaa", sum := "3a6838e145d53de3628f5c08b419a703b6e06c5283f83e560c05f33b693d96b8", func := "arras/arraslaw5.CodeTakes", spec := "codeTakes", apart := false }
def CodeTakesSaid : Prop := codeTakesRow.holds Try.pinned (OpenSpec.ofChange codeTakesSpec)

/-- ITS FALSE NEIGHBOUR: 'it returns false'. Refute it at one input. -/
def codeTakesWrong : ChangeSpec := { name := "codeTakes", fn := fun _ => fun
  | [d] => { results := [.lit (.bool false)], args := [d] }
  | _ => none }
def CodeTakesWrongFalsely : Prop := codeTakesRow.holds Try.pinned (OpenSpec.ofChange codeTakesWrong)

/-- 'arraslaw5.CodeBack': WHATEVER THE INPUT: true; the input reads as it did. -/
def codeBackSpec : ChangeSpec := { name := "codeBack", fn := fun _ => fun
  | [d] => { results := [.lit (.bool true)], args := [d] }
  | _ => none }
def codeBackRow : OpenClaim := { program := "ytpmcojmhkpaoaaa", sum := "3a6838e145d53de3628f5c08b419a703b6e06c5283f83e560c05f33b693d96b8", func := "arras/arraslaw5.CodeBack", spec := "codeBack", apart := false }
def CodeBackSaid : Prop := codeBackRow.holds Try.pinned (OpenSpec.ofChange codeBackSpec)

/-- ITS FALSE NEIGHBOUR: 'it returns false'. Refute it at one input. -/
def codeBackWrong : ChangeSpec := { name := "codeBack", fn := fun _ => fun
  | [d] => { results := [.lit (.bool false)], args := [d] }
  | _ => none }
def CodeBackWrongFalsely : Prop := codeBackRow.holds Try.pinned (OpenSpec.ofChange codeBackWrong)

/-- 'arraslaw5.CodeRows': WHATEVER THE INPUT: true; the input reads as it did. -/
def codeRowsSpec : ChangeSpec := { name := "codeRows", fn := fun _ => fun
  | [d] => { results := [.lit (.bool true)], args := [d] }
  | _ => none }
def codeRowsRow : OpenClaim := { program := "ytpmcojmhkpaoaaa", sum := "3a6838e145d53de3628f5c08b419a703b6e06c5283f83e560c05f33b693d96b8", func := "arras/arraslaw5.CodeRows", spec := "codeRows", apart := false }
def CodeRowsSaid : Prop := codeRowsRow.holds Try.pinned (OpenSpec.ofChange codeRowsSpec)

/-- ITS FALSE NEIGHBOUR: 'it returns false'. Refute it at one input. -/
def codeRowsWrong : ChangeSpec := { name := "codeRows", fn := fun _ => fun
  | [d] => { results := [.lit (.bool false)], args := [d] }
  | _ => none }
def CodeRowsWrongFalsely : Prop := codeRowsRow.holds Try.pinned (OpenSpec.ofChange codeRowsWrong)

/-- 'arraslaw6.StampNexts': WHATEVER THE INPUT: true; the input reads as it did. -/
def stampNextsSpec : ChangeSpec := { name := "stampNexts", fn := fun _ => fun
  | [d] => { results := [.lit (.bool true)], args := [d] }
  | _ => none }
def stampNextsRow : OpenClaim := { program := "ytpmcojmhkpaoaaa", sum := "3a6838e145d53de3628f5c08b419a703b6e06c5283f83e560c05f33b693d96b8", func := "arras/arraslaw6.StampNexts", spec := "stampNexts", apart := false }
def StampNextsSaid : Prop := stampNextsRow.holds Try.pinned (OpenSpec.ofChange stampNextsSpec)

/-- ITS FALSE NEIGHBOUR: 'it returns false'. Refute it at one input. -/
def stampNextsWrong : ChangeSpec := { name := "stampNexts", fn := fun _ => fun
  | [d] => { results := [.lit (.bool false)], args := [d] }
  | _ => none }
def StampNextsWrongFalsely : Prop := stampNextsRow.holds Try.pinned (OpenSpec.ofChange stampNextsWrong)

/-- 'arraslaw6.StampOrders': WHATEVER THE INPUT: true; the input reads as it did. -/
def stampOrdersSpec : ChangeSpec := { name := "stampOrders", fn := fun _ => fun
  | [d] => { results := [.lit (.bool true)], args := [d] }
  | _ => none }
def stampOrdersRow : OpenClaim := { program := "ytpmcojmhkpaoaaa", sum := "3a6838e145d53de3628f5c08b419a703b6e06c5283f83e560c05f33b693d96b8", func := "arras/arraslaw6.StampOrders", spec := "stampOrders", apart := false }
def StampOrdersSaid : Prop := stampOrdersRow.holds Try.pinned (OpenSpec.ofChange stampOrdersSpec)

/-- ITS FALSE NEIGHBOUR: 'it returns false'. Refute it at one input. -/
def stampOrdersWrong : ChangeSpec := { name := "stampOrders", fn := fun _ => fun
  | [d] => { results := [.lit (.bool false)], args := [d] }
  | _ => none }
def StampOrdersWrongFalsely : Prop := stampOrdersRow.holds Try.pinned (OpenSpec.ofChange stampOrdersWrong)

/-- 'arraslaw6.StampBytes': WHATEVER THE INPUT: true; the input reads as it did. -/
def stampBytesSpec : ChangeSpec := { name := "stampBytes", fn := fun _ => fun
  | [d] => { results := [.lit (.bool true)], args := [d] }
  | _ => none }
def stampBytesRow : OpenClaim := { program := "ytpmcojmhkpaoaaa", sum := "3a6838e145d53de3628f5c08b419a703b6e06c5283f83e560c05f33b693d96b8", func := "arras/arraslaw6.StampBytes", spec := "stampBytes", apart := false }
def StampBytesSaid : Prop := stampBytesRow.holds Try.pinned (OpenSpec.ofChange stampBytesSpec)

/-- ITS FALSE NEIGHBOUR: 'it returns false'. Refute it at one input. -/
def stampBytesWrong : ChangeSpec := { name := "stampBytes", fn := fun _ => fun
  | [d] => { results := [.lit (.bool false)], args := [d] }
  | _ => none }
def StampBytesWrongFalsely : Prop := stampBytesRow.holds Try.pinned (OpenSpec.ofChange stampBytesWrong)

/-- 'arraslaw7.HaveLaws': WHATEVER THE INPUT: true; the input reads as it did. -/
def haveLawsSpec : ChangeSpec := { name := "haveLaws", fn := fun _ => fun
  | [d] => { results := [.lit (.bool true)], args := [d] }
  | _ => none }
def haveLawsRow : OpenClaim := { program := "ytpmcojmhkpaoaaa", sum := "3a6838e145d53de3628f5c08b419a703b6e06c5283f83e560c05f33b693d96b8", func := "arras/arraslaw7.HaveLaws", spec := "haveLaws", apart := false }
def HaveLawsSaid : Prop := haveLawsRow.holds Try.pinned (OpenSpec.ofChange haveLawsSpec)

/-- ITS FALSE NEIGHBOUR: 'it returns false'. Refute it at one input. -/
def haveLawsWrong : ChangeSpec := { name := "haveLaws", fn := fun _ => fun
  | [d] => { results := [.lit (.bool false)], args := [d] }
  | _ => none }
def HaveLawsWrongFalsely : Prop := haveLawsRow.holds Try.pinned (OpenSpec.ofChange haveLawsWrong)

/-- 'arraslaw7.HaveLacks': WHATEVER THE INPUT: true; the input reads as it did. -/
def haveLacksSpec : ChangeSpec := { name := "haveLacks", fn := fun _ => fun
  | [d] => { results := [.lit (.bool true)], args := [d] }
  | _ => none }
def haveLacksRow : OpenClaim := { program := "ytpmcojmhkpaoaaa", sum := "3a6838e145d53de3628f5c08b419a703b6e06c5283f83e560c05f33b693d96b8", func := "arras/arraslaw7.HaveLacks", spec := "haveLacks", apart := false }
def HaveLacksSaid : Prop := haveLacksRow.holds Try.pinned (OpenSpec.ofChange haveLacksSpec)

/-- ITS FALSE NEIGHBOUR: 'it returns false'. Refute it at one input. -/
def haveLacksWrong : ChangeSpec := { name := "haveLacks", fn := fun _ => fun
  | [d] => { results := [.lit (.bool false)], args := [d] }
  | _ => none }
def HaveLacksWrongFalsely : Prop := haveLacksRow.holds Try.pinned (OpenSpec.ofChange haveLacksWrong)

/-- 'arraslaw7.HavePairs': WHATEVER THE INPUT: true; the input reads as it did. -/
def havePairsSpec : ChangeSpec := { name := "havePairs", fn := fun _ => fun
  | [d] => { results := [.lit (.bool true)], args := [d] }
  | _ => none }
def havePairsRow : OpenClaim := { program := "ytpmcojmhkpaoaaa", sum := "3a6838e145d53de3628f5c08b419a703b6e06c5283f83e560c05f33b693d96b8", func := "arras/arraslaw7.HavePairs", spec := "havePairs", apart := false }
def HavePairsSaid : Prop := havePairsRow.holds Try.pinned (OpenSpec.ofChange havePairsSpec)

/-- ITS FALSE NEIGHBOUR: 'it returns false'. Refute it at one input. -/
def havePairsWrong : ChangeSpec := { name := "havePairs", fn := fun _ => fun
  | [d] => { results := [.lit (.bool false)], args := [d] }
  | _ => none }
def HavePairsWrongFalsely : Prop := havePairsRow.holds Try.pinned (OpenSpec.ofChange havePairsWrong)

/-- 'arraslaw7.HaveBytes': WHATEVER THE INPUT: true; the input reads as it did. -/
def haveBytesSpec : ChangeSpec := { name := "haveBytes", fn := fun _ => fun
  | [d] => { results := [.lit (.bool true)], args := [d] }
  | _ => none }
def haveBytesRow : OpenClaim := { program := "ytpmcojmhkpaoaaa", sum := "3a6838e145d53de3628f5c08b419a703b6e06c5283f83e560c05f33b693d96b8", func := "arras/arraslaw7.HaveBytes", spec := "haveBytes", apart := false }
def HaveBytesSaid : Prop := haveBytesRow.holds Try.pinned (OpenSpec.ofChange haveBytesSpec)

/-- ITS FALSE NEIGHBOUR: 'it returns false'. Refute it at one input. -/
def haveBytesWrong : ChangeSpec := { name := "haveBytes", fn := fun _ => fun
  | [d] => { results := [.lit (.bool false)], args := [d] }
  | _ => none }
def HaveBytesWrongFalsely : Prop := haveBytesRow.holds Try.pinned (OpenSpec.ofChange haveBytesWrong)

/- THE SECOND FORM. 'bulk': how many values and letters a reading holds, each counted each time it is reached (what is shared counts as often as it is met; a slice's spare places count too). A statement '..UptoSaid' is the law's where the arguments, and the package variables that the reading takes, are together of bulk at most 1048576: NARROWER than '..Said'. Prove '..Said' where nothing that the law and all that it calls make is longer than what came in: it says more and counts as full. Else prove '..UptoSaid'. A law counts once. -/
mutual
def uptoBulk {H : Type} : DataW H → Nat
  | .lit (.string bytes) => bytes.length + 1
  | .lit _ => 1
  | .nil => 1
  | .ptr d => uptoBulk d + 1
  | .slice elems spare => uptoBulkAll elems + uptoBulkAll spare + 1
  | .agg parts => uptoBulkAll parts + 1
  | .iface _ d => uptoBulk d + 1
  | .map entries => uptoBulkEntries entries + 1
  | .held _ => 1
def uptoBulkAll {H : Type} : List (DataW H) → Nat
  | [] => 0
  | d :: r => uptoBulk d + uptoBulkAll r
def uptoBulkEntries {H : Type} : List (Lit × DataW H) → Nat
  | [] => 0
  | x :: r => uptoBulkEntry x + uptoBulkEntries r
def uptoBulkEntry {H : Type} : Lit × DataW H → Nat
  | (.string bytes, d) => bytes.length + uptoBulk d + 1
  | (_, d) => uptoBulk d + 1
 end
def uptoSmall : (H : Type) → List (DataW H) → Bool := fun _ ds => decide (uptoBulkAll ds ≤ 1048576)
def OpenSpec.upto (s : _root_.Go.ChangeSpec) : _root_.Go.OpenSpec := { _root_.Go.OpenSpec.ofChange s with cond := some uptoSmall }

/-- 'arraslaw4.SumSums', WHERE WHAT IT READS IS OF BULK AT MOST 1048576: true; the input reads as it did. -/
def sumSumsUptoRow : OpenClaim := { program := "ytpmcojmhkpaoaaa", sum := "3a6838e145d53de3628f5c08b419a703b6e06c5283f83e560c05f33b693d96b8", func := "arras/arraslaw4.SumSums", spec := "sumSums", apart := false, narrowed := true }
def SumSumsUptoSaid : Prop := sumSumsUptoRow.holds Try.pinned (OpenSpec.upto sumSumsSpec)

/-- 'arraslaw4.SumParts', WHERE WHAT IT READS IS OF BULK AT MOST 1048576: true; the input reads as it did. -/
def sumPartsUptoRow : OpenClaim := { program := "ytpmcojmhkpaoaaa", sum := "3a6838e145d53de3628f5c08b419a703b6e06c5283f83e560c05f33b693d96b8", func := "arras/arraslaw4.SumParts", spec := "sumParts", apart := false, narrowed := true }
def SumPartsUptoSaid : Prop := sumPartsUptoRow.holds Try.pinned (OpenSpec.upto sumPartsSpec)

/-- 'arraslaw5.CodeEdges', WHERE WHAT IT READS IS OF BULK AT MOST 1048576: true; the input reads as it did. -/
def codeEdgesUptoRow : OpenClaim := { program := "ytpmcojmhkpaoaaa", sum := "3a6838e145d53de3628f5c08b419a703b6e06c5283f83e560c05f33b693d96b8", func := "arras/arraslaw5.CodeEdges", spec := "codeEdges", apart := false, narrowed := true }
def CodeEdgesUptoSaid : Prop := codeEdgesUptoRow.holds Try.pinned (OpenSpec.upto codeEdgesSpec)

/-- 'arraslaw5.CodeNums', WHERE WHAT IT READS IS OF BULK AT MOST 1048576: true; the input reads as it did. -/
def codeNumsUptoRow : OpenClaim := { program := "ytpmcojmhkpaoaaa", sum := "3a6838e145d53de3628f5c08b419a703b6e06c5283f83e560c05f33b693d96b8", func := "arras/arraslaw5.CodeNums", spec := "codeNums", apart := false, narrowed := true }
def CodeNumsUptoSaid : Prop := codeNumsUptoRow.holds Try.pinned (OpenSpec.upto codeNumsSpec)

/-- 'arraslaw5.CodeTakes', WHERE WHAT IT READS IS OF BULK AT MOST 1048576: true; the input reads as it did. -/
def codeTakesUptoRow : OpenClaim := { program := "ytpmcojmhkpaoaaa", sum := "3a6838e145d53de3628f5c08b419a703b6e06c5283f83e560c05f33b693d96b8", func := "arras/arraslaw5.CodeTakes", spec := "codeTakes", apart := false, narrowed := true }
def CodeTakesUptoSaid : Prop := codeTakesUptoRow.holds Try.pinned (OpenSpec.upto codeTakesSpec)

/-- 'arraslaw5.CodeBack', WHERE WHAT IT READS IS OF BULK AT MOST 1048576: true; the input reads as it did. -/
def codeBackUptoRow : OpenClaim := { program := "ytpmcojmhkpaoaaa", sum := "3a6838e145d53de3628f5c08b419a703b6e06c5283f83e560c05f33b693d96b8", func := "arras/arraslaw5.CodeBack", spec := "codeBack", apart := false, narrowed := true }
def CodeBackUptoSaid : Prop := codeBackUptoRow.holds Try.pinned (OpenSpec.upto codeBackSpec)

/-- 'arraslaw5.CodeRows', WHERE WHAT IT READS IS OF BULK AT MOST 1048576: true; the input reads as it did. -/
def codeRowsUptoRow : OpenClaim := { program := "ytpmcojmhkpaoaaa", sum := "3a6838e145d53de3628f5c08b419a703b6e06c5283f83e560c05f33b693d96b8", func := "arras/arraslaw5.CodeRows", spec := "codeRows", apart := false, narrowed := true }
def CodeRowsUptoSaid : Prop := codeRowsUptoRow.holds Try.pinned (OpenSpec.upto codeRowsSpec)

/-- 'arraslaw6.StampNexts', WHERE WHAT IT READS IS OF BULK AT MOST 1048576: true; the input reads as it did. -/
def stampNextsUptoRow : OpenClaim := { program := "ytpmcojmhkpaoaaa", sum := "3a6838e145d53de3628f5c08b419a703b6e06c5283f83e560c05f33b693d96b8", func := "arras/arraslaw6.StampNexts", spec := "stampNexts", apart := false, narrowed := true }
def StampNextsUptoSaid : Prop := stampNextsUptoRow.holds Try.pinned (OpenSpec.upto stampNextsSpec)

/-- 'arraslaw6.StampOrders', WHERE WHAT IT READS IS OF BULK AT MOST 1048576: true; the input reads as it did. -/
def stampOrdersUptoRow : OpenClaim := { program := "ytpmcojmhkpaoaaa", sum := "3a6838e145d53de3628f5c08b419a703b6e06c5283f83e560c05f33b693d96b8", func := "arras/arraslaw6.StampOrders", spec := "stampOrders", apart := false, narrowed := true }
def StampOrdersUptoSaid : Prop := stampOrdersUptoRow.holds Try.pinned (OpenSpec.upto stampOrdersSpec)

/-- 'arraslaw6.StampBytes', WHERE WHAT IT READS IS OF BULK AT MOST 1048576: true; the input reads as it did. -/
def stampBytesUptoRow : OpenClaim := { program := "ytpmcojmhkpaoaaa", sum := "3a6838e145d53de3628f5c08b419a703b6e06c5283f83e560c05f33b693d96b8", func := "arras/arraslaw6.StampBytes", spec := "stampBytes", apart := false, narrowed := true }
def StampBytesUptoSaid : Prop := stampBytesUptoRow.holds Try.pinned (OpenSpec.upto stampBytesSpec)

/-- 'arraslaw7.HaveLaws', WHERE WHAT IT READS IS OF BULK AT MOST 1048576: true; the input reads as it did. -/
def haveLawsUptoRow : OpenClaim := { program := "ytpmcojmhkpaoaaa", sum := "3a6838e145d53de3628f5c08b419a703b6e06c5283f83e560c05f33b693d96b8", func := "arras/arraslaw7.HaveLaws", spec := "haveLaws", apart := false, narrowed := true }
def HaveLawsUptoSaid : Prop := haveLawsUptoRow.holds Try.pinned (OpenSpec.upto haveLawsSpec)

/-- 'arraslaw7.HaveLacks', WHERE WHAT IT READS IS OF BULK AT MOST 1048576: true; the input reads as it did. -/
def haveLacksUptoRow : OpenClaim := { program := "ytpmcojmhkpaoaaa", sum := "3a6838e145d53de3628f5c08b419a703b6e06c5283f83e560c05f33b693d96b8", func := "arras/arraslaw7.HaveLacks", spec := "haveLacks", apart := false, narrowed := true }
def HaveLacksUptoSaid : Prop := haveLacksUptoRow.holds Try.pinned (OpenSpec.upto haveLacksSpec)

/-- 'arraslaw7.HavePairs', WHERE WHAT IT READS IS OF BULK AT MOST 1048576: true; the input reads as it did. -/
def havePairsUptoRow : OpenClaim := { program := "ytpmcojmhkpaoaaa", sum := "3a6838e145d53de3628f5c08b419a703b6e06c5283f83e560c05f33b693d96b8", func := "arras/arraslaw7.HavePairs", spec := "havePairs", apart := false, narrowed := true }
def HavePairsUptoSaid : Prop := havePairsUptoRow.holds Try.pinned (OpenSpec.upto havePairsSpec)

/-- 'arraslaw7.HaveBytes', WHERE WHAT IT READS IS OF BULK AT MOST 1048576: true; the input reads as it did. -/
def haveBytesUptoRow : OpenClaim := { program := "ytpmcojmhkpaoaaa", sum := "3a6838e145d53de3628f5c08b419a703b6e06c5283f83e560c05f33b693d96b8", func := "arras/arraslaw7.HaveBytes", spec := "haveBytes", apart := false, narrowed := true }
def HaveBytesUptoSaid : Prop := haveBytesUptoRow.holds Try.pinned (OpenSpec.upto haveBytesSpec)

end Rows
end Go.Proofs.Ytpmcojmhkpaoaaa
