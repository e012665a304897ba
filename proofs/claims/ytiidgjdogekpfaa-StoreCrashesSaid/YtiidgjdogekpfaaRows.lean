/-
  No cell of these rows narrows 'for every input' (looked for: loops, veiled, ifaces, maps, wideKeys, modest, calm, conditions, laid).
  DERIVED. THE GIVEN ROWS OF THIS SEAT. 3 by the template 'for every input the law returns true; each argument reads behind the call as it read before'; 0 by the template 'total and deterministic' (their statements: YtiidgjdogekpfaaTotals.lean).
  GIVEN WITH THE SEED: the statements are not yours to turn. If you find one false, say at which input.
  Laid BY PROGRAM, IN A SANDBOX (cutbox-rows.mjs): the forced cells as the released guide's own fill.sh prints them over the translation ff07ea54b3bc8970… (all of the seat's roots in one cut). By AI agents, Wed Nov 11 2026. No macro, syntax, notation, axiom, sorry.
-/
import Derived.Test.YtiidgjdogekpfaaChecked
import GoSem.Claim
import GoSem.ClaimJoined
import GoSem.ClaimMapViews
import Derived.JoinedTies
import Derived.KernelRfl
namespace Go.Proofs.Ytiidgjdogekpfaa
/- THE CELL 'sum', in the pinned program and in every row, IS THE sha256 OF THE DUMP (.gsa) THAT YtiidgjdogekpfaaProg.lean LOADS. Nothing in Lean hashes anything: it is a label: what it is worth is what the hold of that sum in a sandbox is worth. -/
noncomputable def Try.pinned : Pinned := { name := "ytiidgjdogekpfaa", sum := "ff07ea54b3bc897084bca2515e2143ac0a1e8ef4771a33b1e5cecc9bb7a1b313", checked := Try.checked }
namespace Rows
def none {H : Type} : Left H := { results := [], args := [] }

/-- 'arraslaw24.StoreStrange': WHATEVER THE INPUT: true; the input reads as it did. -/
def storeStrangeSpec : ChangeSpec := { name := "storeStrange", fn := fun _ => fun
  | [d] => { results := [.lit (.bool true)], args := [d] }
  | _ => none }
def storeStrangeRow : OpenClaim := { program := "ytiidgjdogekpfaa", sum := "ff07ea54b3bc897084bca2515e2143ac0a1e8ef4771a33b1e5cecc9bb7a1b313", func := "arras/arraslaw24.StoreStrange", spec := "storeStrange", apart := false }
def StoreStrangeSaid : Prop := storeStrangeRow.holds Try.pinned (OpenSpec.ofChange storeStrangeSpec)

/-- ITS FALSE NEIGHBOUR: 'it returns false'. Refute it at one input. -/
def storeStrangeWrong : ChangeSpec := { name := "storeStrange", fn := fun _ => fun
  | [d] => { results := [.lit (.bool false)], args := [d] }
  | _ => none }
def StoreStrangeWrongFalsely : Prop := storeStrangeRow.holds Try.pinned (OpenSpec.ofChange storeStrangeWrong)

/-- 'arraslaw24.StoreModel': WHATEVER THE INPUT: true; the input reads as it did. -/
def storeModelSpec : ChangeSpec := { name := "storeModel", fn := fun _ => fun
  | [d] => { results := [.lit (.bool true)], args := [d] }
  | _ => none }
def storeModelRow : OpenClaim := { program := "ytiidgjdogekpfaa", sum := "ff07ea54b3bc897084bca2515e2143ac0a1e8ef4771a33b1e5cecc9bb7a1b313", func := "arras/arraslaw24.StoreModel", spec := "storeModel", unfollowed := true, recurses := true, apart := false }
def StoreModelSaid : Prop := storeModelRow.holds Try.pinned (OpenSpec.ofChange storeModelSpec)

/-- ITS FALSE NEIGHBOUR: 'it returns false'. Refute it at one input. -/
def storeModelWrong : ChangeSpec := { name := "storeModel", fn := fun _ => fun
  | [d] => { results := [.lit (.bool false)], args := [d] }
  | _ => none }
def StoreModelWrongFalsely : Prop := storeModelRow.holds Try.pinned (OpenSpec.ofChange storeModelWrong)

/-- 'arraslaw24.StoreCrashes': WHATEVER THE INPUT: true; the input reads as it did. -/
def storeCrashesSpec : ChangeSpec := { name := "storeCrashes", fn := fun _ => fun
  | [d] => { results := [.lit (.bool true)], args := [d] }
  | _ => none }
def storeCrashesRow : OpenClaim := { program := "ytiidgjdogekpfaa", sum := "ff07ea54b3bc897084bca2515e2143ac0a1e8ef4771a33b1e5cecc9bb7a1b313", func := "arras/arraslaw24.StoreCrashes", spec := "storeCrashes", unfollowed := true, recurses := true, apart := false }
def StoreCrashesSaid : Prop := storeCrashesRow.holds Try.pinned (OpenSpec.ofChange storeCrashesSpec)

/-- ITS FALSE NEIGHBOUR: 'it returns false'. Refute it at one input. -/
def storeCrashesWrong : ChangeSpec := { name := "storeCrashes", fn := fun _ => fun
  | [d] => { results := [.lit (.bool false)], args := [d] }
  | _ => none }
def StoreCrashesWrongFalsely : Prop := storeCrashesRow.holds Try.pinned (OpenSpec.ofChange storeCrashesWrong)

/- THE SECOND FORM. 'bulk': how many values and letters a reading holds, each counted each time it is reached (what is shared counts as often as it is met; a slice's spare places count too). A statement '..UptoSaid' is the law's where the arguments, and the package variables that the reading takes, are together of bulk at most 1048576: NARROWER than '..Said'. Prove '..Said' where nothing that the law and all that it calls make is longer than what came in: it says more and counts as full. Else prove '..UptoSaid'. A law counts once. -/
mutual
def uptoBulk {H : Type} : DataW H → Nat
  | .lit (.string bytes) => bytes.length + 1
  | .lit _ => 1
  | .nil => 1
  | .ptr d => uptoBulk d + 1
  | .slice elems spare => uptoBulkAll elems + uptoBulkAll spare + 1
  | .agg parts => uptoBulkAll parts + 1
  | .iface _ d => uptoBulk d + 1
  | .map entries => uptoBulkEntries entries + 1
  | .held _ => 1
def uptoBulkAll {H : Type} : List (DataW H) → Nat
  | [] => 0
  | d :: r => uptoBulk d + uptoBulkAll r
def uptoBulkEntries {H : Type} : List (Lit × DataW H) → Nat
  | [] => 0
  | x :: r => uptoBulkEntry x + uptoBulkEntries r
def uptoBulkEntry {H : Type} : Lit × DataW H → Nat
  | (.string bytes, d) => bytes.length + uptoBulk d + 1
  | (_, d) => uptoBulk d + 1
 end
def uptoSmall : (H : Type) → List (DataW H) → Bool := fun _ ds => decide (uptoBulkAll ds ≤ 1048576)
def OpenSpec.upto (s : _root_.Go.ChangeSpec) : _root_.Go.OpenSpec := { _root_.Go.OpenSpec.ofChange s with cond := some uptoSmall }

/-- 'arraslaw24.StoreStrange', WHERE WHAT IT READS IS OF BULK AT MOST 1048576: true; the input reads as it did. -/
def storeStrangeUptoRow : OpenClaim := { program := "ytiidgjdogekpfaa", sum := "ff07ea54b3bc897084bca2515e2143ac0a1e8ef4771a33b1e5cecc9bb7a1b313", func := "arras/arraslaw24.StoreStrange", spec := "storeStrange", apart := false, narrowed := true }
def StoreStrangeUptoSaid : Prop := storeStrangeUptoRow.holds Try.pinned (OpenSpec.upto storeStrangeSpec)

/-- 'arraslaw24.StoreModel', WHERE WHAT IT READS IS OF BULK AT MOST 1048576: true; the input reads as it did. -/
def storeModelUptoRow : OpenClaim := { program := "ytiidgjdogekpfaa", sum := "ff07ea54b3bc897084bca2515e2143ac0a1e8ef4771a33b1e5cecc9bb7a1b313", func := "arras/arraslaw24.StoreModel", spec := "storeModel", unfollowed := true, recurses := true, apart := false, narrowed := true }
def StoreModelUptoSaid : Prop := storeModelUptoRow.holds Try.pinned (OpenSpec.upto storeModelSpec)

/-- 'arraslaw24.StoreCrashes', WHERE WHAT IT READS IS OF BULK AT MOST 1048576: true; the input reads as it did. -/
def storeCrashesUptoRow : OpenClaim := { program := "ytiidgjdogekpfaa", sum := "ff07ea54b3bc897084bca2515e2143ac0a1e8ef4771a33b1e5cecc9bb7a1b313", func := "arras/arraslaw24.StoreCrashes", spec := "storeCrashes", unfollowed := true, recurses := true, apart := false, narrowed := true }
def StoreCrashesUptoSaid : Prop := storeCrashesUptoRow.holds Try.pinned (OpenSpec.upto storeCrashesSpec)

end Rows
end Go.Proofs.Ytiidgjdogekpfaa
