/- The evaluator's run of SyncOthers, looked at by the kernel: it tells true. -/
import Derived.Test.YtpoohfmddkgndaaAmU
import Derived.Test.YtpoohfmddkgndaaProg
namespace Go.Proofs.Ytpoohfmddkgndaa.syncOthers
open Go Go.Proofs.YtpoohfmddkgndaaAm
set_option maxRecDepth 100000
theorem mixed : Try.prog.follows .mixedOrders = true := by kernel_rfl
theorem run (x1 x2 x3 x4 x5 : Value) (a : Option Addr) (n c : Nat) : SaysTrue Try.prog 5 1000000 [.agg [.x (.slice a n c), .x x1, .x x2, .x x3, .x x4, .x x5]] := ⟨by kernel_rfl⟩
end Go.Proofs.Ytpoohfmddkgndaa.syncOthers
