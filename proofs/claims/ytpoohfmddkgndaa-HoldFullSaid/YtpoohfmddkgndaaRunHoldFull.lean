/- The evaluator's run of HoldFull, looked at by the kernel: it tells true. -/
import Derived.Test.YtpoohfmddkgndaaAmZa
import Derived.Test.YtpoohfmddkgndaaProg
namespace Go.Proofs.Ytpoohfmddkgndaa.holdFull
open Go Go.Proofs.YtpoohfmddkgndaaAm
set_option maxRecDepth 100000
theorem mixed : Try.prog.follows .mixedOrders = true := by kernel_rfl
theorem run (x0 x2 x3 : Value) (a : Option Addr) (n c : Nat) : SaysTrue Try.prog 8 100000000 [.agg [.x x0, .x (.slice a n c), .x x2, .x x3]] := says_fast (by kernel_rfl)
end Go.Proofs.Ytpoohfmddkgndaa.holdFull
