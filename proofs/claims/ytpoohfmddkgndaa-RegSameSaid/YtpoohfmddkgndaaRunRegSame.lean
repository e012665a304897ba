/- The evaluator's run of RegSame, looked at by the kernel: it tells true. -/
import Derived.Test.YtpoohfmddkgndaaAmZa
import Derived.Test.YtpoohfmddkgndaaProg
namespace Go.Proofs.Ytpoohfmddkgndaa.regSame
open Go Go.Proofs.YtpoohfmddkgndaaAm
set_option maxRecDepth 100000
theorem mixed : Try.prog.follows .mixedOrders = true := by kernel_rfl
theorem run (x0 x1 : Value) (a : Option Addr) (n c : Nat) : SaysTrue Try.prog 13 100000000 [.agg [.x x0, .x x1, .x (.slice a n c)]] := says_fast (by kernel_rfl)
end Go.Proofs.Ytpoohfmddkgndaa.regSame
