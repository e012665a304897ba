/- The evaluator's run of StoreOrder, looked at by the kernel: it tells true. -/
import Derived.Test.YtcigbgnipbmcmaaAmZa
import Derived.Test.YtcigbgnipbmcmaaProg
namespace Go.Proofs.Ytcigbgnipbmcmaa.storeOrder
open Go Go.Proofs.YtcigbgnipbmcmaaAm
set_option maxRecDepth 100000
theorem mixed : Try.prog.follows .mixedOrders = true := by kernel_rfl
theorem run (x1 : Value) (a : Option Addr) (n c : Nat) : SaysTrue Try.prog 8 100000000 [.agg [.x (.slice a n c), .x x1]] := says_fast (by kernel_rfl)
end Go.Proofs.Ytcigbgnipbmcmaa.storeOrder
