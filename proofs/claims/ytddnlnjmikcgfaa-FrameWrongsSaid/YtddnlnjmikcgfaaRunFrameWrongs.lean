/- The evaluator's run of FrameWrongs, looked at by the kernel: it tells true. -/
import Derived.Test.YtddnlnjmikcgfaaAmU
import Derived.Test.YtddnlnjmikcgfaaProg
namespace Go.Proofs.Ytddnlnjmikcgfaa.frameWrongs
open Go Go.Proofs.YtddnlnjmikcgfaaAm
set_option maxRecDepth 100000
theorem mixed : Try.prog.follows .mixedOrders = true := by kernel_rfl
theorem run (a : Option Addr) (n c : Nat) : SaysTrue Try.prog 13 1000000 [.x (.slice a n c)] := ⟨by kernel_rfl⟩
end Go.Proofs.Ytddnlnjmikcgfaa.frameWrongs
