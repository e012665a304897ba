/- The evaluator's run of DiskTears, looked at by the kernel: it tells true. -/
import Derived.Test.YtglhdiilplihmaaAmU
import Derived.Test.YtglhdiilplihmaaProg
namespace Go.Proofs.Ytglhdiilplihmaa.diskTears
open Go Go.Proofs.YtglhdiilplihmaaAm
set_option maxRecDepth 100000
theorem mixed : Try.prog.follows .mixedOrders = true := by kernel_rfl
theorem run (x0 : Value) (a : Option Addr) (n c : Nat) : SaysTrue Try.prog 3 100000000 [.agg [.x x0, .x (.slice a n c)]] := ⟨by kernel_rfl⟩
end Go.Proofs.Ytglhdiilplihmaa.diskTears
