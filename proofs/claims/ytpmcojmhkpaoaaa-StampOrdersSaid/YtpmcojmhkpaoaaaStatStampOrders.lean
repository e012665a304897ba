/- The statement of StampOrders over numbers and lists, and what its arguments keep to. -/
import Derived.Test.YtpmcojmhkpaoaaaPAx3
import Derived.Test.YtpmcojmhkpaoaaaOpens
namespace Go.Proofs.Ytpmcojmhkpaoaaa.PA
open Go.RowKit Go.Proofs.YtpmcojmhkpaoaaaW.PrintWords Go.Proofs.YtpmcojmhkpaoaaaW.PrintLast Go.Proofs.YtpmcojmhkpaoaaaW.PrintMore
def ok_T68 (x : S68) : Prop := (Lit.int .i64 x.f0).wf = true ∧ (Lit.int .i64 x.f1).wf = true
def ok_T70 (x : S70) : Prop := ok_T68 x.f0 ∧ ok_T68 x.f1 ∧ (x.f2.length ≤ maxLen ∧ x.f2.length * 1 ≤ 140737488351232 ∧ ∀ a ∈ x.f2, (Lit.int .u8 a).wf = true)
def arraslaw6_StampOrders.Pure : Prop := ∀ (l0 : List (S70)), (l0.length ≤ maxLen ∧ l0.length * 56 ≤ 140737488351232 ∧ ∀ a ∈ l0, ok_T70 a) → ∃ k, arraslaw6_StampOrders.f k l0 = some true
end Go.Proofs.Ytpmcojmhkpaoaaa.PA
