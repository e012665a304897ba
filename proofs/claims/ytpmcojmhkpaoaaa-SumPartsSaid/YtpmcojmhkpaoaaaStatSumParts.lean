/- The statement of SumParts over numbers and lists, and what its arguments keep to. -/
import Derived.Test.YtpmcojmhkpaoaaaPAx2
import Derived.Test.YtpmcojmhkpaoaaaOpens
namespace Go.Proofs.Ytpmcojmhkpaoaaa.PA
open Go.RowKit Go.Proofs.YtpmcojmhkpaoaaaW.PrintWords Go.Proofs.YtpmcojmhkpaoaaaW.PrintLast Go.Proofs.YtpmcojmhkpaoaaaW.PrintMore
def ok_T26 (x : S26) : Prop := (Lit.int .u32 x.f0).wf = true ∧ (x.f1.length ≤ maxLen ∧ x.f1.length * 1 ≤ 140737488351232 ∧ ∀ a ∈ x.f1, (Lit.int .u8 a).wf = true) ∧ (Lit.int .i64 x.f2).wf = true
def arraslaw4_SumParts.Pure : Prop := ∀ (l0 : List (S26)), (l0.length ≤ maxLen ∧ l0.length * 40 ≤ 140737488351232 ∧ ∀ a ∈ l0, ok_T26 a) → ∃ k, arraslaw4_SumParts.f k l0 = some true
end Go.Proofs.Ytpmcojmhkpaoaaa.PA
