/- The statement of CodeRows over numbers and lists, and what its arguments keep to. -/
import Derived.Test.YtpmcojmhkpaoaaaPAx3
import Derived.Test.YtpmcojmhkpaoaaaOpens
namespace Go.Proofs.Ytpmcojmhkpaoaaa.PA
open Go.RowKit Go.Proofs.YtpmcojmhkpaoaaaW.PrintWords Go.Proofs.YtpmcojmhkpaoaaaW.PrintLast Go.Proofs.YtpmcojmhkpaoaaaW.PrintMore
def ok_T43 (x : S43) : Prop := (Lit.int .i64 x.f0).wf = true ∧ x.f1.size ≤ 140737488351232 ∧ (x.f2.length ≤ maxLen ∧ x.f2.length * 8 ≤ 140737488351232 ∧ ∀ a ∈ x.f2, (Lit.int .i64 a).wf = true) ∧ (x.f3.length ≤ maxLen ∧ x.f3.length * 1 ≤ 140737488351232 ∧ ∀ a ∈ x.f3, (Lit.int .u8 a).wf = true)
def arraslaw5_CodeRows.Pure : Prop := ∀ (l0 : List (S43)), (l0.length ≤ maxLen ∧ l0.length * 72 ≤ 140737488351232 ∧ ∀ a ∈ l0, ok_T43 a) → ∃ k, arraslaw5_CodeRows.f k l0 = some true
end Go.Proofs.Ytpmcojmhkpaoaaa.PA
