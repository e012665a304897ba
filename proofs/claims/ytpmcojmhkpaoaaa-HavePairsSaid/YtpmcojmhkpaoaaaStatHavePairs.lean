/- The statement of HavePairs over numbers and lists, and what its arguments keep to. -/
import Derived.Test.YtpmcojmhkpaoaaaPAx4
import Derived.Test.YtpmcojmhkpaoaaaOpens
namespace Go.Proofs.Ytpmcojmhkpaoaaa.PA
open Go.RowKit Go.Proofs.YtpmcojmhkpaoaaaW.PrintWords Go.Proofs.YtpmcojmhkpaoaaaW.PrintLast Go.Proofs.YtpmcojmhkpaoaaaW.PrintMore
def ok_T86 (x : S86) : Prop := (x.f0.length ≤ maxLen ∧ x.f0.length * 8 ≤ 140737488351232 ∧ ∀ a ∈ x.f0, (Lit.int .i64 a).wf = true) ∧ (x.f1.length ≤ maxLen ∧ x.f1.length * 8 ≤ 140737488351232 ∧ ∀ a ∈ x.f1, (Lit.int .i64 a).wf = true) ∧ (x.f2.length ≤ maxLen ∧ x.f2.length * 1 ≤ 140737488351232 ∧ ∀ a ∈ x.f2, (Lit.int .u8 a).wf = true)
def arraslaw7_HavePairs.Pure : Prop := ∀ (l0 : List (S86)), (l0.length ≤ maxLen ∧ l0.length * 72 ≤ 140737488351232 ∧ ∀ a ∈ l0, ok_T86 a) → ∃ k, arraslaw7_HavePairs.f k l0 = some true
end Go.Proofs.Ytpmcojmhkpaoaaa.PA
