/- The statement of SyncWhoms over numbers and lists, and what its arguments keep to. -/
import Derived.Test.YtpoohfmddkgndaaPWx1
import Derived.Test.YtpoohfmddkgndaaOpens
namespace Go.Proofs.Ytpoohfmddkgndaa.PW
open Go.RowKit Go.Proofs.YtpoohfmddkgndaaW.PrintWords Go.Proofs.YtpoohfmddkgndaaW.PrintLast Go.Proofs.YtpoohfmddkgndaaW.PrintMore
def ok_T39 (x : S39) : Prop := (Lit.int .i64 x.f0).wf = true ∧ (Lit.int .i64 x.f1).wf = true
def ok_T41 (x : S41) : Prop := ok_T39 x.f0 ∧ (Lit.int .i64 x.f1).wf = true ∧ (x.f2.length ≤ maxLen ∧ x.f2.length * 8 ≤ 140737488351232 ∧ ∀ a ∈ x.f2, (Lit.int .i64 a).wf = true) ∧ (Lit.int .i64 x.f3).wf = true ∧ ok_T39 x.f4 ∧ ok_T39 x.f5 ∧ x.f6.size ≤ 140737488351232 ∧ (Lit.int .i64 x.f7).wf = true ∧ (Lit.int .i64 x.f8).wf = true
def ok_T26 (x : S26) : Prop := (x.f0.length ≤ maxLen ∧ x.f0.length * 120 ≤ 140737488351232 ∧ ∀ a ∈ x.f0, ok_T41 a) ∧ (x.f1.length ≤ maxLen ∧ x.f1.length * 8 ≤ 140737488351232 ∧ ∀ a ∈ x.f1, (Lit.int .i64 a).wf = true) ∧ (Lit.int .i64 x.f2).wf = true ∧ (Lit.int .i64 x.f3).wf = true ∧ (Lit.int .i64 x.f4).wf = true ∧ (Lit.int .i64 x.f5).wf = true
def arraslaw25_SyncWhoms.Pure : Prop := ∀ (l0 : List (S26)), (l0.length ≤ maxLen ∧ l0.length * 80 ≤ 140737488351232 ∧ ∀ a ∈ l0, ok_T26 a) → ∃ k, arraslaw25_SyncWhoms.f k l0 = some true
end Go.Proofs.Ytpoohfmddkgndaa.PW
