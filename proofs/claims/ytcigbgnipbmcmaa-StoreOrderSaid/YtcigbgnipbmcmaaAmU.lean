/- A law whose call the evaluator tells true, whatever its argument holds. -/
import Derived.Test.YtcigbgnipbmcmaaAmT
import Derived.Below
import Derived.WideShapes
set_option linter.unusedVariables false
set_option linter.unusedSimpArgs false
namespace Go.Proofs.YtcigbgnipbmcmaaAm
open Go Go.RowKit

noncomputable def isT : Option (AV × Heap) → Bool
  | some (.b true, _) => true
  | _ => false
theorem isT_some {x : Option (AV × Heap)} (h : isT x = true) : ∃ H, x = some (.b true, H) := by
  unfold isT at h
  split at h
  · exact ⟨_, rfl⟩
  · cases h
/-- the evaluator tells true -/
structure SaysTrue (P : Program) (f : FuncId) (n : Nat) (args : List AV) : Prop where
  out : isT (callA P (runA P n) f args ⟨0, .lf⟩) = true
def noInj : Inj := fun _ => none
theorem rel_none (w : World) : Rel noInj ⟨0, .lf⟩ w :=
  ⟨(fun b x h => by cases h), (fun b cs rb d n h => by cases h), (fun b b' cs cs' rb d n d' n' h => by cases h), fun b _ => rfl⟩
theorem calls_closed {P : Program} (hm : P.follows .mixedOrders = true) {f : FuncId} {n : Nat} {args : List AV} {args' : List Value} {w : World} (hv : VRs noInj args args') (h : SaysTrue P f n args) :
    Calls P f args'.toArray w fun e w' => e = .returned (.bool true) ∧ Below w.heap.size w w' := by
  obtain ⟨H, h⟩ := isT_some h.out
  refine (calls_of_callA hm n f args ⟨0, .lf⟩ (.b true) H noInj w args' h (rel_none w) hv).mono ?_
  rintro e w' ⟨v', j', rfl, h1, _, h3⟩
  cases h1
  refine ⟨rfl, h3.os, h3.tape, h3.output, h3.size, fun k hk => h3.keep k hk ?_⟩
  rintro ⟨b, cs, d, m, hb, _⟩
  cases hb
theorem vrs_x : ∀ (l : List Value), VRs noInj (l.map .x) l
  | [] => .nil
  | v :: l => .cons (.x v) (vrs_x l)
theorem cell_slice {P : Program} {w : World} {r : Reach} {base : Nat} {u e : TypeId} {v : Value} (hu : P.underlying u = some (.slice e)) (h : Cell.okWide P w r base u v) : ∃ a n c, v = .slice a n c := by
  simp only [Cell.okWide, hu] at h
  cases v <;> simp_all [Cell.ok]
/-- a struct's cells, and one of them a slice -/
theorem struct_cells {P : Program} {w : World} {r : Reach} {base : Nat} {t u e : TypeId} {fs : Array Field} {ts : List TypeId} {v : Value} {k : Nat} (ht : P.underlying t = some (.struct fs)) (hts : P.cellTypes P.depth t = some ts) (hn : ts.length = P.cellsOf t)
    (hk : ts[k]? = some u) (hu : P.underlying u = some (.slice e)) (h : Value.okWide P w r base t v) : ∃ l : List Value, v = .agg l.toArray ∧ l.length = P.cellsOf t ∧ ∃ a n c, l[k]? = some (.slice a n c) := by
  simp only [Value.okWide, ht] at h
  obtain ⟨cs, rfl, h1, ts', h2, _, h4⟩ := h
  rw [hts] at h2; injection h2 with h2; subst h2
  have hlt : k < ts.length := by
    rcases Nat.lt_or_ge k ts.length with h | h
    · exact h
    · rw [List.getElem?_eq_none h] at hk; cases hk
  have hc : cs[k]? = some cs[k] := Array.getElem?_eq_getElem (by omega)
  obtain ⟨u', g1, g2⟩ := h4 k _ hc
  rw [Nat.mod_eq_of_lt hlt, hk] at g1
  injection g1 with g1; subst g1
  obtain ⟨a, n, c, he⟩ := cell_slice hu g2
  exact ⟨cs.toList, by simp, by simpa using h1, a, n, c, by rw [← he]; simp⟩
end Go.Proofs.YtcigbgnipbmcmaaAm
