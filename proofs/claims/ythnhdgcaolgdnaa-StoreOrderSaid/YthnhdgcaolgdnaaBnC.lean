/- A call whose conditions hold, in the model: it returns true, and what was there is as it was. -/
import Derived.Test.YthnhdgcaolgdnaaBnB
import Derived.Below
set_option linter.unusedVariables false
namespace Go.Proofs.YthnhdgcaolgdnaaAn
open Go Go.RowKit
def noInj : Inj := fun _ => none
theorem ro_none (w : World) : Ro noInj ⟨0, .lf, 0⟩ w :=
  ⟨⟨(fun b x h => by cases h), (fun b cs rb d n h => by cases h), (fun b b' cs cs' rb d n d' n' h => by cases h), (fun b _ => rfl), Nat.le_refl _⟩, rfl⟩
theorem Ro.fits {j : Inj} {H : Heap} {w : World} (r : Ro j H w) : Fits (Hp.of H) H where
  get := fun b cs h => ⟨h, by
    rcases Nat.lt_or_ge b H.next with h' | h'
    · exact h'
    · have h : H.get b = some cs := h
      rw [r.rel.fresh b h'] at h; cases h⟩
  lo := rfl
  low := r.rel.low
  fresh := r.rel.fresh
theorem calls_open {P : Program} (hm : P.follows .mixedOrders = true) {f : FuncId} {args : List AV} {args' : List Value} {j : Inj} {H : Heap} {w : World} (r : Ro j H w) (hv : VRs j args args') (g : wpC P f args (fun v _ => v = .b true) (Hp.of H)) :
    Calls P f args'.toArray w fun e w' => e = .returned (.bool true) ∧ Below w.heap.size w w' := by
  obtain ⟨v, H', h', ⟨n, g1⟩, _, rfl⟩ := g H r.fits
  refine (calls_of_callA hm n f args H (.b true) H' j w args' g1 r.rel hv).mono ?_
  rintro e w' ⟨v', j', rfl, h1, _, h3⟩
  cases h1
  refine ⟨rfl, h3.os, h3.tape, h3.output, h3.size, fun k hk => ?_⟩
  by_cases ho : Own j H k
  · obtain ⟨b, cs, d, m, hb, hj⟩ := ho
    exact h3.rw b cs k d m (by rw [r.low]; exact r.rel.dom _ _ hj) hb hj hk
  · exact h3.keep k hk ho
/-- an argument that is a slice -/
theorem arg_slice {P : Program} {t : TypeId} {α : Type} {d : Kn α} (ho : Opens P t d) (h1 : d.sz = 1) {Hd : Type} {enc : TypeId × Value → Hd} {w : World} {base : Nat} {held : Bool} {fuel : Nat} {v : Value} {x : DataW Hd} {ps : List MemPlace}
    (hc : v.cells.toList = [v]) (h : DataW.trod enc P w base (fun _ => true) held fuel t v.cells.toList = some (x, ps)) (hw : ∀ n ∈ x.weights P t, n ≤ reachBytes) :
    ∃ (a : α) (c : AV) (j : Inj) (H : Heap), Ro j H w ∧ VRs j [c] [v] ∧ d.K (Hp.of H) a [c] := by
  obtain ⟨a, avs, j, H, r, _, hv, hk⟩ := ho enc w base held fuel _ x ps h hw noInj _ (ro_none w)
  rw [hc] at hv
  have hl := hv.length
  match avs, hl, hv, hk with
  | [c], _, hv, hk => exact ⟨a, c, j, H, r, hv, hk⟩
/-- an argument that is a struct -/
theorem arg_struct {P : Program} {t : TypeId} {α : Type} {d : Kn α} (ho : Opens P t d) {Hd : Type} {enc : TypeId × Value → Hd} {w : World} {base : Nat} {held : Bool} {fuel : Nat} {cs : Array Value} {x : DataW Hd} {ps : List MemPlace}
    (h : DataW.trod enc P w base (fun _ => true) held fuel t (Value.agg cs).cells.toList = some (x, ps)) (hw : ∀ n ∈ x.weights P t, n ≤ reachBytes) :
    ∃ (a : α) (avs : List AV) (j : Inj) (H : Heap), Ro j H w ∧ VRs j [.agg avs] [.agg cs] ∧ d.K (Hp.of H) a avs := by
  obtain ⟨a, avs, j, H, r, _, hv, hk⟩ := ho enc w base held fuel _ x ps h hw noInj _ (ro_none w)
  refine ⟨a, avs, j, H, r, .cons ?_ .nil, hk⟩
  have := VR.agg' hv
  rw [Array.toArray_toList] at this
  exact this
end Go.Proofs.YthnhdgcaolgdnaaAn
