import Derived.Test.YtpmcojmhkpaoaaaWWords
import Derived.Deep.Slices
import Derived.SizedLaws
import Derived.KernelRfl
/- An argument that reads as data (numbers, strings, slices and structs of such) reads as a value of its kind. -/
namespace Go.Proofs.YtpmcojmhkpaoaaaOpens
open Go Go.RowKit Go.Proofs.YtpmcojmhkpaoaaaW.PrintWords

/-- Whatever of type t reads as data reads as a value of the kind, within bounds. -/
def Opens (P : Program) (t : TypeId) {α : Type} (d : Kd α) (OK : α → Prop) : Prop :=
  ∀ {H : Type} (enc : TypeId × Value → H) (w : World) (base : Nat) (spare : Nat → Bool) (held : Bool) (fuel : Nat) (cs : List Value) (x : DataW H) (ps : List MemPlace),
    DataW.trod enc P w base spare held fuel t cs = some (x, ps) → (∀ n ∈ x.weights P t, n ≤ reachBytes) → ∃ a : α, d.K w a cs ∧ OK a

section
variable {P : Program} {t : TypeId}
theorem opens_int {k : IntKind} (ht : P.underlying t = some (.int k)) : Opens P t (Kd.int k) (fun n => (Lit.int k n).wf = true) := by
  intro H enc w base spare held fuel cs x ps h _
  obtain ⟨n, rfl, _, hw⟩ := DataW.trod_int ht h
  exact ⟨n, rfl, hw⟩
theorem opens_bool (ht : P.underlying t = some .bool) : Opens P t Kd.bool (fun _ => True) := by
  intro H enc w base spare held fuel cs x ps h _
  obtain ⟨b, rfl, _⟩ := DataW.trod_bool ht h
  exact ⟨b, rfl, trivial⟩
theorem opens_string (ht : P.underlying t = some .string) : Opens P t Kd.string (fun s => s.size ≤ 140737488351232) := by
  intro H enc w base spare held fuel cs x ps h hs
  obtain ⟨s, rfl, hx, _⟩ := DataW.trod_string ht h
  simp only [Prod.mk.injEq] at hx
  obtain ⟨rfl, rfl⟩ := hx
  have := hs s.data.toList.length (by simp [DataW.weights])
  have hr : reachBytes = 140737488351232 := by decide
  have hl : s.data.toList.length = s.size := by simp
  exact ⟨s, rfl, by omega⟩

theorem mem_weightsAll {H : Type} {e : TypeId} : ∀ {l : List (DataW H)} {d : DataW H}, d ∈ l → ∀ n ∈ d.weights P e, n ∈ DataW.weightsAll P e l
  | d0 :: l, d, hd, n, hn => by
    simp only [DataW.weightsAll, List.mem_append]
    rcases List.mem_cons.1 hd with rfl | hd
    · exact .inl hn
    · exact .inr (mem_weightsAll hd n hn)

theorem opens_slice {α : Type} (y0 : α) {e : TypeId} (nb : Nat) {d : Kd α} {OK : α → Prop} (ht : P.underlying t = some (.slice e)) (hsz : d.sz = P.cellsOf e) (hnb : P.bytesOf e = nb) (ho : Opens P e d OK) :
    Opens P t (Kd.slice e d) (fun l => l.length ≤ maxLen ∧ l.length * nb ≤ 140737488351232 ∧ ∀ a ∈ l, OK a) := by
  haveI : Inhabited α := ⟨y0⟩
  subst hnb
  intro H enc w base spare held fuel cs x ps h hs
  have hr : reachBytes = 140737488351232 := by decide
  rcases Deep.open_slice ht h with ⟨rfl, _⟩ | ⟨a, len, cap, m, n, D, Pl, rfl, hb, hl, hm, hmm, hx, hel⟩
  · exact ⟨[], ⟨none, 0, rfl, Nat.le_refl _, Kd.C_nil _ _⟩, by simp, by simp, fun _ h => by cases h⟩
  · simp only [Prod.mk.injEq] at hx
    obtain ⟨rfl, rfl⟩ := hx
    have hle : len ≤ m := by rw [hmm]; split <;> omega
    have hw := hs ((((List.range len).map D).length + ((List.range (m - len)).map fun j => D (len + j)).length) * P.bytesOf e) (by simp [DataW.weights, ht])
    have hone : ∀ i, i < len → ∃ y : α, (∃ cs', w.cells? base (a.add (i * P.cellsOf e)) (P.cellsOf e) = some cs' ∧ d.K w y cs') ∧ OK y := by
      intro i hi
      obtain ⟨cs', h1, h2⟩ := hel i (by omega)
      obtain ⟨y, hy, hoy⟩ := ho enc w base spare held n cs' (D i) (Pl i) h2 (fun q hq => hs q (by
        simp only [DataW.weights, ht, List.mem_cons, List.mem_append]
        exact .inr (.inl (mem_weightsAll (List.mem_map.2 ⟨i, List.mem_range.2 hi, rfl⟩) q hq))))
      exact ⟨y, ⟨cs', h1, hy⟩, hoy⟩
    obtain ⟨f, hf⟩ := Deep.choose_lt hone
    have hlen : ((List.range len).map f).length = len := by simp
    refine ⟨(List.range len).map f, ⟨some a, cap, by rw [hlen], by rw [hlen]; exact hl, ?_⟩, by rw [hlen]; omega, ?_, ?_⟩
    · refine ⟨rfl, by rw [hlen]; have : maxLen = 9223372036854775807 := rfl; omega, fun _ => ⟨a, rfl, fun j p hj => ?_⟩⟩
      have hj' : j < len := by
        have := (List.getElem?_eq_some_iff.1 hj).1
        simpa using this
      have hp : p = f j := by simpa [hj'] using hj.symm
      subst hp
      obtain ⟨⟨cs', h1, h2⟩, _⟩ := hf j hj'
      obtain ⟨_, hcl, hcell⟩ := World.cells?_some h1
      refine ⟨cs', by rw [hcl, hsz], h2, fun i u hu => ?_⟩
      have hi : i < P.cellsOf e := by have := (List.getElem?_eq_some_iff.1 hu).1; omega
      rw [← Deep.add_add, hsz, hcell i hi, hu]
    · rw [hlen]
      rw [hr] at hw
      simp only [List.length_map, List.length_range] at hw
      exact Nat.le_trans (Nat.mul_le_mul_right _ (by omega)) hw
    · intro y hy
      obtain ⟨i, hi, rfl⟩ := List.mem_map.1 hy
      exact (hf i (List.mem_range.1 hi)).2
end

/-! ### Structs: their fields one behind the other -/
section
variable {P : Program}
/-- Cells that hold values of these types one behind the other. -/
def Chunks {H : Type} (enc : TypeId × Value → H) (P : Program) (w : World) (base : Nat) (spare : Nat → Bool) (held : Bool) (fuel : Nat) : List TypeId → List Value → List (DataW H) → Prop
  | [], cs, ds => cs = [] ∧ ds = []
  | t :: ts, cs, d :: ds => (∃ ps, DataW.trod enc P w base spare held fuel t (cs.take (P.cellsOf t)) = some (d, ps)) ∧ Chunks enc P w base spare held fuel ts (cs.drop (P.cellsOf t)) ds
  | _ :: _, _, [] => False
def OpensAll (P : Program) (ts : List TypeId) {α : Type} (d : Kd α) (OK : α → Prop) : Prop :=
  ∀ {H : Type} (enc : TypeId × Value → H) (w : World) (base : Nat) (spare : Nat → Bool) (held : Bool) (fuel : Nat) (cs : List Value) (ds : List (DataW H)),
    Chunks enc P w base spare held fuel ts cs ds → (∀ n ∈ DataW.weightsEach P ts ds, n ≤ reachBytes) → ∃ a : α, d.K w a cs ∧ OK a
theorem opens_one {t : TypeId} {α : Type} {d : Kd α} {OK : α → Prop} (h : Opens P t d OK) : OpensAll P [t] d OK := by
  intro H enc w base spare held fuel cs ds hc hs
  match ds, hc with
  | [x], ⟨⟨ps, h1⟩, h2, _⟩ =>
    have e : cs.take (P.cellsOf t) = cs := by
      rw [List.take_of_length_le]
      have := congrArg List.length h2
      simp at this
      omega
    rw [e] at h1
    exact h enc w base spare held fuel cs x ps h1 (fun n hn => hs n (by simp [DataW.weightsEach, hn]))
theorem opens_cons {t : TypeId} {ts : List TypeId} {α β : Type} {d : Kd α} {d2 : Kd β} {OK : α → Prop} {OK2 : β → Prop} (h : Opens P t d OK) (h2 : OpensAll P ts d2 OK2) :
    OpensAll P (t :: ts) (Kd.pair d d2) (fun x => OK x.1 ∧ OK2 x.2) := by
  intro H enc w base spare held fuel cs ds hc hs
  match ds, hc with
  | x :: ds, ⟨⟨ps, h1⟩, hr⟩ =>
    obtain ⟨a, ha, hoa⟩ := h enc w base spare held fuel _ x ps h1 (fun n hn => hs n (by simp [DataW.weightsEach, hn]))
    obtain ⟨b, hb, hob⟩ := h2 enc w base spare held fuel _ ds hr (fun n hn => hs n (by simp [DataW.weightsEach, hn]))
    exact ⟨(a, b), ⟨_, _, (List.take_append_drop _ cs).symm, ha, hb⟩, hoa, hob⟩
/-- Where the fields stand: each behind the one ahead of it. -/
def inRow (P : Program) : Nat → List Field → Bool
  | _, [] => true
  | o, f :: fs => f.offset == o && inRow P (o + P.cellsOf f.type) fs
def total (P : Program) (fs : List Field) : Nat := (fs.map fun f => P.cellsOf f.type).sum
theorem chunks_of {H : Type} (enc : TypeId × Value → H) (w : World) (base : Nat) (spare : Nat → Bool) (held : Bool) (fuel : Nat) : ∀ (fs : List Field) (o : Nat) (cs : List Value) (xs : List (DataW H × List MemPlace)),
    inRow P o fs = true → cs.length = o + total P fs → (fs.mapM fun f => DataW.trod enc P w base spare held fuel f.type ((cs.drop f.offset).take (P.cellsOf f.type))) = some xs →
    Chunks enc P w base spare held fuel (fs.map (·.type)) (cs.drop o) (xs.map (·.1))
  | [], o, cs, xs, _, hl, hm => by
    simp [total] at hl
    simp at hm
    subst hm
    simp [Chunks, ← hl]
  | f :: fs, o, cs, xs, hr, hl, hm => by
    simp only [inRow, Bool.and_eq_true, beq_iff_eq] at hr
    obtain ⟨hfo, hr⟩ := hr
    rw [List.mapM_cons] at hm
    cases h1 : DataW.trod enc P w base spare held fuel f.type ((cs.drop f.offset).take (P.cellsOf f.type)) with
    | none => rw [h1] at hm; simp at hm
    | some y =>
      rw [h1] at hm
      cases h2 : (fs.mapM fun f => DataW.trod enc P w base spare held fuel f.type ((cs.drop f.offset).take (P.cellsOf f.type))) with
      | none => rw [h2] at hm; simp at hm
      | some ys =>
        rw [h2] at hm
        simp at hm
        subst hm
        have ih := chunks_of enc w base spare held fuel fs (o + P.cellsOf f.type) cs ys hr (by rw [hl]; simp [total]; omega) h2
        refine ⟨⟨y.2, ?_⟩, ?_⟩
        · rw [← hfo]; exact h1
        · rw [List.drop_drop]; exact ih
theorem opens_struct {t : TypeId} {fs : Array Field} {α S : Type} {d : Kd α} {OK : α → Prop} (ht : P.underlying t = some (.struct fs)) (hr : inRow P 0 fs.toList = true) (hc : P.cellsOf t = total P fs.toList)
    (h : OpensAll P (fs.toList.map (·.type)) d OK) (f : S → α) (g : α → S) (hfg : ∀ a, f (g a) = a) : Opens P t (Kd.iso d f) (fun s => OK (f s)) := by
  intro H enc w base spare held fuel cs x ps hx hs
  cases fuel with
  | zero => simp [DataW.trod] at hx
  | succ n =>
    obtain ⟨xs, m, hm, hxe, hl, hall⟩ : ∃ (xs : List (DataW H × List MemPlace)) (m : Nat), n = m ∧ x = .agg (xs.map (·.1)) ∧ cs.length = P.cellsOf t ∧ (fs.toList.mapM fun f => DataW.trod enc P w base spare held m f.type ((cs.drop f.offset).take (P.cellsOf f.type))) = some xs := by
      unfold DataW.trod at hx
      rw [ht] at hx
      split at hx <;> simp_all
      obtain ⟨hl, hx⟩ := hx
      obtain ⟨xs, h1, h2, h3⟩ := hx
      exact ⟨xs, h2.symm, h1⟩
    subst hm
    subst hxe
    have hch := chunks_of (P := P) enc w base spare held n fs.toList 0 cs xs hr (by rw [hl, hc]; omega) hall
    obtain ⟨a, ha, hoa⟩ := h enc w base spare held n cs _ (by simpa using hch) (fun q hq => hs q (by simpa [DataW.weights, ht] using hq))
    refine ⟨g a, ?_, ?_⟩
    · show d.K w (f (g a)) cs
      rw [hfg]; exact ha
    · show OK (f (g a))
      rw [hfg]; exact hoa
/-- A struct's value is its cells. -/
theorem okWide_agg {W : World} {r : Reach} {b0 : Nat} {t : TypeId} {fs : Array Field} {v : Value} (ht : P.underlying t = some (.struct fs)) (h : Value.okWide P W r b0 t v) : ∃ xs : Array Value, v = .agg xs := by
  simp only [Value.okWide, ht] at h
  obtain ⟨cs, h1, _⟩ := h
  exact ⟨cs, h1⟩
theorem weights_of {H : Type} {ts : List TypeId} {ds : List (DataW H)} (h : (DataW.weightsEach P ts ds).all (· ≤ reachBytes) = true) {j : Nat} {t : TypeId} {d : DataW H} (ht : ts[j]? = some t) (hd : ds[j]? = some d) : ∀ n ∈ d.weights P t, n ≤ reachBytes :=
  fun n hn => by simpa using List.all_eq_true.1 h _ (DataW.weights_mem_each ht hd n hn)
end
end Go.Proofs.YtpmcojmhkpaoaaaOpens
