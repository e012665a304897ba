/- What an operation does in the evaluator, the model's operation does. -/
import Derived.Test.YthnhdgcaolgdnaaAnB
import Derived.Laws.BytesString
set_option linter.unusedVariables false
set_option linter.unusedSimpArgs false
namespace Go.Proofs.YthnhdgcaolgdnaaAn
open Go

/-- what lies from oo on -/
def At (w : World) (rb oo : Nat) (vs : List Value) : Prop := ∀ (i : Nat) v, vs[i]? = some v → w.cell? ⟨rb, oo + i, none⟩ = some v
def Writable (w : World) (rb oo : Nat) (vs : List Value) : Prop :=
  (∀ i, i < vs.length → (w.cell? ⟨rb, oo + i, none⟩).isSome = true) ∧ (∀ i, i < vs.length → w.frozen? ⟨rb, oo + i, none⟩ = false) ∧ ∀ v ∈ vs, v.oneCell' = true
def SrcDoes (j : Inj) (src : Src) (F : World → List Value → Prop) : Prop := match src with
  | .lit l => ∃ new, VRs j l new ∧ ∀ w, F w new
  | .mem b o n => ∃ rb d m, j b = some (rb, d, m) ∧ ∀ w new, new.length = n → At w rb (o + d) new → F w new
def RV (j : Inj) : Option AV → Next → Prop
  | none, r => r = .skip
  | some v, r => ∃ v', r = .value v' ∧ VR j v v'
def Appends (P : Program) (s : Sem Next) (base : Option Addr) (slen scap n sz : Nat) (w : World) (new : List Value) : Prop :=
  new.length = n * sz → slen + n < 32000000 →
  (slen + n ≤ scap → (∀ a, base = some a → new ≠ [] → a.spot = none ∧ Writable w a.block (a.off + slen * sz) new) → (base = none → new = []) →
    s.run P w = .ok (.value (.slice base (slen + n) scap)) (match base with | none => w | some a => w.setCells a.block (a.off + slen * sz) new)) ∧
  (scap < slen + n → ∀ old : List Value, old.length = slen * sz → (base = none → old = []) → (∀ a, base = some a → old ≠ [] → a.spot = none ∧ At w a.block a.off old) →
    ∃ (newCap : Nat) (ty : TypeId) (rest : List Value) (dr : Nat), slen + n ≤ newCap ∧ rest.length = (newCap - (slen + n)) * sz ∧
      s.run P w = .ok (.value (.slice (some ⟨w.heap.size, 0, none⟩) (slen + n) newCap)) { w with heap := w.heap.push (.cells (old ++ new ++ rest).toArray ty), drawn := w.drawn + dr })
def Does (P : Program) (j : Inj) (s : Sem Next) : Eff → Prop
  | .q v => ∃ v', VR j v v' ∧ ∀ w, s.run P w = .ok (.value v') w
  | .r b o n k => ∃ rb d m, j b = some (rb, d, m) ∧ ∀ w vs, vs.length = n → At w rb (o + d) vs → ∀ j' cs v, VRs j' cs vs → k cs = some v → ∃ v', VR j' v v' ∧ s.run P w = .ok (.value v') w
  | .a cells k => ∀ w, ∃ (cs' : Array Value) (ty : TypeId) (lo hi : Nat) (v' : Value) (dr : Nat),
      s.run P w = .ok (.value v') { w with heap := w.heap.push (.cells cs' ty (lo, hi)), drawn := w.drawn + dr } ∧
      (lo = hi ∨ cs'.size ≤ lo) ∧ (∃ vs rest, cs'.toList = vs ++ rest ∧ VRs j cells vs) ∧
      ∀ (j' : Inj) (id : Nat), j.le j' → j' id = some (w.heap.size, 0, cs'.size) → VR j' (k id) v'
  | .w b o src v => ∃ rb d m, j b = some (rb, d, m) ∧ SrcDoes j src fun w new => Writable w rb (o + d) new → ∃ r, RV j v r ∧ s.run P w = .ok r (w.setCells rb (o + d) new)
  | .call f args => ∃ args', VRs j args args' ∧ ∀ w, s.run P w = .ok (.enter f args'.toArray) w
  | .m b v => ∃ rb d n v', j b = some (rb, d, n) ∧ VR j v v' ∧ ∀ (w : World) rc ty fz, w.heap[rb]? = some (.cells rc ty fz) → s.run P w = .ok (.value v') (w.freeze ⟨rb, rc.size, none⟩ 1)
  | .app sv n src sz => ∃ base slen scap, VR j sv (.slice base slen scap) ∧ SrcDoes j src (Appends P s base slen scap n sz)

section
variable {P : Program} {j : Inj} {ev : Operand → Option AV} {ρ : Operand → Value}
theorem evAll_VRs (hev : ∀ x v, ev x = some v → VR j v (ρ x)) : ∀ {l : List Operand} {vs : List AV}, evAll ev l = some vs → VRs j vs (l.map ρ)
  | [], vs, h => by simp only [evAll] at h; injection h with h; subst h; exact .nil
  | x :: l, vs, h => by
    simp only [evAll] at h
    split at h
    · rename_i v vs' h1 h2
      injection h with h; subst h
      exact .cons (hev _ _ h1) (evAll_VRs hev h2)
    · cases h
/-- parts of a struct or a row -/
inductive Parts (j : Inj) : List (Nat × AV) → List (Nat × Value) → Prop
  | nil : Parts j [] []
  | cons {i a v as vs} (h : VR j a v) (t : Parts j as vs) : Parts j ((i, a) :: as) ((i, v) :: vs)
theorem evParts_VR (hev : ∀ x v, ev x = some v → VR j v (ρ x)) : ∀ {l : List (Nat × Operand)} {vs : List (Nat × AV)}, evParts ev l = some vs → Parts j vs (l.map fun (i, x) => (i, ρ x))
  | [], vs, h => by simp only [evParts] at h; injection h with h; subst h; exact .nil
  | (i, x) :: l, vs, h => by
    simp only [evParts] at h
    split at h
    · rename_i v vs' h1 h2
      injection h with h; subst h
      exact .cons (hev _ _ h1) (evParts_VR hev h2)
    · cases h
theorem splice_len (cs : List AV) (o : Nat) (new : List AV) (h : o + new.length ≤ cs.length) : (splice cs o new).length = cs.length := by
  simp [splice]; omega
theorem foldl_set_toList (off : Nat) : ∀ (new : List Value) (k : Nat) (cs : Array Value), off + k + new.length ≤ cs.size →
    ((new.zipIdx k).foldl (fun cs (c, j) => cs.setIfInBounds (off + j) c) cs).toList = cs.toList.take (off + k) ++ (new ++ cs.toList.drop (off + k + new.length))
  | [], k, cs, h => by simp
  | v :: new, k, cs, h => by
    simp only [List.zipIdx_cons, List.foldl_cons]
    rw [foldl_set_toList off new (k + 1) _ (by simp at h ⊢; omega)]
    simp only [Array.toList_setIfInBounds]
    simp at h
    have h1 : off + k < cs.toList.length := by simp; omega
    rw [List.take_set, List.drop_set_of_lt (by omega)]
    rw [show off + (k + 1) = off + k + 1 by omega, List.take_add_one]
    simp only [List.set_append]
    rw [List.getElem?_eq_getElem h1]
    have hm : min (off + k) cs.size = off + k := Nat.min_eq_left (by simp at h1; omega)
    simp [hm, Nat.add_assoc, Nat.add_comm 1 new.length]
theorem fillA_run {place : Nat → Option (Nat × Nat)} : ∀ {ps : List (Nat × AV)} {vs : List (Nat × Value)} {cells : List AV} {cs : Array Value} {r : List AV},
    fillA place cells ps = some r → Parts j ps vs → VRs j cells cs.toList → ∃ r', Instr.fill place cs vs = some r' ∧ VRs j r r'.toList := by
  intro ps vs cells cs r h hp hc
  induction hp generalizing cells cs with
  | nil => simp only [fillA] at h; injection h with h; subst h; exact ⟨cs, rfl, hc⟩
  | @cons i a v as vs hv _ ih =>
    simp only [fillA] at h
    split at h
    · cases h
    · rename_i off size hpl
      cases hb : (a.one && Nat.beq a.cells.length size && Nat.ble (off + size) cells.length) with
      | false => simp [hb] at h
      | true =>
        simp only [hb, cond_true] at h
        simp only [Bool.and_eq_true, Nat.beq_eq, Nat.ble_eq] at hb
        obtain ⟨⟨h1, h2⟩, h3⟩ := hb
        have hcv := hv.cells h1
        have hl := hcv.length
        have hlc := hc.length
        have hsz : v.cells.size = size := by rw [← h2, hl]; simp
        have hle : off + v.cells.size ≤ cs.size := by rw [hsz]; simp at hlc; omega
        simp only [Instr.fill, hpl]
        rw [if_neg (by simp [hsz]; simp at hlc; omega)]
        refine ih h ?_
        have e := foldl_set_toList off v.cells.toList 0 cs (by simp; omega)
        rw [← Array.foldl_toList, Array.toList_zipIdx, e]
        have hs : splice cells off a.cells = cells.take off ++ (a.cells ++ cells.drop (off + a.cells.length)) := rfl
        rw [hs]
        simp only [Nat.add_zero]
        rw [hl]
        exact (hc.take off).append (hcv.append (hc.drop _))

theorem natOf_some {a : AV} {n : Nat} (h : natOf a = some n) : ∃ k, a = .i k n := by
  unfold natOf at h
  split at h
  · injection h with h; subst h; exact ⟨_, rfl⟩
  · cases h
theorem natOf_run {a : AV} {n : Nat} {v : Value} (h : natOf a = some n) (hv : VR j a v) (w : World) : ∃ k, v = .int k n ∧ (asIntOf v).run P w = .ok (k, (n : Int)) w := by
  obtain ⟨k, rfl⟩ := natOf_some h
  cases hv
  exact ⟨k, rfl, rfl⟩
theorem sliceBound_ok (w : World) {v : Value} {k : IntKind} {n y : Nat} (code : BoundsCode) (hv : v = .int k n) (h : n ≤ y) : (Instr.sliceBound v y code).run P w = .ok n w := by
  subst hv
  simp [Instr.sliceBound, asIntOf, h]
end
end Go.Proofs.YthnhdgcaolgdnaaAn
