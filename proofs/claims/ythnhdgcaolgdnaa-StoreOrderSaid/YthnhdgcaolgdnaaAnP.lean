/- Regions that draw their order: every order comes to the same. -/
import Derived.Test.YthnhdgcaolgdnaaAnO
set_option linter.unusedVariables false
set_option linter.unusedSimpArgs false
namespace Go.Proofs.YthnhdgcaolgdnaaAn
open Go

/-! ### small facts -/
def R (jt : Inj) (B : Nat) : Inj := fun b => if b < B then jt b else none
theorem R_some {jt : Inj} {B b : Nat} {x : Nat × Nat × Nat} (h : R jt B b = some x) : b < B ∧ jt b = some x := by
  unfold R at h
  split at h
  · rename_i hlt; exact ⟨hlt, h⟩
  · cases h
theorem R_mk {jt : Inj} {B b : Nat} {x : Nat × Nat × Nat} (h : b < B) (hj : jt b = some x) : R jt B b = some x := by unfold R; rw [if_pos h]; exact hj
theorem R_mono {jt : Inj} {B B' : Nat} (h : B ≤ B') : (R jt B).le (R jt B') := fun _ _ hb => let ⟨h1, h2⟩ := R_some hb; R_mk (Nat.lt_of_lt_of_le h1 h) h2
theorem R_all {j : Inj} {H : Heap} {w : World} (h : Rel j H w) : R j H.next = j := by
  funext b
  unfold R
  split
  · rfl
  · cases hj : j b with
    | none => rfl
    | some x => exact absurd (h.dom b x hj) (by assumption)
theorem doEff_next {call : CallA} {H H' : Heap} {e : Eff} {r : Option AV} (h : doEff call H e = some (r, H')) : H.next ≤ H'.next := by
  cases e with
  | q v => injection h with h; injection h with h1 h2; subst h2; exact Nat.le_refl _
  | r b o n k =>
    obtain ⟨cs, _, h⟩ := bind_some' h
    obtain ⟨v, _, h⟩ := map_some' h
    injection h with h1 h2; subst h2; exact Nat.le_refl _
  | a cells k => injection h with h; injection h with h1 h2; subst h2; exact Nat.le_succ _
  | w b o src v =>
    obtain ⟨new, _, h⟩ := bind_some' h
    obtain ⟨H1, hw, h⟩ := map_some' h
    injection h with h1 h2; subst h2
    obtain ⟨cs, _, hw⟩ := bind_some' hw
    obtain ⟨_, hw⟩ := cond_some hw
    injection hw with hw; subst hw; exact Nat.le_refl _
  | call f args =>
    obtain ⟨⟨v, H1⟩, _, h⟩ := bind_some' h
    obtain ⟨hc, h⟩ := cond_some h
    injection h with h; injection h with h1 h2; subst h2
    exact ble_le hc
  | m b v =>
    obtain ⟨_, h⟩ := cond_some h
    obtain ⟨cs, _, h⟩ := map_some' h
    injection h with h1 h2; subst h2; exact Nat.le_refl _
  | app s n src sz =>
    obtain ⟨⟨v, H1⟩, ha, h⟩ := map_some' h
    injection h with h1 h2; subst h2
    unfold appA at ha
    obtain ⟨new, _, ha⟩ := bind_some' ha
    obtain ⟨_, ha⟩ := cond_some ha
    split at ha
    · generalize Nat.beq n 0 = c1 at ha
      cases c1 with
      | true => injection ha with ha; injection ha with h1 h2; subst h2; exact Nat.le_refl _
      | false =>
        rw [cond_false] at ha
        obtain ⟨_, ha⟩ := cond_some ha
        injection ha with ha; injection ha with h1 h2; subst h2; exact Nat.le_succ _
    · generalize Nat.beq n 0 = c1 at ha
      cases c1 with
      | true => injection ha with ha; injection ha with h1 h2; subst h2; exact Nat.le_refl _
      | false =>
        rw [cond_false] at ha
        obtain ⟨_, ha⟩ := cond_some ha
        injection ha with ha; injection ha with h1 h2; subst h2; exact Nat.le_succ _
    · rename_i b o len lo ex z _ _
      obtain ⟨_, ha⟩ := cond_some ha
      generalize Nat.ble (len + n) lo = c1 at ha
      cases c1 with
      | true =>
        rw [cond_true] at ha
        generalize Nat.beq n 0 = c2 at ha
        cases c2 with
        | true => injection ha with ha; injection ha with h1 h2; subst h2; exact Nat.le_refl _
        | false =>
          rw [cond_false] at ha
          obtain ⟨H2, hw, ha⟩ := map_some' ha
          injection ha with h1 h2; subst h2
          obtain ⟨cs, _, hw⟩ := bind_some' hw
          obtain ⟨_, hw⟩ := cond_some hw
          injection hw with hw; subst hw; exact Nat.le_refl _
      | false =>
        rw [cond_false] at ha
        cases ex with
        | true =>
          rw [cond_true] at ha
          obtain ⟨old, _, ha⟩ := bind_some' ha
          injection ha with ha; injection ha with h1 h2; subst h2; exact Nat.le_succ _
        | false =>
          rw [cond_false] at ha
          obtain ⟨cs, _, ha⟩ := bind_some' ha
          obtain ⟨old, _, ha⟩ := bind_some' ha
          obtain ⟨_, ha⟩ := cond_some ha
          injection ha with ha; injection ha with h1 h2; subst h2; exact Nat.le_succ _
    · cases ha
theorem sameA_rd {H H' : Heap} {b o n : Nat} {cs : List AV} (h : sameA H H' b o n = true) : rd H b o n = some cs ↔ rd H' b o n = some cs := by
  have h : rd H b o n = rd H' b o n := by
    unfold sameA at h
    simpa using h
  rw [h]
theorem wanted_of {j : Inj} {N : Nat} {m : T AV} {ts : Array Value} {ops : Array Oper} {o : Oper} {c : Bool} (hsz : ts.size = N) (hg : ∀ g want d, o.guard = some (g, want) → (ops[g]?).bind (·.dst) = some d → (d < N → PutV j (m.get d) (ts.getD d undef)) ∧ (N ≤ d → m.get d = none))
    (h : wantedA ops m o = some c) : Region.wanted o (yielded ops ts) = c := by
  unfold wantedA at h
  unfold Region.wanted
  cases hgd : o.guard with
  | none => rw [hgd] at h; injection h with h
  | some gw =>
    obtain ⟨g, want⟩ := gw
    rw [hgd] at h
    simp only at h ⊢
    unfold yielded
    cases hd : (ops[g]?).bind (·.dst) with
    | none => rw [hd] at h; cases h
    | some d =>
      obtain ⟨hg1, hg2⟩ := hg g want d hgd hd
      rw [hd] at h
      simp only [Option.bind_some] at h ⊢
      rcases Nat.lt_or_ge d N with hlt | hge
      · have hv := hg1 hlt
        have hs : d < ts.size := by rw [hsz]; exact hlt
        have h2 : ts[d]? = some (ts.getD d undef) := by
          rw [Array.getElem?_eq_getElem hs]; simp [Array.getD, hs]
        rw [h2]
        cases hm : m.get d with
        | none =>
          rw [hm] at h hv
          injection h with h; subst h
          have : ts.getD d undef = undef := hv
          rw [this]; rfl
        | some v =>
          rw [hm] at h hv
          have hv : VR j v (ts.getD d undef) := hv
          generalize ts.getD d undef = u at hv
          cases hv <;> simp only at h <;> first | (cases h; done) | (injection h with h; try (subst h); try rfl)
      · have : ts[d]? = none := Array.getElem?_eq_none (by rw [hsz]; exact hge)
        rw [hg2 hge] at h
        injection h with h; subst h
        rw [this]; rfl
/-- a block of the evaluator's gets the memory that was made for it before -/
theorem Rel.adopt {j : Inj} {H : Heap} {w : World} (h : Rel j H w) {cells : List AV} {rb n : Nat} (hh : Holds false j w cells rb 0 n) (hno : ¬ Own j H rb) : Rel (j.add H.next (rb, 0, n)) (Go.Proofs.YthnhdgcaolgdnaaAn.alloc H cells) w := by
  have hle : j.le (j.add H.next (rb, 0, n)) := Inj.le_add _ h.next_none
  refine ⟨fun b x hb => ?_, fun b cs rb' d m hb hj => ?_, fun b b' cs cs' rb' d m d' m' hb hb' hj hj' => ?_, fun b hb => ?_, Nat.le_succ_of_le h.low⟩
  · show b < Nat.succ H.next
    by_cases e : b = H.next
    · omega
    · rw [Inj.add_ne _ _ e] at hb
      have := h.dom _ _ hb; omega
  · rw [get_alloc] at hb
    by_cases e : b = H.next
    · rw [if_pos e] at hb; injection hb with hb; subst hb
      subst e
      rw [Inj.add_same] at hj; injection hj with hj; injection hj with h1 hj; injection hj with h2 h3
      subst h1; subst h2; subst h3
      exact hh.weak.mono hle
    · rw [if_neg e] at hb
      rw [Inj.add_ne _ _ e] at hj
      exact (h.blk b cs rb' d m hb hj).mono hle
  · rw [get_alloc] at hb hb'
    by_cases e : b = H.next
    · by_cases e' : b' = H.next
      · exact .inl (by omega)
      · exfalso
        rw [if_neg e'] at hb'
        rw [Inj.add_ne _ _ e'] at hj'
        subst e
        rw [Inj.add_same] at hj; injection hj with hj; injection hj with h1 hj
        subst h1
        exact hno ⟨b', _, _, _, hb', hj'⟩
    · rw [if_neg e] at hb
      rw [Inj.add_ne _ _ e] at hj
      by_cases e' : b' = H.next
      · exfalso
        subst e'
        rw [Inj.add_same] at hj'; injection hj' with hj'; injection hj' with h1 hj'
        subst h1
        exact hno ⟨b, _, _, _, hb, hj⟩
      · rw [if_neg e'] at hb'
        rw [Inj.add_ne _ _ e'] at hj'
        exact h.inj b b' cs cs' rb' d m d' m' hb hb' hj hj'
  · have hb' : Nat.succ H.next ≤ b := hb
    rw [get_alloc, if_neg (by omega)]
    exact h.fresh b (by omega)
theorem R_succ {jt : Inj} {B : Nat} {x : Nat × Nat × Nat} (h : jt B = some x) : R jt (Nat.succ B) = (R jt B).add B x := by
  funext b
  show (if b < Nat.succ B then jt b else none) = if b = B then some x else (if b < B then jt b else none)
  by_cases e : b = B
  · subst e; rw [if_pos (Nat.lt_succ_self b), if_pos rfl, h]
  · rw [if_neg e]
    by_cases hlt : b < B
    · rw [if_pos hlt, if_pos (by omega)]
    · rw [if_neg hlt, if_neg (by omega)]
theorem Rel.grow {j : Inj} {H : Heap} {w w' : World} (h : Rel j H w) (hk : ∀ k, k < w.heap.size → w'.heap[k]? = w.heap[k]?) : Rel j H w' :=
  ⟨h.dom, fun b cs rb d n hb hj => let q := h.blk b cs rb d n hb hj; q.same (hk rb q.lt), h.inj, h.fresh, h.low⟩
theorem Ext.grow {j : Inj} {H : Heap} {w w' : World} (hk : ∀ k, k < w.heap.size → w'.heap[k]? = w.heap[k]?) (hs : w.heap.size ≤ w'.heap.size) (ho : w'.os = w.os) (ht : w'.tape = w.tape) (hq : w'.output = w.output) : Ext j H w j H w' :=
  ⟨Inj.le_refl j, Nat.le_refl _, fun _ _ h => .inl h, fun _ _ h => h, fun rb h _ => hk rb h, ho, ht, hq, hs, rfl, fun _ _ => rfl, fun _ _ rb _ _ _ _ _ h => hk rb h⟩
end Go.Proofs.YthnhdgcaolgdnaaAn
