/- Temporaries; regions in their own order. -/
import Derived.Test.YthnhdgcaolgdnaaAnL
set_option linter.unusedVariables false
set_option linter.unusedSimpArgs false
namespace Go.Proofs.YthnhdgcaolgdnaaAn
open Go

structure TRel (j : Inj) (N : Nat) (m : T AV) (ts : Array Value) : Prop where
  size : ts.size = N
  get : ∀ t, t < N → PutV j (m.get t) (ts.getD t undef)
  out : ∀ t, N ≤ t → m.get t = none
theorem PutV.mono {j j' : Inj} (h : j.le j') {r : Option AV} {v : Value} (hv : PutV j r v) : PutV j' r v := by
  cases r with
  | none => exact hv
  | some a => exact VR.mono h hv
theorem TRel.mono {j j' : Inj} (h : j.le j') {N : Nat} {m : T AV} {ts : Array Value} (ht : TRel j N m ts) : TRel j' N m ts :=
  ⟨ht.size, fun t hlt => (ht.get t hlt).mono h, ht.out⟩
section
variable {P : Program} {j : Inj} {N : Nat} {m : T AV} {a : Act}
theorem TRel.at (ht : TRel j N m a.tmps) {t : Nat} {v : AV} (h : m.get t = some v) : t < N ∧ VR j v (a.tmps.getD t undef) := by
  have hlt : t < N := by
    rcases Nat.lt_or_ge t N with h' | h'
    · exact h'
    · rw [ht.out t h'] at h; cases h
  have := ht.get t hlt
  rw [h] at this
  exact ⟨hlt, this⟩
theorem TRel.eval (ht : TRel j N m a.tmps) (x : Operand) (v : AV) (h : evA m x = some v) : VR j v (a.eval x) := by
  cases x with
  | tmp t => exact (ht.at h).2
  | const c => exact conv_VR h
  | global g => cases h
  | func f =>
    injection h with h; subst h
    exact VR.f' (vs := []) .nil
theorem TRel.put (ht : TRel j N m a.tmps) {dst : Option Tmp} {r : Option AV} {v : Value} {m' : T AV} (hp : putA N m dst r = some m') (hv : PutV j r v) : TRel j N m' (a.put dst v).tmps := by
  cases dst with
  | none => injection hp with hp; subst hp; exact ht
  | some d =>
    obtain ⟨hc, hp⟩ := cond_some hp
    injection hp with hp; subst hp
    have hlt := blt_lt hc
    refine ⟨by show (a.tmps.setIfInBounds d v).size = N; rw [Array.size_setIfInBounds]; exact ht.size, fun t h => ?_, fun t h => ?_⟩
    · show PutV j _ ((a.tmps.setIfInBounds d v).getD t undef)
      rw [T.get_set]
      by_cases e : t = d
      · subst e
        rw [if_pos rfl]
        have : (a.tmps.setIfInBounds t v).getD t undef = v := by
          have hs : t < a.tmps.size := by rw [ht.size]; exact h
          simp [Array.getD, hs]
        rw [this]; exact hv
      · rw [if_neg e]
        have : (a.tmps.setIfInBounds d v).getD t undef = a.tmps.getD t undef := by
          simp only [Array.getD_eq_getD_getElem?, Array.getElem?_setIfInBounds_ne (Ne.symm e)]
        rw [this]; exact ht.get t h
    · rw [T.get_set, if_neg (by omega)]; exact ht.out t h
theorem TRel.wanted (ht : TRel j N m a.tmps) {ops : Array Oper} {o : Oper} {c : Bool} (h : wantedA ops m o = some c) : Region.wanted o (yielded ops a.tmps) = c := by
  unfold wantedA at h
  unfold Region.wanted
  cases hg : o.guard with
  | none => rw [hg] at h; injection h with h
  | some gw =>
    obtain ⟨g, want⟩ := gw
    rw [hg] at h
    simp only at h ⊢
    unfold yielded
    cases hd : (ops[g]?).bind (·.dst) with
    | none => rw [hd] at h; cases h
    | some d =>
      rw [hd] at h
      simp only [Option.bind_some] at h ⊢
      cases hm : m.get d with
      | none =>
        rw [hm] at h
        injection h with h; subst h
        rcases Nat.lt_or_ge d N with hlt | hge
        · have := ht.get d hlt
          rw [hm] at this
          have hs : d < a.tmps.size := by rw [ht.size]; exact hlt
          have h2 : a.tmps[d]? = some undef := by
            rw [Array.getElem?_eq_getElem hs]
            have : a.tmps.getD d undef = undef := this
            simp [Array.getD, hs] at this
            rw [this]
          rw [h2]; rfl
        · have : a.tmps[d]? = none := Array.getElem?_eq_none (by rw [ht.size]; exact hge)
          rw [this]; rfl
      | some v =>
        obtain ⟨hlt, hv⟩ := ht.at hm
        have hs : d < a.tmps.size := by rw [ht.size]; exact hlt
        have h2 : a.tmps[d]? = some (a.tmps.getD d undef) := by
          rw [Array.getElem?_eq_getElem hs]; simp [Array.getD, hs]
        rw [h2]
        rw [hm] at h
        generalize a.tmps.getD d undef = u at hv
        cases hv <;> simp only at h <;> first | (cases h; done) | (injection h with h; try (subst h); try rfl)
end
theorem put_defers (a : Act) (dst : Option Tmp) (v : Value) : (a.put dst v).defers = a.defers := by cases dst <;> rfl

section
variable {P : Program} {call : CallA} {N : Nat} {ops : Array Oper} {Q : Exit → Act → World → Prop}
theorem opA_wp {j : Inj} {m m' : T AV} {a : Act} {H H' : Heap} {w : World} {o : Oper} {i : Nat} {K : Act → World → Prop} (hi : ops[i]? = some o) (h : opA P call N ops m H o = some (m', H')) (ht : TRel j N m a.tmps) (hR : Rel j H w) (hc : CallOk P call)
    (hK : ∀ a' w' j', TRel j' N m' a'.tmps → a'.defers = a.defers → Rel j' H' w' → Ext j H w j' H' w' → K a' w') : wpOp P ops Q i K a w := by
  unfold opA at h
  obtain ⟨c, hw, h⟩ := bind_some' h
  have hwt := ht.wanted hw
  unfold wpOp
  simp only [hi, hwt]
  cases c with
  | true =>
    simp only [cond_true] at h
    obtain ⟨e, he, h⟩ := bind_some' h
    obtain ⟨⟨r, H1⟩, hde, h⟩ := bind_some' h
    obtain ⟨m1, hp, h⟩ := map_some' h
    injection h with h1 h2; subst h1; subst h2
    rw [if_pos rfl]
    refine .inl (op_wp (does_of_aeff (fun x v => ht.eval x v) he) hde hR hc fun v' w' j' hv hR' hE => ?_)
    exact hK _ _ j' ((ht.mono hE.le).put hp hv) (put_defers _ _ _) hR' hE
  | false =>
    simp only [cond_false] at h
    obtain ⟨m1, hp, h⟩ := map_some' h
    injection h with h1 h2; subst h1; subst h2
    rw [if_neg (by simp)]
    exact hK _ _ j (ht.put hp rfl) (put_defers _ _ _) hR (Ext.refl _ _ _)
theorem opsA_wp (hc : CallOk P call) : ∀ (l : List Oper) (i : Nat) (j : Inj) (m m' : T AV) (a : Act) (H H' : Heap) (w : World), (∀ k o, l[k]? = some o → ops[i + k]? = some o) →
    opsA P call N ops l m H = some (m', H') → TRel j N m a.tmps → Rel j H w →
    (∀ a' w' j', TRel j' N m' a'.tmps → a'.defers = a.defers → Rel j' H' w' → Ext j H w j' H' w' → Q .normal a' w') → wpOps P ops Q (List.range' i l.length) a w
  | [], i, j, m, m', a, H, H', w, hl, h, ht, hR, hQ => by
    simp only [opsA] at h
    injection h with h; injection h with h1 h2; subst h1; subst h2
    exact hQ a w j ht rfl hR (Ext.refl _ _ _)
  | o :: rest, i, j, m, m', a, H, H', w, hl, h, ht, hR, hQ => by
    simp only [opsA] at h
    obtain ⟨⟨m1, H1⟩, h1, h⟩ := bind_some' h
    rw [List.length_cons, List.range'_succ, wpOps_cons]
    refine opA_wp (by have := hl 0 o rfl; simpa using this) h1 ht hR hc fun a1 w1 j1 ht1 hd1 hR1 hE1 => ?_
    refine opsA_wp hc rest (i + 1) j1 m1 m' a1 H1 H' w1 (fun k o' hk => by have := hl (k + 1) o' (by simpa using hk); rwa [show i + (k + 1) = i + 1 + k by omega] at this) h ht1 hR1 fun a2 w2 j2 ht2 hd2 hR2 hE2 => ?_
    exact hQ a2 w2 j2 ht2 (hd2.trans hd1) hR2 (hE1.trans hE2)
theorem region_plain (hc : CallOk P call) {id : Nat} {j : Inj} {m m' : T AV} {a : Act} {H H' : Heap} {w : World} (h : opsA P call N ops ops.toList m H = some (m', H')) (ht : TRel j N m a.tmps) (hR : Rel j H w)
    (hQ : ∀ a' w' j', TRel j' N m' a'.tmps → a'.defers = a.defers → Rel j' H' w' → Ext j H w j' H' w' → Q .normal a' w') : (Code.region id ops false).wp P Q a w := by
  refine wp_region ?_
  have := opsA_wp (Q := Q) (ops := ops) hc ops.toList 0 j m m' a H H' w (fun k o hk => by simpa using hk) h ht hR hQ
  rw [List.range_eq_range']
  simpa using this
end
end Go.Proofs.YthnhdgcaolgdnaaAn
