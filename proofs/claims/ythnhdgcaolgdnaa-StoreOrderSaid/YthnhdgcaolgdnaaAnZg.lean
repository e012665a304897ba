/- The conditions are sound: from round to round. -/
import Derived.Test.YthnhdgcaolgdnaaAnZf
set_option linter.unusedVariables false
set_option linter.unusedSimpArgs false
namespace Go.Proofs.YthnhdgcaolgdnaaAn
open Go
section
variable {ids ids' : Nat → Nat} {s s' : VS} {h h' : Hp} {m : T AV} {H H' : Heap}
theorem putT_L : ∀ {hv : List (Nat × Sh)} {xs : List SV} {s : VS}, (putT s hv xs).L = s.L ∧ (putT s hv xs).nl = s.nl ∧ s.st ≤ (putT s hv xs).st
  | [], xs, s => by cases xs <;> exact ⟨rfl, rfl, Nat.le_refl _⟩
  | (t, .one k) :: l, [], s => ⟨rfl, rfl, Nat.le_refl _⟩
  | (t, .one k) :: l, x :: xs, s => by
    obtain ⟨a, b, c⟩ := putT_L (hv := l) (xs := xs) (s := s.put t (some x))
    exact ⟨a, b, Nat.le_trans (Nat.le_succ _) c⟩
  | (t, .agg ks) :: l, xs, s => by
    obtain ⟨a, b, c⟩ := putT_L (hv := l) (xs := xs.drop ks.length) (s := s.put t (some (.ag (xs.take ks.length))))
    exact ⟨a, b, Nat.le_trans (Nat.le_succ _) c⟩
theorem putT_ne {t : Nat} : ∀ {hv : List (Nat × Sh)} {xs : List SV} {s : VS}, isIn t (hv.map (·.1)) = false → (putT s hv xs).m.get t = s.m.get t
  | [], xs, s, _ => by cases xs <;> rfl
  | (t', .one k) :: l, [], s, _ => rfl
  | (t', .one k) :: l, x :: xs, s, hn => by
    simp only [List.map_cons, isIn] at hn
    cases hb : Nat.beq t t' with
    | true => rw [hb] at hn; cases hn
    | false =>
      rw [hb, cond_false] at hn
      have hne : t ≠ t' := fun e => by subst e; rw [Nat.beq_refl] at hb; cases hb
      have := putT_ne (xs := xs) (s := s.put t' (some x)) hn
      exact this.trans (T.get_set_ne _ _ hne)
  | (t', .agg ks) :: l, xs, s, hn => by
    simp only [List.map_cons, isIn] at hn
    cases hb : Nat.beq t t' with
    | true => rw [hb] at hn; cases hn
    | false =>
      rw [hb, cond_false] at hn
      have hne : t ≠ t' := fun e => by subst e; rw [Nat.beq_refl] at hb; cases hb
      have := putT_ne (xs := xs.drop ks.length) (s := s.put t' (some (.ag (xs.take ks.length)))) hn
      exact this.trans (T.get_set_ne _ _ hne)
theorem putT_get : ∀ {hv : List (Nat × Sh)} {xs : List SV} {s : VS} {t st : Nat} {o : Option SV}, VT m hv xs → (∀ ids nl, SV.Goods ids nl xs) → (putT s hv xs).m.get t = some (st, o) → s.m.get t = some (st, o) ∨ (s.st ≤ st ∧ ∃ x, o = some x ∧ m.get t = some x.av ∧ ∀ ids nl, x.Good ids nl)
  | [], xs, s, t, st, o, _, _, h => by cases xs <;> exact .inl h
  | (t', .one k) :: l, [], s, t, st, o, hv, _, h => hv.elim
  | (t', .one k) :: l, x :: xs, s, t, st, o, hv, hg, h => by
    rcases putT_get (s := s.put t' (some x)) hv.2 (fun ids nl => (hg ids nl).2) h with e | ⟨e, f⟩
    · have e : (s.m.set t' (some (s.st, some x))).get t = some (st, o) := e
      rw [T.get_set] at e
      by_cases ht : t = t'
      · rw [if_pos ht] at e
        simp only [Option.some.injEq, Prod.mk.injEq] at e
        exact .inr ⟨by omega, x, e.2.symm, by rw [ht]; exact hv.1, fun ids nl => (hg ids nl).1⟩
      · rw [if_neg ht] at e; exact .inl e
    · have e : Nat.succ s.st ≤ st := e
      exact .inr ⟨by omega, f⟩
  | (t', .agg ks) :: l, xs, s, t, st, o, hv, hg, h => by
    rcases putT_get (s := s.put t' (some (.ag (xs.take ks.length)))) hv.2 (fun ids nl => Goods.drop (hg ids nl) _) h with e | ⟨e, f⟩
    · have e : (s.m.set t' (some (s.st, some (.ag (xs.take ks.length))))).get t = some (st, o) := e
      rw [T.get_set] at e
      by_cases ht : t = t'
      · rw [if_pos ht] at e
        simp only [Option.some.injEq, Prod.mk.injEq] at e
        exact .inr ⟨by omega, _, e.2.symm, by rw [ht]; exact hv.1, fun ids nl => Goods.take (hg ids nl) _⟩
      · rw [if_neg ht] at e; exact .inl e
    · have e : Nat.succ s.st ≤ st := e
      exact .inr ⟨by omega, f⟩
theorem putL_m : ∀ {hl : List (Nat × List Kd)} {xs : List SV} {s : VS}, (putL s hl xs).m = s.m ∧ (putL s hl xs).nl = s.nl ∧ s.st ≤ (putL s hl xs).st
  | [], xs, s => ⟨rfl, rfl, Nat.le_refl _⟩
  | (k, ks) :: l, xs, s => by
    unfold putL
    split
    · rename_i st id cs e
      obtain ⟨a, b, c⟩ := putL_m (hl := l) (xs := xs.drop ks.length) (s := s.setL k id (xs.take ks.length))
      exact ⟨a, b, Nat.le_trans (Nat.le_succ _) c⟩
    · exact putL_m
theorem putL_get {s3 : VS} : ∀ {hl : List (Nat × List Kd)} {xs : List SV} {s : VS} {k st id : Nat} {cs : List SV}, VL s3 hl xs → (∀ ids nl, SV.Goods ids nl xs) → allOne xs = true → (putL s hl xs).L.get k = some (st, id, cs) → (s.L.get k = some (st, id, cs) ∧ (isIn k (hl.map (·.1)) = false)) ∨ (s.L.get k = some (st, id, cs) ∧ ∃ s0, (putL s hl xs).L.get k = some s0 ∧ False) ∨
      (s.st ≤ st ∧ (∃ st0 cs0, s.L.get k = some (st0, id, cs0)) ∧ (∃ st3 id3 cs3, s3.L.get k = some (st3, id3, cs3) ∧ SV.avs cs = SV.avs cs3) ∧ (∀ ids nl, SV.Goods ids nl cs) ∧ allOne cs = true)
  | [], xs, s, k, st, id, cs, _, _, _, h => .inl ⟨h, rfl⟩
  | (k', ks) :: l, xs, s, k, st, id, cs, hv, hg, h1, h => by
    obtain ⟨⟨st3, id3, cs3, e3, a3⟩, hv⟩ := hv
    unfold putL at h
    split at h
    · rename_i st' id' cs' e
      rcases putL_get (s := s.setL k' id' (xs.take ks.length)) hv (fun ids nl => Goods.drop (hg ids nl) _) (One.drop h1 _) h with ⟨e2, hn⟩ | ⟨_, _, _, e2⟩ | ⟨e2, ⟨st0, cs0, f⟩, g⟩
      · have e2 : (s.L.set k' (some (s.st, id', xs.take ks.length))).get k = some (st, id, cs) := e2
        rw [T.get_set] at e2
        by_cases ht : k = k'
        · rw [if_pos ht] at e2
          simp only [Option.some.injEq, Prod.mk.injEq] at e2
          obtain ⟨q1, q2, q3⟩ := e2
          subst q2; subst q3; subst ht
          exact .inr (.inr ⟨by omega, ⟨st', cs', e⟩, ⟨st3, id3, cs3, e3, a3.symm⟩, fun ids nl => Goods.take (hg ids nl) _, One.take h1 _⟩)
        · rw [if_neg ht] at e2
          refine .inl ⟨e2, ?_⟩
          simp only [List.map_cons, isIn]
          have : Nat.beq k k' = false := by
            cases hb : Nat.beq k k' with
            | true => exact absurd (beq_eq' hb) ht
            | false => rfl
          rw [this, cond_false]; exact hn
      · exact e2.elim
      · have e2 : Nat.succ s.st ≤ st := e2
        have f : (s.L.set k' (some (s.st, id', xs.take ks.length))).get k = some (st0, id, cs0) := f
        rw [T.get_set] at f
        refine .inr (.inr ⟨by omega, ?_, g⟩)
        by_cases ht : k = k'
        · rw [if_pos ht] at f
          simp only [Option.some.injEq, Prod.mk.injEq] at f
          obtain ⟨_, q2, _⟩ := f
          subst q2; subst ht
          exact ⟨st', cs', e⟩
        · rw [if_neg ht] at f; exact ⟨st0, cs0, f⟩
    · rename_i e
      rcases putL_get hv (fun ids nl => Goods.drop (hg ids nl) _) (One.drop h1 _) h with ⟨e2, hn⟩ | ⟨_, _, _, e2⟩ | g
      · refine .inl ⟨e2, ?_⟩
        simp only [List.map_cons, isIn]
        have : Nat.beq k k' = false := by
          cases hb : Nat.beq k k' with
          | true => have := beq_eq' hb; subst this; rw [e] at e2; cases e2
          | false => rfl
        rw [this, cond_false]; exact hn
      · exact e2.elim
      · exact .inr (.inr g)
theorem putL_ne {k : Nat} : ∀ {hl : List (Nat × List Kd)} {xs : List SV} {s : VS}, isIn k (hl.map (·.1)) = false → (putL s hl xs).L.get k = s.L.get k
  | [], xs, s, _ => rfl
  | (k', ks) :: l, xs, s, hn => by
    simp only [List.map_cons, isIn] at hn
    cases hb : Nat.beq k k' with
    | true => rw [hb] at hn; cases hn
    | false =>
      rw [hb, cond_false] at hn
      have hne : k ≠ k' := fun e => by subst e; rw [Nat.beq_refl] at hb; cases hb
      unfold putL
      split
      · exact (putL_ne hn).trans (T.get_set_ne _ _ hne)
      · exact putL_ne hn
/-- **The head's state, known of a state in which nothing else has changed.** -/
theorem head_rel {N : Nat} {as : List Nat} {hv : List (Nat × Sh)} {hl : List (Nat × List Kd)} {vs : List SV} {idb : Nat → Nat} {sb : VS} {hb : Hp} {mb : T AV} {Hb : Heap} (Rb : RelV idb sb hb mb Hb) (R : RelV ids s h m H) (hnl : sb.nl ≤ s.nl) (hids : ∀ k, k < sb.nl → ids k = idb k)
    (hT : ∀ t x, t < N → isIn t as = false → sb.m.get t = some x → (isIn t (hv.map (·.1)) = false) → s.m.get t = some x) (hL : ∀ k x, isIn k (hl.map (·.1)) = false → sb.L.get k = some x → s.L.get k = some x) (hva : ∀ t, isIn t (hv.map (·.1)) = true → isIn t as = true)
    (hVT : VT m hv vs) (hVL : VL s hl (vs.drop (kindsT hv).length)) (hg : ∀ ids nl, SV.Goods ids nl vs) (h1 : allOne vs = true) :
    RelV ids (headOf N sb as hv hl vs) h m H ∧ Bk idb sb ids (headOf N sb as hv hl vs) ∧ TrH s h H (headOf N sb as hv hl vs) h H := by
  obtain ⟨l1, l2, l3⟩ := putL_m (hl := hl) (xs := vs.drop (kindsT hv).length) (s := putT (unS N sb as) hv vs)
  obtain ⟨p1, p2, p3⟩ := putT_L (hv := hv) (xs := vs) (s := unS N sb as)
  have hnlh : (headOf N sb as hv hl vs).nl = sb.nl := by unfold headOf; rw [l2, p2]; rfl
  have hsth : sb.st ≤ (headOf N sb as hv hl vs).st := Nat.le_trans p3 l3
  have hm : ∀ t st o, (headOf N sb as hv hl vs).m.get t = some (st, o) → (sb.m.get t = some (st, o) ∧ s.m.get t = some (st, o)) ∨ (sb.st ≤ st ∧ ∃ x, o = some x ∧ m.get t = some x.av ∧ ∀ ids nl, x.Good ids nl) := by
    intro t st o he
    unfold headOf at he
    rw [l1] at he
    cases hin : isIn t (hv.map (·.1)) with
    | true =>
      rcases putT_get hVT hg he with e | e
      · have e : (keepT sb.m as N).get t = some (st, o) := e
        rw [keepT_get, hva t hin, if_neg (by simp)] at e; cases e
      · exact .inr e
    | false =>
      rw [putT_ne hin] at he
      have e : (keepT sb.m as N).get t = some (st, o) := he
      rw [keepT_get] at e
      by_cases hc : t < N ∧ isIn t as = false
      · rw [if_pos hc] at e
        exact .inl ⟨e, hT t _ hc.1 hc.2 e hin⟩
      · rw [if_neg hc] at e; cases e
  have hLh : ∀ k st id cs, (headOf N sb as hv hl vs).L.get k = some (st, id, cs) → (sb.L.get k = some (st, id, cs) ∧ s.L.get k = some (st, id, cs)) ∨ (sb.st ≤ st ∧ (∃ st0 cs0, sb.L.get k = some (st0, id, cs0)) ∧ (∃ st3 id3 cs3, s.L.get k = some (st3, id3, cs3) ∧ SV.avs cs = SV.avs cs3) ∧ (∀ ids nl, SV.Goods ids nl cs) ∧ allOne cs = true) := by
    intro k st id cs he
    rcases putL_get hVL (fun ids nl => Goods.drop (hg ids nl) _) (One.drop h1 _) he with ⟨e, hn⟩ | ⟨_, _, _, e⟩ | ⟨e, ⟨st0, cs0, f⟩, g⟩
    · rw [p1] at e
      have e : sb.L.get k = some (st, id, cs) := e
      exact .inl ⟨e, hL k _ hn e⟩
    · exact e.elim
    · rw [p1] at f
      exact .inr ⟨Nat.le_trans p3 e, ⟨st0, cs0, f⟩, g⟩
  have hid : ∀ k st id cs, (headOf N sb as hv hl vs).L.get k = some (st, id, cs) → k < sb.nl ∧ id = ids k ∧ ∃ st' cs', s.L.get k = some (st', id, cs') := by
    intro k st id cs he
    rcases hLh k st id cs he with ⟨e, f⟩ | ⟨_, ⟨st0, cs0, f⟩, ⟨st3, id3, cs3, g1, g2⟩, _⟩
    · obtain ⟨⟨q1, q2⟩, _⟩ := Rb.loc k st id cs e
      exact ⟨q1, by rw [hids k q1]; exact q2, st, cs, f⟩
    · obtain ⟨⟨q1, q2⟩, _⟩ := Rb.loc k st0 id cs0 f
      have q3 : id = ids k := by rw [hids k q1]; exact q2
      have := (R.loc k st3 id3 cs3 g1).1.2
      exact ⟨q1, q3, st3, cs3, by rw [g1, this, q3]⟩
  refine ⟨⟨fun t st o he => ?_, fun t st x he => ?_, fun k st id cs he => ?_, fun k k' hk hk' => ?_, fun k hk => ?_, R.fits⟩, ⟨hsth, by rw [hnlh]; exact Nat.le_refl _, fun t st o he hlt => ?_, fun k st id cs he hlt => ?_, hids⟩, ⟨Nat.le_refl _, fun _ _ _ => rfl, fun b hs => ?_, rfl⟩⟩
  · rcases hm t st o he with ⟨_, e⟩ | ⟨_, x, rfl, e, _⟩
    · exact R.tm t st o e
    · exact e
  · rw [hnlh]
    rcases hm t st _ he with ⟨e, _⟩ | ⟨_, x', e, _, g⟩
    · exact good_mono (Nat.le_refl _) hids (Rb.good t st x e)
    · injection e with e; subst e; exact g _ _
  · obtain ⟨a1, a2, st', cs', a3⟩ := hid k st id cs he
    obtain ⟨_, ⟨b1, b2⟩, _⟩ := R.loc k st' id cs' a3
    rw [hnlh]
    rcases hLh k st id cs he with ⟨e, f⟩ | ⟨_, _, ⟨st3, id3, cs3, g1, g2⟩, g3, g4⟩
    · obtain ⟨_, ⟨c1, c2⟩, c3, c4⟩ := R.loc k st id cs f
      obtain ⟨_, _, d3, d4⟩ := Rb.loc k st id cs e
      exact ⟨⟨a1, a2⟩, ⟨c1, c2⟩, goods_mono (Nat.le_refl _) hids d3, c4⟩
    · rw [a3] at g1
      simp only [Option.some.injEq, Prod.mk.injEq] at g1
      obtain ⟨_, _, g1⟩ := g1
      subst g1
      exact ⟨⟨a1, a2⟩, ⟨by rw [g2]; exact b1, b2⟩, g3 _ _, g4⟩
  · rw [hnlh] at hk hk'
    exact R.inj k k' (by omega) (by omega)
  · rw [hnlh] at hk
    exact R.lt k (by omega)
  · rcases hm t st o he with ⟨e, _⟩ | ⟨e, _⟩
    · exact e
    · omega
  · rcases hLh k st id cs he with ⟨e, _⟩ | ⟨e, _⟩
    · exact e
    · omega
  · rcases hs with hs | ⟨k, st, cs, hk⟩
    · exact .inl (.inl hs)
    · obtain ⟨_, _, st', cs', a3⟩ := hid k st b cs hk
      exact .inl (.inr ⟨k, st', cs', a3⟩)
theorem keptT_spec {s0 s : VS} {hv : List Nat} : ∀ {N : Nat}, keptT s0 s hv N = true → ∀ t, t < N → ∀ x, s0.m.get t = some x → isIn t hv = false → ∃ st o, s.m.get t = some (st, o) ∧ st < s0.st
  | 0, _, t, ht, _, _, _ => by omega
  | N + 1, hk, t, ht, x, hx, hi => by
    unfold keptT at hk
    rw [Bool.and_eq_true] at hk
    by_cases e : t = N
    · subst e
      have h2 := hk.2
      rw [hx] at h2
      simp only [hi, Bool.false_or] at h2
      split at h2
      · rename_i st o hs
        exact ⟨st, o, hs, by simpa [Nat.blt_eq] using h2⟩
      · cases h2
    · exact keptT_spec hk.1 t (by omega) x hx hi
theorem keptL_spec {s0 s : VS} {hv : List Nat} : ∀ {N : Nat}, keptL s0 s hv N = true → ∀ t, t < N → ∀ x, s0.L.get t = some x → isIn t hv = false → ∃ st id cs, s.L.get t = some (st, id, cs) ∧ st < s0.st
  | 0, _, t, ht, _, _, _ => by omega
  | N + 1, hk, t, ht, x, hx, hi => by
    unfold keptL at hk
    rw [Bool.and_eq_true] at hk
    by_cases e : t = N
    · subst e
      have h2 := hk.2
      rw [hx] at h2
      simp only [hi, Bool.false_or] at h2
      split at h2
      · rename_i st id cs hs
        exact ⟨st, id, cs, hs, by simpa [Nat.blt_eq] using h2⟩
      · cases h2
    · exact keptL_spec hk.1 t (by omega) x hx hi
end
end Go.Proofs.YthnhdgcaolgdnaaAn
