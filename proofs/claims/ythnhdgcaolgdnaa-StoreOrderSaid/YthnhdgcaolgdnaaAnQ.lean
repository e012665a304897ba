/- Regions that draw their order: the proof. -/
import Derived.Test.YthnhdgcaolgdnaaAnP
set_option linter.unusedVariables false
set_option linter.unusedSimpArgs false
namespace Go.Proofs.YthnhdgcaolgdnaaAn
open Go

section
variable {P : Program} {call : CallA} {N : Nat} {ops : Array Oper} {ms : List Nat} {mS : Nat → T AV} {hS : Nat → Heap} {eS : Nat → Option Eff} {rS : Nat → Option AV} {j0 : Inj} {H0 : Heap} {w0 : World}

/-- what is known of the evaluator's own run -/
structure Ctx (P : Program) (call : CallA) (N : Nat) (ops : Array Oper) (ms : List Nat) (mS : Nat → T AV) (hS : Nat → Heap) (eS : Nat → Option Eff) (rS : Nat → Option AV) : Prop where
  draw : ∀ k o, ops[k]? = some o → DrawAt ops ms k o
  step : ∀ k o, ops[k]? = some o → StepA P call N ops mS hS eS rS k o
  rdk : ∀ k b q n f, eS k = some (.r b q n f) → k < ops.size → ∀ l e, l < k → eS l = some e → loudE e = true → ((ms.getD k 0).testBit l || sameA (hS l) (hS (l + 1)) b q n) = true
  ldk : ∀ k e, eS k = some e → k < ops.size → loudE e = true → ∀ l b q n f, l < k → eS l = some (.r b q n f) → ((ms.getD k 0).testBit l || sameA (hS k) (hS (k + 1)) b q n) = true
  out : ∀ t, N ≤ t → (mS 0).get t = none
theorem at_lt {k : Nat} {o : Oper} (h : ops[k]? = some o) : k < ops.size := (Array.getElem?_eq_some_iff.1 h).1
theorem at_of {k : Nat} (h : k < ops.size) : ∃ o, ops[k]? = some o := ⟨_, Array.getElem?_eq_getElem h⟩
variable (C : Ctx P call N ops ms mS hS eS rS)
include C
theorem Ctx.next_succ {k : Nat} (hk : k < ops.size) : (hS k).next ≤ (hS (k + 1)).next := by
  obtain ⟨o, ho⟩ := at_of hk
  rcases (C.step k o ho).eff with ⟨_, e, _, _, h⟩ | ⟨_, _, _, h⟩
  · exact doEff_next h
  · rw [h]; exact Nat.le_refl _
theorem Ctx.next_mono {k k' : Nat} (h : k ≤ k') (hk : k' ≤ ops.size) : (hS k).next ≤ (hS k').next := by
  induction k' with
  | zero => have : k = 0 := by omega
            subst this; exact Nat.le_refl _
  | succ k' ih =>
    by_cases e : k = k' + 1
    · subst e; exact Nat.le_refl _
    · exact Nat.le_trans (ih (by omega) (by omega)) (C.next_succ (by omega))
/-- a step that is not loud: the memory is the same, but for one new block -/
theorem Ctx.quiet {k : Nat} (hk : k < ops.size) (hq : ∀ e, eS k = some e → loudE e = false) : hS (k + 1) = hS k ∨ ∃ c f, eS k = some (.a c f) ∧ hS (k + 1) = alloc (hS k) c := by
  obtain ⟨o, ho⟩ := at_of hk
  rcases (C.step k o ho).eff with ⟨_, e, he, _, h⟩ | ⟨_, _, _, h⟩
  · have := hq e he
    cases e <;> first | (cases this; done) | skip
    · injection h with h; injection h with h1 h2; exact .inl h2.symm
    · obtain ⟨cs, _, h⟩ := bind_some' h
      obtain ⟨v, _, h⟩ := map_some' h
      injection h with h1 h2; exact .inl h2.symm
    · injection h with h; injection h with h1 h2; exact .inr ⟨_, _, he, h2.symm⟩
  · exact .inl h
theorem Ctx.loud_static {k : Nat} {o : Oper} (ho : ops[k]? = some o) {e : Eff} (he : eS k = some e) (hl : loudE e = true) : loud o = true := by
  cases hs : loud o with
  | true => rfl
  | false =>
    rcases (C.step k o ho).eff with ⟨_, e', he', ha, _⟩ | ⟨_, hn, _, _⟩
    · rw [he] at he'; injection he' with he'; subst he'
      rcases quiet_eff hs ha with ⟨_, rfl⟩ | ⟨_, _, _, _, rfl⟩ | ⟨_, _, rfl, _⟩ <;> cases hl
    · rw [he] at hn; cases hn
theorem Ctx.makes_static {k : Nat} {o : Oper} (ho : ops[k]? = some o) {c : List AV} {f : Nat → AV} (he : eS k = some (.a c f)) (hs : loud o = false) : makes o = true := by
  rcases (C.step k o ho).eff with ⟨_, e', he', ha, _⟩ | ⟨_, hn, _, _⟩
  · rw [he] at he'; injection he' with he'; subst he'
    rcases quiet_eff hs ha with ⟨_, h⟩ | ⟨_, _, _, _, h⟩ | ⟨_, _, h, hm⟩
    · cases h
    · cases h
    · exact hm
  · rw [he] at hn; cases hn
theorem Ctx.outs : ∀ k, k ≤ ops.size → ∀ t, N ≤ t → (mS k).get t = none
  | 0, _, t, ht => C.out t ht
  | k + 1, hk, t, ht => by
    obtain ⟨o, ho⟩ := at_of (ops := ops) (k := k) (by omega)
    have hp := (C.step k o ho).put
    have ih := Ctx.outs k (by omega) t ht
    unfold putA at hp
    cases hd : o.dst with
    | none => rw [hd] at hp; injection hp with hp; rw [← hp]; exact ih
    | some d =>
      rw [hd] at hp
      obtain ⟨hc, hp⟩ := cond_some hp
      injection hp with hp
      have := blt_lt hc
      rw [← hp, T.get_set, if_neg (by omega)]
      exact ih
/-- a temporary that the operations from k on to k' do not write -/
theorem Ctx.kept {t : Nat} : ∀ {k k' : Nat}, k ≤ k' → k' ≤ ops.size → (∀ i o, k ≤ i → i < k' → ops[i]? = some o → o.dst ≠ some t) → (mS k').get t = (mS k).get t := by
  intro k k' h hk' hw
  induction k' with
  | zero => have : k = 0 := by omega
            subst this; rfl
  | succ k' ih =>
    by_cases e : k = k' + 1
    · subst e; rfl
    · rw [← ih (by omega) (by omega) fun i o h1 h2 => hw i o h1 (by omega)]
      obtain ⟨o, ho⟩ := at_of (ops := ops) (k := k') (by omega)
      have hp := (C.step k' o ho).put
      have hne := hw k' o (by omega) (by omega) ho
      unfold putA at hp
      cases hd : o.dst with
      | none => rw [hd] at hp; injection hp with hp; rw [← hp]
      | some d =>
        rw [hd] at hp
        obtain ⟨_, hp⟩ := cond_some hp
        injection hp with hp
        rw [← hp, T.get_set, if_neg (fun e => hne (by rw [hd, e]))]
omit C
def Cons (ops : Array Oper) (S : Nat → Prop) (t k : Nat) : Prop := ∀ i o, ops[i]? = some o → o.dst = some t → (i < k → S i) ∧ (k ≤ i → ¬ S i)
structure Inv (N : Nat) (ops : Array Oper) (mS : Nat → T AV) (hS : Nat → Heap) (eS : Nat → Option Eff) (j0 : Inj) (H0 : Heap) (w0 : World) (jt : Inj) (p : Nat) (S : Nat → Prop) (ts : Array Value) (w : World) : Prop where
  closed : ∀ k o, ops[k]? = some o → S k → ∀ e ∈ o.after, Region.binds .any e = true → S e.on
  loudp : ∀ k o, ops[k]? = some o → loud o = true → (S k ↔ k < p)
  made : ∀ k o, ops[k]? = some o → makes o = true → k < p → S k
  pn : p ≤ ops.size
  rel : Rel (R jt (hS p).next) (hS p) w
  fresh : ∀ k, k ≤ p → ∀ b, (hS k).next ≤ b → (hS k).get b = none
  dom : ∀ b x, jt b = some x → (hS p).next ≤ b → ∃ k c f, S k ∧ p ≤ k ∧ k < ops.size ∧ eS k = some (.a c f) ∧ b = (hS k).next
  fut : ∀ k c f, S k → p ≤ k → k < ops.size → eS k = some (.a c f) → ∃ rb sz, jt (hS k).next = some (rb, 0, sz) ∧ Holds false (R jt (hS k).next) w c rb 0 sz ∧ ¬ Own (R jt (hS p).next) (hS p) rb ∧ w0.heap.size ≤ rb
  futinj : ∀ k c f k' c' f', S k → p ≤ k → k < ops.size → eS k = some (.a c f) → S k' → p ≤ k' → k' < ops.size → eS k' = some (.a c' f') → ∀ rb sz sz', jt (hS k).next = some (rb, 0, sz) → jt (hS k').next = some (rb, 0, sz') → k = k'
  tm : ∀ t k, t < N → k ≤ ops.size → Cons ops S t k → PutV (R jt (hS (max k p)).next) ((mS k).get t) (ts.getD t undef)
  size : ts.size = N
  ext : Ext j0 H0 w0 (R jt (hS p).next) (hS p) w
include C
variable {jt : Inj} {p : Nat} {S : Nat → Prop} {ts : Array Value} {w : World}
/-- from p on to q, where no loud one lies between -/
theorem Ctx.advance (I : Inv N ops mS hS eS j0 H0 w0 jt p S ts w) {q : Nat} (hpq : p ≤ q) (hq : q ≤ ops.size) (hl : ∀ k o, p ≤ k → k < q → ops[k]? = some o → loud o = false) (hm : ∀ k o, p ≤ k → k < q → ops[k]? = some o → makes o = true → S k) :
    Rel (R jt (hS q).next) (hS q) w ∧ Ext j0 H0 w0 (R jt (hS q).next) (hS q) w ∧
    (∀ rb, Own (R jt (hS q).next) (hS q) rb → Own (R jt (hS p).next) (hS p) rb ∨ ∃ k c f sz, S k ∧ p ≤ k ∧ k < q ∧ eS k = some (.a c f) ∧ jt (hS k).next = some (rb, 0, sz)) ∧
    (∀ k, k ≤ q → ∀ b, (hS k).next ≤ b → (hS k).get b = none) := by
  induction q with
  | zero => have : p = 0 := by omega
            subst this; exact ⟨I.rel, I.ext, fun rb h => .inl h, I.fresh⟩
  | succ q ih =>
    by_cases e : p = q + 1
    · subst e; exact ⟨I.rel, I.ext, fun rb h => .inl h, I.fresh⟩
    · obtain ⟨i1, i2, i3, i4⟩ := ih (by omega) (by omega) (fun k o h1 h2 => hl k o h1 (by omega)) (fun k o h1 h2 => hm k o h1 (by omega))
      obtain ⟨o, ho⟩ := at_of (ops := ops) (k := q) (by omega)
      have hlo := hl q o (by omega) (by omega) ho
      have hqe : ∀ e, eS q = some e → loudE e = false := by
        intro e he
        cases hle : loudE e with
        | false => rfl
        | true => have := C.loud_static ho he hle; rw [hlo] at this; cases this
      have key : Rel (R jt (hS (q + 1)).next) (hS (q + 1)) w ∧ Ext j0 H0 w0 (R jt (hS (q + 1)).next) (hS (q + 1)) w ∧
          (∀ rb, Own (R jt (hS (q + 1)).next) (hS (q + 1)) rb → Own (R jt (hS p).next) (hS p) rb ∨ ∃ k c f sz, S k ∧ p ≤ k ∧ k < q + 1 ∧ eS k = some (.a c f) ∧ jt (hS k).next = some (rb, 0, sz)) := by
        rcases C.quiet (by omega) hqe with h | ⟨c, f, he, h⟩
        · rw [h]
          exact ⟨i1, i2, fun rb ho => (i3 rb ho).imp id fun ⟨k, c, f, sz, h1, h2, h3, h4, h5⟩ => ⟨k, c, f, sz, h1, h2, by omega, h4, h5⟩⟩
        · have hSq := hm q o (by omega) (by omega) ho (C.makes_static ho he hlo)
          obtain ⟨rb, sz, f1, f2, f3, f4⟩ := I.fut q c f hSq (by omega) (by omega) he
          have hno : ¬ Own (R jt (hS q).next) (hS q) rb := by
            intro hown
            rcases i3 rb hown with h1 | ⟨k, c', f', sz', g1, g2, g3, g4, g5⟩
            · exact f3 h1
            · have := I.futinj q c f k c' f' hSq (by omega) (by omega) he g1 g2 (by omega) g4 rb sz sz' f1 g5
              omega
          have hR' : R jt (hS (q + 1)).next = (R jt (hS q).next).add (hS q).next (rb, 0, sz) := by
            rw [h]; exact R_succ f1
          have hrel := i1.adopt f2 hno
          rw [hR', h]
          have hle : (R jt (hS q).next).le ((R jt (hS q).next).add (hS q).next (rb, 0, sz)) := Inj.le_add _ i1.next_none
          have hown : ∀ rb', Own ((R jt (hS q).next).add (hS q).next (rb, 0, sz)) (alloc (hS q) c) rb' → rb' = rb ∨ Own (R jt (hS q).next) (hS q) rb' := by
            rintro rb' ⟨b, cs, d, m, hb, hj⟩
            rw [get_alloc] at hb
            by_cases eb : b = (hS q).next
            · subst eb
              rw [Inj.add_same] at hj; injection hj with hj; injection hj with h1 _
              exact .inl h1.symm
            · rw [if_neg eb] at hb
              rw [Inj.add_ne _ _ eb] at hj
              exact .inr ⟨b, cs, d, m, hb, hj⟩
          refine ⟨hrel, ⟨Inj.le_trans i2.le hle, Nat.le_trans i2.next (Nat.le_succ _), fun b x hb => ?_, fun rb' hrb ho' => ?_, i2.keep, i2.os, i2.tape, i2.output, i2.size, i2.low, fun b hb => ?_, i2.rw⟩, fun rb' ho' => ?_⟩
          · by_cases eb : b = (hS q).next
            · exact .inr (by rw [eb]; exact i2.next)
            · rw [Inj.add_ne _ _ eb] at hb; exact i2.new b x hb
          · rcases hown rb' ho' with h1 | h1
            · omega
            · exact i2.own rb' hrb h1
          · have hlow := i1.low
            rw [i2.low] at hlow
            rw [get_alloc, if_neg (by omega)]
            exact i2.ro b hb
          · rcases hown rb' ho' with h1 | h1
            · subst h1
              exact .inr ⟨q, c, f, sz, hSq, by omega, by omega, he, f1⟩
            · exact (i3 rb' h1).imp id fun ⟨k, c, f, sz, h1, h2, h3, h4, h5⟩ => ⟨k, c, f, sz, h1, h2, by omega, h4, h5⟩
      refine ⟨key.1, key.2.1, key.2.2, fun k hk => ?_⟩
      by_cases ek : k = q + 1
      · subst ek; exact key.1.fresh
      · exact i4 k (by omega)
theorem Ctx.bit {i x : Nat} {o y : Oper} (hi : ops[i]? = some o) (hx : ops[x]? = some y) (hlt : i < x) (hno : ¬ ((o.apart ops y && !(loud o && loud y) && !(makes o && loud y)) = true)) : (maskOf (ms.take x) y.after.toList).testBit i = true := by
  have := (C.draw x y hx).pairs i o hi hlt
  unfold pairOk at this
  rw [Bool.or_eq_true] at this
  exact this.resolve_left hno
theorem Ctx.mask_get {x : Nat} {y : Oper} (hx : ops[x]? = some y) : ms.getD x 0 = maskOf (ms.take x) y.after.toList := by
  rw [List.getD_eq_getElem?_getD, (C.draw x y hx).mask]; rfl
/-- what is looked at, or written, is as it was -/
theorem Ctx.cons_look (hcl : ∀ k o, ops[k]? = some o → S k → ∀ e ∈ o.after, Region.binds .any e = true → S e.on) {i : Nat} {o : Oper} (hi : ops[i]? = some o) (hS' : ¬ S i) (hready : ∀ e ∈ o.after, Region.binds .any e = true → S e.on) {t : Nat} (ht : t ∈ o.looksAt ops ∨ o.dst = some t) : Cons ops S t i := by
  intro x y hx hd
  refine ⟨fun hlt => ?_, fun hge hSx => ?_⟩
  · have hna : ¬ (y.apart ops o = true) := by
      intro ha
      obtain ⟨a1, a2, a3⟩ := Oper.apart_spec ha
      rcases ht with h | h
      · exact a1 t hd h
      · exact a2 t hd h
    have hb := C.bit hx hi hlt (by intro h; simp only [Bool.and_eq_true] at h; exact hna h.1.1)
    exact mask_closed C.draw S hcl i o hi hready hb
  · by_cases e : x = i
    · subst e; exact hS' hSx
    · have hna : ¬ (o.apart ops y = true) := by
        intro ha
        obtain ⟨a1, a2, a3⟩ := Oper.apart_spec ha
        rcases ht with h | h
        · exact a3 t hd h
        · exact a2 t h hd
      have hb := C.bit hi hx (by omega) (by intro h; simp only [Bool.and_eq_true] at h; exact hna h.1.1)
      exact hS' (mask_closed C.draw S hcl x y hx (hcl x y hx hSx) hb)
/-- the temporaries behind an operation -/
theorem Ctx.tm_step (I : Inv N ops mS hS eS j0 H0 w0 jt p S ts w) {i : Nat} {o : Oper} (hi : ops[i]? = some o) (hSi : ¬ S i) {jt' : Inj} {p' : Nat} (hp : p ≤ p') (hp' : p' ≤ ops.size)
    (hjt : ∀ B, B ≤ (hS ops.size).next → (R jt B).le (R jt' B)) {a : Act} (ha : a.tmps = ts) {v' : Value} (hv : PutV (R jt' (hS (max (i + 1) p')).next) (rS i) v') :
    ∀ t k, t < N → k ≤ ops.size → Cons ops (fun x => S x ∨ x = i) t k → PutV (R jt' (hS (max k p')).next) ((mS k).get t) ((a.put o.dst v').tmps.getD t undef) := by
  intro t k htN hk hc
  have hil := at_lt hi
  by_cases hd : o.dst = some t
  · have hik : i < k := by
      rcases Nat.lt_or_ge i k with h | h
      · exact h
      · exact absurd (.inr rfl) ((hc i o hi hd).2 h)
    have hkept : (mS k).get t = (mS (i + 1)).get t := by
      refine C.kept (by omega) hk fun x y h1 h2 hx hxd => ?_
      have hSx := ((hc x y hx hxd).1 h2).resolve_right (by omega)
      have hna : ¬ (o.apart ops y = true) := fun hap => (Oper.apart_spec hap).2.1 t hd hxd
      have hb := C.bit hi hx (by omega) (by intro h; simp only [Bool.and_eq_true] at h; exact hna h.1.1)
      exact hSi (mask_closed C.draw S I.closed x y hx (I.closed x y hx hSx) hb)
    have hput := (C.step i o hi).put
    unfold putA at hput
    rw [hd] at hput
    obtain ⟨_, hput⟩ := cond_some hput
    injection hput with hput
    rw [hkept, ← hput, T.get_set, if_pos rfl]
    have hget : (a.put o.dst v').tmps.getD t undef = v' := by
      rw [hd]
      show (a.tmps.setIfInBounds t v').getD t undef = v'
      have hs : t < a.tmps.size := by rw [ha, I.size]; exact htN
      simp [Array.getD, hs]
    rw [hget]
    exact hv.mono (R_mono (C.next_mono (by omega) (by omega)))
  · have hget : (a.put o.dst v').tmps.getD t undef = ts.getD t undef := by
      cases hdd : o.dst with
      | none => show a.tmps.getD t undef = _; rw [ha]
      | some d =>
        show (a.tmps.setIfInBounds d v').getD t undef = _
        have hne : d ≠ t := fun e => hd (by rw [hdd, e])
        simp only [Array.getD_eq_getD_getElem?, Array.getElem?_setIfInBounds_ne hne, ha]
    rw [hget]
    have hc' : Cons ops S t k := by
      intro x y hx hxd
      have hxi : x ≠ i := fun e => hd (by subst e; rw [hi] at hx; injection hx with hx; rw [hx]; exact hxd)
      exact ⟨fun h => ((hc x y hx hxd).1 h).resolve_right hxi, fun h hSx => (hc x y hx hxd).2 h (.inl hSx)⟩
    have := I.tm t k htN hk hc'
    refine this.mono (Inj.le_trans (R_mono (C.next_mono (k := max k p) (k' := max k p') (by omega) (by omega))) (hjt _ (C.next_mono (by omega) (Nat.le_refl _))))
end
end Go.Proofs.YthnhdgcaolgdnaaAn
