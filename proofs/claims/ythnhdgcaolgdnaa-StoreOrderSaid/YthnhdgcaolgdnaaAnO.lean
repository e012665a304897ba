/- Regions that draw their order: the evaluator's own run, written down. -/
import Derived.Test.YthnhdgcaolgdnaaAnN
set_option linter.unusedVariables false
set_option linter.unusedSimpArgs false
namespace Go.Proofs.YthnhdgcaolgdnaaAn
open Go

/-! ### the masks -/
theorem maskOf_bit {acc : List Nat} {i : Nat} : ∀ {es : List Edge}, (maskOf acc es).testBit i = true → ∃ e ∈ es, Region.binds .any e = true ∧ (e.on = i ∨ (acc.getD e.on 0).testBit i = true)
  | [], h => by simp [maskOf] at h
  | e :: es, h => by
    simp only [maskOf] at h
    cases hb : Region.binds .any e with
    | false =>
      rw [hb, cond_false] at h
      obtain ⟨e', h1, h2⟩ := maskOf_bit h
      exact ⟨e', List.mem_cons_of_mem _ h1, h2⟩
    | true =>
      rw [hb, cond_true] at h
      have e1 : ∀ a b : Nat, Nat.lor a b = a ||| b := fun _ _ => rfl
      have e2 : Nat.pow 2 e.on = 2 ^ e.on := rfl
      rw [e1, e1, e2, Nat.testBit_or, Nat.testBit_or, Nat.testBit_two_pow] at h
      simp only [Bool.or_eq_true, decide_eq_true_eq] at h
      rcases h with (h | h) | h
      · exact ⟨e, by simp, hb, .inl h⟩
      · exact ⟨e, by simp, hb, .inr h⟩
      · obtain ⟨e', h1, h2⟩ := maskOf_bit h
        exact ⟨e', List.mem_cons_of_mem _ h1, h2⟩
theorem edgesOk_spec {n : Nat} : ∀ {es : List Edge}, edgesOk n es = true → ∀ e ∈ es, Region.binds .any e = true → e.on < n
  | [], _, e, he, _ => by cases he
  | x :: es, h, e, he, hb => by
    simp only [edgesOk, Bool.and_eq_true] at h
    cases he with
    | head => rw [hb, cond_true] at h; exact blt_lt h.1
    | tail _ he => exact edgesOk_spec h.2 e he hb
theorem pairsOk_spec {ops : Array Oper} {y : Oper} {m : Nat} : ∀ {xs : List Oper} {i : Nat}, pairsOk ops y m i xs = true → ∀ k x, xs[k]? = some x → pairOk ops x y m (i + k) = true
  | [], _, _, k, x, hk => by simp at hk
  | x0 :: xs, i, h, k, x, hk => by
    simp only [pairsOk, Bool.and_eq_true] at h
    cases k with
    | zero => simp at hk; subst hk; exact h.1
    | succ k => have := pairsOk_spec h.2 k x (by simpa using hk); rwa [show i + 1 + k = i + (k + 1) by omega] at this
structure DrawAt (ops : Array Oper) (ms : List Nat) (k : Nat) (o : Oper) : Prop where
  mask : ms[k]? = some (maskOf (ms.take k) o.after.toList)
  edges : edgesOk k o.after.toList = true
  pairs : ∀ i x, ops[i]? = some x → i < k → pairOk ops x o (maskOf (ms.take k) o.after.toList) i = true
  nosel : ∀ cs b, o.op ≠ .select cs b
theorem drawMs_spec {ops : Array Oper} : ∀ (rest prev : List Oper) (acc ms : List Nat), drawMs ops prev rest acc = some ms → prev.length = acc.length → ops.toList = prev ++ rest →
    (∃ tail, ms = acc ++ tail ∧ tail.length = rest.length) ∧ ∀ k o, rest[k]? = some o → DrawAt ops ms (acc.length + k) o
  | [], prev, acc, ms, h, hl, ho => by
    simp only [drawMs] at h
    injection h with h; subst h
    exact ⟨⟨[], by simp, rfl⟩, fun k o hk => by simp at hk⟩
  | o :: rest, prev, acc, ms, h, hl, ho => by
    simp only [drawMs] at h
    obtain ⟨hc, h⟩ := cond_some h
    simp only [Bool.and_eq_true] at hc
    obtain ⟨⟨c1, c2⟩, c3⟩ := hc
    obtain ⟨⟨tail, ht, htl⟩, ih⟩ := drawMs_spec rest (prev ++ [o]) _ ms h (by simp [hl]) (by simp [ho])
    refine ⟨⟨maskOf acc o.after.toList :: tail, by rw [ht]; simp, by simp [htl]⟩, fun k o' hk => ?_⟩
    cases k with
    | zero =>
      simp at hk; subst hk
      have htake : ms.take acc.length = acc := by rw [ht]; simp
      have hget : ms[acc.length]? = some (maskOf acc o.after.toList) := by rw [ht]; simp
      refine ⟨by rw [Nat.add_zero, htake]; exact hget, by simpa using c1, fun i x hi hlt => ?_, fun cs b e => ?_⟩
      · rw [Nat.add_zero] at hlt
        rw [Nat.add_zero, htake]
        have hp : prev[i]? = some x := by
          have : ops.toList[i]? = some x := by simpa using hi
          rw [ho, List.getElem?_append_left (by omega)] at this; exact this
        have := pairsOk_spec c2 i x hp
        simpa using this
      · rw [e] at c3; cases c3
    | succ k =>
      have := ih k o' (by simpa using hk)
      rwa [show (acc ++ [maskOf acc o.after.toList]).length + k = acc.length + (k + 1) by simp; omega] at this
/-- what stands ahead, by the mask, stands in every closed set -/
theorem mask_closed {ops : Array Oper} {ms : List Nat} (hd : ∀ k o, ops[k]? = some o → DrawAt ops ms k o) (S : Nat → Prop) (hS : ∀ k o, ops[k]? = some o → S k → ∀ e ∈ o.after, Region.binds .any e = true → S e.on) {i : Nat} :
    ∀ (k : Nat) (o : Oper), ops[k]? = some o → (∀ e ∈ o.after, Region.binds .any e = true → S e.on) → (maskOf (ms.take k) o.after.toList).testBit i = true → S i := by
  intro k
  induction k using Nat.strongRecOn with
  | _ k ih =>
    intro o ho he hb
    obtain ⟨e, h1, h2, h3⟩ := maskOf_bit hb
    have hmem : e ∈ o.after := Array.mem_toList_iff.1 h1
    have hs := he e hmem h2
    rcases h3 with h3 | h3
    · subst h3; exact hs
    · have hlt := edgesOk_spec (hd k o ho).edges e h1 h2
      have hk : k < ops.size := (Array.getElem?_eq_some_iff.1 ho).1
      have hox : ops[e.on]? = some ops[e.on] := Array.getElem?_eq_getElem (by omega)
      have hm := (hd e.on _ hox).mask
      have hget : (ms.take k).getD e.on 0 = maskOf (ms.take e.on) ops[e.on].after.toList := by
        rw [List.getD_eq_getElem?_getD, List.getElem?_take_of_lt hlt, hm]; rfl
      rw [hget] at h3
      exact ih e.on hlt _ hox (hS e.on _ hox hs) h3

/-! ### the evaluator's own run -/
def loudE : Eff → Bool
  | .q _ | .r .. | .a .. => false
  | _ => true
structure StepA (P : Program) (call : CallA) (N : Nat) (ops : Array Oper) (mS : Nat → T AV) (hS : Nat → Heap) (eS : Nat → Option Eff) (rS : Nat → Option AV) (i : Nat) (o : Oper) : Prop where
  eff : (wantedA ops (mS i) o = some true ∧ ∃ e, eS i = some e ∧ aeff P (evA (mS i)) o = some e ∧ doEff call (hS i) e = some (rS i, hS (i + 1))) ∨
    (wantedA ops (mS i) o = some false ∧ eS i = none ∧ rS i = none ∧ hS (i + 1) = hS i)
  put : putA N (mS i) o.dst (rS i) = some (mS (i + 1))
structure RunD (P : Program) (call : CallA) (N : Nat) (ops : Array Oper) (rest : List Oper) (mks : List Nat) (i : Nat) (rs : List (Nat × Nat × Nat × Nat)) (ls : List (Nat × Heap × Heap)) (mS : Nat → T AV) (hS : Nat → Heap) (eS : Nat → Option Eff) (rS : Nat → Option AV) : Prop where
  step : ∀ k o, rest[k]? = some o → StepA P call N ops mS hS eS rS (i + k) o
  rdl : ∀ k b q n f, k < rest.length → eS (i + k) = some (.r b q n f) → ∀ x ∈ ls, ((mks.getD k 0).testBit x.1 || sameA x.2.1 x.2.2 b q n) = true
  rdk : ∀ k b q n f, k < rest.length → eS (i + k) = some (.r b q n f) → ∀ l e, l < k → eS (i + l) = some e → loudE e = true → ((mks.getD k 0).testBit (i + l) || sameA (hS (i + l)) (hS (i + l + 1)) b q n) = true
  ldr : ∀ k e, k < rest.length → eS (i + k) = some e → loudE e = true → ∀ x ∈ rs, ((mks.getD k 0).testBit x.1 || sameA (hS (i + k)) (hS (i + k + 1)) x.2.1 x.2.2.1 x.2.2.2) = true
  ldk : ∀ k e, k < rest.length → eS (i + k) = some e → loudE e = true → ∀ l b q n f, l < k → eS (i + l) = some (.r b q n f) → ((mks.getD k 0).testBit (i + l) || sameA (hS (i + k)) (hS (i + k + 1)) b q n) = true
theorem lsOk_spec {m b q n : Nat} : ∀ {ls : List (Nat × Heap × Heap)}, lsOk m b q n ls = true → ∀ x ∈ ls, (m.testBit x.1 || sameA x.2.1 x.2.2 b q n) = true
  | [], _, x, hx => by cases hx
  | (l, H, H') :: ls, h, x, hx => by
    simp only [lsOk, Bool.and_eq_true] at h
    cases hx with
    | head => exact h.1
    | tail _ hx => exact lsOk_spec h.2 x hx
theorem rsOk_spec {m : Nat} {H H' : Heap} : ∀ {rs : List (Nat × Nat × Nat × Nat)}, rsOk m H H' rs = true → ∀ x ∈ rs, (m.testBit x.1 || sameA H H' x.2.1 x.2.2.1 x.2.2.2) = true
  | [], _, x, hx => by cases hx
  | (r, b, q, n) :: rs, h, x, hx => by
    simp only [rsOk, Bool.and_eq_true] at h
    cases hx with
    | head => exact h.1
    | tail _ hx => exact rsOk_spec h.2 x hx
def upd {α : Type} (f : Nat → α) (i : Nat) (x : α) : Nat → α := fun k => if k = i then x else f k
theorem upd_same {α : Type} (f : Nat → α) (i : Nat) (x : α) : upd f i x i = x := if_pos rfl
theorem upd_ne {α : Type} (f : Nat → α) {i k : Nat} (x : α) (h : k ≠ i) : upd f i x k = f k := if_neg h
section
variable {P : Program} {call : CallA} {N : Nat} {ops : Array Oper}
/-- one step ahead of a run -/
theorem RunD.cons {rest : List Oper} {mk : Nat} {mks : List Nat} {i : Nat} {rs rs' : List (Nat × Nat × Nat × Nat)} {ls ls' : List (Nat × Heap × Heap)} {mS : Nat → T AV} {hS : Nat → Heap} {eS : Nat → Option Eff} {rS : Nat → Option AV} {o : Oper} {m m1 : T AV} {H H1 : Heap} {e : Option Eff} {r : Option AV}
    (hr : RunD P call N ops rest mks (i + 1) rs' ls' mS hS eS rS) (hm : mS (i + 1) = m1) (hH : hS (i + 1) = H1)
    (heff : (wantedA ops m o = some true ∧ ∃ e', e = some e' ∧ aeff P (evA m) o = some e' ∧ doEff call H e' = some (r, H1)) ∨ (wantedA ops m o = some false ∧ e = none ∧ r = none ∧ H1 = H))
    (hput : putA N m o.dst r = some m1)
    (hrs : ∀ x ∈ rs, x ∈ rs') (hls : ∀ x ∈ ls, x ∈ ls')
    (hrd : ∀ b q n f, e = some (.r b q n f) → (∀ x ∈ ls, (mk.testBit x.1 || sameA x.2.1 x.2.2 b q n) = true) ∧ (i, b, q, n) ∈ rs')
    (hld : ∀ e', e = some e' → loudE e' = true → (∀ x ∈ rs, (mk.testBit x.1 || sameA H H1 x.2.1 x.2.2.1 x.2.2.2) = true) ∧ (i, H, H1) ∈ ls') :
    RunD P call N ops (o :: rest) (mk :: mks) i rs ls (upd mS i m) (upd hS i H) (upd eS i e) (upd rS i r) := by
  have u1 : ∀ k, i + (k + 1) ≠ i := fun k => by omega
  have u2 : ∀ k, i + k + 1 ≠ i := fun k => by omega
  refine ⟨fun k o' hk => ?_, fun k b q n f hk he x hx => ?_, fun k b q n f hk he l e' hl hel hle => ?_, fun k e' hk he hle x hx => ?_, fun k e' hk he hle l b q n f hl hel => ?_⟩
  · cases k with
    | zero =>
      simp at hk; subst hk
      refine ⟨?_, ?_⟩
      · simp only [Nat.add_zero, upd_same, upd_ne _ _ (Nat.succ_ne_self i), hH]; exact heff
      · simp only [Nat.add_zero, upd_same, upd_ne _ _ (Nat.succ_ne_self i), hm]; exact hput
    | succ k =>
      have := hr.step k o' (by simpa using hk)
      rw [show i + 1 + k = i + (k + 1) by omega] at this
      refine ⟨?_, ?_⟩
      · simp only [upd_ne _ _ (u1 k), upd_ne _ _ (u2 (k + 1))]; exact this.eff
      · simp only [upd_ne _ _ (u1 k), upd_ne _ _ (u2 (k + 1))]; exact this.put
  · cases k with
    | zero =>
      simp only [Nat.add_zero, upd_same] at he
      exact (hrd b q n f he).1 x hx
    | succ k =>
      simp only [upd_ne _ _ (u1 k)] at he
      exact hr.rdl k b q n f (by simpa using hk) (by rw [show i + 1 + k = i + (k + 1) by omega]; exact he) x (hls x hx)
  · cases k with
    | zero => omega
    | succ k =>
      simp only [upd_ne _ _ (u1 k)] at he
      have he' : eS (i + 1 + k) = some (.r b q n f) := by rw [show i + 1 + k = i + (k + 1) by omega]; exact he
      cases l with
      | zero =>
        simp only [Nat.add_zero, upd_same, upd_ne _ _ (Nat.succ_ne_self i)] at hel ⊢
        rw [hH]
        exact hr.rdl k b q n f (by simpa using hk) he' (i, H, H1) (hld e' hel hle).2
      | succ l =>
        simp only [upd_ne _ _ (u1 l), upd_ne _ _ (u2 (l + 1))] at hel ⊢
        have := hr.rdk k b q n f (by simpa using hk) he' l e' (by omega) (by rw [show i + 1 + l = i + (l + 1) by omega]; exact hel) hle
        rw [show i + 1 + l = i + (l + 1) by omega] at this
        exact this
  · cases k with
    | zero =>
      simp only [Nat.add_zero, upd_same, upd_ne _ _ (Nat.succ_ne_self i)] at he ⊢
      rw [hH]
      exact (hld e' he hle).1 x hx
    | succ k =>
      simp only [upd_ne _ _ (u1 k), upd_ne _ _ (u2 (k + 1))] at he ⊢
      have := hr.ldr k e' (by simpa using hk) (by rw [show i + 1 + k = i + (k + 1) by omega]; exact he) hle x (hrs x hx)
      rw [show i + 1 + k = i + (k + 1) by omega] at this
      exact this
  · cases k with
    | zero => omega
    | succ k =>
      simp only [upd_ne _ _ (u1 k), upd_ne _ _ (u2 (k + 1))] at he ⊢
      have he' : eS (i + 1 + k) = some e' := by rw [show i + 1 + k = i + (k + 1) by omega]; exact he
      cases l with
      | zero =>
        simp only [Nat.add_zero, upd_same] at hel ⊢
        have := hr.ldr k e' (by simpa using hk) he' hle (i, b, q, n) (hrd b q n f hel).2
        rw [show i + 1 + k = i + (k + 1) by omega] at this
        exact this
      | succ l =>
        simp only [upd_ne _ _ (u1 l)] at hel
        have := hr.ldk k e' (by simpa using hk) he' hle l b q n f (by omega) (by rw [show i + 1 + l = i + (l + 1) by omega]; exact hel)
        rw [show i + 1 + k = i + (k + 1) by omega, show i + 1 + l = i + (l + 1) by omega] at this
        exact this
theorem drawA_spec : ∀ (rest : List Oper) (mks : List Nat) (i : Nat) (m : T AV) (H : Heap) (rs : List (Nat × Nat × Nat × Nat)) (ls : List (Nat × Heap × Heap)) (m' : T AV) (H' : Heap), drawA P call N ops rest mks i m H rs ls = some (m', H') →
    ∃ mS hS eS rS, RunD P call N ops rest mks i rs ls mS hS eS rS ∧ mS i = m ∧ hS i = H ∧ mS (i + rest.length) = m' ∧ hS (i + rest.length) = H'
  | [], mks, i, m, H, rs, ls, m', H', h => by
    simp only [drawA] at h
    injection h with h; injection h with h1 h2; subst h1; subst h2
    refine ⟨fun _ => m, fun _ => H, fun _ => none, fun _ => none, ⟨fun k o hk => by simp at hk, fun k b q n f hk => by simp at hk, fun k b q n f hk => by simp at hk, fun k e hk => by simp at hk, fun k e hk => by simp at hk⟩, rfl, rfl, rfl, rfl⟩
  | o :: rest, [], i, m, H, rs, ls, m', H', h => by simp only [drawA] at h; cases h
  | o :: rest, mk :: mks, i, m, H, rs, ls, m', H', h => by
    simp only [drawA] at h
    obtain ⟨c, hw, h⟩ := bind_some' h
    have fin : ∀ {mS : Nat → T AV} {hS : Nat → Heap} {eS : Nat → Option Eff} {rS : Nat → Option AV} {e : Option Eff} {r : Option AV}, RunD P call N ops (o :: rest) (mk :: mks) i rs ls (upd mS i m) (upd hS i H) (upd eS i e) (upd rS i r) →
        mS (i + 1 + rest.length) = m' → hS (i + 1 + rest.length) = H' →
        ∃ mS hS eS rS, RunD P call N ops (o :: rest) (mk :: mks) i rs ls mS hS eS rS ∧ mS i = m ∧ hS i = H ∧ mS (i + (o :: rest).length) = m' ∧ hS (i + (o :: rest).length) = H' := by
      intro mS hS eS rS e r h1 h2 h3
      refine ⟨_, _, _, _, h1, upd_same _ _ _, upd_same _ _ _, ?_, ?_⟩
      · rw [upd_ne _ _ (by simp), List.length_cons, show i + (rest.length + 1) = i + 1 + rest.length by omega]; exact h2
      · rw [upd_ne _ _ (by simp), List.length_cons, show i + (rest.length + 1) = i + 1 + rest.length by omega]; exact h3
    cases c with
    | false =>
      rw [cond_false] at h
      obtain ⟨m1, hp, h⟩ := bind_some' h
      obtain ⟨mS, hS, eS, rS, hr, h1, h2, h3, h4⟩ := drawA_spec rest mks (i + 1) m1 H rs ls m' H' h
      exact fin (hr.cons (e := none) (r := none) h1 h2 (.inr ⟨hw, rfl, rfl, rfl⟩) hp (fun _ h => h) (fun _ h => h) (fun b q n f he => by cases he) (fun e he => by cases he)) h3 h4
    | true =>
      rw [cond_true] at h
      obtain ⟨e, he, h⟩ := bind_some' h
      obtain ⟨⟨r, H1⟩, hde, h⟩ := bind_some' h
      obtain ⟨m1, hp, h⟩ := bind_some' h
      have heff : (wantedA ops m o = some true ∧ ∃ e', some e = some e' ∧ aeff P (evA m) o = some e' ∧ doEff call H e' = some (r, H1)) ∨ (wantedA ops m o = some false ∧ some e = none ∧ r = none ∧ H1 = H) :=
        .inl ⟨hw, e, rfl, he, hde⟩
      cases e with
      | q v =>
        obtain ⟨mS, hS, eS, rS, hr, h1, h2, h3, h4⟩ := drawA_spec rest mks (i + 1) m1 H1 rs ls m' H' h
        exact fin (hr.cons h1 h2 heff hp (fun _ h => h) (fun _ h => h) (fun b q n f he => by cases he) (fun e he hl => by injection he with he; subst he; cases hl)) h3 h4
      | a cells k =>
        obtain ⟨mS, hS, eS, rS, hr, h1, h2, h3, h4⟩ := drawA_spec rest mks (i + 1) m1 H1 rs ls m' H' h
        exact fin (hr.cons h1 h2 heff hp (fun _ h => h) (fun _ h => h) (fun b q n f he => by cases he) (fun e he hl => by injection he with he; subst he; cases hl)) h3 h4
      | r b q n k =>
        obtain ⟨hc, h⟩ := cond_some h
        obtain ⟨mS, hS, eS, rS, hr, h1, h2, h3, h4⟩ := drawA_spec rest mks (i + 1) m1 H1 _ ls m' H' h
        exact fin (hr.cons h1 h2 heff hp (fun _ h => List.mem_cons_of_mem _ h) (fun _ h => h) (fun b' q' n' f he => by
          injection he with he; injection he with e1 e2 e3 e4; subst e1; subst e2; subst e3
          exact ⟨lsOk_spec hc, by simp⟩) (fun e he hl => by injection he with he; subst he; cases hl)) h3 h4
      | w b q src v =>
        obtain ⟨hc, h⟩ := cond_some h
        obtain ⟨mS, hS, eS, rS, hr, h1, h2, h3, h4⟩ := drawA_spec rest mks (i + 1) m1 H1 rs _ m' H' h
        exact fin (hr.cons h1 h2 heff hp (fun _ h => h) (fun _ h => List.mem_cons_of_mem _ h) (fun b' q' n' f he => by cases he) (fun e he hl => ⟨rsOk_spec hc, by simp⟩)) h3 h4
      | m b v =>
        obtain ⟨hc, h⟩ := cond_some h
        obtain ⟨mS, hS, eS, rS, hr, h1, h2, h3, h4⟩ := drawA_spec rest mks (i + 1) m1 H1 rs _ m' H' h
        exact fin (hr.cons h1 h2 heff hp (fun _ h => h) (fun _ h => List.mem_cons_of_mem _ h) (fun b' q' n' f he => by cases he) (fun e he hl => ⟨rsOk_spec hc, by simp⟩)) h3 h4
      | call f args =>
        obtain ⟨hc, h⟩ := cond_some h
        obtain ⟨mS, hS, eS, rS, hr, h1, h2, h3, h4⟩ := drawA_spec rest mks (i + 1) m1 H1 rs _ m' H' h
        exact fin (hr.cons h1 h2 heff hp (fun _ h => h) (fun _ h => List.mem_cons_of_mem _ h) (fun b' q' n' f he => by cases he) (fun e he hl => ⟨rsOk_spec hc, by simp⟩)) h3 h4
      | app s n src sz =>
        obtain ⟨hc, h⟩ := cond_some h
        obtain ⟨mS, hS, eS, rS, hr, h1, h2, h3, h4⟩ := drawA_spec rest mks (i + 1) m1 H1 rs _ m' H' h
        exact fin (hr.cons h1 h2 heff hp (fun _ h => h) (fun _ h => List.mem_cons_of_mem _ h) (fun b' q' n' f he => by cases he) (fun e he hl => ⟨rsOk_spec hc, by simp⟩)) h3 h4
end
end Go.Proofs.YthnhdgcaolgdnaaAn
