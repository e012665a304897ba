/- The conditions are sound: regions. -/
import Derived.Test.YthnhdgcaolgdnaaAnZd
set_option linter.unusedVariables false
set_option linter.unusedSimpArgs false
namespace Go.Proofs.YthnhdgcaolgdnaaAn
open Go
section
variable {P : Program} {N : Nat} {ops : Array Oper} {ids : Nat → Nat} {s : VS} {h : Hp} {m : T AV} {H : Heap} {o : Oper}
theorem guard_sound (R : RelV ids s h m H) {run skip : VS → Prop} (hk : vcGuard ops o s run skip) : ∃ s', RelV ids s' h m H ∧ Tr ids s h H ids s' h H ∧ ((wantedA ops m o = some true ∧ run s') ∨ (wantedA ops m o = some false ∧ skip s')) := by
  unfold vcGuard at hk
  unfold wantedA
  split at hk
  · rename_i hg
    rw [hg]
    exact ⟨s, R, Tr.refl _ _ _ _, .inl ⟨rfl, hk⟩⟩
  · rename_i j want hg
    rw [hg]
    simp only
    split at hk
    · exact hk.elim
    · rename_i d hd
      rw [hd]
      simp only
      split at hk
      · rename_i st hm
        have := R.tm _ _ _ hm
        rw [this]
        exact ⟨s, R, Tr.refl _ _ _ _, .inr ⟨rfl, hk⟩⟩
      · rename_i st c hm
        have := R.tm _ _ _ hm
        rw [this]
        simp only [Option.map_some, SV.av]
        split at hk
        · rename_i hc; exact ⟨s, R, Tr.refl _ _ _ _, .inl ⟨by rw [hc], hk⟩⟩
        · rename_i hc; exact ⟨s, R, Tr.refl _ _ _ _, .inr ⟨by rw [hc], hk⟩⟩
      · rename_i st c hm
        have := R.tm _ _ _ hm
        obtain ⟨k1, k2⟩ := hk
        cases c with
        | true =>
          have k1 := k1 rfl
          obtain ⟨R', T'⟩ := R.put' (t := d) (x := some (.kb true)) (m' := m) (fun y hy => by injection hy with hy; subst hy; trivial) this (fun _ _ => rfl)
          rw [this]
          simp only [Option.map_some, SV.av]
          cases want with
          | true => exact ⟨_, R', T', .inl ⟨rfl, k1⟩⟩
          | false => exact ⟨_, R', T', .inr ⟨rfl, k1⟩⟩
        | false =>
          have k2 := k2 rfl
          obtain ⟨R', T'⟩ := R.put' (t := d) (x := some (.kb false)) (m' := m) (fun y hy => by injection hy with hy; subst hy; trivial) this (fun _ _ => rfl)
          rw [this]
          simp only [Option.map_some, SV.av]
          cases want with
          | true => exact ⟨_, R', T', .inr ⟨rfl, k2⟩⟩
          | false => exact ⟨_, R', T', .inl ⟨rfl, k2⟩⟩
      · exact hk.elim
theorem put_sound (R : RelV ids s h m H) {dst : Option Tmp} {x : Option SV} {K : VS → Prop} (hg : ∀ y, x = some y → y.Good ids s.nl) (hk : vcPut N dst x s K) : ∃ m' s', putA N m dst (x.map SV.av) = some m' ∧ RelV ids s' h m' H ∧ Tr ids s h H ids s' h H ∧ s'.L = s.L ∧ s'.nl = s.nl ∧ K s' := by
  unfold vcPut at hk
  unfold putA
  split at hk
  · exact ⟨m, s, rfl, R, Tr.refl _ _ _ _, rfl, rfl, hk⟩
  · rename_i d
    split at hk
    · rename_i hd
      obtain ⟨R', T'⟩ := R.put (t := d) hg
      simp only [hd, cond_true]
      exact ⟨_, _, rfl, R', T', rfl, rfl, hk⟩
    · exact hk.elim
theorem putA_none {m : T AV} {dst : Option Tmp} : putA N m dst none = putA N m dst ((none : Option SV).map SV.av) := rfl
/-- what a region comes to -/
def RegS (P : Program) (ids : Nat → Nat) (s : VS) (h : Hp) (H : Heap) (K : VS → Hp → Prop) (run : CallA → Option (T AV × Heap)) : Prop :=
  ∃ n m' H' ids' s' h', (∀ n', n ≤ n' → run (callA P (runA P n')) = some (m', H')) ∧ RelV ids' s' h' m' H' ∧ Tr ids s h H ids' s' h' H' ∧ K s' h'
theorem RegS.pre {K : VS → Hp → Prop} {run run' : CallA → Option (T AV × Heap)} {ids0 : Nat → Nat} {s0 : VS} {h0 : Hp} {H0 : Heap} (t : Tr ids0 s0 h0 H0 ids s h H) (n0 : Nat) (e : ∀ n', n0 ≤ n' → run' (callA P (runA P n')) = run (callA P (runA P n'))) (hr : RegS P ids s h H K run) : RegS P ids0 s0 h0 H0 K run' := by
  obtain ⟨n, m', H', ids', s', h', g1, g2, g3, g4⟩ := hr
  exact ⟨max n0 n, m', H', ids', s', h', fun n' hn => by rw [e n' (by omega)]; exact g1 n' (by omega), g2, t.trans g3, g4⟩
theorem ops_sound {K : VS → Hp → Prop} : ∀ {l : List Oper} {ids : Nat → Nat} {s : VS} {h : Hp} {m : T AV} {H : Heap}, RelV ids s h m H → vcOps P N ops l s h K → RegS P ids s h H K fun call => opsA P call N ops l m H
  | [], ids, s, h, m, H, R, hk => ⟨0, m, H, ids, s, h, fun _ _ => rfl, R, Tr.refl _ _ _ _, hk⟩
  | o :: l, ids, s, h, m, H, R, hk => by
    unfold vcOps at hk
    obtain ⟨s1, R1, T1, hw⟩ := guard_sound R hk
    rcases hw with ⟨hw, hk1⟩ | ⟨hw, hk1⟩
    · obtain ⟨n, e, H2, ids2, s2, h2, x, ek, q⟩ := op_sound R1 hk1
      obtain ⟨m3, s3, p1, R3, T3, _, _, hk3⟩ := put_sound q.rel q.good q.k
      refine RegS.pre (T1.trans (q.tr.trans T3)) n (fun n' hn => ?_) (ops_sound R3 hk3)
      show (opA P _ N ops m H o).bind _ = _
      unfold opA
      rw [hw]
      show (((aeff P (evA m) o).bind _).bind _) = _
      rw [(q.run n' hn).1]
      show (((doEff _ H e).bind _).bind _) = _
      rw [(q.run n' hn).2]
      show (((putA N m o.dst _).map _).bind _) = _
      rw [p1]
      rfl
    · obtain ⟨m3, s3, p1, R3, T3, _, _, hk3⟩ := put_sound (x := none) R1 (fun y hy => by cases hy) hk1
      refine RegS.pre (T1.trans T3) 0 (fun n' _ => ?_) (ops_sound R3 hk3)
      show (opA P _ N ops m H o).bind _ = _
      unfold opA
      rw [hw]
      show (((putA N m o.dst none).map _).bind _) = _
      rw [putA_none, p1]
      rfl

/-! ### drawn regions -/
def RsOk (ids : Nat → Nat) (s : VS) (H : Heap) (ek : EK) (b o n : Nat) : Prop := match ek with
  | .rl k o' n' => k < s.nl ∧ b = ids k ∧ o = o' ∧ n = n'
  | .re b' o' n' => b = b' ∧ o = o' ∧ n = n' ∧ b < H.next ∧ ∀ k, k < s.nl → s.L.get k ≠ none → ids k ≠ b
  | _ => False
def LsOk (ids : Nat → Nat) (s : VS) (H : Heap) (ek : EK) (hl hl' : Hp) (Hl Hl' : Heap) : Prop := match ek with
  | .wl k o n => k < s.nl ∧ (∀ b, b ≠ ids k → Hl'.get b = Hl.get b) ∧ (∀ o' n', (o + n ≤ o' ∨ o' + n' ≤ o) → rd Hl' (ids k) o' n' = rd Hl (ids k) o' n')
  | .we => (Fits hl Hl ∧ Fits hl' Hl') ∧ (∀ k, k < s.nl → s.L.get k ≠ none → Hl'.get (ids k) = Hl.get (ids k)) ∧ Hl.next ≤ Hl'.next ∧ Hl'.next ≤ H.next
  | _ => False
section
variable {ids' : Nat → Nat} {s' : VS} {h' : Hp} {H' : Heap} (t : Tr ids s h H ids' s' h' H')
include t
theorem Tr.had {k : Nat} (hk : k < s.nl) (hn : s'.L.get k ≠ none) : s.L.get k ≠ none := fun e => hn (t.gone k hk e)
theorem RsOk.step {ek : EK} {b o n : Nat} (hr : RsOk ids s H ek b o n) : RsOk ids' s' H' ek b o n := by
  cases ek <;> simp only [RsOk] at hr ⊢ <;> first | exact hr | skip
  · exact ⟨Nat.lt_of_lt_of_le hr.1 t.nl, by rw [t.ids _ hr.1]; exact hr.2.1, hr.2.2⟩
  · obtain ⟨h1, h2, h3, h4, h5⟩ := hr
    refine ⟨h1, h2, h3, Nat.lt_of_lt_of_le h4 t.next, fun k hk hn => ?_⟩
    rcases Nat.lt_or_ge k s.nl with hlt | hge
    · rw [t.ids k hlt]; exact h5 k hlt (t.had hlt hn)
    · have := t.newid k hge hk; omega
theorem LsOk.step {ek : EK} {hl hl' : Hp} {Hl Hl' : Heap} (hr : LsOk ids s H ek hl hl' Hl Hl') : LsOk ids' s' H' ek hl hl' Hl Hl' := by
  cases ek <;> simp only [LsOk] at hr ⊢ <;> first | exact hr | skip
  · obtain ⟨h1, h2, h3⟩ := hr
    rw [t.ids _ h1]
    exact ⟨Nat.lt_of_lt_of_le h1 t.nl, h2, h3⟩
  · obtain ⟨⟨h0, h1⟩, h2, h3, h4⟩ := hr
    refine ⟨⟨h0, h1⟩, fun k hk hn => ?_, h3, Nat.le_trans h4 t.next⟩
    rcases Nat.lt_or_ge k s.nl with hlt | hge
    · rw [t.ids k hlt]; exact h2 k hlt (t.had hlt hn)
    · have := t.newid k hge hk
      rw [h0.fresh _ (by omega), h1.fresh _ (by omega)]
end
abbrev RSA := List (Nat × Nat × Nat × Nat)
abbrev LSA := List (Nat × Heap × Heap)
def RsAll (ids : Nat → Nat) (s : VS) (H : Heap) (rs : RSV) (ra : RSA) : Prop := ∀ x ∈ ra, ∃ ek, (x.1, ek) ∈ rs ∧ RsOk ids s H ek x.2.1 x.2.2.1 x.2.2.2
def LsAll (ids : Nat → Nat) (s : VS) (H : Heap) (ls : LSV) (la : LSA) : Prop := ∀ x ∈ la, ∃ ek hl hl', (x.1, ek, hl, hl') ∈ ls ∧ LsOk ids s H ek hl hl' x.2.1 x.2.2
theorem chkR_sound {mk : Nat} {r : EK} {L : T (Nat × Nat × List SV)} {X : Prop} : ∀ {ls : LSV}, chkR mk r L ls X → X ∧ ∀ i l hl hl', (i, l, hl, hl') ∈ ls → mk.testBit i = true ∨ pairK L r l = 0 ∨ (pairK L r l ≠ 0 ∧ pairK L r l ≠ 1 ∧ sameK r hl hl')
  | [], hk => ⟨hk, fun _ _ _ _ hm => by cases hm⟩
  | (i, l, hl, hl') :: ls, hk => by
    unfold chkR at hk
    have key : ∀ {Y : Prop}, (Y ∧ ∀ i l hl hl', (i, l, hl, hl') ∈ ls → mk.testBit i = true ∨ pairK L r l = 0 ∨ (pairK L r l ≠ 0 ∧ pairK L r l ≠ 1 ∧ sameK r hl hl')) → (mk.testBit i = true ∨ pairK L r l = 0 ∨ (pairK L r l ≠ 0 ∧ pairK L r l ≠ 1 ∧ sameK r hl hl')) →
        Y ∧ ∀ i' l' hl1 hl2, (i', l', hl1, hl2) ∈ (i, l, hl, hl') :: ls → mk.testBit i' = true ∨ pairK L r l' = 0 ∨ (pairK L r l' ≠ 0 ∧ pairK L r l' ≠ 1 ∧ sameK r hl1 hl2) := by
      intro Y ⟨hy, h1⟩ h2
      refine ⟨hy, fun i' l' hl1 hl2 hm => ?_⟩
      rcases List.mem_cons.1 hm with e | hm
      · simp only [Prod.mk.injEq] at e
        obtain ⟨rfl, rfl, rfl, rfl⟩ := e
        exact h2
      · exact h1 i' l' hl1 hl2 hm
    split at hk
    · rename_i hb; exact key (chkR_sound hk) (.inl hb)
    · split at hk
      · rename_i hp; exact key (chkR_sound hk) (.inr (.inl hp))
      · exact hk.elim
      · rename_i h0 h1; exact key (chkR_sound hk.2) (.inr (.inr ⟨h0, h1, hk.1⟩))
theorem chkL_sound {mk : Nat} {l : EK} {L : T (Nat × Nat × List SV)} {hl hl' : Hp} {X : Prop} : ∀ {rs : RSV}, chkL mk l L hl hl' rs X → X ∧ ∀ i r, (i, r) ∈ rs → mk.testBit i = true ∨ pairK L r l = 0 ∨ (pairK L r l ≠ 0 ∧ pairK L r l ≠ 1 ∧ sameK r hl hl')
  | [], hk => ⟨hk, fun _ _ hm => by cases hm⟩
  | (i, r) :: rs, hk => by
    unfold chkL at hk
    have key : ∀ {Y : Prop}, (Y ∧ ∀ i r, (i, r) ∈ rs → mk.testBit i = true ∨ pairK L r l = 0 ∨ (pairK L r l ≠ 0 ∧ pairK L r l ≠ 1 ∧ sameK r hl hl')) → (mk.testBit i = true ∨ pairK L r l = 0 ∨ (pairK L r l ≠ 0 ∧ pairK L r l ≠ 1 ∧ sameK r hl hl')) →
        Y ∧ ∀ i' r', (i', r') ∈ (i, r) :: rs → mk.testBit i' = true ∨ pairK L r' l = 0 ∨ (pairK L r' l ≠ 0 ∧ pairK L r' l ≠ 1 ∧ sameK r' hl hl') := by
      intro Y ⟨hy, h1⟩ h2
      refine ⟨hy, fun i' r' hm => ?_⟩
      rcases List.mem_cons.1 hm with e | hm
      · simp only [Prod.mk.injEq] at e
        obtain ⟨rfl, rfl⟩ := e
        exact h2
      · exact h1 i' r' hm
    split at hk
    · rename_i hb; exact key (chkL_sound hk) (.inl hb)
    · split at hk
      · rename_i hp; exact key (chkL_sound hk) (.inr (.inl hp))
      · exact hk.elim
      · rename_i h0 h1; exact key (chkL_sound hk.2) (.inr (.inr ⟨h0, h1, hk.1⟩))
theorem same_of {b o n : Nat} {Hl Hl' : Heap} (e : rd Hl b o n = rd Hl' b o n) : sameA Hl Hl' b o n = true := by
  unfold sameA
  simpa using e
theorem same_rd {b o n : Nat} {Hl Hl' : Heap} (e : Hl'.get b = Hl.get b) : rd Hl b o n = rd Hl' b o n := by unfold rd; rw [e]
theorem sameH_rd {hl hl' : Hp} {Hl Hl' : Heap} (f : Fits hl Hl) (f' : Fits hl' Hl') {b o n : Nat} (e : sameH hl hl' b o n) : rd Hl b o n = rd Hl' b o n := by
  obtain ⟨x, h1, h2⟩ := onO_some e
  rw [(rd_of f h1).1, (rd_of f' h2).1]
/-- one read, one write -/
theorem pair_same (R : RelV ids s h m H) {r l : EK} {b o n : Nat} {hl hl' : Hp} {Hl Hl' : Heap} (hr : RsOk ids s H r b o n) (hw : LsOk ids s H l hl hl' Hl Hl') (hp : pairK s.L r l = 0 ∨ (pairK s.L r l ≠ 0 ∧ pairK s.L r l ≠ 1 ∧ sameK r hl hl')) : sameA Hl Hl' b o n = true := by
  refine same_of ?_
  cases r <;> simp only [RsOk] at hr <;> cases l <;> simp only [LsOk] at hw
  · rename_i k o1 n1 k' o2 n2
    obtain ⟨r1, rfl, rfl, rfl⟩ := hr
    obtain ⟨w1, w2, w3⟩ := hw
    simp only [pairK] at hp
    cases hb : Nat.beq k k' with
    | false =>
      have hne : k ≠ k' := fun e => by subst e; rw [Nat.beq_refl] at hb; cases hb
      exact same_rd (w2 _ fun e => hne (R.inj k k' r1 w1 e))
    | true =>
      have := beq_eq' hb; subst this
      rw [Nat.beq_refl, cond_true] at hp
      cases hd : (Nat.ble (o + n) o2 || Nat.ble (o2 + n2) o) with
      | true =>
        rw [Bool.or_eq_true] at hd
        exact (w3 o n (by rcases hd with hd | hd <;> have := ble_le hd <;> omega)).symm
      | false => rw [hd, cond_false] at hp; simp at hp
  · rename_i k o1 n1
    obtain ⟨r1, rfl, rfl, rfl⟩ := hr
    obtain ⟨_, w2, _⟩ := hw
    simp only [pairK] at hp
    cases hL : s.L.get k with
    | none => rw [hL] at hp; simp at hp
    | some x => exact same_rd (w2 k r1 (by rw [hL]; simp))
  · rename_i b' o1 n1 k' o2 n2
    obtain ⟨rfl, rfl, rfl, r4, r5⟩ := hr
    obtain ⟨w1, w2, w3⟩ := hw
    simp only [pairK] at hp
    cases hL : s.L.get k' with
    | none => rw [hL] at hp; simp at hp
    | some x => exact same_rd (w2 b fun e => r5 k' w1 (by rw [hL]; simp) e.symm)
  · rename_i b' o1 n1
    obtain ⟨rfl, rfl, rfl, r4, r5⟩ := hr
    obtain ⟨⟨w0, w1⟩, w2, _⟩ := hw
    simp only [pairK, sameK] at hp
    rcases hp with hp | ⟨_, _, hp⟩
    · cases hp
    · exact sameH_rd w0 w1 hp
theorem lsOk_of {mk b q n : Nat} : ∀ {la : LSA}, (∀ x ∈ la, mk.testBit x.1 = true ∨ sameA x.2.1 x.2.2 b q n = true) → lsOk mk b q n la = true
  | [], _ => rfl
  | x :: la, hh => by
    unfold lsOk
    rw [Bool.and_eq_true, Bool.or_eq_true]
    exact ⟨hh x (by simp), lsOk_of fun y hy => hh y (by simp [hy])⟩
theorem rsOk_of {mk : Nat} {H H' : Heap} : ∀ {ra : RSA}, (∀ x ∈ ra, mk.testBit x.1 = true ∨ sameA H H' x.2.1 x.2.2.1 x.2.2.2 = true) → rsOk mk H H' ra = true
  | [], _ => rfl
  | x :: ra, hh => by
    unfold rsOk
    rw [Bool.and_eq_true, Bool.or_eq_true]
    exact ⟨hh x (by simp), rsOk_of fun y hy => hh y (by simp [hy])⟩
theorem RsAll.step {ids' : Nat → Nat} {s' : VS} {h' : Hp} {H' : Heap} (t : Tr ids s h H ids' s' h' H') {rs : RSV} {ra : RSA} (hr : RsAll ids s H rs ra) : RsAll ids' s' H' rs ra :=
  fun x hx => let ⟨ek, h1, h2⟩ := hr x hx; ⟨ek, h1, h2.step t⟩
theorem LsAll.step {ids' : Nat → Nat} {s' : VS} {h' : Hp} {H' : Heap} (t : Tr ids s h H ids' s' h' H') {ls : LSV} {la : LSA} (hr : LsAll ids s H ls la) : LsAll ids' s' H' ls la :=
  fun x hx => let ⟨ek, a, b, h1, h2⟩ := hr x hx; ⟨ek, a, b, h1, h2.step t⟩
theorem RsAll.more {rs : RSV} {ra : RSA} (hr : RsAll ids s H rs ra) (y : Nat × EK) : RsAll ids s H (y :: rs) ra :=
  fun x hx => let ⟨ek, h1, h2⟩ := hr x hx; ⟨ek, List.mem_cons_of_mem _ h1, h2⟩
theorem LsAll.more {ls : LSV} {la : LSA} (hr : LsAll ids s H ls la) (y : Nat × EK × Hp × Hp) : LsAll ids s H (y :: ls) la :=
  fun x hx => let ⟨ek, a, b, h1, h2⟩ := hr x hx; ⟨ek, a, b, List.mem_cons_of_mem _ h1, h2⟩
noncomputable def tailDr (P : Program) (call : CallA) (N : Nat) (ops : Array Oper) (l : List Oper) (mks : List Nat) (i : Nat) (m3 : T AV) (H H2 : Heap) (mk : Nat) (ra : RSA) (la : LSA) (e : Eff) : Option (T AV × Heap) := match e with
  | .q _ | .a _ _ => drawA P call N ops l mks (i + 1) m3 H2 ra la
  | .r b q n _ => cond (lsOk mk b q n la) (drawA P call N ops l mks (i + 1) m3 H2 ((i, b, q, n) :: ra) la) none
  | _ => cond (rsOk mk H H2 ra) (drawA P call N ops l mks (i + 1) m3 H2 ra ((i, H, H2) :: la)) none
theorem drawA_op {call : CallA} {l : List Oper} {mk : Nat} {mks : List Nat} {i : Nat} {m m3 : T AV} {H H2 : Heap} {ra : RSA} {la : LSA} {e : Eff} {v : Option AV} (h1 : wantedA ops m o = some true) (h2 : aeff P (evA m) o = some e) (h3 : doEff call H e = some (v, H2)) (h4 : putA N m o.dst v = some m3) :
    drawA P call N ops (o :: l) (mk :: mks) i m H ra la = tailDr P call N ops l mks i m3 H H2 mk ra la e := by
  rw [drawA, h1, Option.bind_some, cond_true, h2, Option.bind_some, h3, Option.bind_some]
  simp only [h4, Option.bind_some]
  cases e <;> rfl
theorem drawA_skip {call : CallA} {l : List Oper} {mk : Nat} {mks : List Nat} {i : Nat} {m m3 : T AV} {H : Heap} {ra : RSA} {la : LSA} (h1 : wantedA ops m o = some false) (h4 : putA N m o.dst none = some m3) :
    drawA P call N ops (o :: l) (mk :: mks) i m H ra la = drawA P call N ops l mks (i + 1) m3 H ra la := by
  rw [drawA, h1, Option.bind_some, cond_false, h4, Option.bind_some]
theorem draw_sound {K : VS → Hp → Prop} : ∀ {l : List Oper} {mks : List Nat} {i : Nat} {ids : Nat → Nat} {s : VS} {h : Hp} {m : T AV} {H : Heap} {rs : RSV} {ls : LSV} {ra : RSA} {la : LSA}, RelV ids s h m H → RsAll ids s H rs ra → LsAll ids s H ls la → vcDraw P N ops l mks i s h rs ls K →
    RegS P ids s h H K fun call => drawA P call N ops l mks i m H ra la
  | [], mks, i, ids, s, h, m, H, rs, ls, ra, la, R, _, _, hk => ⟨0, m, H, ids, s, h, fun _ _ => rfl, R, Tr.refl _ _ _ _, hk⟩
  | o :: l, [], i, ids, s, h, m, H, rs, ls, ra, la, R, _, _, hk => hk.elim
  | o :: l, mk :: mks, i, ids, s, h, m, H, rs, ls, ra, la, R, hra, hla, hk => by
    unfold vcDraw at hk
    obtain ⟨s1, R1, T1, hw⟩ := guard_sound R hk
    rcases hw with ⟨hw, hk1⟩ | ⟨hw, hk1⟩
    · obtain ⟨n, e, H2, ids2, s2, h2, x, ek, q⟩ := op_sound R1 hk1
      obtain ⟨m3, s3, p1, R3, T3, eL, enl, hk3⟩ := put_sound q.rel q.good q.k
      have T12 := T1.trans (q.tr.trans T3)
      have hra3 := hra.step T12
      have hla3 := hla.step T12
      have eok := q.eok
      -- what is read, what is written
      have hread : ∀ b o' n', RsOk ids2 s3 H2 ek b o' n' → (∀ j lk hl hl', (j, lk, hl, hl') ∈ ls → mk.testBit j = true ∨ pairK s3.L ek lk = 0 ∨ (pairK s3.L ek lk ≠ 0 ∧ pairK s3.L ek lk ≠ 1 ∧ sameK ek hl hl')) → lsOk mk b o' n' la = true := by
        intro b o' n' hr hc
        refine lsOk_of fun y hy => ?_
        obtain ⟨lk, hl, hl', h1, h2⟩ := hla3 y hy
        rcases hc _ _ _ _ h1 with hb | hb
        · exact .inl hb
        · exact .inr (pair_same R3 hr h2 hb)
      have hwrite : LsOk ids2 s3 H2 ek h h2 H H2 → (∀ j r, (j, r) ∈ rs → mk.testBit j = true ∨ pairK s3.L r ek = 0 ∨ (pairK s3.L r ek ≠ 0 ∧ pairK s3.L r ek ≠ 1 ∧ sameK r h h2)) → rsOk mk H H2 ra = true := by
        intro hr hc
        refine rsOk_of fun y hy => ?_
        obtain ⟨rk, h1, h2'⟩ := hra3 y hy
        rcases hc _ _ h1 with hb | hb
        · exact .inl hb
        · exact .inr (pair_same R3 h2' hr hb)
      have fin : ∀ {rs' : RSV} {ls' : LSV} {ra' : RSA} {la' : LSA}, RsAll ids2 s3 H2 rs' ra' → LsAll ids2 s3 H2 ls' la' → vcDraw P N ops l mks (i + 1) s3 h2 rs' ls' K →
          (∀ call, tailDr P call N ops l mks i m3 H H2 mk ra la e = drawA P call N ops l mks (i + 1) m3 H2 ra' la') →
          RegS P ids s h H K fun call => drawA P call N ops (o :: l) (mk :: mks) i m H ra la := by
        intro rs' ls' ra' la' a1 a2 a3 a4
        exact RegS.pre T12 n (fun n' hn => (drawA_op hw (q.run n' hn).1 (q.run n' hn).2 p1).trans (a4 _)) (draw_sound R3 a1 a2 a3)
      cases ek with
      | q =>
        rcases eok with ⟨v, rfl⟩ | ⟨c, g, rfl⟩
        · exact fin hra3 hla3 hk3 fun _ => rfl
        · exact fin hra3 hla3 hk3 fun _ => rfl
      | rl k o' n' =>
        obtain ⟨hk4, hc⟩ := chkR_sound hk3
        obtain ⟨⟨f, rfl⟩, e1, e2⟩ := eok
        have hr : RsOk ids2 s3 H2 (.rl k o' n') (ids2 k) o' n' := ⟨by rw [enl]; exact e2, rfl, rfl, rfl⟩
        have hl := hread _ _ _ hr hc
        exact fin (ra' := (i, ids2 k, o', n') :: ra) (fun y hy => by
          rcases List.mem_cons.1 hy with rfl | hy
          · exact ⟨_, List.mem_cons_self .., hr⟩
          · exact (hra3.more _) y hy) hla3 hk4 fun _ => by simp only [tailDr, hl, cond_true]
      | re b o' n' =>
        obtain ⟨hk4, hc⟩ := chkR_sound hk3
        rcases eok with ⟨v, rfl⟩ | ⟨⟨f, rfl⟩, e1⟩
        · exact fin (hra3.more _) hla3 hk4 fun _ => rfl
        · have hr : RsOk ids2 s3 H2 (.re b o' n') b o' n' := by
            refine ⟨rfl, rfl, rfl, ?_, fun k hk hn => ?_⟩
            · cases hb : h2.g b with
              | none => exact absurd hb e1
              | some c => exact (R3.fits.get b c hb).2
            · intro e
              cases hL : s3.L.get k with
              | none => exact hn hL
              | some y =>
                obtain ⟨st, id, cs⟩ := y
                have := R3.loc k st id cs hL
                rw [this.1.2, e] at this
                exact e1 this.2.1.2
          have hl := hread _ _ _ hr hc
          exact fin (ra' := (i, b, o', n') :: ra) (fun y hy => by
            rcases List.mem_cons.1 hy with rfl | hy
            · exact ⟨_, List.mem_cons_self .., hr⟩
            · exact (hra3.more _) y hy) hla3 hk4 fun _ => by simp only [tailDr, hl, cond_true]
      | wl k o' n' =>
        obtain ⟨hk4, hc⟩ := chkL_sound hk3
        obtain ⟨e0, e1, e2, e3, e4⟩ := eok
        have hr : LsOk ids2 s3 H2 (.wl k o' n') h h2 H H2 := ⟨by rw [enl]; exact e2, e3, e4⟩
        have hl := hwrite hr hc
        have hla4 : LsAll ids2 s3 H2 ((i, .wl k o' n', h, h2) :: ls) ((i, H, H2) :: la) := fun y hy => by
          rcases List.mem_cons.1 hy with rfl | hy
          · exact ⟨_, _, _, List.mem_cons_self .., hr⟩
          · exact (hla3.more _) y hy
        cases e with
        | q v => exact fin hra3 (hla3.more _) hk4 fun _ => rfl
        | a c g => exact fin hra3 (hla3.more _) hk4 fun _ => rfl
        | r b1 q1 n1 f => exact absurd rfl (e0 b1 q1 n1 f)
        | w b q src v => exact fin hra3 hla4 hk4 fun _ => by simp only [tailDr, hl, cond_true]
        | call f args => exact fin hra3 hla4 hk4 fun _ => by simp only [tailDr, hl, cond_true]
        | app a n src sz => exact fin hra3 hla4 hk4 fun _ => by simp only [tailDr, hl, cond_true]
        | m b v => exact fin hra3 hla4 hk4 fun _ => by simp only [tailDr, hl, cond_true]
      | we =>
        obtain ⟨hk4, hc⟩ := chkL_sound hk3
        obtain ⟨e0, e1⟩ := eok
        have hr : LsOk ids2 s3 H2 .we h h2 H H2 := by
          refine ⟨⟨R.fits, R3.fits⟩, fun k hk hn => e1 k (by rw [← enl]; exact hk) (by rw [← eL]; exact hn), q.tr.next, Nat.le_refl _⟩
        have hl := hwrite hr hc
        have hla4 : LsAll ids2 s3 H2 ((i, .we, h, h2) :: ls) ((i, H, H2) :: la) := fun y hy => by
          rcases List.mem_cons.1 hy with rfl | hy
          · exact ⟨_, _, _, List.mem_cons_self .., hr⟩
          · exact (hla3.more _) y hy
        cases e with
        | q v => exact fin hra3 (hla3.more _) hk4 fun _ => rfl
        | a c g => exact fin hra3 (hla3.more _) hk4 fun _ => rfl
        | r b1 q1 n1 f => exact absurd rfl (e0 b1 q1 n1 f)
        | w b q src v => exact fin hra3 hla4 hk4 fun _ => by simp only [tailDr, hl, cond_true]
        | call f args => exact fin hra3 hla4 hk4 fun _ => by simp only [tailDr, hl, cond_true]
        | app a n src sz => exact fin hra3 hla4 hk4 fun _ => by simp only [tailDr, hl, cond_true]
        | m b v => exact fin hra3 hla4 hk4 fun _ => by simp only [tailDr, hl, cond_true]
    · obtain ⟨m3, s3, p1, R3, T3, _, _, hk3⟩ := put_sound (x := none) R1 (fun y hy => by cases hy) hk1
      have T12 := T1.trans T3
      exact RegS.pre T12 0 (fun n' _ => drawA_skip hw (by rw [putA_none, p1])) (draw_sound R3 (hra.step T12) (hla.step T12) hk3)
/-- **A region.** -/
theorem region_sound' (R : RelV ids s h m H) {d : Bool} {K : VS → Hp → Prop} (hk : vcRegion P N ops d s h K) : RegS P ids s h H K fun call => regionA P call N m H ops d := by
  unfold vcRegion at hk
  cases d with
  | false => exact ops_sound R hk
  | true =>
    simp only at hk
    split at hk
    · rename_i ops' ms hms
      refine RegS.pre (Tr.refl _ _ _ _) 0 (fun n' _ => ?_) (draw_sound (ra := []) (la := []) R (fun x hx => by cases hx) (fun x hx => by cases hx) hk)
      show (lateMs ops).bind _ = _
      rw [hms]; rfl
    · exact hk.elim
end
end Go.Proofs.YthnhdgcaolgdnaaAn
