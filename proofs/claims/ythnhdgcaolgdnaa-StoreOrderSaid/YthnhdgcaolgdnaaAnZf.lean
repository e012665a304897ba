/- The conditions are sound: a loop's head. -/
import Derived.Test.YthnhdgcaolgdnaaAnZe
set_option linter.unusedVariables false
set_option linter.unusedSimpArgs false
namespace Go.Proofs.YthnhdgcaolgdnaaAn
open Go
/-- what later states know of an earlier one -/
structure Bk (ids : Nat → Nat) (s : VS) (ids' : Nat → Nat) (s' : VS) : Prop where
  st : s.st ≤ s'.st
  nl : s.nl ≤ s'.nl
  mt : ∀ t st o, s'.m.get t = some (st, o) → st < s.st → s.m.get t = some (st, o)
  ml : ∀ k st id cs, s'.L.get k = some (st, id, cs) → st < s.st → s.L.get k = some (st, id, cs)
  ids : ∀ k, k < s.nl → ids' k = ids k
/-- what memory has become -/
structure TrH (s : VS) (h : Hp) (H : Heap) (s' : VS) (h' : Hp) (H' : Heap) : Prop where
  next : H.next ≤ H'.next
  keep : ∀ b, b < H.next → ¬ Seen s h b → H'.get b = H.get b
  seen : ∀ b, Seen s' h' b → Seen s h b ∨ H.next ≤ b
  low : H'.low = H.low
theorem Bk.refl (ids : Nat → Nat) (s : VS) : Bk ids s ids s := ⟨Nat.le_refl _, Nat.le_refl _, fun _ _ _ h _ => h, fun _ _ _ _ h _ => h, fun _ _ => rfl⟩
theorem Bk.trans {i0 i1 i2 : Nat → Nat} {s0 s1 s2 : VS} (a : Bk i0 s0 i1 s1) (b : Bk i1 s1 i2 s2) : Bk i0 s0 i2 s2 where
  st := Nat.le_trans a.st b.st
  nl := Nat.le_trans a.nl b.nl
  mt := fun t st o h hl => a.mt t st o (b.mt t st o h (Nat.lt_of_lt_of_le hl a.st)) hl
  ml := fun k st id cs h hl => a.ml k st id cs (b.ml k st id cs h (Nat.lt_of_lt_of_le hl a.st)) hl
  ids := fun k hk => (b.ids k (Nat.lt_of_lt_of_le hk a.nl)).trans (a.ids k hk)
theorem TrH.refl (s : VS) (h : Hp) (H : Heap) : TrH s h H s h H := ⟨Nat.le_refl _, fun _ _ _ => rfl, fun _ h => .inl h, rfl⟩
theorem TrH.trans {s0 : VS} {h0 : Hp} {H0 : Heap} {s1 : VS} {h1 : Hp} {H1 : Heap} {s2 : VS} {h2 : Hp} {H2 : Heap} (a : TrH s0 h0 H0 s1 h1 H1) (b : TrH s1 h1 H1 s2 h2 H2) : TrH s0 h0 H0 s2 h2 H2 where
  next := Nat.le_trans a.next b.next
  keep := fun x hx hs => by
    rw [b.keep x (Nat.lt_of_lt_of_le hx a.next) (fun h => ?_), a.keep x hx hs]
    rcases a.seen x h with h | h
    · exact hs h
    · omega
  seen := fun x h => (b.seen x h).elim (fun h => a.seen x h) fun h => .inr (Nat.le_trans a.next h)
  low := b.low.trans a.low
section
variable {ids ids' : Nat → Nat} {s s' : VS} {h h' : Hp} {m : T AV} {H H' : Heap}
theorem Tr.bk (t : Tr ids s h H ids' s' h' H') : Bk ids s ids' s' := ⟨t.st, t.nl, t.mt, t.ml, t.ids⟩
theorem Tr.toH (t : Tr ids s h H ids' s' h' H') : TrH s h H s' h' H' := ⟨t.next, t.keep, t.seen, t.low⟩

/-! ### values of the kinds -/
/-- told of all values of these kinds, told of these -/
def Typed (ks : List Kd) (vs : List SV) : Prop := ∀ F : List SV → Prop, allH ks F → F vs
theorem apH_typed : ∀ {ks : List Kd} {I : FunKH ks} {zs : List SV} {h : Hp}, apH ks I zs h → SV.Goods ids s.nl zs → ∃ vs, SV.avs vs = SV.avs zs ∧ Typed ks vs ∧ apH ks I vs h ∧ allOne vs = true ∧ vs.length = ks.length ∧ ∀ ids nl, SV.Goods ids nl vs
  | [], I, zs, h, ha, _ => by
    cases zs with
    | nil => exact ⟨[], rfl, fun F hF => hF, ha, rfl, rfl, fun _ _ => trivial⟩
    | cons z zs => exact (show False from ha).elim
  | .int k :: ks, I, zs, h, ha, hg => by
    cases zs with
    | nil => exact (show False from ha).elim
    | cons z zs =>
      unfold apH at ha
      split at ha
      · rename_i k' n he
        split at ha
        · rename_i hk
          have := kEq_eq hk; subst this
          obtain ⟨vs, a1, a2, a3, a4, a5, a6⟩ := apH_typed ha hg.2
          refine ⟨.ii k n :: vs, by simp only [SV.avs, a1, asI_av he]; rfl, fun F hF => a2 _ (hF n), ?_, by simp [allOne, SV.one, a4], by simp [a5], fun ids nl => ⟨trivial, a6 ids nl⟩⟩
          unfold apH
          simp only [asI, hk]
          exact a3
        · exact ha.elim
      · exact ha.elim
  | .bool :: ks, I, zs, h, ha, hg => by
    cases zs with
    | nil => exact (show False from ha).elim
    | cons z zs =>
      unfold apH at ha
      split at ha
      · rename_i c he
        obtain ⟨vs, a1, a2, a3, a4, a5, a6⟩ := apH_typed ha hg.2
        refine ⟨.bb c :: vs, by simp only [SV.avs, a1, asB_av he]; rfl, fun F hF => a2 _ (hF c), a3, by simp [allOne, SV.one, a4], by simp [a5], fun ids nl => ⟨trivial, a6 ids nl⟩⟩
      · exact ha.elim
  | .str :: ks, I, zs, h, ha, hg => by
    cases zs with
    | nil => exact (show False from ha).elim
    | cons z zs =>
      unfold apH at ha
      split at ha
      · rename_i l
        obtain ⟨vs, a1, a2, a3, a4, a5, a6⟩ := apH_typed ha hg.2
        refine ⟨.ss l :: vs, by simp only [SV.avs, a1], fun F hF => a2 _ (hF l), a3, by simp [allOne, SV.one, a4], by simp [a5], fun ids nl => ⟨trivial, a6 ids nl⟩⟩
      · exact ha.elim
  | .ref :: ks, I, zs, h, ha, hg => by
    cases zs with
    | nil => exact (show False from ha).elim
    | cons z zs =>
      unfold apH at ha
      split at ha
      · rename_i ho
        obtain ⟨vs, a1, a2, a3, a4, a5, a6⟩ := apH_typed ha hg.2
        have hsc := one_sc hg.1 ho
        refine ⟨.vv z.av :: vs, by simp only [SV.avs, a1, SV.av], fun F hF => a2 _ (hF z.av hsc), a3, by simp [allOne, SV.one, a4], by simp [a5], fun ids nl => ⟨hsc, a6 ids nl⟩⟩
      · exact ha.elim

/-! ### the head's state -/
theorem keepT_get {m : T (Nat × Option SV)} {as : List Nat} : ∀ {N t : Nat}, (keepT m as N).get t = if t < N ∧ isIn t as = false then m.get t else none
  | 0, t => by rw [if_neg (by omega)]; rfl
  | N + 1, t => by
    unfold keepT
    have ih := keepT_get (m := m) (as := as) (N := N) (t := t)
    split
    · rename_i x hx
      cases hi : isIn N as with
      | true =>
        rw [cond_true, ih]
        by_cases ht : t = N
        · subst ht; rw [if_neg (by omega), if_neg (by rw [hi]; simp)]
        · by_cases h1 : t < N ∧ isIn t as = false
          · rw [if_pos h1, if_pos ⟨by omega, h1.2⟩]
          · rw [if_neg h1, if_neg (fun h2 => h1 ⟨by omega, h2.2⟩)]
      | false =>
        rw [cond_false, T.get_set]
        by_cases ht : t = N
        · subst ht; rw [if_pos rfl, if_pos ⟨Nat.lt_succ_self _, hi⟩, hx]
        · rw [if_neg ht, ih]
          by_cases h1 : t < N ∧ isIn t as = false
          · rw [if_pos h1, if_pos ⟨by omega, h1.2⟩]
          · rw [if_neg h1, if_neg (fun h2 => h1 ⟨by omega, h2.2⟩)]
    · rename_i hx
      rw [ih]
      by_cases ht : t = N
      · subst ht; rw [if_neg (by omega)]
        split
        · exact hx.symm
        · rfl
      · by_cases h1 : t < N ∧ isIn t as = false
        · rw [if_pos h1, if_pos ⟨by omega, h1.2⟩]
        · rw [if_neg h1, if_neg (fun h2 => h1 ⟨by omega, h2.2⟩)]
theorem isIn_of {n : Nat} : ∀ {l : List Nat}, n ∈ l → isIn n l = true
  | x :: l, hm => by
    unfold isIn
    rcases List.mem_cons.1 hm with rfl | hm
    · rw [Nat.beq_refl, cond_true]
    · cases Nat.beq n x with
      | true => rfl
      | false => rw [cond_false]; exact isIn_of hm
theorem mem_of_isIn {n : Nat} : ∀ {l : List Nat}, isIn n l = true → n ∈ l
  | [], hm => by cases hm
  | x :: l, hm => by
    unfold isIn at hm
    cases hb : Nat.beq n x with
    | true => rw [beq_eq' hb]; exact List.mem_cons_self ..
    | false => rw [hb, cond_false] at hm; exact List.mem_cons_of_mem _ (mem_of_isIn hm)
/-- a state that knows less, or the same in other words, of the same memory -/
structure Re (ids : Nat → Nat) (s : VS) (h : Hp) (m : T AV) (H : Heap) (s' : VS) : Prop where
  rel : RelV ids s' h m H
  nl : s'.nl = s.nl
  st : s.st ≤ s'.st
  mt : ∀ t st o, s'.m.get t = some (st, o) → st < s.st → s.m.get t = some (st, o)
  ml : ∀ k st id cs, s'.L.get k = some (st, id, cs) → st < s.st → s.L.get k = some (st, id, cs)
  mL : ∀ k, s'.L.get k = none ↔ s.L.get k = none
theorem Re.trans {s0 s1 s2 : VS} (a : Re ids s0 h m H s1) (b : Re ids s1 h m H s2) : Re ids s0 h m H s2 :=
  ⟨b.rel, b.nl.trans a.nl, Nat.le_trans a.st b.st, fun t st o h hl => a.mt t st o (b.mt t st o h (Nat.lt_of_lt_of_le hl a.st)) hl, fun k st id cs h hl => a.ml k st id cs (b.ml k st id cs h (Nat.lt_of_lt_of_le hl a.st)) hl, fun k => (b.mL k).trans (a.mL k)⟩
theorem Re.refl (R : RelV ids s h m H) : Re ids s h m H s := ⟨R, rfl, Nat.le_refl _, fun _ _ _ h _ => h, fun _ _ _ _ h _ => h, fun _ => Iff.rfl⟩
theorem Re.put (R : RelV ids s h m H) {t : Nat} {x : SV} (hg : x.Good ids s.nl) (hm : m.get t = some x.av) : Re ids s h m H (s.put t (some x)) := by
  obtain ⟨R', T'⟩ := R.put' (t := t) (x := some x) (m' := m) (fun y hy => by injection hy with hy; subst hy; exact hg) hm (fun _ _ => rfl)
  exact ⟨R', rfl, T'.st, T'.mt, T'.ml, fun _ => Iff.rfl⟩
theorem Re.setL (R : RelV ids s h m H) {k st id : Nat} {cs cs' : List SV} (hk : s.L.get k = some (st, id, cs)) (he : SV.avs cs' = SV.avs cs) (hg : SV.Goods ids s.nl cs') (h1 : allOne cs' = true) : Re ids s h m H (s.setL k id cs') := by
  obtain ⟨⟨q1, q2⟩, ⟨q3, q4⟩, q5, q6⟩ := R.loc k st id cs hk
  have hL : ∀ k', (s.setL k id cs').L.get k' = if k' = k then some (s.st, id, cs') else s.L.get k' := fun k' => T.get_set _ _ _ _
  refine ⟨⟨R.tm, R.good, fun k' st' id' c hk' => ?_, R.inj, R.lt, R.fits⟩, rfl, Nat.le_succ _, fun _ _ _ h _ => h, fun k' st' id' c hk' hlt => ?_, fun k' => ?_⟩
  · rw [hL] at hk'
    by_cases e : k' = k
    · rw [if_pos e] at hk'
      simp only [Option.some.injEq, Prod.mk.injEq] at hk'
      obtain ⟨rfl, rfl, rfl⟩ := hk'
      exact ⟨⟨by rw [e]; exact q1, by rw [e]; exact q2⟩, ⟨by rw [he]; exact q3, q4⟩, hg, h1⟩
    · rw [if_neg e] at hk'; exact R.loc k' st' id' c hk'
  · rw [hL] at hk'
    by_cases e : k' = k
    · rw [if_pos e] at hk'
      simp only [Option.some.injEq, Prod.mk.injEq] at hk'
      omega
    · rw [if_neg e] at hk'; exact hk'
  · rw [hL]
    by_cases e : k' = k
    · rw [if_pos e, e, hk]; simp
    · rw [if_neg e]
/-- the values that stand there -/
def VT (m : T AV) : List (Nat × Sh) → List SV → Prop
  | [], _ => True
  | (t, .one _) :: l, x :: xs => m.get t = some x.av ∧ VT m l xs
  | (t, .agg ks) :: l, xs => m.get t = some (.agg (SV.avs (xs.take ks.length))) ∧ VT m l (xs.drop ks.length)
  | _ :: _, [] => False
def VL (s : VS) : List (Nat × List Kd) → List SV → Prop
  | [], _ => True
  | (k, ks) :: l, xs => (∃ st id cs, s.L.get k = some (st, id, cs) ∧ SV.avs cs = SV.avs (xs.take ks.length)) ∧ VL s l (xs.drop ks.length)
theorem Goods.take {l : List SV} {nl : Nat} (hg : SV.Goods ids nl l) (n : Nat) : SV.Goods ids nl (l.take n) := goods_iff.2 fun x hx => goods_iff.1 hg x (List.mem_of_mem_take hx)
theorem Goods.drop {l : List SV} {nl : Nat} (hg : SV.Goods ids nl l) (n : Nat) : SV.Goods ids nl (l.drop n) := goods_iff.2 fun x hx => goods_iff.1 hg x (List.mem_of_mem_drop hx)
theorem One.take {l : List SV} (hg : allOne l = true) (n : Nat) : allOne (l.take n) = true := allOne_iff.2 fun x hx => allOne_iff.1 hg x (List.mem_of_mem_take hx)
theorem One.drop {l : List SV} (hg : allOne l = true) (n : Nat) : allOne (l.drop n) = true := allOne_iff.2 fun x hx => allOne_iff.1 hg x (List.mem_of_mem_drop hx)
theorem putT_re : ∀ {hv : List (Nat × Sh)} {xs : List SV} {s : VS}, RelV ids s h m H → VT m hv xs → (∀ ids nl, SV.Goods ids nl xs) → Re ids s h m H (putT s hv xs)
  | [], xs, s, R, _, _ => by
    cases xs <;> exact Re.refl R
  | (t, .one k) :: l, [], s, R, hv, _ => hv.elim
  | (t, .one k) :: l, x :: xs, s, R, hv, hg => by
    have r1 := Re.put R (hg _ _).1 hv.1
    exact r1.trans (putT_re r1.rel hv.2 fun ids nl => (hg ids nl).2)
  | (t, .agg ks) :: l, xs, s, R, hv, hg => by
    have r1 := Re.put R (x := .ag (xs.take ks.length)) (Goods.take (hg _ _) _) hv.1
    exact r1.trans (putT_re r1.rel hv.2 fun ids nl => Goods.drop (hg ids nl) _)
theorem putL_re : ∀ {hl : List (Nat × List Kd)} {xs : List SV} {s : VS}, RelV ids s h m H → VL s hl xs → (∀ ids nl, SV.Goods ids nl xs) → allOne xs = true → Re ids s h m H (putL s hl xs)
  | [], xs, s, R, _, _, _ => Re.refl R
  | (k, ks) :: l, xs, s, R, hv, hg, h1 => by
    obtain ⟨⟨st, id, cs, e1, e2⟩, hv⟩ := hv
    unfold putL
    rw [e1]
    simp only
    have r1 := Re.setL R e1 e2.symm (Goods.take (hg _ _) ks.length) (One.take h1 _)
    refine r1.trans (putL_re r1.rel ?_ (fun ids nl => Goods.drop (hg ids nl) _) (One.drop h1 _))
    have hL : ∀ k', (s.setL k id (xs.take ks.length)).L.get k' = if k' = k then some (s.st, id, xs.take ks.length) else s.L.get k' := fun k' => T.get_set _ _ _ _
    have key : ∀ {l : List (Nat × List Kd)} {ys : List SV}, VL s l ys → VL (s.setL k id (xs.take ks.length)) l ys := by
      intro l
      induction l with
      | nil => intro ys _; trivial
      | cons y l ih =>
        obtain ⟨k', ks'⟩ := y
        intro ys ⟨⟨st', id', cs', g1, g2⟩, g3⟩
        refine ⟨?_, ih g3⟩
        by_cases e : k' = k
        · subst e
          rw [e1] at g1
          simp only [Option.some.injEq, Prod.mk.injEq] at g1
          obtain ⟨rfl, rfl, rfl⟩ := g1
          exact ⟨s.st, id, xs.take ks.length, by rw [hL, if_pos rfl], by rw [← e2, g2]⟩
        · exact ⟨st', id', cs', by rw [hL, if_neg e]; exact g1, g2⟩
    exact key hv
/-- values of a state are the values that stand there -/
theorem valsT_VT (R : RelV ids s h m H) : ∀ {hv : List (Nat × Sh)} {xs : List SV} {vs rest : List SV}, valsT s hv = some xs → SV.avs vs = SV.avs xs → xs.length = (kindsT hv).length → VT m hv (vs ++ rest) ∧ SV.Goods ids s.nl xs
  | [], xs, vs, rest, hx, _, _ => by
    simp only [valsT] at hx; injection hx with hx; subst hx; exact ⟨by unfold VT; trivial, trivial⟩
  | (t, .one k) :: l, xs, vs, rest, hx, he, hn => by
    simp only [valsT] at hx
    split at hx
    · rename_i x xs' h1 h2
      injection hx with hx; subst hx
      cases vs with
      | nil => cases he
      | cons v vs =>
        simp only [SV.avs] at he
        injection he with e1 e2
        obtain ⟨a1, a2⟩ := valsT_VT R (rest := rest) h2 e2 (by simp [kindsT, shKinds] at hn; omega)
        obtain ⟨b1, b2⟩ := R.get h1
        exact ⟨⟨by rw [b1, e1], a1⟩, b2, a2⟩
    · cases hx
  | (t, .agg ks) :: l, xs, vs, rest, hx, he, hn => by
    simp only [valsT] at hx
    split at hx
    · rename_i cs xs' h1 h2
      obtain ⟨hc, hx⟩ := cond_some hx
      injection hx with hx; subst hx
      have hcl := beq_eq' hc
      have hvl : vs.length = cs.length + xs'.length := by have := congrArg List.length he; simpa [avs_length] using this
      have e1 : SV.avs (vs.take ks.length) = SV.avs cs := by rw [avs_take, he, avs_append, List.take_append_of_le_length (by rw [avs_length]; omega), List.take_of_length_le (by rw [avs_length]; omega)]
      have e2 : SV.avs (vs.drop ks.length) = SV.avs xs' := by rw [avs_drop, he, avs_append, List.drop_append_of_le_length (by rw [avs_length]; omega), List.drop_of_length_le (by rw [avs_length]; omega), List.nil_append]
      obtain ⟨a1, a2⟩ := valsT_VT R (rest := rest) h2 e2 (by simp [kindsT, shKinds] at hn; omega)
      obtain ⟨b1, b2⟩ := R.get h1
      refine ⟨⟨?_, ?_⟩, goods_iff.2 fun y hy => ?_⟩
      · rw [b1, List.take_append_of_le_length (by omega), e1]; rfl
      · rw [List.drop_append_of_le_length (by omega)]; exact a1
      · rcases List.mem_append.1 hy with hy | hy
        · exact goods_iff.1 b2 y hy
        · exact goods_iff.1 a2 y hy
    · cases hx
theorem valsT_len : ∀ {hv : List (Nat × Sh)} {xs : List SV}, valsT s hv = some xs → xs.length = (kindsT hv).length
  | [], xs, hx => by simp only [valsT] at hx; injection hx with hx; subst hx; rfl
  | (t, .one k) :: l, xs, hx => by
    simp only [valsT] at hx
    split at hx
    · rename_i x xs' h1 h2
      injection hx with hx; subst hx
      simp [kindsT, shKinds, valsT_len h2]
    · cases hx
  | (t, .agg ks) :: l, xs, hx => by
    simp only [valsT] at hx
    split at hx
    · rename_i cs xs' h1 h2
      obtain ⟨hc, hx⟩ := cond_some hx
      injection hx with hx; subst hx
      simp [kindsT, shKinds, valsT_len h2, beq_eq' hc]
    · cases hx
theorem valsL_VL (R : RelV ids s h m H) : ∀ {hl : List (Nat × List Kd)} {xs vs : List SV}, valsL s hl = some xs → SV.avs vs = SV.avs xs → VL s hl vs ∧ SV.Goods ids s.nl xs
  | [], xs, vs, hx, _ => by simp only [valsL] at hx; injection hx with hx; subst hx; exact ⟨trivial, trivial⟩
  | (k, ks) :: l, xs, vs, hx, he => by
    simp only [valsL] at hx
    split at hx
    · rename_i st id cs xs' h1 h2
      obtain ⟨hc, hx⟩ := cond_some hx
      injection hx with hx; subst hx
      have hcl := beq_eq' hc
      have e1 : SV.avs (vs.take ks.length) = SV.avs cs := by rw [avs_take, he, avs_append, List.take_append_of_le_length (by rw [avs_length]; omega), List.take_of_length_le (by rw [avs_length]; omega)]
      have e2 : SV.avs (vs.drop ks.length) = SV.avs xs' := by rw [avs_drop, he, avs_append, List.drop_append_of_le_length (by rw [avs_length]; omega), List.drop_of_length_le (by rw [avs_length]; omega), List.nil_append]
      obtain ⟨a1, a2⟩ := valsL_VL R h2 e2
      refine ⟨⟨⟨st, id, cs, h1, e1.symm⟩, a1⟩, goods_iff.2 fun y hy => ?_⟩
      rcases List.mem_append.1 hy with hy | hy
      · exact goods_iff.1 (R.loc k st id cs h1).2.2.1 y hy
      · exact goods_iff.1 a2 y hy
    · cases hx
end
end Go.Proofs.YthnhdgcaolgdnaaAn
