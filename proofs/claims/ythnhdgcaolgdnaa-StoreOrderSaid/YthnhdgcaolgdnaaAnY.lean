/- The conditions are sound: values, memory, boxes that come to be seen. -/
import Derived.Test.YthnhdgcaolgdnaaAnX
set_option linter.unusedVariables false
set_option linter.unusedSimpArgs false
namespace Go.Proofs.YthnhdgcaolgdnaaAn
open Go

/-! ### rows of values -/
theorem avs_map : ∀ l : List SV, SV.avs l = l.map SV.av
  | [] => rfl
  | x :: l => by simp [SV.avs, avs_map l]
theorem goods_iff {ids : Nat → Nat} {nl : Nat} : ∀ {l : List SV}, SV.Goods ids nl l ↔ ∀ x ∈ l, x.Good ids nl
  | [] => by simp [SV.Goods]
  | x :: l => by simp [SV.Goods, goods_iff (l := l)]
theorem avs_length (l : List SV) : (SV.avs l).length = l.length := by simp [avs_map]
theorem avs_append (a b : List SV) : SV.avs (a ++ b) = SV.avs a ++ SV.avs b := by simp [avs_map]
theorem avs_take (l : List SV) (n : Nat) : SV.avs (l.take n) = (SV.avs l).take n := by simp [avs_map]
theorem avs_drop (l : List SV) (n : Nat) : SV.avs (l.drop n) = (SV.avs l).drop n := by simp [avs_map]
theorem avs_nth (l : List SV) (n : Nat) : nthL (SV.avs l) n = (nthL l n).map SV.av := by simp [avs_map, nthL_eq]
theorem avs_sub {cs l : List SV} {o n : Nat} (h : subS cs o n = some l) : sub? (SV.avs cs) o n = some (SV.avs l) ∧ l.length = n ∧ ∀ x ∈ l, x ∈ cs := by
  unfold subS at h
  obtain ⟨hc, h⟩ := cond_some h
  injection h with h; subst h
  have hle := ble_le hc
  refine ⟨?_, by simp; omega, fun x hx => List.mem_of_mem_drop (List.mem_of_mem_take hx)⟩
  unfold sub?
  rw [avs_length, hc, cond_true, avs_take, avs_drop]
theorem avs_splice (cs : List SV) (o : Nat) (new : List SV) : SV.avs (spliceS cs o new) = splice (SV.avs cs) o (SV.avs new) := by
  simp [spliceS, splice, avs_append, avs_take, avs_drop, avs_length]
theorem splice_mem {cs new : List SV} {o : Nat} {x : SV} (h : x ∈ spliceS cs o new) : x ∈ cs ∨ x ∈ new := by
  simp only [spliceS, List.mem_append] at h
  rcases h with h | h | h
  · exact .inl (List.mem_of_mem_take h)
  · exact .inr h
  · exact .inl (List.mem_of_mem_drop h)
theorem spliceS_len {cs new : List SV} {o : Nat} (h : o + new.length ≤ cs.length) : (spliceS cs o new).length = cs.length := by
  simp [spliceS]; omega
theorem nthL_mem {α : Type} {l : List α} {n : Nat} {x : α} (h : nthL l n = some x) : x ∈ l := by
  rw [nthL_eq] at h; exact List.mem_of_getElem? h
theorem allOne_iff {l : List SV} : allOne l = true ↔ ∀ x ∈ l, x.one = true := by
  induction l with
  | nil => simp [allOne]
  | cons x l ih => simp [allOne, ih]
theorem cells_av {ids : Nat → Nat} {nl : Nat} {x : SV} (hg : x.Good ids nl) (h : notTup x = true) : x.av.cells = SV.avs x.cells := by
  cases x <;> first | (simp [notTup] at h; done) | simp [SV.cells, SV.av, SV.avs, AV.cells]
  rename_i a
  simp only [SV.Good] at hg
  cases a <;> simp_all [AV.sc, SV.av]
theorem cells_good {ids : Nat → Nat} {nl : Nat} {x : SV} (hg : x.Good ids nl) : SV.Goods ids nl x.cells := by
  cases x <;> simp_all [SV.cells, SV.Goods, SV.Good]
theorem one_sc {ids : Nat → Nat} {nl : Nat} {x : SV} (hg : x.Good ids nl) (h : x.one = true) : x.av.sc = true := by
  cases x <;> first | rfl | (simp [SV.one] at h; done) | (simp only [SV.Good] at hg; exact hg)
theorem avs_sc {ids : Nat → Nat} {nl : Nat} {l : List SV} (hg : SV.Goods ids nl l) (h : allOne l = true) : (SV.avs l).all AV.sc = true := by
  rw [avs_map, List.all_eq_true]
  intro a ha
  obtain ⟨x, hx, rfl⟩ := List.mem_map.1 ha
  exact one_sc (goods_iff.1 hg x hx) (allOne_iff.1 h x hx)
theorem notTup_one {ids : Nat → Nat} {nl : Nat} {x : SV} (hg : x.Good ids nl) (h : notTup x = true) : x.av.one = true := by
  cases x <;> first | rfl | (simp [notTup] at h; done) | skip
  rename_i a
  simp only [SV.Good] at hg
  cases a <;> simp_all [AV.sc, SV.av, AV.one]
mutual
theorem of_av : ∀ a : AV, (SV.of a).av = a
  | .b _ | .i _ _ | .s _ | .np | .ns | .nf | .p _ _ | .sl .. | .e _ | .x _ => rfl
  | .f f l => by simp [SV.of, SV.av, ofs_avs l]
  | .agg l => by simp [SV.of, SV.av, ofs_avs l]
  | .tup l => by simp [SV.of, SV.av, ofs_avs l]
theorem ofs_avs : ∀ l : List AV, SV.avs (SV.ofs l) = l
  | [] => rfl
  | x :: l => by simp [SV.ofs, SV.avs, of_av x, ofs_avs l]
end
theorem ofs_map : ∀ l : List AV, SV.ofs l = l.map SV.of
  | [] => rfl
  | x :: l => by simp [SV.ofs, ofs_map l]
theorem convS_good {ids : Nat → Nat} {nl : Nat} {v : Value} {a : AV} (h : convS v = some a) : (SV.of a).Good ids nl ∧ (SV.of a).one = true := by
  unfold convS at h
  split at h <;> first | (cases h; done) | (injection h with h; subst h; simp [SV.of, SV.Good, SV.one])
theorem convL_good {ids : Nat → Nat} {nl : Nat} : ∀ {vs : List Value} {cs : List AV}, convL vs = some cs → SV.Goods ids nl (SV.ofs cs) ∧ allOne (SV.ofs cs) = true
  | [], cs, h => by simp only [convL] at h; injection h with h; subst h; simp [SV.ofs, SV.Goods, allOne]
  | v :: vs, cs, h => by
    simp only [convL] at h
    split at h
    · rename_i c cs' h1 h2
      injection h with h; subst h
      have a := convS_good (ids := ids) (nl := nl) h1
      have b := convL_good (ids := ids) (nl := nl) h2
      simp only [SV.ofs, SV.Goods, allOne, a.2, b.2, Bool.and_self, and_true]
      exact ⟨a.1, b.1⟩
    · cases h
theorem conv_good {ids : Nat → Nat} {nl : Nat} {v : Value} {a : AV} (h : conv v = some a) : (SV.of a).Good ids nl := by
  unfold conv at h
  split at h
  · split at h
    · rename_i l hl
      injection h with h; subst h
      exact (convL_good hl).1
    · cases h
  · exact (convS_good h).1
theorem zeroA_good {ids : Nat → Nat} {nl : Nat} {P : Program} {t : TypeId} {z : List AV} (h : zeroA P t = some z) : SV.Goods ids nl (SV.ofs z) ∧ allOne (SV.ofs z) = true := by
  unfold zeroA at h
  split at h
  · rename_i i _
    split at h
    · rename_i v _
      obtain ⟨a, ha, hz⟩ := map_some' h
      subst hz
      unfold conv at ha
      split at ha
      · split at ha
        · rename_i l hl
          injection ha with ha; subst ha
          exact convL_good hl
        · cases ha
      · have := convS_good (ids := ids) (nl := nl) ha
        have e : a.cells = [a] := by
          cases a <;> first | rfl | (simp [SV.of, SV.one] at this; done)
        rw [e]
        simp [SV.ofs, SV.Goods, allOne, this]
    · cases h
  · cases h
mutual
theorem good_mono {ids ids' : Nat → Nat} {nl nl' : Nat} (hn : nl ≤ nl') (hi : ∀ k, k < nl → ids' k = ids k) : ∀ {x : SV}, x.Good ids nl → x.Good ids' nl'
  | .lp k id _, h | .ls k id _ _, h => ⟨Nat.lt_of_lt_of_le h.1 hn, h.2.trans (hi k h.1).symm⟩
  | .vv a, h => h
  | .ff _ l, h | .ag l, h | .tp l, h => goods_mono hn hi (l := l) h
  | .kb _, _ | .bb _, _ | .ki _ _, _ | .ii _ _, _ | .ss _, _ | .pp _ _, _ | .np, _ | .ns, _ | .nf, _ => trivial
theorem goods_mono {ids ids' : Nat → Nat} {nl nl' : Nat} (hn : nl ≤ nl') (hi : ∀ k, k < nl → ids' k = ids k) : ∀ {l : List SV}, SV.Goods ids nl l → SV.Goods ids' nl' l
  | [], h => trivial
  | x :: l, h => ⟨good_mono hn hi h.1, goods_mono hn hi h.2⟩
end

/-! ### the state -/
structure RelV (ids : Nat → Nat) (s : VS) (h : Hp) (m : T AV) (H : Heap) : Prop where
  tm : ∀ t st o, s.m.get t = some (st, o) → m.get t = o.map SV.av
  good : ∀ t st x, s.m.get t = some (st, some x) → x.Good ids s.nl
  loc : ∀ k st id cs, s.L.get k = some (st, id, cs) → (k < s.nl ∧ id = ids k) ∧ (H.get id = some (SV.avs cs) ∧ h.g id = none) ∧ SV.Goods ids s.nl cs ∧ allOne cs = true
  inj : ∀ k k', k < s.nl → k' < s.nl → ids k = ids k' → k = k'
  lt : ∀ k, k < s.nl → ids k < H.next ∧ h.lo ≤ ids k
  fits : Fits h H
def Seen (s : VS) (h : Hp) (b : Nat) : Prop := h.g b ≠ none ∨ ∃ k st cs, s.L.get k = some (st, b, cs)
/-- from one state to a later one -/
structure Tr (ids : Nat → Nat) (s : VS) (h : Hp) (H : Heap) (ids' : Nat → Nat) (s' : VS) (h' : Hp) (H' : Heap) : Prop where
  st : s.st ≤ s'.st
  nl : s.nl ≤ s'.nl
  mt : ∀ t st o, s'.m.get t = some (st, o) → st < s.st → s.m.get t = some (st, o)
  ml : ∀ k st id cs, s'.L.get k = some (st, id, cs) → st < s.st → s.L.get k = some (st, id, cs)
  gone : ∀ k, k < s.nl → s.L.get k = none → s'.L.get k = none
  ids : ∀ k, k < s.nl → ids' k = ids k
  next : H.next ≤ H'.next
  keep : ∀ b, b < H.next → ¬ Seen s h b → H'.get b = H.get b
  seen : ∀ b, Seen s' h' b → Seen s h b ∨ H.next ≤ b
  low : H'.low = H.low
  newid : ∀ k, s.nl ≤ k → k < s'.nl → H.next ≤ ids' k
theorem Tr.refl (ids : Nat → Nat) (s : VS) (h : Hp) (H : Heap) : Tr ids s h H ids s h H :=
  ⟨Nat.le_refl _, Nat.le_refl _, fun _ _ _ h _ => h, fun _ _ _ _ h _ => h, fun _ _ h => h, fun _ _ => rfl, Nat.le_refl _, fun _ _ _ => rfl, fun _ h => .inl h, rfl, fun k h1 h2 => by omega⟩
theorem Tr.trans {i0 : Nat → Nat} {s0 : VS} {h0 : Hp} {H0 : Heap} {i1 : Nat → Nat} {s1 : VS} {h1 : Hp} {H1 : Heap} {i2 : Nat → Nat} {s2 : VS} {h2 : Hp} {H2 : Heap}
    (a : Tr i0 s0 h0 H0 i1 s1 h1 H1) (b : Tr i1 s1 h1 H1 i2 s2 h2 H2) : Tr i0 s0 h0 H0 i2 s2 h2 H2 where
  st := Nat.le_trans a.st b.st
  nl := Nat.le_trans a.nl b.nl
  mt := fun t st o h hl => a.mt t st o (b.mt t st o h (Nat.lt_of_lt_of_le hl a.st)) hl
  ml := fun k st id cs h hl => a.ml k st id cs (b.ml k st id cs h (Nat.lt_of_lt_of_le hl a.st)) hl
  gone := fun k hk h => b.gone k (Nat.lt_of_lt_of_le hk a.nl) (a.gone k hk h)
  ids := fun k hk => (b.ids k (Nat.lt_of_lt_of_le hk a.nl)).trans (a.ids k hk)
  next := Nat.le_trans a.next b.next
  keep := fun x hx hs => by
    rw [b.keep x (Nat.lt_of_lt_of_le hx a.next) (fun h => ?_), a.keep x hx hs]
    rcases a.seen x h with h | h
    · exact hs h
    · omega
  seen := fun x h => (b.seen x h).elim (fun h => a.seen x h) fun h => .inr (Nat.le_trans a.next h)
  low := b.low.trans a.low
  newid := fun k h1 h2 => by
    rcases Nat.lt_or_ge k s1.nl with hk | hk
    · rw [b.ids k hk]; exact a.newid k h1 hk
    · exact Nat.le_trans a.next (b.newid k hk h2)
section
variable {ids : Nat → Nat} {s : VS} {h : Hp} {m : T AV} {H : Heap}
theorem get_some {t : Nat} {x : SV} (hg : s.get t = some x) : ∃ st, s.m.get t = some (st, some x) := by
  unfold VS.get at hg
  split at hg
  · rename_i st y e; injection hg with hg; subst hg; exact ⟨st, e⟩
  · cases hg
theorem RelV.get (R : RelV ids s h m H) {t : Nat} {x : SV} (hg : s.get t = some x) : m.get t = some x.av ∧ x.Good ids s.nl := by
  obtain ⟨st, e⟩ := get_some hg
  exact ⟨R.tm t st _ e, R.good t st x e⟩
theorem RelV.ev (R : RelV ids s h m H) {x : Operand} {v : SV} (he : evS s x = some v) : evA m x = some v.av ∧ v.Good ids s.nl := by
  cases x with
  | tmp t => exact R.get he
  | const c =>
    obtain ⟨a, ha, hv⟩ := map_some' (show (conv c).map SV.of = some v from he)
    subst hv
    exact ⟨by show conv c = _; rw [ha, of_av], conv_good ha⟩
  | global g => cases he
  | func f =>
    have he : some (SV.ff f []) = some v := he
    injection he with he; subst he
    exact ⟨rfl, trivial⟩
theorem RelV.evs (R : RelV ids s h m H) : ∀ {l : List Operand} {vs : List SV}, evSs s l = some vs → evAll (evA m) l = some (SV.avs vs) ∧ SV.Goods ids s.nl vs
  | [], vs, he => by
    simp only [evSs] at he; injection he with he; subst he; exact ⟨rfl, trivial⟩
  | x :: l, vs, he => by
    simp only [evSs] at he
    split at he
    · rename_i v vs' h1 h2
      injection he with he; subst he
      obtain ⟨a1, a2⟩ := R.ev h1
      obtain ⟨b1, b2⟩ := R.evs h2
      exact ⟨by simp only [evAll, a1, b1, SV.avs], a2, b2⟩
    · cases he
/-- what memory knows of boxes of one's own -/
theorem RelV.one (R : RelV ids s h m H) {k st id : Nat} {cs : List SV} (hk : s.L.get k = some (st, id, cs)) : id < H.next := by
  obtain ⟨⟨h1, h2⟩, _⟩ := R.loc k st id cs hk
  rw [h2]; exact (R.lt k h1).1
theorem RelV.view (R : RelV ids s h m H) {b : Nat} {k st : Nat} {cs : List SV} (hk : s.L.get k = some (st, b, cs)) : h.g b = none := (R.loc k st b cs hk).2.1.2
/-- memory that is not one's own changes -/
theorem RelV.step (R : RelV ids s h m H) {h' : Hp} {H' : Heap} (S : StepH h H h' H') : RelV ids s h' m H' ∧ Tr ids s h H ids s h' H' := by
  have hl : ∀ k st id cs, s.L.get k = some (st, id, cs) → H'.get id = some (SV.avs cs) ∧ h'.g id = none := by
    intro k st id cs hk
    obtain ⟨_, ⟨h1, h2⟩, _⟩ := R.loc k st id cs hk
    have hlt := R.one hk
    refine ⟨by rw [S.keep id hlt h2]; exact h1, ?_⟩
    cases hg : h'.g id with
    | none => rfl
    | some c =>
      rcases S.dom id (by rw [hg]; simp) with e | e
      · exact absurd h2 e
      · omega
  refine ⟨⟨R.tm, R.good, fun k st id cs hk => ⟨(R.loc k st id cs hk).1, hl k st id cs hk, (R.loc k st id cs hk).2.2⟩, R.inj, fun k hk => ⟨Nat.lt_of_lt_of_le (R.lt k hk).1 S.next, by rw [S.lo]; exact (R.lt k hk).2⟩, S.fits⟩,
    ⟨Nat.le_refl _, Nat.le_refl _, fun _ _ _ h _ => h, fun _ _ _ _ h _ => h, fun _ _ h => h, fun _ _ => rfl, S.next, fun b hb hs => S.keep b hb ?_, fun b hs => ?_, ?_, fun k h1 h2 => by omega⟩⟩
  · cases hg : h.g b with
    | none => rfl
    | some c => exact absurd (.inl (by rw [hg]; simp)) hs
  · rcases hs with hs | hs
    · exact (S.dom b hs).imp .inl id
    · exact .inl (.inr hs)
  · rw [S.fits.lo, R.fits.lo, S.lo]
/-- a box comes to be seen -/
theorem RelV.drop (R : RelV ids s h m H) {k st id : Nat} {cs : List SV} (hk : s.L.get k = some (st, id, cs)) :
    h.g id = none ∧ h.lo ≤ id ∧ RelV ids (s.drop k) (h.put id (SV.avs cs)) m H ∧ Tr ids s h H ids (s.drop k) (h.put id (SV.avs cs)) H := by
  obtain ⟨⟨h1, h2⟩, ⟨h3, h4⟩, h5, h6⟩ := R.loc k st id cs hk
  have hg : ∀ k', (s.drop k).L.get k' = if k' = k then none else s.L.get k' := fun k' => T.get_set _ _ _ _
  refine ⟨h4, by rw [h2]; exact (R.lt k h1).2, ⟨R.tm, R.good, fun k' st' id' cs' hk' => ?_, R.inj, R.lt, ?_⟩, ⟨Nat.le_refl _, Nat.le_refl _, fun _ _ _ h _ => h, fun k' st' id' cs' hk' _ => ?_, fun k' _ hn => ?_, fun _ _ => rfl, Nat.le_refl _, fun _ _ _ => rfl, fun b hs => ?_, rfl, fun k' h1 h2 => absurd h2 (Nat.not_lt.2 h1)⟩⟩
  · rw [hg] at hk'
    by_cases e : k' = k
    · rw [if_pos e] at hk'; cases hk'
    · rw [if_neg e] at hk'
      obtain ⟨⟨g1, g2⟩, ⟨g3, g4⟩, g5⟩ := R.loc k' st' id' cs' hk'
      refine ⟨⟨g1, g2⟩, ⟨g3, ?_⟩, g5⟩
      show (if id' = id then some (SV.avs cs) else h.g id') = none
      rw [if_neg (fun e' => e (R.inj k' k g1 h1 (by rw [← g2, ← h2, e']))), g4]
  · refine ⟨fun b c hb => ?_, R.fits.lo, R.fits.low, R.fits.fresh⟩
    have hb : (if b = id then some (SV.avs cs) else h.g b) = some c := hb
    by_cases e : b = id
    · rw [if_pos e] at hb; injection hb with hb; subst hb; subst e
      exact ⟨h3, R.one hk⟩
    · rw [if_neg e] at hb; exact R.fits.get b c hb
  · rw [hg] at hk'
    by_cases e : k' = k
    · rw [if_pos e] at hk'; cases hk'
    · rw [if_neg e] at hk'; exact hk'
  · rw [hg]; by_cases e : k' = k
    · rw [if_pos e]
    · rw [if_neg e]; exact hn
  · rcases hs with hs | ⟨k', st', cs', hk'⟩
    · have hs : (if b = id then some (SV.avs cs) else h.g b) ≠ none := hs
      by_cases e : b = id
      · exact .inl (.inr ⟨k, st, cs, by rw [e]; exact hk⟩)
      · rw [if_neg e] at hs; exact .inl (.inl hs)
    · rw [hg] at hk'
      by_cases e : k' = k
      · rw [if_pos e] at hk'; cases hk'
      · rw [if_neg e] at hk'; exact .inl (.inr ⟨k', st', cs', hk'⟩)
theorem escs_sound {K : VS → Hp → Prop} : ∀ {n : Nat} {ks : List Nat} {s : VS} {h : Hp}, escs K n ks s h → RelV ids s h m H → ∃ s' h', RelV ids s' h' m H ∧ Tr ids s h H ids s' h' H ∧ s'.m = s.m ∧ s'.nl = s.nl ∧ s'.st = s.st ∧ (∀ b c, h.g b = some c → h'.g b = some c) ∧ K s' h'
  | 0, _, _, _, he, _ => he.elim
  | n + 1, [], s, h, he, R => ⟨s, h, R, Tr.refl _ _ _ _, rfl, rfl, rfl, fun _ _ h => h, he⟩
  | n + 1, k :: ks, s, h, he, R => by
    unfold escs at he
    split at he
    · rename_i st id cs hk
      obtain ⟨h1, h2, R', T1⟩ := R.drop hk
      obtain ⟨s', h', a1, a2, a3, a4, a5, a6, a7⟩ := escs_sound (he h1 h2) R'
      refine ⟨s', h', a1, T1.trans a2, a3, a4, a5, fun b c hb => a6 b c ?_, a7⟩
      show (if b = id then _ else h.g b) = _
      rw [if_neg (fun e => by rw [e, h1] at hb; cases hb)]; exact hb
    · exact escs_sound he R
theorem esc_sound {K : VS → Hp → Prop} {vs : List SV} (he : esc s h vs K) (R : RelV ids s h m H) : ∃ s' h', RelV ids s' h' m H ∧ Tr ids s h H ids s' h' H ∧ s'.m = s.m ∧ s'.nl = s.nl ∧ s'.st = s.st ∧ (∀ b c, h.g b = some c → h'.g b = some c) ∧ K s' h' := escs_sound he R
/-- a new box -/
theorem RelV.new (R : RelV ids s h m H) {cs : List SV} (hg : SV.Goods ids s.nl cs) (h1 : allOne cs = true) :
    RelV (fun k => if k = s.nl then H.next else ids k) (s.new H.next cs) h m (alloc H (SV.avs cs)) ∧ Tr ids s h H (fun k => if k = s.nl then H.next else ids k) (s.new H.next cs) h (alloc H (SV.avs cs)) := by
  have hi : ∀ k, k < s.nl → (fun k => if k = s.nl then H.next else ids k) k = ids k := fun k hk => if_neg (by omega)
  have hL : ∀ k', (s.new H.next cs).L.get k' = if k' = s.nl then some (s.st, H.next, cs) else s.L.get k' := fun k' => T.get_set _ _ _ _
  have hn : s.nl ≤ (s.new H.next cs).nl := Nat.le_succ _
  refine ⟨⟨R.tm, fun t st x hx => good_mono hn hi (R.good t st x hx), fun k st id c hk => ?_, fun k k' hk hk' he => ?_, fun k hk => ?_, ?_⟩,
    ⟨Nat.le_succ _, hn, fun _ _ _ h _ => h, fun k st id c hk hlt => ?_, fun k hk hno => ?_, hi, Nat.le_succ _, fun b hb _ => ?_, fun b hs => ?_, rfl, fun k h1 h2 => ?_⟩⟩
  · rw [hL] at hk
    by_cases e : k = s.nl
    · rw [if_pos e] at hk
      simp only [Option.some.injEq, Prod.mk.injEq] at hk
      obtain ⟨rfl, rfl, rfl⟩ := hk
      refine ⟨⟨by rw [e]; exact Nat.lt_succ_self _, (if_pos e).symm⟩, ⟨by rw [get_alloc, if_pos rfl], ?_⟩, goods_mono hn hi hg, h1⟩
      cases hh : h.g H.next with
      | none => rfl
      | some c => have := (R.fits.get _ _ hh).2; omega
    · rw [if_neg e] at hk
      obtain ⟨⟨g1, g2⟩, ⟨g3, g4⟩, g5, g6⟩ := R.loc k st id c hk
      have := R.one hk
      exact ⟨⟨Nat.lt_of_lt_of_le g1 hn, g2.trans (hi k g1).symm⟩, ⟨by rw [get_alloc, if_neg (by omega)]; exact g3, g4⟩, goods_mono hn hi g5, g6⟩
  · have hk : k < Nat.succ s.nl := hk
    have hk' : k' < Nat.succ s.nl := hk'
    have he : (if k = s.nl then H.next else ids k) = (if k' = s.nl then H.next else ids k') := he
    by_cases e : k = s.nl
    · by_cases e' : k' = s.nl
      · omega
      · rw [if_pos e, if_neg e'] at he
        have := (R.lt k' (by omega)).1; omega
    · by_cases e' : k' = s.nl
      · rw [if_neg e, if_pos e'] at he
        have := (R.lt k (by omega)).1; omega
      · rw [if_neg e, if_neg e'] at he
        exact R.inj k k' (by omega) (by omega) he
  · have hk : k < Nat.succ s.nl := hk
    show (if k = s.nl then H.next else ids k) < Nat.succ H.next ∧ h.lo ≤ (if k = s.nl then H.next else ids k)
    by_cases e : k = s.nl
    · rw [if_pos e]
      exact ⟨Nat.lt_succ_self _, by rw [← R.fits.lo]; exact R.fits.low⟩
    · rw [if_neg e]
      have := R.lt k (by omega)
      exact ⟨by omega, this.2⟩
  · refine ⟨fun b c hb => ?_, R.fits.lo, Nat.le_succ_of_le R.fits.low, fun b hb => ?_⟩
    · have := R.fits.get b c hb
      rw [get_alloc, if_neg (by omega)]
      exact ⟨this.1, Nat.lt_succ_of_lt this.2⟩
    · have hb : Nat.succ H.next ≤ b := hb
      rw [get_alloc, if_neg (by omega)]
      exact R.fits.fresh b (by omega)
  · rw [hL] at hk
    by_cases e : k = s.nl
    · rw [if_pos e] at hk
      simp only [Option.some.injEq, Prod.mk.injEq] at hk
      omega
    · rw [if_neg e] at hk; exact hk
  · rw [hL, if_neg (by omega)]; exact hno
  · rw [get_alloc, if_neg (by omega)]
  · rcases hs with hs | ⟨k, st, c, hk⟩
    · exact .inl (.inl hs)
    · rw [hL] at hk
      by_cases e : k = s.nl
      · rw [if_pos e] at hk
        simp only [Option.some.injEq, Prod.mk.injEq] at hk
        exact .inr (by omega)
      · rw [if_neg e] at hk; exact .inl (.inr ⟨k, st, c, hk⟩)
  · have h2 : k < Nat.succ s.nl := h2
    show H.next ≤ (if k = s.nl then H.next else ids k)
    rw [if_pos (by omega)]; exact Nat.le_refl _
/-- a box written -/
theorem RelV.setL (R : RelV ids s h m H) {k st id : Nat} {cs cs' : List SV} (hk : s.L.get k = some (st, id, cs)) (hg : SV.Goods ids s.nl cs') (h1 : allOne cs' = true) :
    RelV ids (s.setL k id cs') h m ⟨H.next, H.m.set id (some (SV.avs cs')), H.low⟩ ∧ Tr ids s h H ids (s.setL k id cs') h ⟨H.next, H.m.set id (some (SV.avs cs')), H.low⟩ := by
  obtain ⟨⟨q1, q2⟩, ⟨q3, q4⟩, q5, q6⟩ := R.loc k st id cs hk
  have hL : ∀ k', (s.setL k id cs').L.get k' = if k' = k then some (s.st, id, cs') else s.L.get k' := fun k' => T.get_set _ _ _ _
  refine ⟨⟨R.tm, R.good, fun k' st' id' c hk' => ?_, R.inj, R.lt, ?_⟩, ⟨Nat.le_succ _, Nat.le_refl _, fun _ _ _ h _ => h, fun k' st' id' c hk' hlt => ?_, fun k' hk' hno => ?_, fun _ _ => rfl, Nat.le_refl _, fun b hb hs => ?_, fun b hs => ?_, rfl, fun k' h1 h2 => absurd h2 (Nat.not_lt.2 h1)⟩⟩
  · rw [hL] at hk'
    by_cases e : k' = k
    · rw [if_pos e] at hk'
      simp only [Option.some.injEq, Prod.mk.injEq] at hk'
      obtain ⟨rfl, rfl, rfl⟩ := hk'
      exact ⟨⟨by rw [e]; exact q1, by rw [e]; exact q2⟩, ⟨by rw [get_put, if_pos rfl], q4⟩, hg, h1⟩
    · rw [if_neg e] at hk'
      obtain ⟨⟨g1, g2⟩, ⟨g3, g4⟩, g5⟩ := R.loc k' st' id' c hk'
      exact ⟨⟨g1, g2⟩, ⟨by rw [get_put, if_neg (fun e' => e (R.inj k' k g1 q1 (by rw [← g2, ← q2, e'])))]; exact g3, g4⟩, g5⟩
  · refine ⟨fun b c hb => ?_, R.fits.lo, R.fits.low, fun b hb => ?_⟩
    · have := R.fits.get b c hb
      rw [get_put, if_neg (fun e => by rw [e, q4] at hb; cases hb)]; exact this
    · have := R.one hk
      have hb : H.next ≤ b := hb
      rw [get_put, if_neg (by omega)]; exact R.fits.fresh b hb
  · rw [hL] at hk'
    by_cases e : k' = k
    · rw [if_pos e] at hk'
      simp only [Option.some.injEq, Prod.mk.injEq] at hk'
      omega
    · rw [if_neg e] at hk'; exact hk'
  · rw [hL, if_neg (fun e => by rw [e, hk] at hno; cases hno)]; exact hno
  · rw [get_put, if_neg (fun e => hs (.inr ⟨k, st, cs, by rw [e]; exact hk⟩))]
  · rcases hs with hs | ⟨k', st', c, hk'⟩
    · exact .inl (.inl hs)
    · rw [hL] at hk'
      by_cases e : k' = k
      · rw [if_pos e] at hk'
        simp only [Option.some.injEq, Prod.mk.injEq] at hk'
        exact .inl (.inr ⟨k, st, cs, by rw [← hk'.2.1]; exact hk⟩)
      · rw [if_neg e] at hk'; exact .inl (.inr ⟨k', st', c, hk'⟩)
/-- a temporary is set -/
theorem RelV.put' (R : RelV ids s h m H) {t : Nat} {x : Option SV} {m' : T AV} (hg : ∀ y, x = some y → y.Good ids s.nl) (h1 : m'.get t = x.map SV.av) (h2 : ∀ t', t' ≠ t → m'.get t' = m.get t') : RelV ids (s.put t x) h m' H ∧ Tr ids s h H ids (s.put t x) h H := by
  have hm : ∀ t', (s.put t x).m.get t' = if t' = t then some (s.st, x) else s.m.get t' := fun t' => T.get_set _ _ _ _
  refine ⟨⟨fun t' st o ht => ?_, fun t' st y ht => ?_, R.loc, R.inj, R.lt, R.fits⟩, ⟨Nat.le_succ _, Nat.le_refl _, fun t' st o ht hlt => ?_, fun _ _ _ _ h _ => h, fun _ _ h => h, fun _ _ => rfl, Nat.le_refl _, fun _ _ _ => rfl, fun _ h => .inl h, rfl, fun k h1 h2 => absurd h2 (Nat.not_lt.2 h1)⟩⟩
  · rw [hm] at ht
    by_cases e : t' = t
    · rw [if_pos e] at ht
      simp only [Option.some.injEq, Prod.mk.injEq] at ht
      rw [e, h1, ht.2]
    · rw [if_neg e] at ht; rw [h2 t' e]; exact R.tm t' st o ht
  · rw [hm] at ht
    by_cases e : t' = t
    · rw [if_pos e] at ht
      simp only [Option.some.injEq, Prod.mk.injEq] at ht
      exact hg y ht.2
    · rw [if_neg e] at ht; exact R.good t' st y ht
  · rw [hm] at ht
    by_cases e : t' = t
    · rw [if_pos e] at ht
      simp only [Option.some.injEq, Prod.mk.injEq] at ht
      omega
    · rw [if_neg e] at ht; exact ht
theorem RelV.put (R : RelV ids s h m H) {t : Nat} {x : Option SV} (hg : ∀ y, x = some y → y.Good ids s.nl) : RelV ids (s.put t x) h (m.set t (x.map SV.av)) H ∧ Tr ids s h H ids (s.put t x) h H :=
  R.put' hg (T.get_set_same _ _ _) fun t' e => T.get_set_ne _ _ e
end
end Go.Proofs.YthnhdgcaolgdnaaAn
