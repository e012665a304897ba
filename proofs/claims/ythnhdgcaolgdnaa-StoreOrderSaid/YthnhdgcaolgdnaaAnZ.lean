/- The conditions are sound: operations on values. -/
import Derived.Test.YthnhdgcaolgdnaaAnY
set_option linter.unusedVariables false
set_option linter.unusedSimpArgs false
namespace Go.Proofs.YthnhdgcaolgdnaaAn
open Go

/-! ### what an operation must come to -/
def EKok (ids : Nat → Nat) (s' : VS) (h' : Hp) (e : Eff) (H H' : Heap) : EK → Prop
  | .q => (∃ v, e = .q v) ∨ ∃ c g, e = .a c g
  | .rl k o n => (∃ f, e = .r (ids k) o n f) ∧ s'.L.get k ≠ none ∧ k < s'.nl
  | .re b o n => (∃ v, e = .q v) ∨ (∃ f, e = .r b o n f) ∧ h'.g b ≠ none
  | .wl k o n => (∀ b q n f, e ≠ .r b q n f) ∧ s'.L.get k ≠ none ∧ k < s'.nl ∧ (∀ b, b ≠ ids k → H'.get b = H.get b) ∧ (∀ o' n', (o + n ≤ o' ∨ o' + n' ≤ o) → rd H' (ids k) o' n' = rd H (ids k) o' n')
  | .we => (∀ b q n f, e ≠ .r b q n f) ∧ ∀ k, k < s'.nl → s'.L.get k ≠ none → H'.get (ids k) = H.get (ids k)
structure OpS' (P : Program) (o : Oper) (ids : Nat → Nat) (s : VS) (h : Hp) (m : T AV) (H : Heap) (K : KO) (n : Nat) (e : Eff) (H' : Heap) (ids' : Nat → Nat) (s' : VS) (h' : Hp) (x : Option SV) (ek : EK) : Prop where
  run : ∀ n', n ≤ n' → aeff P (evA m) o = some e ∧ doEff (callA P (runA P n')) H e = some (x.map SV.av, H')
  good : ∀ y, x = some y → y.Good ids' s'.nl
  rel : RelV ids' s' h' m H'
  tr : Tr ids s h H ids' s' h' H'
  m : s'.m = s.m
  eok : EKok ids' s' h' e H H' ek
  k : K ek x s' h'
def OpS (P : Program) (o : Oper) (ids : Nat → Nat) (s : VS) (h : Hp) (m : T AV) (H : Heap) (K : KO) : Prop := ∃ n e H' ids' s' h' x ek, OpS' P o ids s h m H K n e H' ids' s' h' x ek

theorem onO_some {α : Type} {x : Option α} {K : α → Prop} (h : onO x K) : ∃ a, x = some a ∧ K a := by
  cases x with
  | none => exact h.elim
  | some a => exact ⟨a, rfl, h⟩
theorem onCons_sound {vs : List AV} {K : AV → List AV → Prop} (h : onCons vs K) : ∃ v l, vs = v :: l ∧ K v l := by
  cases vs with
  | nil => exact h.elim
  | cons v l => exact ⟨v, l, rfl, h⟩
theorem onInt_sound {k : IntKind} {v : AV} {K : Int → Prop} (h : onInt k v K) : ∃ n, v = .i k n ∧ K n := by
  unfold onInt at h
  split at h
  · split at h
    · rename_i e; exact ⟨_, by rw [kEq_eq e], h⟩
    · exact h.elim
  · exact h.elim
theorem onBool_sound {v : AV} {K : Bool → Prop} (h : onBool v K) : ∃ n, v = .b n ∧ K n := by
  unfold onBool at h
  split at h
  · exact ⟨_, rfl, h⟩
  · exact h.elim
theorem onStr_sound {v : AV} {K : List Nat → Prop} (h : onStr v K) : ∃ n, v = .s n ∧ K n := by
  unfold onStr at h
  split at h
  · exact ⟨_, rfl, h⟩
  · exact h.elim
theorem onRef_sound {v : AV} {K : AV → Prop} (h : onRef v K) : v.sc = true ∧ K v := by
  unfold onRef at h
  split at h
  · rename_i e; exact ⟨e, h⟩
  · exact h.elim
theorem onL_sound {ids : Nat → Nat} {nl : Nat} : ∀ (ks : List Kd) {vs : List AV} {K : List SV → Prop}, onL ks vs (lamK ks K) → ∃ l, vs = SV.avs l ∧ SV.Goods ids nl l ∧ allOne l = true ∧ l.length = ks.length ∧ K l
  | [], vs, K, h => by
    cases vs with
    | nil => exact ⟨[], rfl, trivial, rfl, rfl, h⟩
    | cons v vs => exact False.elim h
  | .int k :: ks, vs, K, h => by
    obtain ⟨v, l, rfl, g1⟩ := onCons_sound h
    obtain ⟨n, rfl, g2⟩ := onInt_sound g1
    obtain ⟨l, rfl, h1, h2, h3, h4⟩ := onL_sound (ids := ids) (nl := nl) ks (K := fun l => K (.ii k n :: l)) g2
    exact ⟨.ii k n :: l, rfl, ⟨trivial, h1⟩, by simp [allOne, SV.one, h2], by simp [h3], h4⟩
  | .bool :: ks, vs, K, h => by
    obtain ⟨v, l, rfl, g1⟩ := onCons_sound h
    obtain ⟨n, rfl, g2⟩ := onBool_sound g1
    obtain ⟨l, rfl, h1, h2, h3, h4⟩ := onL_sound (ids := ids) (nl := nl) ks (K := fun l => K (.bb n :: l)) g2
    exact ⟨.bb n :: l, rfl, ⟨trivial, h1⟩, by simp [allOne, SV.one, h2], by simp [h3], h4⟩
  | .str :: ks, vs, K, h => by
    obtain ⟨v, l, rfl, g1⟩ := onCons_sound h
    obtain ⟨n, rfl, g2⟩ := onStr_sound g1
    obtain ⟨l, rfl, h1, h2, h3, h4⟩ := onL_sound (ids := ids) (nl := nl) ks (K := fun l => K (.ss n :: l)) g2
    exact ⟨.ss n :: l, rfl, ⟨trivial, h1⟩, by simp [allOne, SV.one, h2], by simp [h3], h4⟩
  | .ref :: ks, vs, K, h => by
    obtain ⟨v, l, rfl, g1⟩ := onCons_sound h
    obtain ⟨e, g2⟩ := onRef_sound g1
    obtain ⟨l, rfl, h1, h2, h3, h4⟩ := onL_sound (ids := ids) (nl := nl) ks (K := fun l => K (.vv v :: l)) g2
    exact ⟨.vv v :: l, rfl, ⟨e, h1⟩, by simp [allOne, SV.one, h2], by simp [h3], h4⟩
theorem sub_nth {cs : List AV} {o : Nat} {x : AV} (h : nthL cs o = some x) : sub? cs o 1 = some [x] := by
  rw [nthL_eq] at h
  have hlt := (List.getElem?_eq_some_iff.1 h).1
  unfold sub?
  have e : Nat.ble (o + 1) cs.length = true := Nat.ble_eq_true_of_le hlt
  rw [e, cond_true]
  congr 1
  apply List.ext_getElem?
  intro i
  by_cases hi : i = 0
  · subst hi
    rw [List.getElem?_take_of_lt (by omega), List.getElem?_drop]; simpa using h
  · rw [List.getElem?_eq_none (by simp; omega), List.getElem?_eq_none (by simp; omega)]
theorem rd_of {h : Hp} {H : Heap} (F : Fits h H) {b o n : Nat} {cs : List AV} (hr : rdH h b o n = some cs) : rd H b o n = some cs ∧ h.g b ≠ none := by
  obtain ⟨c, h1, h2⟩ := bind_some' hr
  refine ⟨?_, by rw [h1]; simp⟩
  unfold rd
  rw [(F.get b c h1).1]; exact h2
theorem fill_av {ids : Nat → Nat} {nl : Nat} {place : Nat → Option (Nat × Nat)} : ∀ {ps : List (Nat × SV)} {cs r : List SV}, fillS place cs ps = some r → SV.Goods ids nl cs → (∀ p ∈ ps, p.2.Good ids nl) →
    fillA place (SV.avs cs) (ps.map fun p => (p.1, p.2.av)) = some (SV.avs r) ∧ SV.Goods ids nl r ∧ r.length = cs.length
  | [], cs, r, h, hg, _ => by
    simp only [fillS] at h; injection h with h; subst h; exact ⟨rfl, hg, rfl⟩
  | (i, v) :: ps, cs, r, h, hg, hp => by
    simp only [fillS] at h
    cases hpl : place i with
    | none => rw [hpl] at h; cases h
    | some os =>
      obtain ⟨off, size⟩ := os
      rw [hpl] at h
      simp only at h
      obtain ⟨hc, h⟩ := cond_some h
      simp only [Bool.and_eq_true] at hc
      obtain ⟨⟨h1, h2⟩, h3⟩ := hc
      have hv := hp (i, v) (by simp)
      have hce := cells_av hv h1
      have hsz := beq_eq' h2
      have hle := ble_le h3
      have hg' : SV.Goods ids nl (spliceS cs off v.cells) := goods_iff.2 fun x hx => (splice_mem hx).elim (goods_iff.1 hg x) (goods_iff.1 (cells_good hv) x)
      obtain ⟨a1, a2, a3⟩ := fill_av h hg' (fun p hq => hp p (by simp [hq]))
      refine ⟨?_, a2, by rw [a3, spliceS_len (by omega)]⟩
      simp only [List.map_cons, fillA, hpl]
      rw [notTup_one hv h1, hce, avs_length, h2, avs_length, h3]
      simp only [Bool.and_self, cond_true]
      rw [← avs_splice]; exact a1
section
variable {P : Program} {ids : Nat → Nat} {s : VS} {h : Hp} {m : T AV} {H : Heap} {K : KO} {o : Oper}
theorem RelV.parts (R : RelV ids s h m H) : ∀ {ps : List (Nat × Operand)} {r : List (Nat × SV)}, partsS s ps = some r → evParts (evA m) ps = some (r.map fun p => (p.1, p.2.av)) ∧ ∀ p ∈ r, p.2.Good ids s.nl
  | [], r, hr => by simp only [partsS] at hr; injection hr with hr; subst hr; exact ⟨rfl, by simp⟩
  | (i, x) :: ps, r, hr => by
    simp only [partsS] at hr
    split at hr
    · rename_i v l h1 h2
      injection hr with hr; subst hr
      obtain ⟨a1, a2⟩ := R.ev h1
      obtain ⟨b1, b2⟩ := R.parts h2
      refine ⟨by simp only [evParts, a1, b1, List.map_cons], fun p hp => ?_⟩
      rcases List.mem_cons.1 hp with rfl | hp
      · exact a2
      · exact b2 p hp
    · cases hr
theorem opS_q (R : RelV ids s h m H) {v : SV} (ha : aeff P (evA m) o = some (.q v.av)) (hg : v.Good ids s.nl) (k : K .q (some v) s h) : OpS P o ids s h m H K :=
  ⟨0, .q v.av, H, ids, s, h, some v, .q, fun _ _ => ⟨ha, rfl⟩, fun y hy => by injection hy with hy; subst hy; exact hg, R, Tr.refl _ _ _ _, rfl, .inl ⟨_, rfl⟩, k⟩
/-- a new box -/
theorem opS_new (R : RelV ids s h m H) {cs : List SV} {g : Nat → AV} {mk : Nat → SV} (ha : aeff P (evA m) o = some (.a (SV.avs cs) g)) (hmk : ∀ id, (mk id).av = g id) (hgm : ∀ id, (mk id).Good (fun k => if k = s.nl then id else ids k) (Nat.succ s.nl))
    (hg : SV.Goods ids s.nl cs) (h1 : allOne cs = true) (k : ∀ id, K .q (some (mk id)) (s.new id cs) h) : OpS P o ids s h m H K := by
  obtain ⟨R', T'⟩ := R.new hg h1
  exact ⟨0, _, _, _, _, h, some (mk H.next), .q, fun _ _ => ⟨ha, by show some (some (g H.next), _) = _; rw [Option.map_some, hmk]⟩, fun y hy => by injection hy with hy; subst hy; exact hgm _, R', T', rfl, .inr ⟨_, _, rfl⟩, k _⟩
/-- new memory that is seen -/
theorem opS_mem (R : RelV ids s h m H) {cs : List AV} {g : Nat → AV} {mk : Nat → AV} (ha : aeff P (evA m) o = some (.a cs g)) (hmk : ∀ id, mk id = g id) (hsc : ∀ id, (mk id).sc = true)
    (k : ∀ id, h.g id = none → h.lo ≤ id → K .q (some (.vv (mk id))) s (h.put id cs)) : OpS P o ids s h m H K := by
  have hno : h.g H.next = none := by
    cases hh : h.g H.next with
    | none => rfl
    | some c => have := (R.fits.get _ _ hh).2; omega
  have S : StepH h H (h.put H.next cs) (alloc H cs) := by
    refine ⟨⟨fun b c hb => ?_, R.fits.lo, Nat.le_succ_of_le R.fits.low, fun b hb => ?_⟩, Nat.le_succ _, fun b hb _ => by rw [get_alloc, if_neg (by omega)], fun b hb => ?_, rfl⟩
    · have hb : (if b = H.next then some cs else h.g b) = some c := hb
      rw [get_alloc]
      by_cases e : b = H.next
      · rw [if_pos e] at hb ⊢; exact ⟨hb, by rw [e]; exact Nat.lt_succ_self _⟩
      · rw [if_neg e] at hb ⊢
        exact ⟨(R.fits.get b c hb).1, Nat.lt_succ_of_lt (R.fits.get b c hb).2⟩
    · have hb : Nat.succ H.next ≤ b := hb
      rw [get_alloc, if_neg (by omega)]; exact R.fits.fresh b (by omega)
    · have hb : (if b = H.next then some cs else h.g b) ≠ none := hb
      by_cases e : b = H.next
      · exact .inr (by omega)
      · rw [if_neg e] at hb; exact .inl hb
  obtain ⟨R', T'⟩ := R.step S
  exact ⟨0, _, _, _, _, _, some (.vv (mk H.next)), .q, fun _ _ => ⟨ha, by show some (some (g H.next), _) = _; rw [Option.map_some]; simp only [SV.av, hmk]⟩, fun y hy => by injection hy with hy; subst hy; exact hsc _, R', T', rfl, .inr ⟨_, _, rfl⟩, k _ hno (by rw [← R.fits.lo]; exact R.fits.low)⟩
theorem RelV.kept (R : RelV ids s h m H) {h' : Hp} {H' : Heap} (S : StepH h H h' H') : ∀ k, k < s.nl → s.L.get k ≠ none → H'.get (ids k) = H.get (ids k) := by
  intro k hk hL
  cases hs : s.L.get k with
  | none => exact absurd hs hL
  | some x =>
    obtain ⟨st, id, cs⟩ := x
    obtain ⟨⟨_, q2⟩, ⟨_, q4⟩, _⟩ := R.loc k st id cs hs
    rw [← q2]; exact S.keep id (R.one hs) q4
/-- memory that is seen, and that is not one's own -/
theorem opS_E (R : RelV ids s h m H) {e : Eff} (ha : aeff P (evA m) o = some e) (hc : ∀ c, doEff c H e = doEff noCall H e) (hr : ∀ b q n f, e ≠ .r b q n f) (w : wpE e (fun r h' => ∃ x : Option SV, r = x.map SV.av ∧ (∀ y, x = some y → ∀ ids nl, y.Good ids nl) ∧ K .we x s h') h) : OpS P o ids s h m H K := by
  obtain ⟨v, H', h', h1, S, x, rfl, hx, hk⟩ := w H R.fits
  obtain ⟨R', T'⟩ := R.step S
  exact ⟨0, e, H', ids, s, h', x, .we, fun _ _ => ⟨ha, by rw [hc]; exact h1⟩, fun y hy => hx y hy _ _, R', T', rfl, ⟨hr, R.kept S⟩, hk⟩
theorem OpS.pre {s0 : VS} {h0 : Hp} (hm : s.m = s0.m) (t : Tr ids s0 h0 H ids s h H) (hs : OpS P o ids s h m H K) : OpS P o ids s0 h0 m H K := by
  obtain ⟨n, e, H', ids', s', h', x, ek, q⟩ := hs
  exact ⟨n, e, H', ids', s', h', x, ek, q.run, q.good, q.rel, t.trans q.tr, q.m.trans hm, q.eok, q.k⟩
theorem opS_esc (R : RelV ids s h m H) {vs : List SV} {K' : VS → Hp → Prop} (he : esc s h vs K') (hk : ∀ {s' h'}, RelV ids s' h' m H → s'.m = s.m → s'.nl = s.nl → (∀ b c, h.g b = some c → h'.g b = some c) → K' s' h' → OpS P o ids s' h' m H K) : OpS P o ids s h m H K := by
  obtain ⟨s', h', a1, a2, a3, a4, a5, a6, a7⟩ := esc_sound he R
  exact (hk a1 a3 a4 a6 a7).pre a3 a2
end
end Go.Proofs.YthnhdgcaolgdnaaAn
