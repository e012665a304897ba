/- Rows of one's own: made, appended to, written. -/
import Derived.Test.YthnhdgcaolgdnaaBnC
set_option linter.unusedVariables false
set_option linter.unusedSimpArgs false
namespace Go.Proofs.YthnhdgcaolgdnaaAn
open Go
/-! ### what a source gives -/
def srcH (h : Hp) : Src → Option (List AV)
  | .lit l => some l
  | .mem b o n => rdH h b o n
theorem Fits.rdb {h : Hp} {H : Heap} (f : Fits h H) {b o n : Nat} {cs : List AV} (e : rdH h b o n = some cs) : rd H b o n = some cs := by
  obtain ⟨c, h1, h2⟩ := bind_some' e
  show (H.get b).bind _ = _
  rw [(f.get b c h1).1]; exact h2
theorem Fits.src {h : Hp} {H : Heap} (f : Fits h H) {s : Src} {cs : List AV} (e : srcH h s = some cs) : rdSrc H s = some cs := by
  cases s with
  | lit l => exact e
  | mem b o n => exact f.rdb e
theorem wpE.q {v : AV} {Post : Option AV → Hp → Prop} {h : Hp} (k : Post (some v) h) : wpE (.q v) Post h := fun H F =>
  ⟨some v, H, h, rfl, ⟨F, Nat.le_refl _, fun _ _ _ => rfl, fun _ e => .inl e, rfl⟩, k⟩
/-- cells written -/
theorem wpE.w {b o : Nat} {src : Src} {v : Option AV} {Post : Option AV → Hp → Prop} {h : Hp} {cs new : List AV} (hb : h.g b = some cs) (hlo : h.lo ≤ b) (hs : srcH h src = some new) (hf : o + new.length ≤ cs.length) (hsc : new.all AV.sc = true)
    (k : Post v (h.put b (splice cs o new))) : wpE (.w b o src v) Post h := by
  intro H F
  obtain ⟨g1, g2⟩ := F.get b cs hb
  refine ⟨v, ⟨H.next, H.m.set b (some (splice cs o new)), H.low⟩, h.put b (splice cs o new), ?_, ⟨⟨?_, F.lo, F.low, ?_⟩, Nat.le_refl _, ?_, ?_, rfl⟩, k⟩
  · show (rdSrc H src).bind _ = _
    rw [F.src hs, Option.bind_some]
    unfold wr
    rw [g1, Option.bind_some, F.lo, Nat.ble_eq_true_of_le hlo, Nat.ble_eq_true_of_le hf, hsc]
    rfl
  · intro i cs' hk
    by_cases e : i = b
    · subst e
      have hk : (if i = i then some (splice cs o new) else h.g i) = some cs' := hk
      rw [if_pos rfl] at hk
      exact ⟨by rw [← hk]; exact T.get_set_same _ _ _, g2⟩
    · have hk : (if i = b then some (splice cs o new) else h.g i) = some cs' := hk
      rw [if_neg e] at hk
      exact ⟨by show (H.m.set b _).get i = _; rw [T.get_set_ne _ _ e]; exact (F.get i cs' hk).1, (F.get i cs' hk).2⟩
  · intro k hk
    have hk : H.next ≤ k := hk
    show (H.m.set b _).get k = _
    rw [T.get_set_ne _ _ (by omega)]; exact F.fresh k hk
  · intro k _ hn
    show (H.m.set b _).get k = _
    rw [T.get_set_ne _ _ (by intro e; subst e; rw [hb] at hn; cases hn)]; rfl
  · intro i hk
    by_cases e : i = b
    · subst e; exact .inl (by rw [hb]; simp)
    · have hk : (if i = b then some (splice cs o new) else h.g i) ≠ none := hk
      rw [if_neg e] at hk; exact .inl hk

/-! ### rows of one's own -/
/-- What was seen is seen; a is a row of these elements, in memory that was not there. -/
structure Fresh (g h : Hp) (a : AV) (sz : Nat) (css : List (List AV)) : Prop where
  le : g.le h
  lo : h.lo = g.lo
  row : Raw h a sz css
  new : ∀ b o len lo ex z, a = .sl b o len lo ex z → g.g b = none ∧ g.lo ≤ b ∧ ∃ cs, h.g b = some cs ∧ o + lo * sz ≤ cs.length
theorem Fresh.nil (g : Hp) (sz : Nat) : Fresh g g .ns sz [] := ⟨Hp.le_refl g, rfl, ⟨fun _ h => (by cases h), rfl⟩, fun _ _ _ _ _ _ e => (by cases e)⟩
theorem Fresh.mono {g g' h : Hp} {a : AV} {sz : Nat} {css : List (List AV)} (f : Fresh g' h a sz css) (l : g.le g') (hl : g'.lo = g.lo) : Fresh g h a sz css :=
  ⟨Hp.le_trans l f.le, f.lo.trans hl, f.row, fun b o len lo ex z e => by
    obtain ⟨h1, h2, h3⟩ := f.new b o len lo ex z e
    refine ⟨?_, by rw [← hl]; exact h2, h3⟩
    cases hg : g.g b with
    | none => rfl
    | some c => rw [l b c hg] at h1; cases h1⟩
theorem le_none {g h : Hp} (l : g.le h) {b : Nat} (e : h.g b = none) : g.g b = none := by
  cases hg : g.g b with
  | none => rfl
  | some c => rw [l b c hg] at e; cases e
/-- a new block -/
theorem Fresh.put {g h : Hp} (l : g.le h) (hl : h.lo = g.lo) {b : Nat} (hb : h.g b = none) (hlo : h.lo ≤ b) {css : List (List AV)} {sz len : Nat} (ex : Bool) (hc : ∀ c ∈ css, c.length = sz) (hlen : len = css.length) {cs : List AV} (hcs : cs = css.flatten) :
    Fresh g (h.put b cs) (.sl b 0 len len ex sz) sz css := by
  subst hcs; subst hlen
  refine ⟨Hp.le_trans l (Hp.le_put hb), hl, ⟨hc, rfl, rfl, Nat.le_refl _, .inr ?_⟩, ?_⟩
  · unfold rdH
    rw [Hp.put_same, Option.bind_some, sub_mk (by rw [flat_len hc]; omega), List.drop_zero, List.take_of_length_le (by rw [flat_len hc]; omega)]
  · intro b' o len' lo ex' z e
    injection e with e1 e2 e3 e4 e5 e6
    subst e1; subst e2; subst e4
    exact ⟨le_none l hb, by rw [← hl]; exact hlo, _, Hp.put_same _ _ _, by rw [flat_len hc]; omega⟩
theorem sub_at {cs r : List AV} {o n : Nat} (h : sub? cs o n = some r) : r = (cs.drop o).take n ∧ o + n ≤ cs.length := ⟨(sub_some h).2, (sub_some h).1⟩
/-- behind a part that is read, what is written -/
theorem sub_splice {cs old new : List AV} {o n : Nat} (h : sub? cs o n = some old) (hf : o + n + new.length ≤ cs.length) : sub? (splice cs (o + n) new) o (n + new.length) = some (old ++ new) := by
  obtain ⟨rfl, h2⟩ := sub_at h
  rw [sub_mk (by rw [splice_len _ _ _ hf]; omega)]
  congr 1
  unfold splice
  rw [List.drop_append, List.length_take, Nat.min_eq_left (by omega), show o - (o + n) = 0 by omega, List.drop_zero, List.drop_take, show o + n - o = n by omega]
  rw [List.take_append, List.length_take, List.length_drop, Nat.min_eq_left (by omega), show n + new.length - n = new.length by omega]
  rw [List.take_of_length_le (by simp; omega), List.take_append, List.take_of_length_le (Nat.le_refl _), Nat.sub_self, List.take_zero, List.append_nil]
/-- appended to -/
theorem Fresh.app {g h : Hp} {a : AV} {sz n : Nat} {css css2 : List (List AV)} (f : Fresh g h a sz css) {src : Src} (hs : srcH h src = some css2.flatten) (hc2 : ∀ c ∈ css2, c.length = sz) (hn : css2.length = n) (hsc : css2.flatten.all AV.sc = true) (hbig : css.length + n < 32000000)
    {Post : Option AV → Hp → Prop} (k : ∀ r h', Fresh g h' r sz (css ++ css2) → Post (some r) h') : wpE (.app a n src sz) Post h := by
  intro H F
  have hfl : Nat.beq css2.flatten.length (n * sz) = true := by rw [flat_len hc2, hn]; exact Nat.beq_refl _
  have hcc : ∀ c ∈ css ++ css2, c.length = sz := fun c hc => by
    rcases List.mem_append.1 hc with h | h
    · exact f.row.1 c h
    · exact hc2 c h
  have hfr : h.g H.next = none := by
    cases hg : h.g H.next with
    | none => rfl
    | some c => have := (F.get _ _ hg).2; omega
  have hgr : g.g H.next = none := le_none f.le hfr
  have hlon : g.lo ≤ H.next := by rw [← f.lo, ← F.lo]; exact F.low
  -- a new block, some others left out
  have fin : ∀ (m : T (List AV)) (gg : Nat → Option (List AV)), (∀ b cs, gg b = some cs → m.get b = some cs ∧ b < H.next) → (∀ b, H.next ≤ b → m.get b = none) → (∀ b, b < H.next → h.g b = none → m.get b = H.get b) → (∀ b, gg b ≠ none → h.g b ≠ none) → (∀ b cs, g.g b = some cs → gg b = some cs) →
      StepH h H ⟨fun k => if k = H.next then some (css ++ css2).flatten else gg k, h.lo⟩ (alloc ⟨H.next, m, H.low⟩ (css ++ css2).flatten) ∧ Fresh g ⟨fun k => if k = H.next then some (css ++ css2).flatten else gg k, h.lo⟩ (.sl H.next 0 (css.length + n) (css.length + n) false sz) sz (css ++ css2) := by
    intro m gg m1 m2 m3 m4 m5
    have hgg : gg H.next = none := by
      cases hg : gg H.next with
      | none => rfl
      | some c => have := (m1 _ _ hg).2; omega
    refine ⟨⟨⟨?_, F.lo, Nat.le_trans F.low (Nat.le_succ _), ?_⟩, Nat.le_succ _, ?_, ?_, rfl⟩, ?_⟩
    · intro b cs hb
      have hb : (if b = H.next then some (css ++ css2).flatten else gg b) = some cs := hb
      by_cases e : b = H.next
      · subst e
        rw [if_pos rfl] at hb
        exact ⟨by rw [get_alloc, if_pos rfl]; exact hb, Nat.lt_succ_self _⟩
      · rw [if_neg e] at hb
        exact ⟨by rw [get_alloc, if_neg e]; exact (m1 b cs hb).1, Nat.lt_succ_of_lt (m1 b cs hb).2⟩
    · intro b hb
      have hb : H.next + 1 ≤ b := hb
      rw [get_alloc, if_neg (show b ≠ H.next by omega)]
      exact m2 b (by omega)
    · intro b hb hn'
      rw [get_alloc, if_neg (show b ≠ H.next by omega)]
      exact m3 b hb hn'
    · intro b hb
      have hb : (if b = H.next then some (css ++ css2).flatten else gg b) ≠ none := hb
      by_cases e : b = H.next
      · exact .inr (by omega)
      · rw [if_neg e] at hb; exact .inl (m4 b hb)
    · refine ⟨?_, f.lo, ⟨hcc, rfl, by rw [List.length_append, hn], Nat.le_refl _, .inr ?_⟩, ?_⟩
      · intro b cs hb
        have e : b ≠ H.next := fun e => by rw [e, hgr] at hb; cases hb
        show (if b = H.next then some (css ++ css2).flatten else gg b) = some cs
        rw [if_neg e]; exact m5 b cs hb
      · unfold rdH
        show (if H.next = H.next then some (css ++ css2).flatten else gg H.next).bind _ = _
        rw [if_pos rfl, Option.bind_some, sub_mk (by rw [flat_len hcc]; omega), List.drop_zero, List.take_of_length_le (by rw [flat_len hcc]; omega)]
      · intro b' o len' lo ex' z e
        injection e with e1 e2 e3 e4 e5 e6
        subst e1; subst e2; subst e4
        exact ⟨hgr, hlon, _, if_pos rfl, by rw [flat_len hcc, List.length_append, hn]; omega⟩
  have same : doEff noCall H (.app a n src sz) = ((appA H a n src sz).map fun (v, H') => (some v, H')) := rfl
  have plain := fin H.m h.g F.get F.fresh (fun _ _ _ => rfl) (fun _ e => e) f.le
  have hrow := f.row
  have hnb : Nat.blt n 32000000 = true := blt_of (by omega)
  cases a <;> first | exact hrow.2.elim | skip
  · rename_i b o len lo ex z
    obtain ⟨r0, r1, r2, r3, r4⟩ := hrow
    subst r1
    subst r2
    obtain ⟨n1, n2, cs, n3, n4⟩ := f.new _ _ _ _ _ _ rfl
    obtain ⟨gb, gl⟩ := F.get b cs n3
    have hbb : Nat.blt (css.length + n) 32000000 = true := blt_of (by omega)
    have hold : sub? cs o (css.length * z) = some css.flatten := by
      rcases r4 with r4 | r4
      · subst r4; rw [List.length_nil, Nat.zero_mul, sub_mk (by omega)]; simp
      · unfold rdH at r4; rw [n3] at r4; exact r4
    have hlz : css.length * z ≤ lo * z := Nat.mul_le_mul_right _ r3
    by_cases hfit : css.length + n ≤ lo
    · by_cases hn0 : n = 0
      · have hc20 : css2 = [] := List.length_eq_zero_iff.1 (by omega)
        refine ⟨some (.sl b o css.length lo ex z), H, h, ?_, ⟨F, Nat.le_refl _, fun _ _ _ => rfl, fun _ e => .inl e, rfl⟩, k _ _ (by rw [hc20, List.append_nil]; exact f)⟩
        rw [same]
        unfold appA
        rw [F.src hs, Option.bind_some, hfl, cond_true]
        subst hn0
        simp only [Nat.beq_refl, hbb, Bool.and_self, cond_true, Nat.ble_eq_true_of_le hfit]
        rfl
      · have hle2 : (css.length + n) * z ≤ lo * z := Nat.mul_le_mul_right _ hfit
        rw [Nat.add_mul] at hle2
        have hfl2 : css2.flatten.length = n * z := by rw [flat_len hc2, hn]
        have hff : o + css.length * z + css2.flatten.length ≤ cs.length := by rw [hfl2]; omega
        have hn0' : Nat.beq n 0 = false := by
          cases hb : Nat.beq n 0 with
          | true => exact absurd (beq_eq' hb) hn0
          | false => rfl
        -- written in place
        have hw := wpE.w (src := src) (v := some (.sl b o (css.length + n) lo ex z)) (Post := Post) n3 (by rw [f.lo]; exact n2) hs hff hsc (k _ _ ⟨?_, f.lo, ⟨hcc, rfl, by rw [List.length_append, hn], hfit, .inr ?_⟩, ?_⟩) H F
        · obtain ⟨v, H', h', q1, q2, q3⟩ := hw
          refine ⟨v, H', h', ?_, q2, q3⟩
          rw [same, ← q1]
          unfold appA
          have e : doEff noCall H (.w b (o + css.length * z) src (some (.sl b o (css.length + n) lo ex z))) = (wr H b (o + css.length * z) css2.flatten).map fun H' => (some (.sl b o (css.length + n) lo ex z), H') := by
            show (rdSrc H src).bind _ = _
            rw [F.src hs, Option.bind_some]
          rw [e, F.src hs, Option.bind_some, hfl, cond_true]
          simp only [Nat.beq_refl, hbb, Bool.and_self, cond_true, Nat.ble_eq_true_of_le hfit, hn0', cond_false, Option.map_map]
          rfl
        · intro b' cs' hb'
          have e : b' ≠ b := fun e => by rw [e, n1] at hb'; cases hb'
          rw [Hp.put_ne _ _ e]; exact f.le b' cs' hb'
        · unfold rdH
          rw [Hp.put_same, Option.bind_some, List.length_append, hn, Nat.add_mul, ← hfl2, List.flatten_append]
          exact sub_splice hold hff
        · intro b' o' len' lo' ex' z' e
          injection e with e1 e2 e3 e4 e5 e6
          subst e1; subst e2; subst e4
          exact ⟨n1, n2, _, Hp.put_same _ _ _, by rw [splice_len _ _ _ hff]; exact n4⟩
    · have hfit' : Nat.ble (css.length + n) lo = false := by
        cases hb : Nat.ble (css.length + n) lo with
        | true => exact absurd (ble_le hb) hfit
        | false => rfl
      have hold2 : (cond (Nat.beq css.length 0) (some []) (sub? cs o (css.length * z))) = some css.flatten := by
        cases hb : Nat.beq css.length 0 with
        | true =>
          have := beq_eq' hb
          have : css = [] := List.length_eq_zero_iff.1 (by omega)
          subst this; rfl
        | false => exact hold
      cases ex with
      | true =>
        refine ⟨some (.sl H.next 0 (css.length + n) (css.length + n) false z), _, _, ?_, plain.1, k _ _ plain.2⟩
        rw [same]
        unfold appA
        have hold3 : (cond (Nat.beq css.length 0) (some []) (rd H b o (css.length * z))) = some css.flatten := by
          unfold rd; rw [gb]; exact hold2
        rw [F.src hs, Option.bind_some, hfl, cond_true]
        simp only [Nat.beq_refl, hbb, Bool.and_self, cond_true, hfit', cond_false, hold3, Option.bind_some, List.flatten_append]
        rfl
      | false =>
        have kill := fin (H.m.set b none) (fun k => if k = b then none else h.g k) ?_ ?_ ?_ ?_ ?_
        · refine ⟨some (.sl H.next 0 (css.length + n) (css.length + n) false z), _, _, ?_, kill.1, k _ _ kill.2⟩
          rw [same]
          unfold appA
          have hlow : Nat.ble H.low b = true := Nat.ble_eq_true_of_le (by rw [F.lo, f.lo]; exact n2)
          rw [F.src hs, Option.bind_some, hfl, cond_true]
          simp only [Nat.beq_refl, hbb, Bool.and_self, cond_true, hfit', cond_false, gb, hold2, Option.bind_some, hlow, hsc, List.flatten_append]
          rfl
        · intro b' cs' hb'
          by_cases e : b' = b
          · rw [if_pos e] at hb'; cases hb'
          · rw [if_neg e] at hb'
            exact ⟨by rw [T.get_set_ne _ _ e]; exact (F.get b' cs' hb').1, (F.get b' cs' hb').2⟩
        · intro b' hb'
          rw [T.get_set_ne _ _ (by omega)]; exact F.fresh b' hb'
        · intro b' _ hn'
          rw [T.get_set_ne _ _ (by intro e; subst e; rw [n3] at hn'; cases hn')]; rfl
        · intro b' hb'
          by_cases e : b' = b
          · rw [if_pos e] at hb'; exact absurd rfl hb'
          · rw [if_neg e] at hb'; exact hb'
        · intro b' cs' hb'
          have e : b' ≠ b := fun e => by rw [e, n1] at hb'; cases hb'
          rw [if_neg e]; exact f.le b' cs' hb'
  all_goals
    have hc0 : css = [] := hrow.2
    subst hc0
    by_cases hn0 : n = 0
    · have hc20 : css2 = [] := List.length_eq_zero_iff.1 (by omega)
      refine ⟨some _, H, h, ?_, ⟨F, Nat.le_refl _, fun _ _ _ => rfl, fun _ e => .inl e, rfl⟩, k _ _ (by rw [hc20, List.append_nil]; exact f)⟩
      rw [same]
      unfold appA
      rw [F.src hs, Option.bind_some, hfl, cond_true]
      simp only [hn0]
      rfl
    · have hn0' : Nat.beq n 0 = false := by
        cases hb : Nat.beq n 0 with
        | true => exact absurd (beq_eq' hb) hn0
        | false => rfl
      refine ⟨some (.sl H.next 0 ([].length + n) ([].length + n) false sz), _, _, ?_, plain.1, k _ _ plain.2⟩
      rw [same]
      unfold appA
      rw [F.src hs, Option.bind_some, hfl, cond_true]
      simp only [hn0', cond_false, hnb, cond_true, List.nil_append, List.length_nil, Nat.zero_add]
      rfl
end Go.Proofs.YthnhdgcaolgdnaaAn
