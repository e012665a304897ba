/- Rows whose elements hold rows of their own, each in memory of its own; elements written. -/
import Derived.Test.YthnhdgcaolgdnaaBnE
set_option linter.unusedVariables false
set_option linter.unusedSimpArgs false
namespace Go.Proofs.YthnhdgcaolgdnaaAn
open Go
/-! ### parts -/
theorem Disj.le_right {q p p1 : Hp} (d : Disj q p1) (l : p.le p1) : Disj q p := fun k c e => le_none l (d k c e)
theorem Disj.le_left {q q1 p : Hp} (d : Disj q p) (l : q1.le q) : Disj q1 p := fun k c e => d k c (l k c e)
theorem Disj.symm {q p : Hp} (d : Disj q p) : Disj p q := fun k c e => by
  cases h : q.g k with
  | none => rfl
  | some c' => rw [d k c' h] at e; cases e
theorem le_rest {g p q : Hp} (l : g.le p) (d : Disj q g) : g.le (restH p q) := fun k c e => by
  show (match q.g k with | some _ => none | none => p.g k) = some c
  cases h : q.g k with
  | none => exact l k c e
  | some c' => rw [d k c' h] at e; cases e
theorem none_le (lo : Nat) (h : Hp) : (Hp.none lo).le h := fun k c e => by cases e
/-- a call that sees a part alone leaves the rest as it was -/
theorem wpC.part {P : Program} {f : FuncId} {args : List AV} {Q : AV → Hp → Prop} {q h : Hp} (l : q.le h) (hl : q.lo = h.lo) (w : wpC P f args Q q) :
    wpC P f args (fun v h' => ∃ q', q'.le h' ∧ (restH h q).le h' ∧ h'.lo = h.lo ∧ Q v q') h := by
  have w' := wpC.frame (g := restH h q) (p := q) hl (rest_disj q h) w
  rw [add_rest l hl.symm] at w'
  refine w'.mono fun v h' ⟨q', e, dj, hlo, k⟩ => ⟨q', ?_, ?_, ?_, k⟩
  · rw [e]; exact Hp.le_left _ _
  · rw [e]; exact Hp.le_right dj
  · rw [e]; rfl
theorem Fresh.part {p h : Hp} {a : AV} {sz : Nat} {css : List (List AV)} (f : Fresh p h a sz css) : ∃ q, q.le h ∧ Disj q p ∧ q.lo = p.lo ∧ (∀ b, q.g b ≠ none → p.lo ≤ b) ∧ Fresh (Hp.none p.lo) q a sz css := by
  have row := f.row
  have hc := row.1
  have r := row.2
  cases a <;> first | exact r.elim | skip
  · rename_i b o len lo ex z
    obtain ⟨r1, r2, r3, r4⟩ := r
    obtain ⟨n1, n2, cs, n3, n4⟩ := f.new _ _ _ _ _ _ rfl
    have hq : (Hp.one b cs p.lo).g b = some cs := if_pos rfl
    refine ⟨Hp.one b cs p.lo, fun k c e => ?_, fun k c e => ?_, rfl, fun k e => ?_, none_le _ _, rfl, ⟨hc, r1, r2, r3, r4.imp id fun e => ?_⟩, fun b' o' len' lo' ex' z' e => ?_⟩
    · have e : (if k = b then some cs else none) = some c := e
      by_cases hk : k = b
      · rw [if_pos hk] at e; injection e with e; subst e; subst hk; exact n3
      · rw [if_neg hk] at e; cases e
    · have e : (if k = b then some cs else none) = some c := e
      by_cases hk : k = b
      · subst hk; exact n1
      · rw [if_neg hk] at e; cases e
    · have e : (if k = b then some cs else none) ≠ none := e
      by_cases hk : k = b
      · subst hk; exact n2
      · rw [if_neg hk] at e; exact absurd rfl e
    · unfold rdH at e ⊢
      rw [hq]; rw [n3] at e; exact e
    · injection e with e1 e2 e3 e4 e5 e6
      subst e1; subst e2; subst e4
      exact ⟨rfl, n2, cs, hq, n4⟩
  all_goals exact ⟨Hp.none p.lo, none_le _ _, fun k c e => (by cases e), rfl, fun b e => absurd rfl e, none_le _ _, rfl, ⟨hc, r⟩, fun _ _ _ _ _ _ e => (by cases e)⟩
/-! ### elements written -/
theorem sub_splice_in {cs r new : List AV} {o n d : Nat} (h : sub? cs o n = some r) (hf : d + new.length ≤ n) : sub? (splice cs (o + d) new) o n = some (splice r d new) := by
  obtain ⟨rfl, h2⟩ := sub_at h
  rw [sub_mk (by rw [splice_len _ _ _ (by omega)]; omega)]
  congr 1
  apply List.ext_getElem?
  intro i
  unfold splice
  by_cases hi : i < n
  · rw [List.getElem?_take_of_lt hi, List.getElem?_drop]
    by_cases h1 : i < d
    · rw [List.getElem?_append_left (by simp; omega), List.getElem?_append_left (by simp; omega), List.getElem?_take_of_lt (by omega), List.getElem?_take_of_lt h1, List.getElem?_take_of_lt hi, List.getElem?_drop]
    · have e1 : (cs.take (o + d)).length = o + d := by simp; omega
      have e2 : (((cs.drop o).take n).take d).length = d := by simp; omega
      rw [List.getElem?_append_right (l₁ := cs.take (o + d)) (by rw [e1]; omega), e1, List.getElem?_append_right (l₁ := ((cs.drop o).take n).take d) (by rw [e2]; omega), e2, show o + i - (o + d) = i - d by omega]
      by_cases h3 : i - d < new.length
      · rw [List.getElem?_append_left h3, List.getElem?_append_left h3]
      · rw [List.getElem?_append_right (by omega), List.getElem?_append_right (by omega), List.getElem?_drop, List.getElem?_drop, List.getElem?_take_of_lt (by omega), List.getElem?_drop]
        congr 1; omega
  · rw [List.getElem?_eq_none (by simp; omega), List.getElem?_eq_none (by simp; omega)]
theorem splice_right {c rest new : List AV} {d : Nat} : splice (c ++ rest) (c.length + d) new = c ++ splice rest d new := by
  unfold splice
  rw [List.take_append, List.take_of_length_le (by omega), show c.length + d - c.length = d by omega, List.drop_append, List.drop_eq_nil_of_le (by omega), show c.length + d + new.length - c.length = d + new.length by omega, List.append_assoc, List.nil_append]
theorem splice_left {c rest new : List AV} {d : Nat} (h : d + new.length ≤ c.length) : splice (c ++ rest) d new = splice c d new ++ rest := by
  unfold splice
  rw [List.take_append_of_le_length (by omega), List.drop_append_of_le_length h]
  simp
theorem splice_flat {sz : Nat} {new : List AV} {off : Nat} : ∀ {css : List (List AV)} {i : Nat} {c : List AV}, (∀ c ∈ css, c.length = sz) → css[i]? = some c → off + new.length ≤ sz → splice css.flatten (i * sz + off) new = (css.set i (splice c off new)).flatten
  | [], i, c, _, hi, _ => by simp at hi
  | c0 :: css, 0, c, h, hi, hf => by
    simp at hi; subst hi
    have := h c0 (by simp)
    rw [Nat.zero_mul, Nat.zero_add, List.flatten_cons, splice_left (by omega), List.set_cons_zero, List.flatten_cons]
  | c0 :: css, i + 1, c, h, hi, hf => by
    have h0 := h c0 (by simp)
    rw [List.flatten_cons, List.set_cons_succ, List.flatten_cons, ← splice_flat (fun c hc => h c (by simp [hc])) (by simpa using hi) hf, ← splice_right, h0]
    congr 1
    rw [Nat.succ_mul]; omega
theorem Fresh.set {g h : Hp} {a : AV} {sz : Nat} {css : List (List AV)} (f : Fresh g h a sz css) {i : Nat} {c new : List AV} (hi : css[i]? = some c) (off : Nat) (hn : off + new.length ≤ sz) (hsc : new.all AV.sc = true)
    {Post : Option AV → Hp → Prop} (k : ∀ h', Fresh g h' a sz (css.set i (splice c off new)) → Post none h') : onO (idxV a (i : Int) sz) fun r => wpE (.w r.1 (r.2 + off) (.lit new) none) Post h := by
  have hlt : i < css.length := (List.getElem?_eq_some_iff.1 hi).1
  have hcl : c.length = sz := f.row.1 c (List.mem_of_getElem? hi)
  have row := f.row
  have hc := row.1
  have r := row.2
  cases a <;> first | exact r.elim | skip
  · rename_i b o len lo ex z
    obtain ⟨r1, r2, r3, r4⟩ := r
    subst r1; subst r2
    obtain ⟨n1, n2, cs, n3, n4⟩ := f.new _ _ _ _ _ _ rfl
    have r5 : sub? cs o (css.length * z) = some css.flatten := by
      rcases r4 with e | e
      · subst e; cases hlt
      · unfold rdH at e; rw [n3] at e; exact e
    have hle : i * z + z ≤ css.length * z := by rw [← Nat.succ_mul]; exact Nat.mul_le_mul_right _ hlt
    obtain ⟨_, h6⟩ := sub_at r5
    refine onO.mk (a := (b, o + i * z)) ?_ (wpE.w n3 (by rw [f.lo]; exact n2) rfl (by omega) hsc (k _ ⟨?_, f.lo, ⟨?_, rfl, by simp, by simpa using r3, .inr ?_⟩, ?_⟩))
    · show (cond (Nat.blt i css.length) (some (b, o + i * z)) none) = _
      rw [blt_of hlt]; rfl
    · intro b' cs' hb'
      rw [Hp.put_ne _ _ (fun e => by rw [e, n1] at hb'; cases hb')]; exact f.le b' cs' hb'
    · intro c' hc'
      rcases List.mem_or_eq_of_mem_set hc' with h | h
      · exact hc c' h
      · rw [h, splice_len _ _ _ (by omega)]; exact hcl
    · unfold rdH
      rw [Hp.put_same, Option.bind_some, List.length_set, ← splice_flat hc hi hn]
      rw [show o + i * z + off = o + (i * z + off) by omega]
      exact sub_splice_in r5 (by omega)
    · intro b' o' len' lo' ex' z' e
      injection e with e1 e2 e3 e4 e5 e6
      subst e1; subst e2; subst e4
      exact ⟨n1, n2, _, Hp.put_same _ _ _, by rw [splice_len _ _ _ (by omega)]; exact n4⟩
  all_goals
    have r : css = [] := r
    subst r; cases hlt
/-- what was seen beside the row, written -/
theorem Fresh.putg {g h : Hp} {a : AV} {sz : Nat} {css : List (List AV)} (f : Fresh g h a sz css) {b : Nat} {c : List AV} (hb : g.g b = some c) (cs : List AV) : Fresh (g.put b cs) (h.put b cs) a sz css := by
  have key : ∀ b' o len lo ex z, a = .sl b' o len lo ex z → b' ≠ b := fun b' o len lo ex z e e' => by
    obtain ⟨n1, _⟩ := f.new _ _ _ _ _ _ e
    rw [e', hb] at n1; cases n1
  refine ⟨fun k c' e => ?_, f.lo, ⟨f.row.1, ?_⟩, fun b' o len lo ex z e => ?_⟩
  · by_cases hk : k = b
    · subst hk; rw [Hp.put_same] at e ⊢; exact e
    · rw [Hp.put_ne _ _ hk] at e ⊢; exact f.le k c' e
  · have r := f.row.2
    cases a <;> first | exact r | skip
    obtain ⟨r1, r2, r3, r4⟩ := r
    refine ⟨r1, r2, r3, r4.imp id fun e => ?_⟩
    unfold rdH at e ⊢
    rw [Hp.put_ne _ _ (key _ _ _ _ _ _ rfl)]; exact e
  · obtain ⟨n1, n2, cs', n3, n4⟩ := f.new _ _ _ _ _ _ e
    have := key _ _ _ _ _ _ e
    exact ⟨by rw [Hp.put_ne _ _ this]; exact n1, n2, cs', by rw [Hp.put_ne _ _ this]; exact n3, n4⟩
theorem Fresh.idx {g h : Hp} {a : AV} {sz : Nat} {css : List (List AV)} (f : Fresh g h a sz css) {i : Nat} {c : List AV} (hi : css[i]? = some c) {off n : Nat} {p : List AV} (hp : sub? c off n = some p) {K : List AV → Prop} (k : K p) :
    onO (idxV a (i : Int) sz) fun r => onO (rdH h r.1 (r.2 + off) n) K := by
  obtain ⟨b, o, e1, e2, e3⟩ := f.row.idx (i := (i : Int)) (Int.natCast_nonneg i) (by simpa using hi)
  exact onO.mk e1 (onO.mk (rdH_sub e2 hp) k)
/-! ### elements with memory of their own -/
structure OwnE {α : Type} (E : Hp → α → List AV → Prop) (sz : Nat) (g h : Hp) (a : AV) (l : List α) (p : Hp) (css : List (List AV)) (qs : Nat → Hp) : Prop where
  le : g.le p
  lo : p.lo = g.lo
  fr : Fresh p h a sz css
  len : css.length = l.length
  sub : ∀ i, (qs i).le p
  dj : ∀ i, Disj (qs i) g
  dd : ∀ i j, i ≠ j → Disj (qs i) (qs j)
  qlo : ∀ i, (qs i).lo = g.lo
  own : ∀ i b, (qs i).g b ≠ none → g.lo ≤ b
  el : ∀ i x c, l[i]? = some x → css[i]? = some c → E (qs i) x c
def OwnD {α : Type} (E : Hp → α → List AV → Prop) (sz : Nat) (g h : Hp) (a : AV) (l : List α) : Prop := ∃ p css qs, OwnE E sz g h a l p css qs
section
variable {α : Type} {E : Hp → α → List AV → Prop} {sz : Nat} {g h : Hp} {a : AV} {l : List α}
theorem OwnD.nil (g : Hp) : OwnD E sz g g .ns [] :=
  ⟨g, [], fun _ => Hp.none g.lo, Hp.le_refl g, rfl, Fresh.nil g sz, rfl, fun _ => none_le _ _, fun _ k c e => (by cases e), fun _ _ _ k c e => (by cases e), fun _ => rfl, fun _ b e => absurd rfl e, fun i x c e => (by simp at e)⟩
theorem OwnE.own1 {d : Kn α} {p : Hp} {css : List (List AV)} {qs : Nat → Hp} (o : OwnE E sz g h a l p css qs) (hsz : d.sz = sz) (hE : ∀ q x c, E q x c → d.K q x c) : d.Own g h a l := by
  subst hsz
  exact ⟨p, css, o.le, o.lo, o.fr, All2.of_get o.len.symm fun i x c hx hc => d.mono (o.sub i) (hE _ _ _ (o.el i x c hx hc))⟩
theorem OwnD.own {d : Kn α} (o : OwnD E sz g h a l) (hsz : d.sz = sz) (hE : ∀ q x c, E q x c → d.K q x c) : d.Own g h a l := by
  obtain ⟨p, css, qs, o⟩ := o
  exact o.own1 hsz hE
theorem OwnD.mono {g0 : Hp} (o : OwnD E sz g h a l) (le : g0.le g) (hl : g.lo = g0.lo) : OwnD E sz g0 h a l := by
  obtain ⟨p, css, qs, o⟩ := o
  exact ⟨p, css, qs, Hp.le_trans le o.le, o.lo.trans hl, o.fr, o.len, o.sub, fun i => (o.dj i).le_right le, o.dd, fun i => (o.qlo i).trans hl, fun i b e => by rw [← hl]; exact o.own i b e, o.el⟩
/-- one more, at the end -/
theorem OwnE.snoc {p p' h' q' : Hp} {css : List (List AV)} {qs : Nat → Hp} (o : OwnE E sz g h a l p css qs) (fr : Fresh p' h' a sz css) (le : p.le p') (hl : p'.lo = p.lo) {x : α} {c : List AV} (q1 : q'.le p') (q2 : Disj q' p) (q3 : q'.lo = p.lo) (q4 : ∀ b, q'.g b ≠ none → p.lo ≤ b) (q5 : E q' x c)
    (hc : c.length = sz) (hsc : c.all AV.sc = true) (hbig : l.length + 1 < 32000000) {Post : Option AV → Hp → Prop} (k : ∀ r h2, OwnD E sz g h2 r (l ++ [x]) → Post (some r) h2) : wpE (.app a 1 (.lit c) sz) Post h' := by
  refine fr.app (n := 1) (css2 := [c]) (src := .lit c) (by simp [srcH]) (fun c' hc' => by simp at hc'; subst hc'; exact hc) rfl (by simpa using hsc) (by rw [o.len]; exact hbig) fun r h2 fr2 => k r h2 ?_
  refine ⟨p', css ++ [c], fun i => if i = l.length then q' else qs i, Hp.le_trans o.le le, hl.trans o.lo, fr2, by simp [o.len], fun i => ?_, fun i => ?_, fun i j hij => ?_, fun i => ?_, fun i => ?_, fun i x' c' hx hc' => ?_⟩
  · by_cases e : i = l.length
    · simp only [if_pos e]; exact q1
    · simp only [if_neg e]; exact Hp.le_trans (o.sub i) le
  · by_cases e : i = l.length
    · simp only [if_pos e]; exact q2.le_right o.le
    · simp only [if_neg e]; exact o.dj i
  · by_cases e : i = l.length
    · have e' : j ≠ l.length := fun e' => hij (e.trans e'.symm)
      simp only [if_pos e, if_neg e']; exact q2.le_right (o.sub j)
    · by_cases e' : j = l.length
      · simp only [if_neg e, if_pos e']; exact (q2.le_right (o.sub i)).symm
      · simp only [if_neg e, if_neg e']; exact o.dd i j hij
  · by_cases e : i = l.length
    · simp only [if_pos e]; exact q3.trans o.lo
    · simp only [if_neg e]; exact o.qlo i
  · by_cases e : i = l.length
    · simp only [if_pos e]; intro b hb; rw [← o.lo]; exact q4 b hb
    · simp only [if_neg e]; exact o.own i
  · by_cases e : i = l.length
    · subst e
      simp only [if_pos rfl]
      rw [List.getElem?_append_right (by omega)] at hx
      rw [List.getElem?_append_right (by rw [o.len]; omega), o.len] at hc'
      simp at hx hc'
      subst hx; subst hc'; exact q5
    · simp only [if_neg e]
      have hlt : i < l.length := by
        have := (List.getElem?_eq_some_iff.1 hx).1
        simp at this; omega
      rw [List.getElem?_append_left hlt] at hx
      rw [List.getElem?_append_left (by rw [o.len]; exact hlt)] at hc'
      exact o.el i x' c' hx hc'
end
end Go.Proofs.YthnhdgcaolgdnaaAn
