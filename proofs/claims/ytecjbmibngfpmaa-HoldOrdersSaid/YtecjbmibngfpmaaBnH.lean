/- Rows of one's own with elements set in. -/
import Derived.Test.YtecjbmibngfpmaaBnG
set_option linter.unusedVariables false
set_option linter.unusedSimpArgs false
namespace Go.Proofs.YtecjbmibngfpmaaAn
open Go
variable {hk : Hook}
theorem flat_tk {sz : Nat} : ∀ {css : List (List AV)} {i : Nat}, (∀ c ∈ css, c.length = sz) → css.flatten.take (i * sz) = (css.take i).flatten
  | _, 0, _ => by simp
  | [], i + 1, _ => by simp
  | c :: css, i + 1, h => by
    have h0 := h c (by simp)
    rw [List.flatten_cons, List.take_succ_cons, List.flatten_cons, Nat.succ_mul, Nat.add_comm, ← h0, List.take_length_add_append, h0, flat_tk fun c hc => h c (by simp [hc])]
theorem flat_dp {sz : Nat} : ∀ {css : List (List AV)} {i : Nat}, (∀ c ∈ css, c.length = sz) → css.flatten.drop (i * sz) = (css.drop i).flatten
  | _, 0, _ => by simp
  | [], i + 1, _ => by simp
  | c :: css, i + 1, h => by
    have h0 := h c (by simp)
    rw [List.flatten_cons, List.drop_succ_cons, Nat.succ_mul, Nat.add_comm, ← h0, List.drop_length_add_append, h0, flat_dp fun c hc => h c (by simp [hc])]
/-- more is seen -/
theorem Fresh.moreb {g h : Hp} {a : AV} {sz : Nat} {css : List (List AV)} (f : Fresh g h a sz css) {b : Nat} (hb : h.g b = none) (cs : List AV) : Fresh g (h.put b cs) a sz css := by
  have key : ∀ b' o len lo ex z, a = .sl b' o len lo ex z → b' ≠ b := fun b' o len lo ex z e e' => by
    obtain ⟨_, _, c, n3, _⟩ := f.new _ _ _ _ _ _ e
    rw [e', hb] at n3; cases n3
  refine ⟨Hp.le_trans f.le (Hp.le_put hb), f.lo, f.row.mono (Hp.le_put hb), fun b' o len lo ex z e => ?_⟩
  obtain ⟨n1, n2, cs', n3, n4⟩ := f.new _ _ _ _ _ _ e
  exact ⟨n1, n2, cs', by rw [Hp.put_ne _ _ (key _ _ _ _ _ _ e)]; exact n3, n4⟩
/-- a new block, some others left out -/
theorem Fresh.newblk {g h : Hp} {H : Heap} {sz n : Nat} {css : List (List AV)} (F : Fits h H) (fle : g.le h) (flo : h.lo = g.lo) (hcc : ∀ c ∈ css, c.length = sz) (hn : css.length = n) (m : T (List AV)) (gg : Nat → Option (List AV))
    (m1 : ∀ b cs, gg b = some cs → m.get b = some cs ∧ b < H.next) (m2 : ∀ b, H.next ≤ b → m.get b = none) (m3 : ∀ b, b < H.next → h.g b = none → m.get b = H.get b) (m4 : ∀ b, gg b ≠ none → h.g b ≠ none) (m5 : ∀ b cs, g.g b = some cs → gg b = some cs) :
    StepH h H ⟨fun k => if k = H.next then some css.flatten else gg k, h.lo⟩ (alloc ⟨H.next, m, H.low⟩ css.flatten) ∧ Fresh g ⟨fun k => if k = H.next then some css.flatten else gg k, h.lo⟩ (.sl H.next 0 n n false sz) sz css := by
  have hfr : h.g H.next = none := by
    cases hg : h.g H.next with
    | none => rfl
    | some c => have := (F.get _ _ hg).2; omega
  have hgr : g.g H.next = none := le_none fle hfr
  have hlon : g.lo ≤ H.next := by rw [← flo, ← F.lo]; exact F.low
  refine ⟨⟨⟨?_, F.lo, Nat.le_trans F.low (Nat.le_succ _), ?_⟩, Nat.le_succ _, ?_, ?_, rfl⟩, ?_⟩
  · intro b cs hb
    have hb : (if b = H.next then some css.flatten else gg b) = some cs := hb
    by_cases e : b = H.next
    · subst e
      rw [if_pos rfl] at hb
      exact ⟨by rw [get_alloc, if_pos rfl]; exact hb, Nat.lt_succ_self _⟩
    · rw [if_neg e] at hb
      exact ⟨by rw [get_alloc, if_neg e]; exact (m1 b cs hb).1, Nat.lt_succ_of_lt (m1 b cs hb).2⟩
  · intro b hb
    have hb : H.next + 1 ≤ b := hb
    rw [get_alloc, if_neg (show b ≠ H.next by omega)]
    exact m2 b (by omega)
  · intro b hb hn'
    rw [get_alloc, if_neg (show b ≠ H.next by omega)]
    exact m3 b hb hn'
  · intro b hb
    have hb : (if b = H.next then some css.flatten else gg b) ≠ none := hb
    by_cases e : b = H.next
    · exact .inr (by omega)
    · rw [if_neg e] at hb; exact .inl (m4 b hb)
  · refine ⟨?_, flo, ⟨hcc, rfl, hn.symm, Nat.le_refl _, .inr ?_⟩, ?_⟩
    · intro b cs hb
      have e : b ≠ H.next := fun e => by rw [e, hgr] at hb; cases hb
      show (if b = H.next then some css.flatten else gg b) = some cs
      rw [if_neg e]; exact m5 b cs hb
    · unfold rdH
      show (if H.next = H.next then some css.flatten else gg H.next).bind _ = _
      rw [if_pos rfl, Option.bind_some, sub_mk (by rw [flat_len hcc]; omega), List.drop_zero, List.take_of_length_le (by rw [flat_len hcc]; omega)]
    · intro b' o len' lo ex' z e
      injection e with e1 e2 e3 e4 e5 e6
      subst e1; subst e2; subst e4
      exact ⟨hgr, hlon, _, if_pos rfl, by rw [flat_len hcc, hn]; omega⟩
/-- a call told by hand: elements set in -/
theorem Fresh.ins {P : Program} {f : FuncId} {sz : Nat} (hf : Hook.has f = true) (hc : ∀ a H, Hook.call f a H = insA sz a H) {g h : Hp} {a : AV} {css css2 : List (List AV)} (fr : Fresh g h a sz css) {vb vo vn vl : Nat} {vx : Bool} (hr : rdH h vb vo (vn * sz) = some css2.flatten) (hvlo : h.lo ≤ vb)
    (hne : ∀ b o len lo ex z, a = .sl b o len lo ex z → vb ≠ b) (hn : css2.length = vn) (h0 : 0 < vn) (hc2 : ∀ c ∈ css2, c.length = sz) (hs1 : css.flatten.all AV.sc = true) (hs2 : css2.flatten.all AV.sc = true) {i : Nat} (hi : i ≤ css.length) (hbig : css.length + vn < 1000000)
    {Post : AV → Hp → Prop} (k : ∀ r h', Fresh g h' r sz (css.take i ++ (css2 ++ css.drop i)) → Post r h') : wpC P f [a, .i .i64 (.ofNat i), .sl vb vo vn vl vx sz] Post h := by
  intro H F
  have hrow := fr.row
  have hcc : ∀ c ∈ css.take i ++ (css2 ++ css.drop i), c.length = sz := fun c hcm => by
    rcases List.mem_append.1 hcm with h | h
    · exact hrow.1 c (List.mem_of_mem_take h)
    · rcases List.mem_append.1 h with h | h
      · exact hc2 c h
      · exact hrow.1 c (List.mem_of_mem_drop h)
  have hll : (css.take i ++ (css2 ++ css.drop i)).length = css.length + vn := by simp [hn]; omega
  have hgo : ∀ {v H'}, insA sz [a, .i .i64 (.ofNat i), .sl vb vo vn vl vx sz] H = some (v, H') → Goes P f [a, .i .i64 (.ofNat i), .sl vb vo vn vl vx sz] H v H' := fun {v H'} he => ⟨0, by
    unfold callA
    rw [hf, cond_true, hc]; exact he⟩
  have hrd : rd H vb vo (vn * sz) = some css2.flatten := F.rdb hr
  have hlow := F.lo
  have flat : (css.take i ++ (css2 ++ css.drop i)).flatten = css.flatten.take (i * sz) ++ (css2.flatten ++ css.flatten.drop (i * sz)) := by
    rw [List.flatten_append, List.flatten_append, flat_tk hrow.1, flat_dp hrow.1]
  cases a <;> first | exact hrow.2.elim | skip
  · rename_i b o len lo ex z
    obtain ⟨r0, r1, r2, r3, r4⟩ := hrow
    subst r1
    subst r2
    obtain ⟨n1, n2, cs, n3, n4⟩ := fr.new _ _ _ _ _ _ rfl
    obtain ⟨gb, gl⟩ := F.get b cs n3
    have hold : (cond (Nat.beq css.length 0) (some []) (sub? cs o (css.length * z))) = some css.flatten := by
      by_cases e : css.length = 0
      · rw [beq_of e, cond_true, List.length_eq_zero_iff.1 e]; rfl
      · rw [beq_ne e, cond_false]
        rcases r4 with r4 | r4
        · exact absurd (by rw [r4]; rfl) e
        · unfold rdH at r4; rw [n3] at r4; exact r4
    have hvb := hne _ _ _ _ _ _ rfl
    obtain ⟨s1, s2⟩ := Fresh.newblk (n := css.length + vn) F fr.le fr.lo hcc hll (H.m.set b none) (fun k => if k = b then none else h.g k) (fun b' cs' e => by
        have e : (if b' = b then none else h.g b') = some cs' := e
        by_cases hb : b' = b
        · rw [if_pos hb] at e; cases e
        · rw [if_neg hb] at e
          exact ⟨by rw [T.get_set_ne _ _ hb]; exact (F.get b' cs' e).1, (F.get b' cs' e).2⟩) (fun b' hb' => by
        rw [T.get_set_ne _ _ (by omega)]; exact F.fresh b' hb') (fun b' hb' hn' => by
        rw [T.get_set_ne _ _ (fun e => by rw [e, n3] at hn'; cases hn')]; rfl) (fun b' e => by
        have e : (if b' = b then none else h.g b') ≠ none := e
        by_cases hb : b' = b
        · rw [if_pos hb] at e; exact absurd rfl e
        · rw [if_neg hb] at e; exact e) (fun b' cs' e => by
        have hb : b' ≠ b := fun hb => by rw [hb, n1] at e; cases e
        show (if b' = b then none else h.g b') = some cs'
        rw [if_neg hb]; exact fr.le b' cs' e)
    refine ⟨_, _, _, hgo ?_, s1, k _ _ s2⟩
    show (cond (Nat.beq z z && (Nat.beq z z && (Nat.ble H.low b && (Nat.ble H.low vb && (!(Nat.beq vb b) && (Nat.ble i css.length && (Nat.blt 0 vn && Nat.blt (css.length + vn) 1000000))))))) _ none : Option (AV × Heap)) = _
    rw [Nat.beq_refl, Nat.ble_eq_true_of_le (by rw [hlow, fr.lo]; exact n2), Nat.ble_eq_true_of_le (by rw [hlow]; exact hvlo), beq_ne hvb, Nat.ble_eq_true_of_le hi, blt_of h0, blt_of hbig]
    simp only [Bool.and_self, Bool.not_false, cond_true, gb, Option.bind_some, hold, hrd, hs1, hs2]
    rw [flat]
  all_goals
    have hcs : css = [] := hrow.2
    subst hcs
    have hi0 : i = 0 := by simpa using hi
    subst hi0
    obtain ⟨s1, s2⟩ := Fresh.newblk (n := vn) F fr.le fr.lo hcc (by rw [hll]; simp) H.m h.g F.get F.fresh (fun _ _ _ => rfl) (fun _ e => e) fr.le
    refine ⟨_, _, _, hgo ?_, s1, k _ _ s2⟩
    show (insN sz 0 vb vo vn sz H) = _
    unfold insN
    rw [Nat.beq_refl, Nat.beq_refl, Nat.ble_eq_true_of_le (by rw [hlow]; exact hvlo), blt_of h0, blt_of (by simpa using hbig)]
    simp only [Bool.and_self, cond_true, hrd, Option.bind_some, hs2]
    rw [flat]; simp
/-- one element set in, of data that holds no address -/
theorem Kn.Own.ins {P : Program} {f : FuncId} {sz : Nat} (hf : Hook.has f = true) (hc : ∀ a H, Hook.call f a H = insA sz a H) {α : Type} {d : Kn α} (hsz : d.sz = sz) (fl : d.Flat) {g h : Hp} {a : AV} {l : List α} (o : d.Own g h a l) {x : α} {c : List AV} (hx : d.K h x c) {p : Nat} (hp : h.g p = none) (hlo : h.lo ≤ p) {i : Nat} (hi : i ≤ l.length) (hbig : l.length + 1 < 1000000)
    {Post : AV → Hp → Prop} (k : ∀ r h', d.Own g h' r (l.take i ++ x :: l.drop i) → Post r h') : wpC P f [a, .i .i64 (.ofNat i), .sl p 0 1 1 true sz] Post (h.put p c) := by
  subst hsz
  obtain ⟨q, css, q1, q2, fr, q3⟩ := o
  have hl := q3.length
  have hcl : c.length = d.sz := Kn.all_len (All2.cons hx .nil) c (by simp)
  have fr' := fr.moreb hp c
  have hss : (css.flatten ++ c).all AV.sc = true := by
    rw [List.all_append, Kn.all_sc q3, show c = [c].flatten by simp, Kn.all_sc (All2.cons hx .nil)]; rfl
  rw [List.all_append, Bool.and_eq_true] at hss
  refine Fresh.ins hf hc (vn := 1) (css2 := [c]) fr' ?_ hlo ?_ rfl (by omega) (fun c' hc' => by simp at hc'; rw [hc']; exact hcl) hss.1 (by simpa using hss.2) (by omega) (by omega) fun r h' f => k r h' ⟨q, _, q1, q2, f, ?_⟩
  · unfold rdH
    rw [Hp.put_same, Option.bind_some, Nat.one_mul, sub_mk (by omega), List.drop_zero, List.take_of_length_le (by omega)]; simp
  · intro b o len lo ex z e hb
    obtain ⟨n1, n2, cs, n3, n4⟩ := fr.new _ _ _ _ _ _ e
    rw [← hb, hp] at n3; cases n3
  · exact (q3.take i).append (.cons (fl _ _ _ _ hx) (q3.drop i))
end Go.Proofs.YtecjbmibngfpmaaAn
