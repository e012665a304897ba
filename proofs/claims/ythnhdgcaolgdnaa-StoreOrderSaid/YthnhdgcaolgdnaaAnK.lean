/- What the evaluator's memory stands for; one operation in the model's memory. -/
import Derived.Test.YthnhdgcaolgdnaaAnJ
set_option linter.unusedVariables false
set_option linter.unusedSimpArgs false
namespace Go.Proofs.YthnhdgcaolgdnaaAn
open Go

/-! ### a block, and some of its cells written -/
theorem setCells_other : ∀ (vs : List Value) (o : Nat) (w : World) (rb k : Nat), k ≠ rb → (w.setCells rb o vs).heap[k]? = w.heap[k]?
  | [], _, _, _, _, _ => rfl
  | v :: vs, o, w, rb, k, h => by
    rw [World.setCells, setCells_other vs (o + 1) _ rb k h]
    simp only [World.setCell, Array.getElem?_modify]
    rw [if_neg (Ne.symm h)]
theorem setCells_size : ∀ (vs : List Value) (o : Nat) (w : World) (rb : Nat), (w.setCells rb o vs).heap.size = w.heap.size
  | [], _, _, _ => rfl
  | v :: vs, o, w, rb => by rw [World.setCells, setCells_size vs]; simp
theorem setCells_rest : ∀ (vs : List Value) (o : Nat) (w : World) (rb : Nat), (w.setCells rb o vs).os = w.os ∧ (w.setCells rb o vs).tape = w.tape ∧ (w.setCells rb o vs).output = w.output
  | [], _, _, _ => ⟨rfl, rfl, rfl⟩
  | v :: vs, o, w, rb => by
    rw [World.setCells]
    obtain ⟨h1, h2, h3⟩ := setCells_rest vs (o + 1) (w.setCell ⟨rb, o, none⟩ v) rb
    exact ⟨h1, h2, h3⟩
theorem setCells_at : ∀ (vs : List Value) (o : Nat) (w : World) (rb : Nat) (rc : Array Value) (ty : TypeId) (fz : Nat × Nat), w.heap[rb]? = some (.cells rc ty fz) → o + vs.length ≤ rc.size →
    ∃ rc' : Array Value, (w.setCells rb o vs).heap[rb]? = some (.cells rc' ty fz) ∧ rc'.toList = rc.toList.take o ++ (vs ++ rc.toList.drop (o + vs.length))
  | [], o, w, rb, rc, ty, fz, h, hl => ⟨rc, h, by simp⟩
  | v :: vs, o, w, rb, rc, ty, fz, h, hl => by
    rw [World.setCells]
    have h1 : (w.setCell ⟨rb, o, none⟩ v).heap[rb]? = some (.cells (rc.setIfInBounds o v) ty fz) := by
      simp only [World.setCell, Array.getElem?_modify, if_true, h, Option.map_some]
      simp
    simp only [List.length_cons] at hl
    obtain ⟨rc', h2, h3⟩ := setCells_at vs (o + 1) _ rb _ ty fz h1 (by simp; omega)
    refine ⟨rc', h2, ?_⟩
    rw [h3]
    simp only [Array.toList_setIfInBounds, List.length_cons]
    have ho : o < rc.toList.length := by simp; omega
    rw [List.take_set, List.drop_set_of_lt (by omega), List.take_add_one, List.getElem?_eq_getElem ho]
    have hm : min o rc.size = o := Nat.min_eq_left (by simp at ho; omega)
    simp [hm, List.set_append, Nat.add_assoc, Nat.add_comm 1 vs.length]

/-! ### memory -/
def Own (j : Inj) (H : Heap) (rb : Nat) : Prop := ∃ b cells d n, H.get b = some cells ∧ j b = some (rb, d, n)
def Holds (r : Bool) (j : Inj) (w : World) (cells : List AV) (rb d n : Nat) : Prop := ∃ (rc : Array Value) (ty : TypeId) (lo hi : Nat), w.heap[rb]? = some (.cells rc ty (lo, hi)) ∧ rc.size = n ∧
  (r = true ∨ lo = hi ∨ n ≤ lo) ∧ ∃ pre vs post, rc.toList = pre ++ (vs ++ post) ∧ pre.length = d ∧ VRs j cells vs
structure Rel (j : Inj) (H : Heap) (w : World) : Prop where
  dom : ∀ b x, j b = some x → b < H.next
  blk : ∀ b cells rb d n, H.get b = some cells → j b = some (rb, d, n) → Holds (decide (b < H.low)) j w cells rb d n
  inj : ∀ b b' cells cells' rb d n d' n', H.get b = some cells → H.get b' = some cells' → j b = some (rb, d, n) → j b' = some (rb, d', n') → b = b' ∨ (b < H.low ∧ b' < H.low)
  fresh : ∀ b, H.next ≤ b → H.get b = none
  low : H.low ≤ H.next
structure Ext (j : Inj) (H : Heap) (w : World) (j' : Inj) (H' : Heap) (w' : World) : Prop where
  le : j.le j'
  next : H.next ≤ H'.next
  new : ∀ b x, j' b = some x → j b = some x ∨ H.next ≤ b
  own : ∀ rb, rb < w.heap.size → Own j' H' rb → Own j H rb
  keep : ∀ rb, rb < w.heap.size → ¬ Own j H rb → w'.heap[rb]? = w.heap[rb]?
  os : w'.os = w.os
  tape : w'.tape = w.tape
  output : w'.output = w.output
  size : w.heap.size ≤ w'.heap.size
  low : H'.low = H.low
  ro : ∀ b, b < H.low → H'.get b = H.get b
  rw : ∀ b cells rb d n, b < H.low → H.get b = some cells → j b = some (rb, d, n) → rb < w.heap.size → w'.heap[rb]? = w.heap[rb]?
theorem Ext.refl (j : Inj) (H : Heap) (w : World) : Ext j H w j H w :=
  ⟨Inj.le_refl j, Nat.le_refl _, fun _ _ h => .inl h, fun _ _ h => h, fun _ _ _ => rfl, rfl, rfl, rfl, Nat.le_refl _, rfl, fun _ _ => rfl, fun _ _ _ _ _ _ _ _ _ => rfl⟩
theorem Ext.trans {j : Inj} {H : Heap} {w : World} {j1 : Inj} {H1 : Heap} {w1 : World} {j2 : Inj} {H2 : Heap} {w2 : World} (a : Ext j H w j1 H1 w1) (b : Ext j1 H1 w1 j2 H2 w2) : Ext j H w j2 H2 w2 where
  le := Inj.le_trans a.le b.le
  next := Nat.le_trans a.next b.next
  new := fun k x h => (b.new k x h).elim (fun h => a.new k x h) fun h => .inr (Nat.le_trans a.next h)
  own := fun rb h o => a.own rb h (b.own rb (Nat.lt_of_lt_of_le h a.size) o)
  keep := fun rb h o => by rw [b.keep rb (Nat.lt_of_lt_of_le h a.size) (fun o' => o (a.own rb h o')), a.keep rb h o]
  os := b.os.trans a.os
  tape := b.tape.trans a.tape
  output := b.output.trans a.output
  size := Nat.le_trans a.size b.size
  low := b.low.trans a.low
  ro := fun k h => (b.ro k (by rw [a.low]; exact h)).trans (a.ro k h)
  rw := fun k cells rb d n h hk hj hs => (b.rw k cells rb d n (by rw [a.low]; exact h) ((a.ro k h).trans hk) (a.le _ _ hj) (Nat.lt_of_lt_of_le hs a.size)).trans (a.rw k cells rb d n h hk hj hs)
theorem Holds.weak {r : Bool} {j : Inj} {w : World} {cells : List AV} {rb d n : Nat} (hh : Holds false j w cells rb d n) : Holds r j w cells rb d n := by
  obtain ⟨rc, ty, lo, hi, h1, h2, h3, h4⟩ := hh
  exact ⟨rc, ty, lo, hi, h1, h2, .inr (h3.resolve_left (by simp)), h4⟩
theorem Holds.mono {r : Bool} {j j' : Inj} (h : j.le j') {w : World} {cells : List AV} {rb d n : Nat} (hh : Holds r j w cells rb d n) : Holds r j' w cells rb d n := by
  obtain ⟨rc, ty, lo, hi, h1, h2, h3, pre, vs, post, h4, h5, h6⟩ := hh
  exact ⟨rc, ty, lo, hi, h1, h2, h3, pre, vs, post, h4, h5, h6.mono h⟩
theorem Holds.same {r : Bool} {j : Inj} {w w' : World} {cells : List AV} {rb d n : Nat} (hh : Holds r j w cells rb d n) (h : w'.heap[rb]? = w.heap[rb]?) : Holds r j w' cells rb d n := by
  obtain ⟨rc, ty, lo, hi, h1, h2⟩ := hh
  exact ⟨rc, ty, lo, hi, h.trans h1, h2⟩
theorem Holds.lt {r : Bool} {j : Inj} {w : World} {cells : List AV} {rb d n : Nat} (hh : Holds r j w cells rb d n) : rb < w.heap.size := by
  obtain ⟨rc, ty, lo, hi, h1, _⟩ := hh
  rcases Nat.lt_or_ge rb w.heap.size with h | h
  · exact h
  · rw [Array.getElem?_eq_none h] at h1; cases h1
theorem Rel.drawn {j : Inj} {H : Heap} {w : World} (h : Rel j H w) (k : Nat) : Rel j H { w with drawn := k } :=
  ⟨h.dom, h.blk, h.inj, h.fresh, h.low⟩
theorem Ext.drawn (j : Inj) (H : Heap) (w : World) (k : Nat) : Ext j H w j H { w with drawn := k } :=
  ⟨Inj.le_refl j, Nat.le_refl _, fun _ _ h => .inl h, fun _ _ h => h, fun _ _ _ => rfl, rfl, rfl, rfl, Nat.le_refl _, rfl, fun _ _ => rfl, fun _ _ _ _ _ _ _ _ _ => rfl⟩
theorem sub_some {cs r : List AV} {o n : Nat} (h : sub? cs o n = some r) : o + n ≤ cs.length ∧ r = (cs.drop o).take n := by
  unfold sub? at h
  obtain ⟨hc, h⟩ := cond_some h
  injection h with h
  exact ⟨ble_le hc, h.symm⟩
theorem Holds.at {r : Bool} {j : Inj} {w : World} {cells cs : List AV} {rb d m o n : Nat} (h : Holds r j w cells rb d m) (hs : sub? cells o n = some cs) : ∃ vs, vs.length = n ∧ At w rb (o + d) vs ∧ VRs j cs vs := by
  obtain ⟨rc, ty, lo, hi, h1, h2, h3, pre, vs, post, h4, h5, h6⟩ := h
  obtain ⟨hle, rfl⟩ := sub_some hs
  have hl := h6.length
  refine ⟨(vs.drop o).take n, by simp; omega, fun i v hv => ?_, (h6.drop o).take n⟩
  have hi : i < n := by
    rcases Nat.lt_or_ge i n with h | h
    · exact h
    · rw [List.getElem?_eq_none (by simp; omega)] at hv; cases hv
  simp only [World.cell?, h1, Option.isSome_none, Bool.false_eq_true, if_false]
  rw [List.getElem?_take_of_lt hi, List.getElem?_drop] at hv
  have : rc[o + d + i]? = rc.toList[o + d + i]? := by simp
  rw [this, h4, List.getElem?_append_right (by omega), List.getElem?_append_left (by omega)]
  rw [show o + d + i - pre.length = o + i by omega]
  exact hv
theorem Rel.rd {j : Inj} {H : Heap} {w : World} (h : Rel j H w) {b o n rb d m : Nat} {cs : List AV} (hr : rd H b o n = some cs) (hj : j b = some (rb, d, m)) : ∃ vs, vs.length = n ∧ At w rb (o + d) vs ∧ VRs j cs vs := by
  obtain ⟨cells, hb, hs⟩ := bind_some' hr
  exact (h.blk b cells rb d m hb hj).at hs
/-- what may be written, and what is there then -/
theorem Holds.write {r : Bool} {j : Inj} {w : World} {cells new : List AV} {rb d m o : Nat} {vs : List Value} (h : Holds false j w cells rb d m) (hl : o + new.length ≤ cells.length) (hv : VRs j new vs) (hsc : new.all AV.sc = true) :
    Writable w rb (o + d) vs ∧ Holds r j (w.setCells rb (o + d) vs) (splice cells o new) rb d m := by
  obtain ⟨rc, ty, lo, hi, h1, h2, h3, pre, us, post, h4, h5, h6⟩ := h
  have hul := h6.length
  have hvl := hv.length
  have hrl : rc.size = d + us.length + post.length := by
    have := congrArg List.length h4
    simp at this; omega
  have hcell : ∀ i, i < vs.length → w.cell? ⟨rb, o + d + i, none⟩ = rc[o + d + i]? := by
    intro i hi
    simp only [World.cell?, h1, Option.isSome_none, Bool.false_eq_true, if_false]
  refine ⟨⟨fun i hi => ?_, fun i hi => ?_, hv.sc_one hsc⟩, ?_⟩
  · rw [hcell i hi, Array.getElem?_eq_getElem (by omega)]; rfl
  · simp only [World.frozen?, h1]
    have := h3.resolve_left (by simp)
    simp only [Bool.and_eq_false_iff, decide_eq_false_iff_not]
    omega
  · obtain ⟨rc', g1, g2⟩ := setCells_at vs (o + d) w rb rc ty (lo, hi) h1 (by omega)
    refine ⟨rc', ty, lo, hi, g1, ?_, .inr (h3.resolve_left (by simp)), pre, us.take o ++ (vs ++ us.drop (o + new.length)), post, ?_, h5, (h6.take o).append (hv.append (h6.drop _))⟩
    · have := congrArg List.length g2
      simp at this
      omega
    · rw [g2, h4]
      have e1 : (pre ++ (us ++ post)).take (o + d) = pre ++ us.take o := by
        rw [List.take_append, List.take_of_length_le (by omega), show o + d - pre.length = o by omega, List.take_append, show o - us.length = 0 by omega]; simp
      have e2 : (pre ++ (us ++ post)).drop (o + d + vs.length) = us.drop (o + new.length) ++ post := by
        rw [List.drop_append, List.drop_of_length_le (by omega), List.nil_append, show o + d + vs.length - pre.length = o + new.length by omega, List.drop_append, show o + new.length - us.length = 0 by omega]; simp
      rw [e1, e2]
      simp

def Inj.add (j : Inj) (b : Nat) (x : Nat × Nat × Nat) : Inj := fun k => if k = b then some x else j k
theorem Inj.add_same (j : Inj) (b : Nat) (x : Nat × Nat × Nat) : j.add b x b = some x := if_pos rfl
theorem Inj.add_ne (j : Inj) {b k : Nat} (x : Nat × Nat × Nat) (h : k ≠ b) : j.add b x k = j k := if_neg h
theorem Inj.le_add {j : Inj} {b : Nat} (x : Nat × Nat × Nat) (h : j b = none) : j.le (j.add b x) := by
  intro k y hk
  by_cases e : k = b
  · subst e; rw [h] at hk; cases hk
  · rw [Inj.add_ne j x e]; exact hk
theorem Rel.next_none {j : Inj} {H : Heap} {w : World} (h : Rel j H w) : j H.next = none := by
  cases hj : j H.next with
  | none => rfl
  | some x => exact absurd (h.dom _ _ hj) (Nat.lt_irrefl _)
theorem get_alloc (H : Heap) (cells : List AV) (b : Nat) : (alloc H cells).get b = if b = H.next then some cells else H.get b := T.get_set H.m H.next b (some cells)
theorem get_kill (H : Heap) (b k : Nat) : (Heap.mk H.next (H.m.set b none) H.low).get k = if k = b then none else H.get k := T.get_set H.m b k none
theorem get_put (H : Heap) (b k : Nat) (cs : List AV) : (Heap.mk H.next (H.m.set b (some cs)) H.low).get k = if k = b then some cs else H.get k := T.get_set H.m b k (some cs)

/-- a new block, in new memory -/
theorem Rel.alloc {j : Inj} {H : Heap} {w w' : World} (h : Rel j H w) {cells : List AV} {n : Nat} (hh : Holds false (j.add H.next (w.heap.size, 0, n)) w' cells w.heap.size 0 n)
    (hold : ∀ k, k < w.heap.size → w'.heap[k]? = w.heap[k]?) (hos : w'.os = w.os) (ht : w'.tape = w.tape) (ho : w'.output = w.output) :
    Rel (j.add H.next (w.heap.size, 0, n)) (Go.Proofs.YthnhdgcaolgdnaaAn.alloc H cells) w' ∧ Ext j H w (j.add H.next (w.heap.size, 0, n)) (Go.Proofs.YthnhdgcaolgdnaaAn.alloc H cells) w' := by
  have hle : j.le (j.add H.next (w.heap.size, 0, n)) := Inj.le_add _ h.next_none
  refine ⟨⟨fun b x hb => ?_, fun b cs rb d m hb hj => ?_, fun b b' cs cs' rb d m d' m' hb hb' hj hj' => ?_, fun b hb => ?_, Nat.le_succ_of_le h.low⟩, ⟨hle, Nat.le_succ _, fun b x hb => ?_, fun rb hrb ⟨b, cs, d, m, hb, hj⟩ => ?_, fun rb hrb _ => hold rb hrb, hos, ht, ho, Nat.le_of_lt hh.lt, rfl, fun b hb => by have := h.low; rw [get_alloc, if_neg (by omega)], fun _ _ rb _ _ _ _ _ hs => hold rb hs⟩⟩
  · show b < Nat.succ H.next
    by_cases e : b = H.next
    · omega
    · rw [Inj.add_ne _ _ e] at hb
      have := h.dom _ _ hb; omega
  · rw [get_alloc] at hb
    by_cases e : b = H.next
    · rw [if_pos e] at hb; injection hb with hb; subst hb
      subst e
      rw [Inj.add_same] at hj; injection hj with hj; injection hj with h1 hj; injection hj with h2 h3
      subst h1; subst h2; subst h3
      exact hh.weak
    · rw [if_neg e] at hb
      rw [Inj.add_ne _ _ e] at hj
      have := h.blk b cs rb d m hb hj
      exact (this.mono hle).same (hold rb this.lt)
  · rw [get_alloc] at hb hb'
    by_cases e : b = H.next
    · by_cases e' : b' = H.next
      · exact .inl (by omega)
      · exfalso
        rw [if_neg e'] at hb'
        rw [Inj.add_ne _ _ e'] at hj'
        subst e
        rw [Inj.add_same] at hj; injection hj with hj; injection hj with h1 hj
        have := (h.blk _ _ _ _ _ hb' hj').lt
        omega
    · rw [if_neg e] at hb
      rw [Inj.add_ne _ _ e] at hj
      by_cases e' : b' = H.next
      · exfalso
        subst e'
        rw [Inj.add_same] at hj'; injection hj' with hj'; injection hj' with h1 hj'
        have := (h.blk _ _ _ _ _ hb hj).lt
        omega
      · rw [if_neg e'] at hb'
        rw [Inj.add_ne _ _ e'] at hj'
        exact h.inj b b' cs cs' rb d m d' m' hb hb' hj hj'
  · have hb' : Nat.succ H.next ≤ b := hb
    rw [get_alloc, if_neg (by omega)]
    exact h.fresh b (by omega)
  · by_cases e : b = H.next
    · exact .inr (by omega)
    · rw [Inj.add_ne _ _ e] at hb; exact .inl hb
  · rw [get_alloc] at hb
    by_cases e : b = H.next
    · subst e
      rw [Inj.add_same] at hj; injection hj with hj; injection hj with h1 hj
      omega
    · rw [if_neg e] at hb
      rw [Inj.add_ne _ _ e] at hj
      exact ⟨b, cs, d, m, hb, hj⟩
/-- cells written in place -/
theorem Rel.write {j : Inj} {H : Heap} {w : World} (h : Rel j H w) {b o rb d m : Nat} {cells new : List AV} {vs : List Value} (hb : H.get b = some cells) (hj : j b = some (rb, d, m))
    (hl : o + new.length ≤ cells.length) (hv : VRs j new vs) (hsc : new.all AV.sc = true) (hlow : H.low ≤ b) :
    Writable w rb (o + d) vs ∧ Rel j ⟨H.next, H.m.set b (some (splice cells o new)), H.low⟩ (w.setCells rb (o + d) vs) ∧ Ext j H w j ⟨H.next, H.m.set b (some (splice cells o new)), H.low⟩ (w.setCells rb (o + d) vs) := by
  have hh : Holds false j w cells rb d m := by
    have := h.blk b cells rb d m hb hj
    rwa [decide_eq_false (by omega)] at this
  obtain ⟨hw, hh'⟩ := hh.write (r := decide (b < H.low)) hl hv hsc
  obtain ⟨r1, r2, r3⟩ := setCells_rest vs (o + d) w rb
  have own : ∀ rb', Own j ⟨H.next, H.m.set b (some (splice cells o new)), H.low⟩ rb' → Own j H rb' := by
    rintro rb' ⟨k, cs, d', m', hk, hjk⟩
    rw [get_put] at hk
    by_cases e : k = b
    · subst e; exact ⟨k, cells, d', m', hb, hjk⟩
    · rw [if_neg e] at hk; exact ⟨k, cs, d', m', hk, hjk⟩
  refine ⟨hw, ⟨h.dom, fun k cs rb' d' m' hk hjk => ?_, fun k k' cs cs' rb' d1 m1 d2 m2 hk hk' h1 h2 => ?_, fun k hk => ?_, h.low⟩, ⟨Inj.le_refl j, Nat.le_refl _, fun _ _ h => .inl h, fun rb' _ ho => own rb' ho, fun rb' hrb ho => ?_, r1, r2, r3, by rw [setCells_size]; exact Nat.le_refl _, rfl, fun k hk => by rw [get_put, if_neg (by omega)], fun k cs rb' d' m' hk hkk hjk hs => setCells_other _ _ _ _ _ fun e => by
      have := h.inj k b cs cells rb d' m' d m hkk hb (e ▸ hjk) hj
      omega⟩⟩
  · rw [get_put] at hk
    by_cases e : k = b
    · subst e
      rw [if_pos rfl] at hk; injection hk with hk; subst hk
      rw [hj] at hjk; injection hjk with hjk; injection hjk with h1 hjk; injection hjk with h2 h3
      subst h1; subst h2; subst h3
      exact hh'
    · rw [if_neg e] at hk
      have hne : rb' ≠ rb := fun e' => by
        have := h.inj k b cs cells rb d' m' d m hk hb (e' ▸ hjk) hj
        omega
      exact (h.blk k cs rb' d' m' hk hjk).same (setCells_other _ _ _ _ _ hne)
  · rw [get_put] at hk hk'
    have g : ∀ {k cs}, (if k = b then some (splice cells o new) else H.get k) = some cs → ∃ cs', H.get k = some cs' := by
      intro k cs hk
      by_cases e : k = b
      · subst e; exact ⟨cells, hb⟩
      · rw [if_neg e] at hk; exact ⟨cs, hk⟩
    obtain ⟨c1, g1⟩ := g hk
    obtain ⟨c2, g2⟩ := g hk'
    exact h.inj k k' c1 c2 rb' d1 m1 d2 m2 g1 g2 h1 h2
  · rw [get_put]
    by_cases e : k = b
    · subst e
      have := h.fresh k hk
      rw [hb] at this; cases this
    · rw [if_neg e]; exact h.fresh k hk
  · have hne : rb' ≠ rb := fun e => ho (e ▸ ⟨b, cells, d, m, hb, hj⟩)
    exact setCells_other _ _ _ _ _ hne
/-- a block dies -/
theorem Rel.kill {j : Inj} {H : Heap} {w : World} (h : Rel j H w) (b : Nat) (hlow : H.low ≤ b) : Rel j ⟨H.next, H.m.set b none, H.low⟩ w ∧ Ext j H w j ⟨H.next, H.m.set b none, H.low⟩ w := by
  have g : ∀ {k cs}, (Heap.mk H.next (H.m.set b none) H.low).get k = some cs → k ≠ b ∧ H.get k = some cs := by
    intro k cs hk
    rw [get_kill] at hk
    by_cases e : k = b
    · rw [if_pos e] at hk; cases hk
    · rw [if_neg e] at hk; exact ⟨e, hk⟩
  refine ⟨⟨h.dom, fun k cs rb d m hk hj => h.blk k cs rb d m (g hk).2 hj, fun k k' cs cs' rb d m d' m' hk hk' => h.inj k k' cs cs' rb d m d' m' (g hk).2 (g hk').2, fun k hk => ?_, h.low⟩,
    ⟨Inj.le_refl j, Nat.le_refl _, fun _ _ h => .inl h, fun rb _ ⟨k, cs, d, m, hk, hj⟩ => ⟨k, cs, d, m, (g hk).2, hj⟩, fun _ _ _ => rfl, rfl, rfl, rfl, Nat.le_refl _, rfl, fun k hk => by rw [get_kill, if_neg (by omega)], fun _ _ _ _ _ _ _ _ _ => rfl⟩⟩
  rw [get_kill]
  split
  · rfl
  · exact h.fresh k hk
/-- a block takes over another one's memory, which dies -/
theorem Rel.take {j : Inj} {H : Heap} {w w' : World} (h : Rel j H w) {b rb d m oo : Nat} {cs cells : List AV} (hb : H.get b = some cs) (hj : j b = some (rb, d, m)) (hlow : H.low ≤ b)
    (hh : Holds false (j.add H.next (rb, oo, m)) w' cells rb oo m) (hold : ∀ k, k ≠ rb → w'.heap[k]? = w.heap[k]?) (hsz : w'.heap.size = w.heap.size) (hos : w'.os = w.os) (ht : w'.tape = w.tape) (ho : w'.output = w.output) :
    Rel (j.add H.next (rb, oo, m)) (Go.Proofs.YthnhdgcaolgdnaaAn.alloc ⟨H.next, H.m.set b none, H.low⟩ cells) w' ∧ Ext j H w (j.add H.next (rb, oo, m)) (Go.Proofs.YthnhdgcaolgdnaaAn.alloc ⟨H.next, H.m.set b none, H.low⟩ cells) w' := by
  have hle : j.le (j.add H.next (rb, oo, m)) := Inj.le_add _ h.next_none
  have hbn : b ≠ H.next := fun e => by have := h.dom _ _ hj; omega
  have g : ∀ {k c}, (Go.Proofs.YthnhdgcaolgdnaaAn.alloc ⟨H.next, H.m.set b none, H.low⟩ cells).get k = some c → (k = H.next ∧ c = cells) ∨ (k ≠ H.next ∧ k ≠ b ∧ H.get k = some c) := by
    intro k c hk
    rw [get_alloc] at hk
    by_cases e : k = H.next
    · rw [if_pos e] at hk; injection hk with hk; exact .inl ⟨e, hk.symm⟩
    · rw [if_neg e, get_kill] at hk
      by_cases e2 : k = b
      · rw [if_pos e2] at hk; cases hk
      · rw [if_neg e2] at hk; exact .inr ⟨e, e2, hk⟩
  refine ⟨⟨fun k x hk => ?_, fun k c rb' d' m' hk hjk => ?_, fun k k' c c' rb' d1 m1 d2 m2 hk hk' h1 h2 => ?_, fun k hk => ?_, Nat.le_succ_of_le h.low⟩, ⟨hle, Nat.le_succ _, fun k x hk => ?_, fun rb' hrb ⟨k, c, d', m', hk, hjk⟩ => ?_, fun rb' hrb hno => ?_, hos, ht, ho, by omega, rfl, fun k hk => by have := h.low; rw [get_alloc, if_neg (by show ¬ k = H.next; omega), get_kill, if_neg (by omega)], fun k c rb' d' m' hk hkk hjk hs => hold rb' fun e => by
      have := h.inj k b c cs rb d' m' d m hkk hb (e ▸ hjk) hj
      omega⟩⟩
  · show k < Nat.succ H.next
    by_cases e : k = H.next
    · omega
    · rw [Inj.add_ne _ _ e] at hk
      have := h.dom _ _ hk; omega
  · rcases g hk with ⟨rfl, rfl⟩ | ⟨e1, e2, hk⟩
    · rw [Inj.add_same] at hjk; injection hjk with hjk; injection hjk with h1 hjk; injection hjk with h2 h3
      subst h1; subst h2; subst h3
      exact hh.weak
    · rw [Inj.add_ne _ _ e1] at hjk
      have hne : rb' ≠ rb := fun e => by
        have := h.inj k b c cs rb d' m' d m hk hb (e ▸ hjk) hj
        omega
      exact ((h.blk k c rb' d' m' hk hjk).mono hle).same (hold rb' hne)
  · rcases g hk with ⟨rfl, rfl⟩ | ⟨e1, e2, hk0⟩
    · rcases g hk' with ⟨rfl, rfl⟩ | ⟨f1, f2, hk'⟩
      · exact .inl rfl
      · exfalso
        rw [Inj.add_same] at h1; injection h1 with h1; injection h1 with g1 h1
        rw [Inj.add_ne _ _ f1] at h2
        subst g1
        have := h.inj k' b c' cs rb d2 m2 d m hk' hb h2 hj
        omega
    · rw [Inj.add_ne _ _ e1] at h1
      have hkk := hk0
      clear hk
      rcases g hk' with ⟨rfl, rfl⟩ | ⟨f1, f2, hk''⟩
      · exfalso
        rw [Inj.add_same] at h2; injection h2 with h2; injection h2 with g1 h2
        subst g1
        have := h.inj k b c cs rb d1 m1 d m hkk hb h1 hj
        omega
      · rw [Inj.add_ne _ _ f1] at h2
        exact h.inj k k' c c' rb' d1 m1 d2 m2 hkk hk'' h1 h2
  · have hk' : Nat.succ H.next ≤ k := hk
    rw [get_alloc, if_neg (by show ¬ k = H.next; omega), get_kill]
    split
    · rfl
    · exact h.fresh k (by omega)
  · by_cases e : k = H.next
    · exact .inr (by omega)
    · rw [Inj.add_ne _ _ e] at hk; exact .inl hk
  · rcases g hk with ⟨rfl, rfl⟩ | ⟨e1, e2, hk⟩
    · rw [Inj.add_same] at hjk; injection hjk with hjk; injection hjk with h1 hjk
      subst h1
      exact ⟨b, cs, d, m, hb, hj⟩
    · rw [Inj.add_ne _ _ e1] at hjk
      exact ⟨k, c, d', m', hk, hjk⟩
  · have hne : rb' ≠ rb := fun e => hno (e ▸ ⟨b, cs, d, m, hb, hj⟩)
    exact hold rb' hne

end Go.Proofs.YthnhdgcaolgdnaaAn
