/- Own texts and the words of this seat, as far as this claim reads them: WWords, Label, WLast, WTab, Step, WApart, WFoot, WKept, WShare, WN, WEqStruct, WRepsOne, WGuard, WMore, PCx0, PCx2. -/
import Derived.ArgAppend
import Derived.Below
import Derived.BigQuiet
import Derived.Deep.AppendLies
import Derived.Deep.CutBlock
import Derived.Deep.DeepCutAuto
import Derived.Deep.Draws
import Derived.Deep.LoopGhost
import Derived.Deep.OwnRows
import Derived.Deep.QuietTactic
import Derived.Deep.RegionHeld3
import Derived.KernelRfl
import Derived.Laws.BitsLemmas
import Derived.Laws.BytesArg
import Derived.Laws.IdiomCopy
import Derived.Laws.MakeOwn
import Derived.Laws.OwnMore
import Derived.Laws.Rows
import Derived.Laws.Slices
import Derived.Laws.StructEq
import Derived.Lib.AppendStr
import Derived.Lib.ConvBytes
import Derived.Lib.SlBytesConst
import Derived.Maps.AppendAt
import Derived.OrdersHeld
import Derived.OwnWalk
import Derived.RowKit
import Derived.RowKit3
import Derived.ScopeJumps
import Derived.Tactics
import Derived.Test.YtddnlnjmikcgfaaProg
import Derived.WalkKit
import Derived.WalkMore
import Derived.WideLaws
section
set_option linter.unusedVariables false
set_option linter.unusedSimpArgs false
namespace Go.WB.PrintWords
open Go.RowKit
/-- A fact that the walk's simp doesn't look into. -/
structure aa (p : Prop) : Prop where mk :: (out : p)
/-- The world is the old one, some orders having been drawn. -/
structure bC (w w' : World) : Prop where mk :: (out : ∃ n, w' = w.drewN n)
theorem bC.refl (w : World) : bC w w := ⟨⟨0, rfl⟩⟩
theorem bC.step {w w' : World} (h : bC w w') (n : Nat) : bC w (w'.drewN n) := by
  obtain ⟨m, rfl⟩ := h
  exact ⟨⟨m + n, World.drewN_drewN ..⟩⟩
theorem bC.grown {w w' : World} (h : bC w w') : Grown w w' := by
  obtain ⟨n, rfl⟩ := h
  induction n with
  | zero => exact Grown.refl _
  | succ n ih => rw [← World.drew_drewN]; exact Grown.drew ih
theorem bC.below {w w' : World} (h : bC w w') : Below w.heap.size w w' := by
  obtain ⟨n, rfl⟩ := h
  induction n with
  | zero => exact Below.refl _ _
  | succ n ih => rw [← World.drew_drewN]; exact ih.drew
def rd (xs : List Int) (i : Int) : Int := xs.getD i.toNat 0
def bt (s : ByteArray) (i : Int) : Int := if h : i.toNat < s.size then ((s[i.toNat]'h).toNat : Int) else 0
theorem bt_at (s : ByteArray) (i : Int) : ∀ h : i.toNat < s.size, ((s[i.toNat]'h).toNat : Int) = bt s i := fun h => by simp [bt, h]
def nums (k : IntKind) (xs : List Int) : List Value := xs.map fun x => .int k x
theorem nums_append (k : IntKind) (xs ys : List Int) : nums k (xs ++ ys) = nums k xs ++ nums k ys := by simp [nums]
theorem bq {w W : World} (h : Below w.heap.size w W) (o : Obj) : Below w.heap.size w (W.alloc o) := h.alloc h.size o
theorem below_drew {B : Nat} {w W : World} (h : Below B w W) : Below B w W.drew := ⟨h.os, h.tape, h.output, h.size, h.block⟩
theorem aT {B : Nat} {w W : World} (h : Below B w W) (n : Nat) : Below B w (W.drewN n) := ⟨h.os, h.tape, h.output, h.size, h.block⟩
theorem below_then {B : Nat} {w w1 w2 : World} (h : Below B w w1) (hB : B ≤ w1.heap.size) (k : Below w1.heap.size w1 w2) : Below B w w2 :=
  h.trans ⟨k.os, k.tape, k.output, k.size, fun i hi => k.block i (Nat.lt_of_lt_of_le hi hB)⟩
theorem grown_of_below {w w1 : World} (h : Below w.heap.size w w1) (row : Option Nat) : w.grownBy w1 row := ⟨h.os, h.tape, h.output, h.size, fun i hi _ => h.block i hi⟩
theorem pw_cell_below {w w1 : World} (h : Below w.heap.size w w1) {a : Addr} {v : Value} (hc : w.cell? a = some v) : w1.cell? a = some v := (h.cell (World.block_lt_of_cell? w a hc)).trans hc
def gI (w : World) (k : IntKind) (A : Option Addr) (n : Nat) (xs : List Int) : Prop :=
  xs.length = n ∧ n ≤ 9223372036854775807 ∧ (0 < n → ∃ ad, A = some ad ∧ ∀ j, j < n → w.cell? (ad.add j) = some (.int k (xs.getD j 0)))
theorem gI.at_ {w : World} {k : IntKind} {A : Option Addr} {n : Nat} {xs : List Int} (h : gI w k A n xs) (i : Int) (h0 : 0 ≤ i) (h1 : i < n) : ∃ ad, A = some ad ∧ w.cell? (ad.add i.toNat) = some (.int k (rd xs i)) := by
  obtain ⟨ad, e, hc⟩ := h.2.2 (by omega)
  exact ⟨ad, e, hc _ (by omega)⟩
theorem gI.below {w w1 : World} {k : IntKind} {A : Option Addr} {n : Nat} {xs : List Int} (h : gI w k A n xs) (hb : Below w.heap.size w w1) : gI w1 k A n xs :=
  ⟨h.1, h.2.1, fun hn => by
    obtain ⟨ad, e, hc⟩ := h.2.2 hn
    exact ⟨ad, e, fun j hj => pw_cell_below hb (hc j hj)⟩⟩
theorem own_nil (W : World) (base : Nat) (e : TypeId) (size : Nat) : W.ownsRow base e size (.slice none 0 0) 0 [] := ⟨by simp, .inl ⟨rfl, rfl⟩⟩
theorem own_base {w : World} {base : Nat} {e : TypeId} {size n : Nat} {v : Value} {xs : List Value} (h : w.ownsRow base e size v n xs) (k : Nat) (hk : v.ownBlock = some k) : base ≤ k := by
  rcases h.2 with ⟨rfl, _⟩ | ⟨g, cap, cur, rfl, hb, _⟩
  · simp [Value.ownBlock] at hk
  · have : g = k := by simpa [Value.ownBlock] using hk
    omega
theorem own_lt {w : World} {base : Nat} {e : TypeId} {size n : Nat} {v : Value} {xs : List Value} (h : w.ownsRow base e size v n xs) (k : Nat) (hk : v.ownBlock = some k) : k < w.heap.size := by
  rcases h.2 with ⟨rfl, _⟩ | ⟨g, cap, cur, rfl, hb, hh, _⟩
  · simp [Value.ownBlock] at hk
  · have : g = k := by simpa [Value.ownBlock] using hk
    subst this
    exact (Array.getElem?_eq_some_iff.1 hh).1
theorem pw_own_below {w w1 : World} {base : Nat} {e : TypeId} {size n : Nat} {v : Value} {xs : List Value} (h : w.ownsRow base e size v n xs) (hb : Below w.heap.size w w1) : w1.ownsRow base e size v n xs :=
  h.kept (grown_of_below hb none) (by cases v.ownBlock <;> simp)
section
variable {P : Program} {ops : Array Oper} {rest : List Oper} {o : Oper} {a : Act} {Q : Exit → Act → World → Prop}
end
section
variable {P : Program}
end
section
variable {P : Program} {ops : Array Oper} {rest : List Oper} {o : Oper} {a : Act} {Q : Exit → Act → World → Prop}
end
def bytesOf (s : ByteArray) : List Int := s.data.toList.map fun b => (b.toNat : Int)
theorem data_length (s : ByteArray) : s.data.toList.length = s.size := by rw [Array.length_toList]; rfl
theorem bytesOf_length (s : ByteArray) : (bytesOf s).length = s.size := by rw [bytesOf, List.length_map, data_length]
/-- 'xs[:k]' and 'xs[k:]' of a slice that is read; the address of the second as_ the walk has it. -/
theorem gI.take_ {w : World} {k : IntKind} {A : Option Addr} {n : Nat} {xs : List Int} (h : gI w k A n xs) (i : Nat) (hi : i ≤ n) : gI w k A i (xs.take i) := by
  refine ⟨by rw [List.length_take, h.1]; omega, by have := h.2.1; omega, fun hp => ?_⟩
  obtain ⟨ad, e, hc⟩ := h.2.2 (by omega)
  refine ⟨ad, e, fun j hj => ?_⟩
  rw [hc j (by omega)]
  simp [List.getD_eq_getElem?_getD, hj]
theorem gI.drop_ {w : World} {k : IntKind} {A : Option Addr} {n c : Nat} {xs : List Int} (h : gI w k A n xs) (i : Nat) (hi : i ≤ n) (hc : n ≤ c) : gI w k (if c = i then A else A.map (·.add i)) (n - i) (xs.drop i) := by
  refine ⟨by rw [List.length_drop, h.1], by have := h.2.1; omega, fun hp => ?_⟩
  obtain ⟨ad, rfl, hcell⟩ := h.2.2 (by omega)
  rw [if_neg (by omega)]
  refine ⟨ad.add i, rfl, fun j hj => ?_⟩
  have ha : (ad.add i).add j = ad.add (i + j) := by
    unfold Addr.add
    by_cases h1 : i = 0 <;> by_cases h2 : j = 0 <;> simp [h1, h2, Nat.add_assoc]
  rw [ha, hcell (i + j) (by omega)]
  simp [List.getD_eq_getElem?_getD, List.getElem?_drop]
/-- Where the first answers, the second answers the same. -/
def LeO {α : Type} (a b : Option α) : Prop := ∀ r, a = some r → b = some r
theorem LeO.refl {α : Type} (a : Option α) : LeO a a := fun _ h => h
theorem LeO.none {α : Type} (b : Option α) : LeO Option.none b := fun _ h => by cases h
theorem LeO.trans {α : Type} {a b c : Option α} (h : LeO a b) (k : LeO b c) : LeO a c := fun r hr => k r (h r hr)
theorem LeO.ite {α : Type} {c : Prop} [Decidable c] {a a' b b' : Option α} (h : LeO a a') (k : LeO b b') : LeO (if c then a else b) (if c then a' else b') := by
  split
  · exact h
  · exact k
theorem LeO.bind {α β : Type} {a a' : Option α} {f f' : α → Option β} (h : LeO a a') (k : ∀ x, LeO (f x) (f' x)) : LeO (a.bind f) (a'.bind f') := by
  intro r hr
  obtain ⟨x, hx, hf⟩ := Option.bind_eq_some_iff.1 hr
  exact Option.bind_eq_some_iff.2 ⟨x, h x hx, k x r hf⟩
theorem LeO.map {α β : Type} {a a' : Option α} (f : α → β) (h : LeO a a') : LeO (a.map f) (a'.map f) := by
  intro r hr
  obtain ⟨x, hx, hf⟩ := Option.map_eq_some_iff.1 hr
  exact Option.map_eq_some_iff.2 ⟨x, h x hx, hf⟩
theorem more_rounds {α : Type} {g : Nat → Option α} (h : ∀ k, LeO (g k) (g (k + 1))) (k : Nat) : ∀ j, LeO (g k) (g (k + j))
  | 0 => LeO.refl _
  | j + 1 => (more_rounds h k j).trans (h (k + j))
theorem at_rounds {α : Type} {g : Nat → Option α} (h : ∀ k, LeO (g k) (g (k + 1))) {k k' : Nat} (hk : k ≤ k') {r : α} (hr : g k = some r) : g k' = some r := by
  have := more_rounds h k (k' - k) r hr
  rwa [Nat.add_sub_cancel' hk] at this
def iV {α : Type} (R : α → List Value → Prop) (size : Nat) (ps : List α) (cs : List Value) : Prop :=
  cs.length = ps.length * size ∧ ∀ j p, ps[j]? = some p → R p ((cs.drop (j * size)).take size)
theorem iV.none {α : Type} (R : α → List Value → Prop) (size : Nat) : iV R size [] [] := ⟨by simp, fun j p h => by simp at h⟩
theorem iV.snoc {α : Type} {R : α → List Value → Prop} {size : Nat} {ps : List α} {cs c : List Value} {p : α} (h : iV R size ps cs) (hp : R p c) (hc : c.length = size) : iV R size (ps ++ [p]) (cs ++ c) := by
  refine ⟨by rw [List.length_append, h.1, hc, List.length_append, List.length_singleton, Nat.add_mul, Nat.one_mul], fun j q hq => ?_⟩
  rcases Nat.lt_or_ge j ps.length with hj | hj
  · rw [List.getElem?_append_left hj] at hq
    have h1 : j * size + size ≤ cs.length := by rw [h.1, ← Nat.succ_mul]; exact Nat.mul_le_mul_right _ hj
    have h2 := h.2 j q hq
    rw [List.drop_append_of_le_length (by omega), List.take_append_of_le_length (by rw [List.length_drop]; omega)]
    exact h2
  · have hj' : j = ps.length := by
      have := (List.getElem?_eq_some_iff.1 hq).1
      rw [List.length_append, List.length_singleton] at this
      omega
    subst hj'
    have hq' : p = q := by simpa using hq
    subst hq'
    rw [← h.1, List.drop_left, ← hc, List.take_length]
    exact hp
theorem iV.imp_ {α : Type} {R R' : α → List Value → Prop} {size : Nat} {ps : List α} {cs : List Value} (h : iV R size ps cs) (hR : ∀ p c, R p c → R' p c) : iV R' size ps cs := ⟨h.1, fun j p hj => hR _ _ (h.2 j p hj)⟩
def gN {α : Type} (R : α → List Value → Prop) (size : Nat) (w : World) (A : Option Addr) (n : Nat) (ps : List α) : Prop :=
  ps.length = n ∧ n ≤ 9223372036854775807 ∧ (0 < n → ∃ ad, A = some ad ∧ ∀ j p, ps[j]? = some p → ∃ c, c.length = size ∧ R p c ∧ ∀ i u, c[i]? = some u → w.cell? (ad.add (j * size + i)) = some u)
theorem gN.get_ {α : Type} {R : α → List Value → Prop} {size : Nat} {w : World} {A : Option Addr} {n : Nat} {ps : List α} (h : gN R size w A n ps) (d : α) (i : Int) (h0 : 0 ≤ i) (h1 : i < n) :
    ∃ ad c, A = some ad ∧ c.length = size ∧ R (ps.getD i.toNat d) c ∧ ∀ j u, c[j]? = some u → w.cell? (ad.add (i.toNat * size + j)) = some u := by
  obtain ⟨ad, e, hc⟩ := h.2.2 (by omega)
  have hl : i.toNat < ps.length := by have := h.1; omega
  obtain ⟨c, hs, hr, hcell⟩ := hc i.toNat _ (List.getElem?_eq_getElem hl)
  refine ⟨ad, c, e, hs, ?_, hcell⟩
  rw [List.getD_eq_getElem?_getD, List.getElem?_eq_getElem hl]
  exact hr
theorem gN.imp_ {α : Type} {R R' : α → List Value → Prop} {size : Nat} {w w1 : World} {A : Option Addr} {n : Nat} {ps : List α} (h : gN R size w A n ps) (hb : Below w.heap.size w w1) (hR : ∀ p c, R p c → R' p c) : gN R' size w1 A n ps :=
  ⟨h.1, h.2.1, fun hn => by
    obtain ⟨ad, e, hc⟩ := h.2.2 hn
    refine ⟨ad, e, fun j p hj => ?_⟩
    obtain ⟨c, hs, hr, hcell⟩ := hc j p hj
    exact ⟨c, hs, hR _ _ hr, fun i u hu => pw_cell_below hb (hcell i u hu)⟩⟩
theorem own_reads_row {α : Type} {R : α → List Value → Prop} {w : World} {base n size : Nat} {e : TypeId} {v : Value} {ps : List α} {cs : List Value} (h : w.ownsRow base e size v n cs) (hR : iV R size ps cs) (hn : ps.length = n) :
    ∃ A c, v = .slice A n c ∧ gN R size w A n ps := by
  rcases Nat.eq_zero_or_pos n with h0 | h0
  · rcases h.2 with ⟨rfl, rfl⟩ | ⟨g, cap, cur, rfl, _⟩
    · exact ⟨none, 0, rfl, hn, by omega, fun hp => absurd hp (by omega)⟩
    · exact ⟨_, cap, rfl, hn, by omega, fun hp => absurd hp (by omega)⟩
  · obtain ⟨g, cap, rfl, _, _⟩ := h.form h0
    have hm : n ≤ 9223372036854775807 := by
      rcases h.2 with ⟨_, h1⟩ | ⟨g', cap', cur, he, _, _, h1, h2, _⟩
      · omega
      · simp only [maxLen] at h2
        omega
    refine ⟨_, cap, rfl, hn, hm, fun _ => ⟨_, rfl, fun j p hj => ⟨(cs.drop (j * size)).take size, ?_, hR.2 j p hj, fun i u hu => ?_⟩⟩⟩
    · have hjl := (List.getElem?_eq_some_iff.1 hj).1
      have h1 : j * size + size ≤ cs.length := by rw [hR.1, ← Nat.succ_mul]; exact Nat.mul_le_mul_right _ hjl
      rw [List.length_take, List.length_drop]
      omega
    · refine h.cells (g := g) rfl _ u ?_
      rw [List.getElem?_take] at hu
      split at hu
      · rw [List.getElem?_drop] at hu
        exact hu
      · cases hu
/-- A field's address as_ the walk spells it. -/
theorem gT (ad : Addr) (m j : Nat) (hj : 0 < j) : ad.add (m + j) = ⟨(ad.add m).block, (ad.add m).off + j, none⟩ := by
  unfold Addr.add
  by_cases hm : m = 0
  · subst hm
    simp [Nat.ne_of_gt hj]
  · simp [hm, Nat.add_assoc]
section
variable {P : Program} {ops : Array Oper} {rest : List Oper} {o : Oper} {a : Act} {Q : Exit → Act → World → Prop}
/-- append(v, x), x of several cells; behind 'at_builtin'; the goal's world is 'W.alloc' of the variadic's box. -/
theorem print_append_cells {w0 W : World} (base : Nat) (hgd : o.guard = none) (s x : Operand) (t e : TypeId) (z : Value) (size bytes : Nat)
    (ho : o.op = .call { callee := .builtin .append, args := #[s, x], argTypes := #[t, t] })
    (ht : P.underlying t = some (.slice e)) (hinfo : (P.info? e).map (fun i => (i.zero, i.size, i.bytes)) = some (some z, size, bytes)) (hz : z.cells.size = size) (hs0 : 0 < size) (hb0 : 0 < bytes)
    (v : Value) (n : Nat) (xs ys : List Value) (hs : a.eval s = v) (hx : a.eval x = .slice (some ⟨W.heap.size, 0, none⟩) 1 1) (hys : ys.length = size) (h1 : ∀ u ∈ ys, u.oneCell' = true)
    (HO : W.ownsRow base e size v n xs) (HB : Below base w0 W) (hbase : base ≤ W.heap.size) (hl : (n + 1) * bytes ≤ 140737488355328)
    (h : ∀ v1 w1, w1.ownsRow base e size v1 (n + 1) (xs ++ ys) → Below base w0 w1 → W.grownBy w1 v.ownBlock → (v1.ownBlock = v.ownBlock ∨ ∃ b, v1.ownBlock = some b ∧ W.heap.size ≤ b) → wpList P ops Q rest (a.put o.dst v1) w1) :
    wpList P ops Q (o :: rest) a (W.alloc (.cells ys.toArray e)) := by
  obtain ⟨i0, hi, hzz⟩ := Option.map_eq_some_iff.1 hinfo
  simp only [Prod.mk.injEq] at hzz
  obtain ⟨hz0, hz1, hz2⟩ := hzz
  have hlen : n + 1 ≤ 140737488355328 := Nat.le_trans (Nat.le_mul_of_pos_right _ hb0) hl
  refine wpList_append_own_at (W.alloc (.cells ys.toArray e)) hgd s x t ho base e i0 z size bytes ht hi hz0 hz1 hz2 hz hs0 v n xs hs (HO.alloc _) ⟨W.heap.size, 0, none⟩ 1 1 ys hx (by rw [hys]; simp)
    (by simpa using World.news_of_block (cs := ys.toArray) (t := e) (fr := (0, 0)) (heap_alloc_new W (.cells ys.toArray e))) h1 (by simp only [maxLen]; omega) hl (by simp; omega) ?_
  intro v1 w1 hown hg _ hat
  refine h v1 w1 hown ((HB.alloc hbase _).grown hg (by simp; omega) (own_base HO)) (World.grownBy.trans (World.grownBy_alloc W _ _) hg) ?_
  rcases hat with hat | hat
  · exact .inl hat
  · exact .inr ⟨_, hat, by simp⟩
end
theorem own_ne {w : World} {base : Nat} {e t : TypeId} {size n g : Nat} {v : Value} {xs : List Value} {cs : Array Value} (h : w.ownsRow base e size v n xs) (hg : w.heap[g]? = some (.cells cs t (0, 0))) (hne : e ≠ t) : some g ≠ v.ownBlock := by
  rcases h.2 with ⟨rfl, _⟩ | ⟨g', cap, cur, rfl, _, hh, _⟩
  · simp [Value.ownBlock]
  · intro he
    have : g = g' := by simpa [Value.ownBlock] using he
    subst this
    rw [hg] at hh
    injection hh with hh
    injection hh with _ ht
    exact hne ht.symm
theorem own_setCell {w : World} {base : Nat} {e : TypeId} {size n : Nat} {v : Value} {xs : List Value} (h : w.ownsRow base e size v n xs) {p : Addr} (hne : some p.block ≠ v.ownBlock) (u : Value) : (w.setCell p u).ownsRow base e size v n xs := by
  obtain ⟨h1, h2⟩ := h
  refine ⟨h1, ?_⟩
  rcases h2 with h2 | ⟨g, cap, cur, rfl, hg, hh, r⟩
  · exact .inl h2
  · exact .inr ⟨g, cap, cur, rfl, hg, by rw [Below.heap_setCell _ _ _ _ (fun e => hne (by rw [e]; rfl))]; exact hh, r⟩
theorem blk_set {w : World} {g : Nat} {t : TypeId} {cs : Array Value} (h : w.heap[g]? = some (.cells cs t (0, 0))) (i : Nat) (u : Value) : (w.setCell ⟨g, i, none⟩ u).heap[g]? = some (.cells (cs.setIfInBounds i u) t (0, 0)) := by
  simp [World.setCell, Array.getElem?_modify, h]
theorem iI {w : World} {g : Nat} {t : TypeId} {cs : Array Value} (h : w.heap[g]? = some (.cells cs t (0, 0))) {p : Addr} (hp : g ≠ p.block) (u : Value) : (w.setCell p u).heap[g]? = some (.cells cs t (0, 0)) := (Below.heap_setCell w p u g hp).trans h
theorem gB {w : World} {g : Nat} {o : Obj} (h : w.heap[g]? = some o) : g < w.heap.size := (Array.getElem?_eq_some_iff.1 h).1
theorem ag {w : World} {g : Nat} {t : TypeId} {cs : Array Value} (h : w.heap[g]? = some (.cells cs t (0, 0))) (i : Nat) : w.cell? ⟨g, i, none⟩ = cs[i]? := cell_of_row w g i cs t (0, 0) h
theorem aN {w : World} {g : Nat} {t : TypeId} {cs : Array Value} (h : w.heap[g]? = some (.cells cs t (0, 0))) (i : Nat) : w.frozen? ⟨g, i, none⟩ = false := by simp [World.frozen?, h]
theorem gW {w w1 : World} {g : Nat} {o : Obj} {row : Option Nat} (h : w.heap[g]? = some o) (hg : w.grownBy w1 row) (hne : some g ≠ row) : w1.heap[g]? = some o := (hg.block g (gB h) hne).trans h
def bL (w w' : World) (g : Nat) (row : Option Nat) : Prop := w.heap.size ≤ w'.heap.size ∧ ∀ i, i < w.heap.size → i ≠ g → some i ≠ row → w'.heap[i]? = w.heap[i]?
theorem bL.refl (w : World) (g : Nat) (row : Option Nat) : bL w w g row := ⟨Nat.le_refl _, fun _ _ _ _ => rfl⟩
theorem bL.of_grown {w w1 : World} {row : Option Nat} (h : w.grownBy w1 row) (g : Nat) : bL w w1 g row := ⟨h.size, fun i hi _ hr => h.block i hi hr⟩
theorem bL.of_below {w w1 : World} (h : Below w.heap.size w w1) (g : Nat) (row : Option Nat) : bL w w1 g row := ⟨h.size, fun i hi _ _ => h.block i hi⟩
theorem bL.set_ {w w1 : World} {g : Nat} {row : Option Nat} (h : bL w w1 g row) (j : Nat) (u : Value) : bL w (w1.setCell ⟨g, j, none⟩ u) g row :=
  ⟨by simpa [World.setCell] using h.1, fun i hi hg hr => (Below.heap_setCell w1 ⟨g, j, none⟩ u i hg).trans (h.2 i hi hg hr)⟩
theorem bL.trans {w w1 w2 : World} {g : Nat} {row row1 : Option Nat} (h : bL w w1 g row) (k : bL w1 w2 g row1) (hr : row1 = row ∨ ∃ b, row1 = some b ∧ w.heap.size ≤ b) : bL w w2 g row :=
  ⟨Nat.le_trans h.1 k.1, fun i hi hg hn => by
    refine (k.2 i (Nat.lt_of_lt_of_le hi h.1) hg ?_).trans (h.2 i hi hg hn)
    rcases hr with rfl | ⟨b, rfl, hb⟩
    · exact hn
    · intro e
      injection e with e
      omega⟩
/-- Another block, another row: they live on. -/
theorem bL.blk {w w1 : World} {g g' : Nat} {row : Option Nat} {o : Obj} (h : bL w w1 g row) (hb : w.heap[g']? = some o) (hg : g' ≠ g) (hr : some g' ≠ row) : w1.heap[g']? = some o := (h.2 g' (gB hb) hg hr).trans hb
theorem bL.own {w w1 : World} {g : Nat} {row : Option Nat} {base : Nat} {e : TypeId} {size n : Nat} {v : Value} {xs : List Value} (h : bL w w1 g row) (ho : w.ownsRow base e size v n xs) (hg : v.ownBlock ≠ some g) (hr : v.ownBlock = none ∨ v.ownBlock ≠ row) : w1.ownsRow base e size v n xs := by
  obtain ⟨h1, h2⟩ := ho
  refine ⟨h1, ?_⟩
  rcases h2 with h2 | ⟨b, cap, cur, rfl, hb, hh, r⟩
  · exact .inl h2
  · refine .inr ⟨b, cap, cur, rfl, hb, h.blk hh ?_ ?_, r⟩
    · intro e
      exact hg (by rw [← e]; rfl)
    · rcases hr with hr | hr
      · simp [Value.ownBlock] at hr
      · exact hr
section
variable {P : Program} {ops : Array Oper} {o : Oper} {a : Act} {Q : Exit → Act → World → Prop} {K : Act → World → Prop}
end
theorem own_weaken {w : World} {base base' : Nat} {e : TypeId} {size n : Nat} {v : Value} {xs : List Value} (h : w.ownsRow base e size v n xs) (hb : base' ≤ base) : w.ownsRow base' e size v n xs := by
  obtain ⟨h1, h2⟩ := h
  refine ⟨h1, ?_⟩
  rcases h2 with h2 | ⟨g, cap, cur, rfl, hg, r⟩
  · exact .inl h2
  · exact .inr ⟨g, cap, cur, rfl, Nat.le_trans hb hg, r⟩
section
variable {α : Type} {enc : α → Value} {d : α}
def encs (enc : α → Value) (xs : List α) : List Value := xs.map enc
def rdOf (d : α) (xs : List α) (i : Int) : α := xs.getD i.toNat d
theorem encs_length (xs : List α) : (encs enc xs).length = xs.length := by simp [encs]
def fP (enc : α → Value) (d : α) (w : World) (A : Option Addr) (n : Nat) (xs : List α) : Prop :=
  xs.length = n ∧ n ≤ 9223372036854775807 ∧ (0 < n → ∃ ad, A = some ad ∧ ∀ j, j < n → w.cell? (ad.add j) = some (enc (xs.getD j d)))
theorem fP.at_ {w : World} {A : Option Addr} {n : Nat} {xs : List α} (h : fP enc d w A n xs) (i : Int) (h0 : 0 ≤ i) (h1 : i < n) : ∃ ad, A = some ad ∧ w.cell? (ad.add i.toNat) = some (enc (rdOf d xs i)) := by
  obtain ⟨ad, e, hc⟩ := h.2.2 (by omega)
  exact ⟨ad, e, hc _ (by omega)⟩
theorem fP.below {w w1 : World} {A : Option Addr} {n : Nat} {xs : List α} (h : fP enc d w A n xs) (hb : Below w.heap.size w w1) : fP enc d w1 A n xs :=
  ⟨h.1, h.2.1, fun hn => by
    obtain ⟨ad, e, hc⟩ := h.2.2 hn
    exact ⟨ad, e, fun j hj => pw_cell_below hb (hc j hj)⟩⟩
theorem fP.take_ {w : World} {A : Option Addr} {n : Nat} {xs : List α} (h : fP enc d w A n xs) (i : Nat) (hi : i ≤ n) : fP enc d w A i (xs.take i) := by
  refine ⟨by rw [List.length_take, h.1]; omega, by have := h.2.1; omega, fun hp => ?_⟩
  obtain ⟨ad, e, hc⟩ := h.2.2 (by omega)
  refine ⟨ad, e, fun j hj => ?_⟩
  rw [hc j (by omega)]
  simp [List.getD_eq_getElem?_getD, hj]
theorem fP.drop_ {w : World} {A : Option Addr} {n c : Nat} {xs : List α} (h : fP enc d w A n xs) (i : Nat) (hi : i ≤ n) (hc : n ≤ c) : fP enc d w (if c = i then A else A.map (·.add i)) (n - i) (xs.drop i) := by
  refine ⟨by rw [List.length_drop, h.1], by have := h.2.1; omega, fun hp => ?_⟩
  obtain ⟨ad, rfl, hcell⟩ := h.2.2 (by omega)
  rw [if_neg (by omega)]
  refine ⟨ad.add i, rfl, fun j hj => ?_⟩
  have ha : (ad.add i).add j = ad.add (i + j) := by
    unfold Addr.add
    by_cases h1 : i = 0 <;> by_cases h2 : j = 0 <;> simp [h1, h2, Nat.add_assoc]
  rw [ha, hcell (i + j) (by omega)]
  simp [List.getD_eq_getElem?_getD, List.getElem?_drop]
/-- 'xs[m:]' without a case on the capacity (print_cut for any enc). -/
theorem print_cut_of {P : Program} (enc : α → Value) (d : α) (t e : TypeId) (kl : IntKind) {i : TypeInfo} (ht : P.underlying t = some (.slice e)) (hi : P.info? e = some i) (hsz : i.size = 1) (A : Option Addr) (n c m : Nat) (hm : m ≤ n) :
    ∃ A' : Option Addr, (∀ W : World, (Instr.slice t (.slice A n c) (some (.int kl (m : Int))) none none).run P W = .ok (.slice A' (n - m) (c - m)) W) ∧
      ∀ (w : World) (xs : List α), n ≤ c → fP enc d w A n xs → fP enc d w A' (n - m) (xs.drop m) := by
  refine ⟨if c = m then A else A.map (·.add m), fun W => ?_, fun w xs hc h => h.drop_ m hm hc⟩
  have hel : P.elem t = e := by simp [Program.elem, ht]
  have hu : P.underlying t = some (.slice (P.elem t)) := by rw [hel]; exact ht
  rw [run_slice_l W t A n c hu kl (m : Int) (Int.natCast_nonneg _) (by omega), hel]
  simp [sizeOf, typeInfo, hi, hsz, sliced, Result.andThen]
end
section
variable {α : Type} {P : Program} {ops : Array Oper} {rest : List Oper} {o : Oper} {a : Act} {Q : Exit → Act → World → Prop}
end
theorem ay {w : World} {g : Nat} {o : Obj} (h : w.heap[g]? = some o) (o' : Obj) : (w.alloc o').heap[g]? = some o := (Below.heap_alloc w o' g (gB h)).trans h
theorem av {w : World} {g : Nat} {o : Obj} (h : w.heap[g]? = some o) : w.drew.heap[g]? = some o := h
theorem ax {w : World} {g : Nat} {o : Obj} (h : w.heap[g]? = some o) (n : Nat) : (w.drewN n).heap[g]? = some o := h
theorem aZ {w w1 : World} {g : Nat} {o : Obj} (h : w.heap[g]? = some o) (hb : Below w.heap.size w w1) : w1.heap[g]? = some o := (hb.block g (gB h)).trans h
theorem blk_new (w : World) (o : Obj) : (w.alloc o).heap[w.heap.size]? = some o := heap_alloc_new w o
section
variable {P : Program}
theorem ik {fn : Func} {p u v : Tmp} {ty : TypeId} (h : fn.results = #[.cell p ty, .tmp u, .tmp v]) (tmps : Array Value) (w : World) (g : Nat) (t : TypeId) (cs : Array Value) (fr : Nat × Nat) (d : TypeDesc)
    (hp : tmps.getD p undef = .pointer (some ⟨g, 0, none⟩)) (hg : w.heap[g]? = some (.cells cs t fr))
    (hu : P.underlying ty = some d) (hd : (match d with | .struct _ | .array _ _ => true | _ => false) = true) (hi : (P.info? ty).map (·.size) = some cs.size) :
    (results fn tmps).run P w = .ok (.tuple #[.agg cs, tmps.getD u undef, tmps.getD v undef]) w := by
  have hp' : tmps[p]?.getD undef = .pointer (some ⟨g, 0, none⟩) := by simpa using hp
  simp [results, h, hp', asAddr, run_loadVar_row w g t ty cs fr d hg hu hd hi]
end
theorem own_le {w : World} {base n m c size : Nat} {e : TypeId} {A : Option Addr} {xs : List Value} (h : w.ownsRow base e size (.slice A m c) n xs) : m ≤ c := by
  rcases h.2 with ⟨he, _⟩ | ⟨g, cap, cur, he, _, _, hnc, _⟩
  · injection he with _ h2 h3
    omega
  · injection he with _ h2 h3
    omega
def iL {α : Type} (R : α → List Value → Prop) (e : TypeId) (size : Nat) (w : World) (base : Nat) (v : Value) (ps : List α) : Prop :=
  ∃ inner, w.ownsRow base e size v ps.length inner ∧ iV R size ps inner
section
variable {α : Type} {R R' : α → List Value → Prop} {e : TypeId} {size : Nat} {w w1 : World} {base : Nat} {v : Value} {ps : List α}
theorem iL.none_ (R : α → List Value → Prop) (e : TypeId) (size : Nat) (w : World) (base : Nat) : iL R e size w base (.slice none 0 0) [] := ⟨[], own_nil _ _ _ _, iV.none _ _⟩
theorem iL.imp_ (h : iL R e size w base v ps) (hR : ∀ p c, R p c → R' p c) : iL R' e size w base v ps := by
  obtain ⟨inner, ho, hr⟩ := h
  exact ⟨inner, ho, hr.imp_ hR⟩
theorem iL.below (h : iL R e size w base v ps) (hb : Below w.heap.size w w1) : iL R e size w1 base v ps := by
  obtain ⟨inner, ho, hr⟩ := h
  exact ⟨inner, pw_own_below ho hb, hr⟩
theorem iL.set_ (h : iL R e size w base v ps) {g : Nat} {t : TypeId} {cells : Array Value} (hb : w.heap[g]? = some (.cells cells t (0, 0))) (ht : e ≠ t) (j : Nat) (u : Value) : iL R e size (w.setCell ⟨g, j, none⟩ u) base v ps := by
  obtain ⟨inner, ho, hr⟩ := h
  exact ⟨inner, own_setCell ho (own_ne ho hb ht) u, hr⟩
theorem iL.reads (h : iL R e size w base v ps) : ∃ A c, v = .slice A ps.length c ∧ ps.length ≤ c ∧ gN R size w A ps.length ps := by
  obtain ⟨inner, ho, hr⟩ := h
  obtain ⟨A, c, rfl, hrow⟩ := own_reads_row ho hr rfl
  exact ⟨A, c, rfl, own_le ho, hrow⟩
theorem iL.ne_block (h : iL R e size w base v ps) {g : Nat} {t : TypeId} {cells : Array Value} (hb : w.heap[g]? = some (.cells cells t (0, 0))) (ht : e ≠ t) : some g ≠ v.ownBlock := by
  obtain ⟨inner, ho, hr⟩ := h
  exact own_ne ho hb ht
end
section
variable {P : Program} {ops : Array Oper} {rest : List Oper} {o : Oper} {a : Act} {Q : Exit → Act → World → Prop} {α : Type} {R : α → List Value → Prop}
/-- append(v, x): x's cells are cs. R is that of the world AHEAD; move it over hg ('iL.imp_'). -/
theorem iL.append {w0 W : World} (base : Nat) (hgd : o.guard = none) (s x : Operand) (t e : TypeId) (z : Value) (size bytes : Nat)
    (ho : o.op = .call { callee := .builtin .append, args := #[s, x], argTypes := #[t, t] })
    (ht : P.underlying t = some (.slice e)) (hinfo : (P.info? e).map (fun i => (i.zero, i.size, i.bytes)) = some (some z, size, bytes)) (hz : z.cells.size = size) (hs0 : 0 < size) (hb0 : 0 < bytes)
    (v : Value) (ps : List α) (p : α) (cs : List Value) (hs : a.eval s = v) (hx : a.eval x = .slice (some ⟨W.heap.size, 0, none⟩) 1 1) (hp : R p cs) (hcs : cs.length = size) (h1 : ∀ u ∈ cs, u.oneCell' = true)
    (HO : iL R e size W base v ps) (HB : Below base w0 W) (hbase : base ≤ W.heap.size) (hl : (ps.length + 1) * bytes ≤ 140737488355328)
    (h : ∀ v1 w1, iL R e size w1 base v1 (ps ++ [p]) → Below base w0 w1 → W.grownBy w1 v.ownBlock → (v1.ownBlock = v.ownBlock ∨ ∃ b, v1.ownBlock = some b ∧ W.heap.size ≤ b) → wpList P ops Q rest (a.put o.dst v1) w1) :
    wpList P ops Q (o :: rest) a (W.alloc (.cells cs.toArray e)) := by
  obtain ⟨inner, hown, hr⟩ := HO
  refine print_append_cells base hgd s x t e z size bytes ho ht hinfo hz hs0 hb0 v ps.length inner cs hs hx hcs h1 hown HB hbase hl ?_
  intro v1 w1 hown1 hb1 hg1 hat1
  exact h v1 w1 ⟨inner ++ cs, by rw [List.length_append, List.length_singleton]; exact hown1, hr.snoc hp hcs⟩ hb1 hg1 hat1
end
section
variable {P : Program} {ops : Array Oper} {o : Oper} {a : Act} {Q : Exit → Act → World → Prop} {K : Act → World → Prop} {α : Type} {R : α → List Value → Prop}
end
/-- What is read as_ a row has its cells one behind the other. -/
theorem gN.inner_ {α : Type} {R : α → List Value → Prop} {size : Nat} {w : World} {ad : Addr} {n : Nat} {ps : List α} (h : gN R size w (some ad) n ps) :
    ∃ inner, iV R size ps inner ∧ ∀ j u, inner[j]? = some u → w.cell? (ad.add j) = some u := by
  have key : ∀ m, m ≤ ps.length → ∃ inner, iV R size (ps.take m) inner ∧ ∀ j u, inner[j]? = some u → w.cell? (ad.add j) = some u := by
    intro m
    induction m with
    | zero => exact fun _ => ⟨[], iV.none _ _, fun j u hu => by simp at hu⟩
    | succ m ih =>
      intro hm
      obtain ⟨inner, hr, hc⟩ := ih (by omega)
      obtain ⟨ad', he, hcell⟩ := h.2.2 (by have := h.1; omega)
      injection he with he
      subst he
      obtain ⟨c, hcl, hp, hcc⟩ := hcell m _ (List.getElem?_eq_getElem (show m < ps.length by omega))
      refine ⟨inner ++ c, ?_, fun j u hu => ?_⟩
      · rw [List.take_succ_eq_append_getElem (show m < ps.length by omega)]
        exact hr.snoc hp hcl
      · have hil : inner.length = m * size := by rw [hr.1, List.length_take, Nat.min_eq_left (by omega)]
        rcases Nat.lt_or_ge j inner.length with hj | hj
        · rw [List.getElem?_append_left hj] at hu
          exact hc j u hu
        · rw [List.getElem?_append_right hj] at hu
          have := hcc (j - inner.length) u hu
          rwa [hil, Nat.add_sub_cancel' (by omega)] at this
  obtain ⟨inner, hr, hc⟩ := key ps.length (Nat.le_refl _)
  rw [List.take_length] at hr
  exact ⟨inner, hr, hc⟩
section
variable {α : Type} {P : Program}
theorem fU (enc : α → Value) (d : α) (t e : TypeId) (kl : IntKind) {i : TypeInfo} (ht : P.underlying t = some (.slice e)) (hi : P.info? e = some i) (hsz : i.size = 1) (A : Option Addr) (c : Nat) (xs : List α) (j : Int) (h0 : 0 ≤ j) (hm : j ≤ xs.length) (hc : xs.length ≤ c) :
    ∃ A' : Option Addr, (∀ W : World, (Instr.slice t (.slice A xs.length c) (some (.int kl j)) none none).run P W = .ok (.slice A' (xs.drop j.toNat).length (c - j.toNat)) W) ∧
      (∀ w : World, fP enc d w A xs.length xs → fP enc d w A' (xs.drop j.toNat).length (xs.drop j.toNat)) ∧ (xs.drop j.toNat).length ≤ c - j.toNat := by
  obtain ⟨m, rfl⟩ := Int.eq_ofNat_of_zero_le h0
  simp only [Int.toNat_natCast]
  have hmn : m ≤ xs.length := by omega
  obtain ⟨A', h1, h2⟩ := print_cut_of (P := P) enc d t e kl ht hi hsz A xs.length c m hmn
  have hl : (xs.drop m).length = xs.length - m := List.length_drop
  exact ⟨A', fun W => by rw [hl]; exact h1 W, fun w h => by rw [hl]; exact h2 w xs hc h, by rw [hl]; omega⟩
theorem print_mid_of (enc : α → Value) (d : α) (t e : TypeId) (kl kh : IntKind) {i : TypeInfo} (ht : P.underlying t = some (.slice e)) (hi : P.info? e = some i) (hsz : i.size = 1) (A : Option Addr) (c : Nat) (xs : List α) (a b : Int) (h0 : 0 ≤ a) (h1 : a ≤ b) (hm : b ≤ xs.length) (hc : xs.length ≤ c) :
    ∃ A' : Option Addr, (∀ W : World, (Instr.slice t (.slice A xs.length c) (some (.int kl a)) (some (.int kh b)) none).run P W = .ok (.slice A' ((xs.take b.toNat).drop a.toNat).length (c - a.toNat)) W) ∧
      (∀ w : World, fP enc d w A xs.length xs → fP enc d w A' ((xs.take b.toNat).drop a.toNat).length ((xs.take b.toNat).drop a.toNat)) ∧ ((xs.take b.toNat).drop a.toNat).length ≤ c - a.toNat := by
  have hlt : (xs.take b.toNat).length = b.toNat := by rw [List.length_take]; omega
  have hl : ((xs.take b.toNat).drop a.toNat).length = b.toNat - a.toNat := by rw [List.length_drop, hlt]
  refine ⟨if c = a.toNat then A else A.map (·.add a.toNat), fun W => ?_, fun w h => ?_, by rw [hl]; omega⟩
  · have hel : P.elem t = e := by simp [Program.elem, ht]
    have hu : P.underlying t = some (.slice (P.elem t)) := by rw [hel]; exact ht
    rw [run_slice_lh W t A xs.length c hu kl kh a b h0 h1 (by omega), hel, hl]
    simp [sizeOf, typeInfo, hi, hsz, sliced, Result.andThen]
  · have h2 := (h.take_ b.toNat (by omega)).drop_ (c := c) a.toNat (by omega) (by omega)
    rw [hl]
    exact h2
end
section
variable {P : Program} {ops : Array Oper} {rest : List Oper} {o : Oper} {a : Act} {Q : Exit → Act → World → Prop}
end
/-- ok: which blocks the rows inside may be ('not the row that is being written'). -/
structure Kd (α : Type) where
  sz : Nat
  E : List Nat
  K : World → α → List Value → Prop
  M : World → Nat → (Nat → Prop) → α → List Value → Prop
  K_len : ∀ {w x cs}, K w x cs → cs.length = sz
  K_one : ∀ {w x cs}, K w x cs → ∀ u ∈ cs, u.oneCell' = true
  K_below : ∀ {w w1 : World} {x cs}, Below w.heap.size w w1 → K w x cs → K w1 x cs
  K_of_M : ∀ {w base ok x cs}, M w base ok x cs → K w x cs
  M_mono : ∀ {w base ok ok' x cs}, (∀ k, ok k → ok' k) → M w base ok x cs → M w base ok' x cs
  M_bound : ∀ {w : World} {base ok x cs}, M w base ok x cs → M w base (fun k => ok k ∧ base ≤ k ∧ k < w.heap.size ∧ ∃ q, q ∈ E ∧ ∃ cells, w.heap[k]? = some (.cells cells q (0, 0))) x cs
  M_move : ∀ {w w1 : World} {base ok x cs}, (∀ k, ok k → w1.heap[k]? = w.heap[k]?) → M w base ok x cs → M w1 base ok x cs
  M_lower : ∀ {w base base' ok x cs}, base' ≤ base → M w base ok x cs → M w base' ok x cs
theorem own_move {w w1 : World} {base : Nat} {e : TypeId} {size n : Nat} {v : Value} {xs : List Value} (h : w.ownsRow base e size v n xs) (hm : ∀ k, v.ownBlock = some k → w1.heap[k]? = w.heap[k]?) : w1.ownsRow base e size v n xs := by
  obtain ⟨h1, h2⟩ := h
  refine ⟨h1, ?_⟩
  rcases h2 with h2 | ⟨g, cap, cur, rfl, hg, hh, r⟩
  · exact .inl h2
  · exact .inr ⟨g, cap, cur, rfl, hg, (hm g (by simp [Value.ownBlock])).trans hh, r⟩
theorem own_typed {w : World} {base : Nat} {e : TypeId} {size n : Nat} {v : Value} {xs : List Value} (h : w.ownsRow base e size v n xs) (k : Nat) (hk : v.ownBlock = some k) : ∃ cells, w.heap[k]? = some (.cells cells e (0, 0)) := by
  rcases h.2 with ⟨rfl, _⟩ | ⟨g, cap, cur, rfl, hg, hh, r⟩
  · simp [Value.ownBlock] at hk
  · have : g = k := by simpa [Value.ownBlock] using hk
    subst this
    exact ⟨cur, hh⟩
namespace Kd
/-- A row of elements that is read. -/
def C {α : Type} (d : Kd α) (w : World) (A : Option Addr) (n : Nat) (xs : List α) : Prop := gN (d.K w) d.sz w A n xs
/-- A row of elements (type e) of the call's own; the elements' rows are not this one. -/
def R {α : Type} (d : Kd α) (e : Nat) (w : World) (base : Nat) (ok : Nat → Prop) (v : Value) (xs : List α) : Prop :=
  (∀ k, v.ownBlock = some k → ok k) ∧ iL (d.M w base (fun k => ok k ∧ some k ≠ v.ownBlock)) e d.sz w base v xs
section
variable {α : Type} {d : Kd α} {e : Nat} {w w1 : World} {base : Nat} {ok ok' : Nat → Prop} {v : Value} {xs : List α}
theorem dh {A : Option Addr} {n : Nat} (h : d.C w A n xs) (hb : Below w.heap.size w w1) : d.C w1 A n xs := gN.imp_ h hb (fun _ _ hp => d.K_below hb hp)
theorem R_nil (d : Kd α) (e : Nat) (w : World) (base : Nat) (ok : Nat → Prop) : d.R e w base ok (.slice none 0 0) [] := ⟨fun k hk => by simp [Value.ownBlock] at hk, iL.none_ _ _ _ _ _⟩
theorem bR (h : d.R e w base ok v xs) (hok : ∀ k, ok k → ok' k) : d.R e w base ok' v xs := ⟨fun k hk => hok k (h.1 k hk), h.2.imp_ (fun _ _ hp => d.M_mono (fun k hk => ⟨hok k hk.1, hk.2⟩) hp)⟩
theorem R_bound (h : d.R e w base ok v xs) : d.R e w base (fun k => ok k ∧ base ≤ k ∧ k < w.heap.size ∧ ∃ q, q ∈ e :: d.E ∧ ∃ cells, w.heap[k]? = some (.cells cells q (0, 0))) v xs := by
  obtain ⟨h0, inner, ho, hr⟩ := h
  refine ⟨fun k hk => ?_, inner, ho, hr.imp_ (fun _ _ hp => d.M_mono (fun k hk => ?_) (d.M_bound hp))⟩
  · obtain ⟨cells, hc⟩ := own_typed ho k hk
    exact ⟨h0 k hk, own_base ho k hk, own_lt ho k hk, e, List.mem_cons_self, cells, hc⟩
  · obtain ⟨⟨h1, h2⟩, h3, h4, q, hq, hc⟩ := hk
    exact ⟨⟨h1, h3, h4, q, List.mem_cons_of_mem _ hq, hc⟩, h2⟩
theorem R_move (h : d.R e w base ok v xs) (hm : ∀ k, ok k → w1.heap[k]? = w.heap[k]?) : d.R e w1 base ok v xs := by
  obtain ⟨h0, inner, ho, hr⟩ := h
  exact ⟨h0, inner, own_move ho (fun k hk => hm k (h0 k hk)), hr.imp_ (fun _ _ hp => d.M_move (fun k hk => hm k hk.1) hp)⟩
theorem dU {base' : Nat} (h : d.R e w base ok v xs) (hb : base' ≤ base) : d.R e w base' ok v xs := by
  obtain ⟨h0, inner, ho, hr⟩ := h
  exact ⟨h0, inner, own_weaken ho hb, hr.imp_ (fun _ _ hp => d.M_lower hb hp)⟩
/-- Any mover: what is ok, and a block of w's, stays. -/
theorem R_step (h : d.R e w base ok v xs) (hm : ∀ k, ok k → k < w.heap.size → w1.heap[k]? = w.heap[k]?) : d.R e w1 base ok v xs :=
  bR (R_move (R_bound h) (fun k hk => hm k hk.1 hk.2.2.1)) (fun _ hk => hk.1)
theorem M_step {x : α} {cs : List Value} (h : d.M w base ok x cs) (hm : ∀ k, ok k → k < w.heap.size → w1.heap[k]? = w.heap[k]?) : d.M w1 base ok x cs :=
  d.M_mono (fun _ hk => hk.1) (d.M_move (fun k hk => hm k hk.1 hk.2.2.1) (d.M_bound h))
theorem dJ (h : d.R e w base ok v xs) (hb : Below w.heap.size w w1) : d.R e w1 base ok v xs := R_step h (fun k _ hk => hb.block k hk)
theorem M_below {x : α} {cs : List Value} (h : d.M w base ok x cs) (hb : Below w.heap.size w w1) : d.M w1 base ok x cs := M_step h (fun k _ hk => hb.block k hk)
/-- A store into another block. -/
theorem R_far (h : d.R e w base ok v xs) {p : Addr} (hok : ∀ k, ok k → k ≠ p.block) (u : Value) : d.R e (w.setCell p u) base ok v xs := R_step h (fun k ho _ => Below.heap_setCell w p u k (hok k ho))
theorem R_keep (h : d.R e w base ok v xs) {g : Nat} (hk : bL w w1 g none) (hok : ∀ k, ok k → k ≠ g) : d.R e w1 base ok v xs := R_step h (fun k ho hlt => hk.2 k hlt (hok k ho) (by simp))
/-- By types alone: the rows inside are none of a block of type t. -/
theorem ek (h : d.R e w base ok v xs) {g t : Nat} {cells : Array Value} (hb : w.heap[g]? = some (.cells cells t (0, 0))) (ht : ∀ q, q ∈ e :: d.E → q ≠ t) : d.R e w base (fun k => ok k ∧ k ≠ g) v xs :=
  bR (R_bound h) (fun k hk => ⟨hk.1, by
    obtain ⟨_, _, _, q, hq, cells', hc⟩ := hk
    rintro rfl
    rw [hc] at hb
    injection hb with hb
    injection hb with _ hb
    exact ht q hq hb⟩)
theorem R_reads (h : d.R e w base ok v xs) : ∃ A c, v = .slice A xs.length c ∧ xs.length ≤ c ∧ d.C w A xs.length xs := by
  obtain ⟨A, c, he, hl, hr⟩ := iL.reads h.2
  exact ⟨A, c, he, hl, hr.imp_ (Below.refl _ _) (fun _ _ hp => d.K_of_M hp)⟩
theorem dH (h : d.R e w base ok v xs) : ∃ A c, v = .slice A xs.length c := by
  obtain ⟨A, c, he, _⟩ := R_reads h
  exact ⟨A, c, he⟩
theorem R_own (h : d.R e w base ok v xs) : ∃ inner, w.ownsRow base e d.sz v xs.length inner := by
  obtain ⟨_, inner, ho, _⟩ := h
  exact ⟨inner, ho⟩
theorem R_ne (h : d.R e w base ok v xs) {g t : Nat} {cells : Array Value} (hb : w.heap[g]? = some (.cells cells t (0, 0))) (ht : e ≠ t) : some g ≠ v.ownBlock := iL.ne_block h.2 hb ht
end
def scalar {α : Type} (enc : α → Value) (h1 : ∀ x, (enc x).oneCell' = true) : Kd α where
  sz := 1
  E := []
  K := fun _ x cs => cs = [enc x]
  M := fun _ _ _ x cs => cs = [enc x]
  K_len := fun h => by rw [h]; rfl
  K_one := fun h u hu => by
    rw [h] at hu
    rw [List.mem_singleton.1 hu]
    exact h1 _
  K_below := fun _ h => h
  K_of_M := fun h => h
  M_mono := fun _ h => h
  M_bound := fun h => h
  M_move := fun _ h => h
  M_lower := fun _ h => h
def int (k : IntKind) : Kd Int := scalar (Value.int k) (fun _ => rfl)
def bool : Kd Bool := scalar Value.bool (fun _ => rfl)
def string : Kd ByteArray := scalar Value.string (fun _ => rfl)
def slice {α : Type} (e : Nat) (d : Kd α) : Kd (List α) where
  sz := 1
  E := e :: d.E
  K := fun w xs cs => ∃ A c, cs = [.slice A xs.length c] ∧ xs.length ≤ c ∧ d.C w A xs.length xs
  M := fun w base ok xs cs => ∃ v, cs = [v] ∧ d.R e w base ok v xs
  K_len := by
    rintro w x cs ⟨A, c, rfl, _⟩
    rfl
  K_one := by
    rintro w x cs ⟨A, c, rfl, _⟩ u hu
    rw [List.mem_singleton.1 hu]
    rfl
  K_below := by
    rintro w w1 x cs hb ⟨A, c, rfl, hl, hr⟩
    exact ⟨A, c, rfl, hl, dh hr hb⟩
  K_of_M := by
    rintro w base ok x cs ⟨v, rfl, h⟩
    obtain ⟨A, c, rfl, hl, hr⟩ := R_reads h
    exact ⟨A, c, rfl, hl, hr⟩
  M_mono := by
    rintro w base ok ok' x cs hok ⟨v, rfl, h⟩
    exact ⟨v, rfl, bR h hok⟩
  M_bound := by
    rintro w base ok x cs ⟨v, rfl, h⟩
    exact ⟨v, rfl, R_bound h⟩
  M_move := by
    rintro w w1 base ok x cs hm ⟨v, rfl, h⟩
    exact ⟨v, rfl, R_move h hm⟩
  M_lower := by
    rintro w base base' ok x cs hb ⟨v, rfl, h⟩
    exact ⟨v, rfl, dU h hb⟩
/-- Two in line. -/
def pair {α β : Type} (a : Kd α) (b : Kd β) : Kd (α × β) where
  sz := a.sz + b.sz
  E := a.E ++ b.E
  K := fun w x cs => ∃ c0 c1, cs = c0 ++ c1 ∧ a.K w x.1 c0 ∧ b.K w x.2 c1
  M := fun w base ok x cs => ∃ c0 c1, cs = c0 ++ c1 ∧ a.M w base ok x.1 c0 ∧ b.M w base ok x.2 c1
  K_len := by
    rintro w x cs ⟨c0, c1, rfl, h0, h1⟩
    rw [List.length_append, a.K_len h0, b.K_len h1]
  K_one := by
    rintro w x cs ⟨c0, c1, rfl, h0, h1⟩ u hu
    rcases List.mem_append.1 hu with hu | hu
    · exact a.K_one h0 u hu
    · exact b.K_one h1 u hu
  K_below := by
    rintro w w1 x cs hb ⟨c0, c1, rfl, h0, h1⟩
    exact ⟨c0, c1, rfl, a.K_below hb h0, b.K_below hb h1⟩
  K_of_M := by
    rintro w base ok x cs ⟨c0, c1, rfl, h0, h1⟩
    exact ⟨c0, c1, rfl, a.K_of_M h0, b.K_of_M h1⟩
  M_mono := by
    rintro w base ok ok' x cs hok ⟨c0, c1, rfl, h0, h1⟩
    exact ⟨c0, c1, rfl, a.M_mono hok h0, b.M_mono hok h1⟩
  M_bound := by
    rintro w base ok x cs ⟨c0, c1, rfl, h0, h1⟩
    refine ⟨c0, c1, rfl, a.M_mono ?_ (a.M_bound h0), b.M_mono ?_ (b.M_bound h1)⟩
    · rintro k ⟨h2, h3, h4, q, hq, hc⟩
      exact ⟨h2, h3, h4, q, List.mem_append_left _ hq, hc⟩
    · rintro k ⟨h2, h3, h4, q, hq, hc⟩
      exact ⟨h2, h3, h4, q, List.mem_append_right _ hq, hc⟩
  M_move := by
    rintro w w1 base ok x cs hm ⟨c0, c1, rfl, h0, h1⟩
    exact ⟨c0, c1, rfl, a.M_move hm h0, b.M_move hm h1⟩
  M_lower := by
    rintro w base base' ok x cs hb ⟨c0, c1, rfl, h0, h1⟩
    exact ⟨c0, c1, rfl, a.M_lower hb h0, b.M_lower hb h1⟩
/-- A Lean structure by its fields. -/
def iso {α β : Type} (d : Kd α) (f : β → α) : Kd β where
  sz := d.sz
  E := d.E
  K := fun w x cs => d.K w (f x) cs
  M := fun w base ok x cs => d.M w base ok (f x) cs
  K_len := d.K_len
  K_one := d.K_one
  K_below := d.K_below
  K_of_M := d.K_of_M
  M_mono := d.M_mono
  M_bound := d.M_bound
  M_move := d.M_move
  M_lower := d.M_lower
/-- Nothing is of this kind: where the nesting's depth is used up. -/
def bot {α : Type} (sz : Nat) (E : List Nat) : Kd α where
  sz := sz
  E := E
  K := fun _ _ _ => False
  M := fun _ _ _ _ _ => False
  K_len := fun h => h.elim
  K_one := fun h => h.elim
  K_below := fun _ h => h
  K_of_M := fun h => h
  M_mono := fun _ h => h
  M_bound := fun h => h
  M_move := fun _ h => h
  M_lower := fun _ h => h
/-- A type nested in itself: nested at most n deep .. -/
def upto {α : Type} (F : Kd α → Kd α) (sz : Nat) (E : List Nat) : Nat → Kd α
  | 0 => bot sz E
  | n + 1 => F (upto F sz E n)
theorem C_get {α : Type} {d : Kd α} {w : World} {A : Option Addr} {n : Nat} {xs : List α} (h : d.C w A n xs) (z : α) (i : Int) (h0 : 0 ≤ i) (h1 : i < n) :
    ∃ ad c, A = some ad ∧ c.length = d.sz ∧ d.K w (xs.getD i.toNat z) c ∧ ∀ j u, c[j]? = some u → w.cell? (ad.add (i.toNat * d.sz + j)) = some u := gN.get_ h z i h0 h1
/-- What an append leaves: the old elements' rows and the new one's are not the new row's block. -/
theorem R_appended {α : Type} {d : Kd α} {e base : Nat} {ok okp : Nat → Prop} {W w1 : World} {v v1 : Value} {xs : List α} {p : α} {inner cs : List Value} (h0 : ∀ k, v.ownBlock = some k → ok k) (hr : iV (d.M W base (fun k => ok k ∧ some k ≠ v.ownBlock)) d.sz xs inner) (hp : d.M W base okp p cs) (hokp : ∀ k, okp k → ok k ∧ some k ≠ v.ownBlock) (hfresh : ∀ k, W.heap.size ≤ k → ok k)
    (hown : w1.ownsRow base e d.sz v1 (xs.length + 1) (inner ++ cs)) (hg : W.grownBy w1 v.ownBlock) (hat : v1.ownBlock = v.ownBlock ∨ ∃ b, v1.ownBlock = some b ∧ W.heap.size ≤ b) : d.R e w1 base ok v1 (xs ++ [p]) := by
  have hne : ∀ k, some k ≠ v.ownBlock → k < W.heap.size → some k ≠ v1.ownBlock := by
    intro k hk hlt
    rcases hat with hat | ⟨b, hb, hle⟩
    · rw [hat]; exact hk
    · rw [hb]
      intro he
      injection he with he
      omega
  have step : ∀ {q : α} {c : List Value} {o : Nat → Prop}, d.M W base o q c → (∀ k, o k → ok k ∧ some k ≠ v.ownBlock) → d.M w1 base (fun k => ok k ∧ some k ≠ v1.ownBlock) q c := by
    intro q c o hq ho
    have h1 := d.M_move (w1 := w1) (fun k hk => hg.block k hk.2.2.1 (ho k hk.1).2) (d.M_bound hq)
    exact d.M_mono (fun k hk => ⟨(ho k hk.1).1, hne k (ho k hk.1).2 hk.2.2.1⟩) h1
  refine ⟨fun k hk => ?_, inner ++ cs, by rw [List.length_append, List.length_singleton]; exact hown, ?_⟩
  · rcases hat with hat | ⟨b, hb, hle⟩
    · exact h0 k (hat ▸ hk)
    · rw [hb] at hk
      injection hk with hk
      exact hfresh k (by omega)
  · exact (hr.imp_ (fun _ _ hq => step hq (fun _ hk => hk))).snoc (step hp hokp) (d.K_len (d.K_of_M hp))
section
variable {P : Program} {ops : Array Oper} {rest : List Oper} {o : Oper} {a : Act} {Q : Exit → Act → World → Prop} {α : Type}
/-- append(v, x), behind 'at_builtin'; the goal's world is 'W.alloc' of the variadic's box; x's cells are cs, made (its rows satisfy okp). hfresh: a block that is new at W is ok. -/
theorem R_append (d : Kd α) {w0 W : World} (base : Nat) (hgd : o.guard = none) (s x : Operand) (t e : TypeId) (z : Value) (bytes : Nat)
    (ho : o.op = .call { callee := .builtin .append, args := #[s, x], argTypes := #[t, t] })
    (ht : P.underlying t = some (.slice e)) (hinfo : (P.info? e).map (fun i => (i.zero, i.size, i.bytes)) = some (some z, d.sz, bytes)) (hz : z.cells.size = d.sz) (hs0 : 0 < d.sz) (hb0 : 0 < bytes)
    (v : Value) (xs : List α) (p : α) (cs : List Value) (ok okp : Nat → Prop) (hs : a.eval s = v) (hx : a.eval x = .slice (some ⟨W.heap.size, 0, none⟩) 1 1) (hp : d.M W base okp p cs) (hokp : ∀ k, okp k → ok k ∧ some k ≠ v.ownBlock) (hfresh : ∀ k, W.heap.size ≤ k → ok k)
    (HO : d.R e W base ok v xs) (HB : Below base w0 W) (hbase : base ≤ W.heap.size) (hl : (xs.length + 1) * bytes ≤ 140737488355328)
    (h : ∀ v1 w1, d.R e w1 base ok v1 (xs ++ [p]) → Below base w0 w1 → W.grownBy w1 v.ownBlock → (v1.ownBlock = v.ownBlock ∨ ∃ b, v1.ownBlock = some b ∧ W.heap.size ≤ b) → wpList P ops Q rest (a.put o.dst v1) w1) :
    wpList P ops Q (o :: rest) a (W.alloc (.cells cs.toArray e)) := by
  obtain ⟨h0, inner, hown, hr⟩ := HO
  refine print_append_cells base hgd s x t e z d.sz bytes ho ht hinfo hz hs0 hb0 v xs.length inner cs hs hx (d.K_len (d.K_of_M hp)) (d.K_one (d.K_of_M hp)) hown HB hbase hl ?_
  intro v1 w1 hown1 hb1 hg1 hat1
  exact h v1 w1 (R_appended h0 hr hp hokp hfresh hown1 hg1 hat1) hb1 hg1 hat1
end
section
variable {P : Program} {ops : Array Oper} {o : Oper} {a : Act} {Q : Exit → Act → World → Prop} {Kc : Act → World → Prop} {α : Type}
end
/-- A row of scalars is the elder form. -/
theorem reps_scalar {α : Type} {enc : α → Value} (xs : List α) : iV (fun (x : α) (cs : List Value) => cs = [enc x]) 1 xs (encs enc xs) := by
  refine ⟨by simp [encs], fun j p hj => ?_⟩
  obtain ⟨hl, hp⟩ := List.getElem?_eq_some_iff.1 hj
  have hl' : j < (encs enc xs).length := by rw [encs_length]; exact hl
  rw [Nat.mul_one, List.drop_eq_getElem_cons hl']
  simp [encs, hp]
theorem R_of_own {α : Type} {enc : α → Value} {h1 : ∀ x, (enc x).oneCell' = true} {e : Nat} {w : World} {base : Nat} {ok : Nat → Prop} {v : Value} {xs : List α} (ho : w.ownsRow base e 1 v xs.length (encs enc xs)) (hok : ∀ k, v.ownBlock = some k → ok k) : (scalar enc h1).R e w base ok v xs := ⟨hok, encs enc xs, ho, reps_scalar xs⟩
theorem own_of_R {α : Type} {enc : α → Value} {h1 : ∀ x, (enc x).oneCell' = true} {e : Nat} {w : World} {base : Nat} {ok : Nat → Prop} {v : Value} {xs : List α} (h : (scalar enc h1).R e w base ok v xs) : w.ownsRow base e 1 v xs.length (encs enc xs) := by
  obtain ⟨_, inner, ho, hr⟩ := h
  have : inner = encs enc xs := by
    apply List.ext_getElem?
    intro j
    rcases Nat.lt_or_ge j xs.length with hj | hj
    · have h2 := hr.2 j _ (List.getElem?_eq_getElem hj)
      have hl : j < inner.length := by have := hr.1; simp [scalar] at this; omega
      have h3 : (inner.drop (j * 1)).take 1 = [enc xs[j]] := h2
      rw [Nat.mul_one, List.drop_eq_getElem_cons hl] at h3
      have h4 : inner[j] = enc xs[j] := by
        have h5 := congrArg List.head? h3
        rw [List.take_succ_cons] at h5
        exact Option.some.inj h5
      rw [List.getElem?_eq_getElem hl, h4]
      simp [encs, List.getElem?_eq_getElem hj]
    · have h3 : inner.length = xs.length := by have := hr.1; simp [scalar] at this; omega
      rw [List.getElem?_eq_none (by omega), List.getElem?_eq_none (by rw [encs_length]; omega)]
  rw [← this]
  exact ho
theorem gZ {α : Type} {enc : α → Value} {d : α} {h1 : ∀ x, (enc x).oneCell' = true} {w : World} {A : Option Addr} {n : Nat} {xs : List α} (h : fP enc d w A n xs) : (scalar enc h1).C w A n xs := by
  refine ⟨h.1, h.2.1, fun hn => ?_⟩
  obtain ⟨ad, e, hc⟩ := h.2.2 hn
  refine ⟨ad, e, fun j p hj => ⟨[enc p], rfl, rfl, fun i u hu => ?_⟩⟩
  obtain ⟨hl, hp⟩ := List.getElem?_eq_some_iff.1 hj
  have h2 := hc j (by have := h.1; omega)
  rw [List.getD_eq_getElem?_getD, hj] at h2
  cases i with
  | zero =>
    have : enc p = u := by simpa using hu
    subst this
    simpa [scalar] using h2
  | succ i => simp at hu
theorem gF {α : Type} {enc : α → Value} {d : α} {h1 : ∀ x, (enc x).oneCell' = true} {w : World} {A : Option Addr} {n : Nat} {xs : List α} (h : (scalar enc h1).C w A n xs) : fP enc d w A n xs := by
  refine ⟨h.1, h.2.1, fun hn => ?_⟩
  obtain ⟨ad, e, hc⟩ := h.2.2 hn
  refine ⟨ad, e, fun j hj => ?_⟩
  have hl : j < xs.length := by have := h.1; omega
  obtain ⟨c, _, hK, hcell⟩ := hc j _ (List.getElem?_eq_getElem hl)
  have hK' : c = [enc xs[j]] := hK
  subst hK'
  have := hcell 0 _ rfl
  simpa [scalar, List.getD_eq_getElem?_getD, List.getElem?_eq_getElem hl] using this
end Kd
namespace Kd
section
variable {α : Type} {F : Kd α → Kd α} {sz : Nat} {E : List Nat} {hs : ∀ n, (upto F sz E n).sz = sz} {hE : ∀ n q, q ∈ (upto F sz E n).E → q ∈ E}
end
end Kd
namespace Kd
/-- Behind an append to v (it left v1): what is held apart from v is held apart from v1. -/
theorem eO {α : Type} {d : Kd α} {e base : Nat} {ok : Nat → Prop} {W w1 : World} {u v v1 : Value} {xs : List α} (h : d.R e W base (fun k => ok k ∧ some k ≠ v.ownBlock) u xs) (hg : W.grownBy w1 v.ownBlock) (hat : v1.ownBlock = v.ownBlock ∨ ∃ b, v1.ownBlock = some b ∧ W.heap.size ≤ b) : d.R e w1 base (fun k => ok k ∧ some k ≠ v1.ownBlock) u xs := by
  refine bR (R_move (R_bound h) (fun k hk => hg.block k hk.2.2.1 hk.1.2)) (fun k hk => ⟨hk.1.1, ?_⟩)
  rcases hat with hat | ⟨b, hb, hle⟩
  · rw [hat]; exact hk.1.2
  · rw [hb]
    intro he
    injection he with he
    have := hk.2.2.1
    omega
end Kd
namespace Kd
section
variable {α β : Type} {d : Kd α} {d' : Kd β} {e e' : Nat} {w w1 W : World} {base b b' : Nat} {ok ok' okv oku : Nat → Prop} {v u : Value} {xs : List α} {ys : List β}
theorem bi (h : d.R e w base ok v xs) (o : Obj) : d.R e (w.alloc o) base ok v xs := dJ h (bq (Below.refl _ _) o)
theorem bz (h : d.R e w base ok v xs) : d.R e w.drew base ok v xs := dJ h (below_drew (Below.refl _ _))
theorem bn (h : d.R e w base ok v xs) (m : Nat) : d.R e (w.drewN m) base ok v xs := dJ h (aT (Below.refl _ _) m)
theorem bN {A : Option Addr} {n : Nat} (h : d.C w A n xs) (o : Obj) : d.C (w.alloc o) A n xs := dh h (bq (Below.refl _ _) o)
theorem dm {A : Option Addr} {n : Nat} (h : d.C w A n xs) : d.C w.drew A n xs := dh h (below_drew (Below.refl _ _))
theorem bM {A : Option Addr} {n : Nat} (h : d.C w A n xs) (m : Nat) : d.C (w.drewN m) A n xs := dh h (aT (Below.refl _ _) m)
theorem C_nil (d : Kd α) (w : World) : d.C w none ([] : List α).length [] := ⟨rfl, by simp, fun h => absurd h (Nat.lt_irrefl 0)⟩
theorem bY {A : Option Addr} {n c : Nat} (h : d.R e w base ok (.slice A n c) xs) : n = xs.length ∧ n ≤ c ∧ d.C w A xs.length xs := by
  obtain ⟨A', c', he, hl, hr⟩ := R_reads h
  injection he with h1 h2 h3
  subst h1
  exact ⟨h2, by omega, hr⟩
theorem il (h : d.R e w base ok v xs) : ∀ k, v.ownBlock = some k → k < w.heap.size := by
  obtain ⟨inner, ho⟩ := R_own h
  exact own_lt ho
theorem fo (h : d.R e w base ok v xs) : ∀ k, v.ownBlock = some k → base ≤ k := by
  obtain ⟨inner, ho⟩ := R_own h
  exact own_base ho
end
section
variable {w W : World} {A : Option Addr} {n : Nat}
theorem fG {k : IntKind} {xs : List Int} (h : (Kd.int k).C w A n xs) (i : Int) (h0 : 0 ≤ i) (h1 : i < n) : ∃ ad, A = some ad ∧ w.cell? (ad.add i.toNat) = some (.int k (rd xs i)) :=
  fP.at_ (gF (enc := Value.int k) (d := (0 : Int)) (h1 := fun _ => rfl) h) i h0 h1
variable {α : Type} {enc : α → Value} {h1 : ∀ x, (enc x).oneCell' = true} {e base g cap : Nat} {ok : Nat → Prop} {xs : List α}
end
section
variable {P : Program} {ops : Array Oper} {rest : List Oper} {o : Oper} {a : Act} {Q : Exit → Act → World → Prop}
theorem event_run {W w1 : World} {v : Value} (hgd : o.guard = none) (hrun : (execOp a.eval o).run P W = .ok (.value v) w1) (h : wpList P ops Q rest (a.put o.dst v) w1) : wpList P ops Q (o :: rest) a W := by
  refine wpList_plain hgd fun K hK => ?_
  unfold Oper.wp
  rw [hrun]
  exact hK _ _ h
variable {α : Type}
/-- A literal '[]T{..}': inner its cells. 'hd' picks the operation; 'hrun' by '(by go_simp; rfl)'. -/
theorem R_lit (d : Kd α) {w0 W : World} (base e : Nat) (hgd : o.guard = none) {N : Tmp} (_hd : o.dst = some N) {xs : List α} {inner : List Value} {ok okp : Nat → Prop}
    (hrun : (execOp a.eval o).run P W = .ok (.value (.slice (some ⟨W.heap.size, 0, none⟩) xs.length xs.length)) (W.alloc (.cells inner.toArray e)))
    (hrep : iV (d.M W base okp) d.sz xs inner) (hok : ∀ k, okp k → ok k) (hfresh : ok W.heap.size) (HB : Below base w0 W) (hbase : base ≤ W.heap.size) (hm : xs.length ≤ 9223372036854775807)
    (h : ∀ v1 w1, d.R e w1 base ok v1 xs → Below base w0 w1 → W.grownBy w1 none → (∃ b, v1.ownBlock = some b ∧ W.heap.size ≤ b) → wpList P ops Q rest (a.put o.dst v1) w1) : wpList P ops Q (o :: rest) a W := by
  refine event_run hgd hrun (h _ _ ⟨fun k hk => ?_, inner, ?_, ?_⟩ (HB.alloc hbase _) (World.grownBy_alloc W _ none) ⟨W.heap.size, by simp [Value.ownBlock], Nat.le_refl _⟩)
  · have : W.heap.size = k := by simpa [Value.ownBlock] using hk
    subst this
    exact hfresh
  · have h2 := World.ownsRow_lit (base := base) (e := e) (size := d.sz) W inner.toArray xs.length hbase (by simpa [maxLen] using hm) (by simpa using hrep.1)
    simpa using h2
  · refine hrep.imp_ (fun p c hp => d.M_mono (fun k hk => ⟨hok k hk.1, fun he => ?_⟩) (M_below (d.M_bound hp) (bq (Below.refl _ _) _)))
    have h3 : k = W.heap.size := by simpa [Value.ownBlock] using he
    have := hk.2.2.1
    omega
end
end Kd
section
variable {P : Program}
end
/-- A row of one's own that may begin inside its block. -/
def QRow (w : World) (base : Nat) (e : TypeId) (size : Nat) (v : Value) (n : Nat) (xs : List Value) : Prop :=
  xs.length = n * size ∧
  ((n = 0 ∧ ∃ A, v = .slice A 0 0 ∧ ∀ a, A = some a → base ≤ a.block ∧ ∃ cur, w.heap[a.block]? = some (.cells cur e (0, 0))) ∨
   ∃ g off cap cur, v = .slice (some ⟨g, off * size, none⟩) n cap ∧ base ≤ g ∧ w.heap[g]? = some (.cells cur e (0, 0)) ∧ n ≤ cap ∧ off + cap ≤ maxLen ∧ cur.size = (off + cap) * size ∧ (cur.toList.drop (off * size)).take (n * size) = xs)
section
variable {w w1 : World} {base n size : Nat} {e : TypeId} {v : Value} {xs : List Value}
theorem q_of_own (h : w.ownsRow base e size v n xs) : QRow w base e size v n xs := by
  obtain ⟨h1, h2⟩ := h
  refine ⟨h1, ?_⟩
  rcases h2 with ⟨rfl, h0⟩ | ⟨g, cap, cur, rfl, hb, hh, hnc, hcm, hcs, ht⟩
  · exact .inl ⟨h0, none, rfl, fun a ha => by cases ha⟩
  · exact .inr ⟨g, 0, cap, cur, by rw [Nat.zero_mul], hb, hh, hnc, by rw [Nat.zero_add]; exact hcm, by rw [Nat.zero_add]; exact hcs, by rw [Nat.zero_mul, List.drop_zero]; exact ht⟩
end
section
variable {P : Program}
end
namespace Kd
def Q {α : Type} (d : Kd α) (e : Nat) (w : World) (base : Nat) (ok : Nat → Prop) (v : Value) (xs : List α) : Prop :=
  (∀ k, v.ownBlock = some k → ok k) ∧ ∃ inner, QRow w base e d.sz v xs.length inner ∧ iV (d.M w base (fun k => ok k ∧ some k ≠ v.ownBlock)) d.sz xs inner
section
variable {α : Type} {d : Kd α} {e : Nat} {w w1 W : World} {base : Nat} {ok ok' : Nat → Prop} {v : Value} {xs : List α}
theorem Q_of_R (h : d.R e w base ok v xs) : d.Q e w base ok v xs := by
  obtain ⟨h0, inner, ho, hr⟩ := h
  exact ⟨h0, inner, q_of_own ho, hr⟩
theorem Q_nil (d : Kd α) (e : Nat) (w : World) (base : Nat) (ok : Nat → Prop) : d.Q e w base ok (.slice none 0 0) [] := Q_of_R (R_nil d e w base ok)
end
section
variable {P : Program} {ops : Array Oper} {rest : List Oper} {o : Oper} {a : Act} {Q' : Exit → Act → World → Prop} {Kc : Act → World → Prop} {α : Type}
end
end Kd
namespace Kd
section
variable {α : Type} {d : Kd α} {e e' : Nat} {w w1 W : World} {base : Nat} {ok : Nat → Prop} {u v : Value} {xs : List α}
theorem dN (hu : d.R e W base ok u xs) (hbase : ∀ k, v.ownBlock = some k → W.heap.size ≤ k) (hb : Below W.heap.size W w1) : d.R e w1 base (fun k => ok k ∧ some k ≠ v.ownBlock) u xs :=
  bR (R_move (R_bound hu) (fun k hk => hb.block k hk.2.2.1)) (fun k hk => ⟨hk.1, fun he => by have := hbase k he.symm; have := hk.2.2.1; omega⟩)
theorem eY (h : d.R e w1 W.heap.size ok v xs) (hlt : ∀ k, u.ownBlock = some k → k < W.heap.size) : d.R e w1 W.heap.size (fun k => ok k ∧ some k ≠ u.ownBlock) v xs :=
  bR (R_bound h) (fun k hk => ⟨hk.1, fun he => by have := hlt k he.symm; have := hk.2.1; omega⟩)
theorem fresh' (hlt : ∀ k, u.ownBlock = some k → k < W.heap.size) : ∀ k, W.heap.size ≤ k → some k ≠ u.ownBlock := fun k hk he => by have := hlt k he.symm; omega
end
end Kd
namespace Kd
section
variable {α : Type} {d : Kd α} {e base g n cap : Nat} {ok okp : Nat → Prop} {W : World} {xs : List α}
end
end Kd
namespace Kd
section
variable {α : Type} {F : Kd α → Kd α} {sz : Nat} {E : List Nat} {hs : ∀ n, (upto F sz E n).sz = sz} {hE : ∀ n q, q ∈ (upto F sz E n).E → q ∈ E}
end
end Kd
namespace Kd
theorem reps_append {α : Type} {R : α → List Value → Prop} {size : Nat} {ps qs : List α} {cs ds : List Value} (h : iV R size ps cs) (h' : iV R size qs ds) : iV R size (ps ++ qs) (cs ++ ds) := by
  refine ⟨by rw [List.length_append, List.length_append, h.1, h'.1, Nat.add_mul], fun j p hj => ?_⟩
  rcases Nat.lt_or_ge j ps.length with hlt | hge
  · rw [List.getElem?_append_left hlt] at hj
    have hle : j * size + size ≤ cs.length := by rw [h.1, ← Nat.succ_mul]; exact Nat.mul_le_mul_right _ hlt
    rw [List.drop_append_of_le_length (by omega), List.take_append_of_le_length (by rw [List.length_drop]; omega)]
    exact h.2 j p hj
  · rw [List.getElem?_append_right hge] at hj
    have h2 := h'.2 (j - ps.length) p hj
    have hle : ps.length * size ≤ j * size := Nat.mul_le_mul_right _ hge
    rw [List.drop_append, List.drop_eq_nil_of_le (by rw [h.1]; exact hle), List.nil_append, h.1, ← Nat.sub_mul]
    exact h2
section
variable {P : Program} {ops : Array Oper} {rest : List Oper} {o : Oper} {a : Act} {Q : Exit → Act → World → Prop} {α : Type}
/-- append(v, ys...): Rr is what is known of a read element's cells (d.K W; or k<T>.K w0 for a row that came in), hKM: it may stand as_ made. -/
theorem fT (d : Kd α) {Rr : α → List Value → Prop} {w0 W : World} (base : Nat) (hgd : o.guard = none) (s x : Operand) (t e : TypeId) (z : Value) (bytes : Nat)
    (ho : o.op = .call { callee := .builtin .append, args := #[s, x], argTypes := #[t, t] })
    (ht : P.underlying t = some (.slice e)) (hinfo : (P.info? e).map (fun i => (i.zero, i.size, i.bytes)) = some (some z, d.sz, bytes)) (hz : z.cells.size = d.sz) (hs0 : 0 < d.sz) (hb0 : 0 < bytes)
    (v : Value) (xs ys : List α) (A : Option Addr) (m c : Nat) (ok okp : Nat → Prop) (hs : a.eval s = v) (hx : a.eval x = .slice A m c)
    (HO : d.R e W base ok v xs) (HR : gN Rr d.sz W A m ys) (hKM : ∀ x cs, Rr x cs → d.M W base okp x cs) (hokp : ∀ k, okp k → ok k ∧ some k ≠ v.ownBlock) (hfresh : ∀ k, W.heap.size ≤ k → ok k)
    (HB : Below base w0 W) (hbase : base ≤ W.heap.size) (hl : (xs.length + m) * bytes ≤ 140737488355328)
    (h : ∀ v1 w1, d.R e w1 base ok v1 (xs ++ ys) → Below base w0 w1 → W.grownBy w1 v.ownBlock → (v1.ownBlock = v.ownBlock ∨ ∃ b, v1.ownBlock = some b ∧ W.heap.size ≤ b) → wpList P ops Q rest (a.put o.dst v1) w1) :
    wpList P ops Q (o :: rest) a W := by
  obtain ⟨i0, hi, hzz⟩ := Option.map_eq_some_iff.1 hinfo
  simp only [Prod.mk.injEq] at hzz
  obtain ⟨hz0, hz1, hz2⟩ := hzz
  have hm : ys.length = m := HR.1
  have hlen : xs.length + m ≤ 140737488355328 := Nat.le_trans (Nat.le_mul_of_pos_right _ hb0) hl
  obtain ⟨hok, inner, hown, hr⟩ := HO
  have hrun : ∃ v1 w1, (Builtin.append_ #[t, t] o.type #[v, .slice A m c]).run P W = .ok v1 w1 ∧ d.R e w1 base ok v1 (xs ++ ys) ∧ W.grownBy w1 v.ownBlock ∧ (v1.ownBlock = v.ownBlock ∨ ∃ b, v1.ownBlock = some b ∧ W.heap.size ≤ b) := by
    rcases A with _ | ad
    · have h0 : m = 0 := by
        rcases Nat.eq_zero_or_pos m with h0 | h0
        · exact h0
        · obtain ⟨ad, h, _⟩ := HR.2.2 h0
          cases h
      subst h0
      obtain rfl : ys = [] := List.eq_nil_of_length_eq_zero hm
      refine ⟨v, W, ?_, by rw [List.append_nil]; exact ⟨hok, inner, hown, hr⟩, World.grownBy.refl W _, .inl rfl⟩
      rcases hown.2 with ⟨rfl, hn⟩ | ⟨g, cap, cur, rfl, _, _, hnc, _⟩
      · simp [Builtin.append_, run_underlying ht, sizeOf, typeInfo, hi, Builtin.lenOf, Builtin.firstCells]
      · simp [Builtin.append_, run_underlying ht, sizeOf, typeInfo, hi, Builtin.lenOf, Builtin.firstCells, hnc, storeCells]
    · obtain ⟨news, hnr, hnc⟩ := gN.inner_ HR
      have hnM : iV (d.M W base okp) d.sz ys news := hnr.imp_ (fun p c hp => hKM p c hp)
      have hone : ∀ u ∈ news, u.oneCell' = true := by
        intro u hu
        obtain ⟨q, hq, rfl⟩ := List.mem_iff_getElem.1 hu
        have hql : q / d.sz < ys.length := by
          rw [Nat.div_lt_iff_lt_mul hs0]
          rw [← hnM.1]
          exact hq
        have hc := hnM.2 (q / d.sz) _ (List.getElem?_eq_getElem hql)
        refine d.K_one (d.K_of_M hc) _ ?_
        rw [List.mem_iff_getElem?]
        refine ⟨q % d.sz, ?_⟩
        rw [List.getElem?_take, if_pos (Nat.mod_lt _ hs0), List.getElem?_drop, Nat.mul_comm, Nat.div_add_mod, List.getElem?_eq_getElem hq]
      obtain ⟨v1, w1, hrun, h2, hg, _, hat⟩ := run_append_own_at (P := P) W base t o.type e i0 z d.sz bytes ht hi hz0 hz1 hz2 hz hs0 v xs.length inner hown ad m c news (by rw [hnM.1, hm]) hnc hone (by simp only [maxLen]; omega) hl hbase
      have hat' : v1.ownBlock = v.ownBlock ∨ ∃ b, v1.ownBlock = some b ∧ W.heap.size ≤ b := by
        rcases hat with hat | hat
        · exact .inl hat
        · exact .inr ⟨_, hat, Nat.le_refl _⟩
      have hne : ∀ k, some k ≠ v.ownBlock → k < W.heap.size → some k ≠ v1.ownBlock := by
        intro k hk hlt
        rcases hat' with hat | ⟨b, hb, hle⟩
        · rw [hat]; exact hk
        · rw [hb]
          intro he
          injection he with he
          omega
      have step : ∀ {q : α} {c : List Value} {o : Nat → Prop}, d.M W base o q c → (∀ k, o k → ok k ∧ some k ≠ v.ownBlock) → d.M w1 base (fun k => ok k ∧ some k ≠ v1.ownBlock) q c := by
        intro q c o hq ho
        have h1 := d.M_move (w1 := w1) (fun k hk => hg.block k hk.2.2.1 (ho k hk.1).2) (d.M_bound hq)
        exact d.M_mono (fun k hk => ⟨(ho k hk.1).1, hne k (ho k hk.1).2 hk.2.2.1⟩) h1
      refine ⟨v1, w1, hrun, ⟨fun k hk => ?_, inner ++ news, by rw [List.length_append, hm]; exact h2, reps_append (hr.imp_ (fun _ _ hq => step hq (fun _ hk => hk))) (hnM.imp_ (fun _ _ hq => step hq hokp))⟩, hg, hat'⟩
      rcases hat' with hat | ⟨b, hb, hle⟩
      · exact hok k (hat ▸ hk)
      · rw [hb] at hk
        injection hk with hk
        exact hfresh k (by omega)
  obtain ⟨v1, w1, hr1, h1, hg, hat⟩ := hrun
  refine wpList_plain hgd fun K hK => ?_
  unfold Oper.wp execOp
  simp only [ho, resolve, invoke, builtin, Sem.run_bind, Sem.run_pure, Result.andThen_ok, List.map_toArray, List.map_cons, List.map_nil, hs, hx, hr1]
  exact hK _ _ (h v1 w1 h1 (HB.grown hg hbase (own_base hown)) hg hat)
end
end Kd
namespace Kd
section
variable {P : Program} {ops : Array Oper} {rest : List Oper} {o : Oper} {a : Act} {Q : Exit → Act → World → Prop} {α : Type}
end
end Kd
theorem add_add (a : Addr) (i j : Nat) : (a.add i).add j = a.add (i + j) := by
  unfold Addr.add
  by_cases h1 : i = 0 <;> by_cases h2 : j = 0 <;> simp [h1, h2, Nat.add_assoc]
namespace Kd
section
variable {α : Type} {k : Kd α} {w : World} {A : Option Addr} {xs : List α} {m c : Nat}
end
end Kd
section
variable {P : Program}
end
theorem string_of_reads {P : Program} {w : World} {src dst e : TypeId} {A : Option Addr} {n c : Nat} {xs : List Int} (hs : P.underlying src = some (.slice e)) (he : P.underlying e = some (.int .u8)) (hd : P.underlying dst = some .string)
    (h : gI w .u8 A n xs) : (convert src dst (.slice A n c)).run P w = .ok (.string (strOfNums xs)) w := by
  have hn : xs.length = n := h.1
  rcases A with _ | ad
  · have h0 : n = 0 := by
      rcases Nat.eq_zero_or_pos n with h0 | h0
      · exact h0
      · obtain ⟨ad, h', _⟩ := h.2.2 h0
        cases h'
    subst h0
    obtain rfl : xs = [] := List.eq_nil_of_length_eq_zero hn
    exact run_convert_bytes_nil w src e hs he 0 c dst hd
  · have hl : (loadCells ad n).run P w = .ok (xs.map (Value.int .u8)).toArray w := by
      have := run_loadCells_list (P := P) w ad (xs.map (Value.int .u8)) (fun j v hj => by
        have hjl : j < xs.length := by
          rcases Nat.lt_or_ge j xs.length with h' | h'
          · exact h'
          · rw [List.getElem?_eq_none (by rw [List.length_map]; exact h')] at hj
            cases hj
        obtain ⟨ad', he', hc⟩ := h.2.2 (by omega)
        injection he' with he'
        subst he'
        rw [hc j (by omega)]
        rw [List.getElem?_map, List.getElem?_eq_getElem hjl] at hj
        simp at hj
        subst hj
        simp [List.getD_eq_getElem?_getD, List.getElem?_eq_getElem hjl])
      simpa [hn] using this
    rw [run_convert_bytes_string w src dst e _ n c hs he hd, run_bytesToString w ad n c xs hl, foldl_push_bytes]
    simp [strOfNums, ByteArray.empty, ByteArray.emptyWithCapacity]
    rfl
theorem Kd.C_string {P : Program} {w : World} {src dst e : TypeId} {A : Option Addr} {n c : Nat} {xs : List Int} (hs : P.underlying src = some (.slice e)) (he : P.underlying e = some (.int .u8)) (hd : P.underlying dst = some .string)
    (h : (Kd.int .u8).C w A n xs) : (convert src dst (.slice A n c)).run P w = .ok (.string (strOfNums xs)) w :=
  string_of_reads hs he hd (Kd.gF (enc := Value.int .u8) (d := (0 : Int)) (h1 := fun _ => rfl) h)
theorem dW {w W : World} (h : Below w.heap.size w W) : w.heap.size ≤ W.heap.size := h.size
theorem aj {w W w2 : World} (h : Below w.heap.size w W) (k : Below W.heap.size W w2) : Below w.heap.size w w2 := below_then h h.size k
theorem gI.nil (W : World) (k : IntKind) : gI W k none ([] : List Int).length [] := ⟨rfl, by simp, fun h => absurd h (Nat.lt_irrefl 0)⟩
theorem gI.drewN {W : World} {k : IntKind} {A : Option Addr} {n : Nat} {xs : List Int} (h : gI W k A n xs) (m : Nat) : gI (W.drewN m) k A n xs := h
theorem aW {w W : World} {g j : Nat} {v : Value} (h : Below w.heap.size w W) (hg : w.heap.size ≤ g) : Below w.heap.size w (W.setCell ⟨g, j, none⟩ v) := h.setCell hg _
theorem gG {w W : World} {g : Nat} {row : Option Nat} (h : bL w W g row) (m : Nat) : bL w (W.drewN m) g row := h
theorem gH {w W : World} {g : Nat} (h : bL w W g none) (o : Obj) : bL w (W.alloc o) g none := h.trans (bL.of_grown (World.grownBy_alloc W o none) g) (.inl rfl)
theorem add_block (a : Addr) (i : Nat) : (a.add i).block = a.block := by unfold Addr.add; split <;> rfl
theorem keep_size {w W : World} {g : Nat} {row : Option Nat} (h : bL w W g row) : w.heap.size ≤ W.heap.size := h.1
theorem fP.nil {α : Type} (enc : α → Value) (d : α) (W : World) : fP enc d W none ([] : List α).length [] := ⟨rfl, by simp, fun h => absurd h (Nat.lt_irrefl 0)⟩
theorem fP.drewN {α : Type} {enc : α → Value} {d : α} {W : World} {A : Option Addr} {n : Nat} {xs : List α} (h : fP enc d W A n xs) (m : Nat) : fP enc d (W.drewN m) A n xs := h
theorem cell_far {W : World} {p a : Addr} (h : a.block ≠ p.block) (u : Value) : (W.setCell p u).cell? a = W.cell? a := by
  have := Below.heap_setCell W p u a.block h
  simp [World.cell?, this]
theorem bK {w : World} {g : Nat} {t : TypeId} {cs cs' : Array Value} (h : w.heap[g]? = some (.cells cs t (0, 0))) (i : Nat) (u : Value) (e : cs.setIfInBounds i u = cs') : (w.setCell ⟨g, i, none⟩ u).heap[g]? = some (.cells cs' t (0, 0)) := e ▸ blk_set h i u
theorem iW {w W : World} {g : Nat} {row : Option Nat} (h : bL w W g row) {p : Addr} (hp : w.heap.size ≤ p.block) (u : Value) : bL w (W.setCell p u) g row :=
  ⟨by simpa [World.setCell] using h.1, fun i hi hg hr => (Below.heap_setCell W p u i (by omega)).trans (h.2 i hi hg hr)⟩
theorem aJ {base : Nat} {w W : World} (h : Below base w W) : Below base w W.drew := h.drew
theorem fZ {w W : World} {g : Nat} {row : Option Nat} (h : bL w W g row) : bL w W.drew g row := h
namespace Kd
section
variable {α β : Type} {d : Kd α} {d' : Kd β} {e e' base base' n : Nat} {ok ok' : Nat → Prop} {w W w1 W1 : World} {v u : Value} {xs : List α} {ys : List β} {A : Option Addr} {c : Nat}
end
section
variable {α : Type} {enc : α → Value} {h1 : ∀ x, (enc x).oneCell' = true} {w W : World} {A : Option Addr} {n g : Nat} {xs : List α}
end
end Kd
namespace Kd
section
variable {α : Type} {d : Kd α} {e base g : Nat} {ok : Nat → Prop} {w w1 : World} {v : Value} {xs : List α} {o : Obj}
end
end Kd
section
variable {P : Program} {ops : Array Oper} {rest : List Oper} {o : Oper} {a : Act} {Q : Exit → Act → World → Prop}
theorem bD {W : World} (hgd : o.guard = none) {N : Tmp} (_hd : o.dst = some N) {cs : Array Value} {t : TypeId}
    (hrun : (execOp a.eval o).run P W = .ok (.value (.pointer (some ⟨W.heap.size, 0, none⟩))) (W.alloc (.cells cs t (0, 0))))
    (h : ∀ g, g = W.heap.size → ∀ w1, w1.heap[g]? = some (.cells cs t (0, 0)) → Below W.heap.size W w1 → wpList P ops Q rest (a.put o.dst (.pointer (some ⟨g, 0, none⟩))) w1) : wpList P ops Q (o :: rest) a W :=
  Kd.event_run hgd hrun (h _ rfl _ (blk_new W _) (bq (Below.refl _ _) _))
end
namespace Kd
section
variable {α : Type} {enc : α → Value} {h1 : ∀ x, (enc x).oneCell' = true} {e base g n cap : Nat} {ok : Nat → Prop} {W : World} {xs : List α}
end
end Kd
section
variable {P : Program} {ops : Array Oper} {rest : List Oper} {o : Oper} {a : Act} {Q : Exit → Act → World → Prop}
theorem dG {W w1 : World} (hgd : o.guard = none) {t : TypeId} {p : Tmp} {v : Operand} (_ho : o.op = .store t (.tmp p) v) (hN : o.dst = none)
    (hrun : (execOp a.eval o).run P W = .ok .skip w1) (h : ∀ w', w' = w1 → wpList P ops Q rest a w') : wpList P ops Q (o :: rest) a W := by
  refine wpList_plain hgd fun K hK => ?_
  unfold Oper.wp
  rw [hrun]
  show K (a.put o.dst undef) w1
  rw [hN]
  exact hK _ _ (h _ rfl)
end
namespace Kd
section
variable {α : Type} {enc : α → Value} {h1 : ∀ x, (enc x).oneCell' = true} {e base g n cap : Nat} {ok : Nat → Prop} {W : World} {xs : List α}
end
end Kd
section
variable {P : Program} {ops : Array Oper} {rest : List Oper} {o : Oper} {a : Act} {Q : Exit → Act → World → Prop} {W : World}
theorem bJ {N : Tmp} (_hN : o.dst = some N) (h : wpList P ops Q (o :: rest) a W) : wpList P ops Q (o :: rest) a W := h
theorem dK {t : TypeId} {p : Tmp} {v : Operand} (_ho : o.op = .store t (.tmp p) v) (h : wpList P ops Q (o :: rest) a W) : wpList P ops Q (o :: rest) a W := h
end
section
variable {P : Program} {ops : Array Oper} {o : Oper} {a : Act} {Q : Exit → Act → World → Prop} {Kc : Act → World → Prop}
theorem event_step {W w1 : World} {v : Value} (hw : Region.wanted o (yielded ops a.tmps) = true) (hrun : (execOp a.eval o).run P W = .ok (.value v) w1) (h : Kc (a.put o.dst v) w1) : if Region.wanted o (yielded ops a.tmps) = true then Oper.wp P o a W Kc Q else Kc (a.put o.dst undef) W := by
  rw [if_pos hw]
  unfold Oper.wp
  rw [hrun]
  exact h
theorem box_step {W : World} (hw : Region.wanted o (yielded ops a.tmps) = true) {N : Tmp} (_hd : o.dst = some N) {cs : Array Value} {t : TypeId}
    (hrun : (execOp a.eval o).run P W = .ok (.value (.pointer (some ⟨W.heap.size, 0, none⟩))) (W.alloc (.cells cs t (0, 0))))
    (h : ∀ g, g = W.heap.size → ∀ w1, w1.heap[g]? = some (.cells cs t (0, 0)) → Below W.heap.size W w1 → Kc (a.put o.dst (.pointer (some ⟨g, 0, none⟩))) w1) : if Region.wanted o (yielded ops a.tmps) = true then Oper.wp P o a W Kc Q else Kc (a.put o.dst undef) W :=
  event_step hw hrun (h _ rfl _ (blk_new W _) (bq (Below.refl _ _) _))
namespace Kd
variable {α : Type}
theorem R_append_rows_step (d : Kd α) {Rr : α → List Value → Prop} {w0 W : World} (base : Nat) (hw : Region.wanted o (yielded ops a.tmps) = true) (s x : Operand) (t e : TypeId) (z : Value) (bytes : Nat)
    (ho : o.op = .call { callee := .builtin .append, args := #[s, x], argTypes := #[t, t] })
    (ht : P.underlying t = some (.slice e)) (hinfo : (P.info? e).map (fun i => (i.zero, i.size, i.bytes)) = some (some z, d.sz, bytes)) (hz : z.cells.size = d.sz) (hs0 : 0 < d.sz) (hb0 : 0 < bytes)
    (v : Value) (xs ys : List α) (A : Option Addr) (m c : Nat) (ok okp : Nat → Prop) (hs : a.eval s = v) (hx : a.eval x = .slice A m c)
    (HO : d.R e W base ok v xs) (HR : gN Rr d.sz W A m ys) (hKM : ∀ x cs, Rr x cs → d.M W base okp x cs) (hokp : ∀ k, okp k → ok k ∧ some k ≠ v.ownBlock) (hfresh : ∀ k, W.heap.size ≤ k → ok k)
    (HB : Below base w0 W) (hbase : base ≤ W.heap.size) (hl : (xs.length + m) * bytes ≤ 140737488355328)
    (h : ∀ v1 w1, d.R e w1 base ok v1 (xs ++ ys) → Below base w0 w1 → W.grownBy w1 v.ownBlock → (v1.ownBlock = v.ownBlock ∨ ∃ b, v1.ownBlock = some b ∧ W.heap.size ≤ b) → Kc (a.put o.dst v1) w1) :
    if Region.wanted o (yielded ops a.tmps) = true then Oper.wp P o a W Kc Q else Kc (a.put o.dst undef) W := by
  obtain ⟨i0, hi, hzz⟩ := Option.map_eq_some_iff.1 hinfo
  simp only [Prod.mk.injEq] at hzz
  obtain ⟨hz0, hz1, hz2⟩ := hzz
  have hm : ys.length = m := HR.1
  have hlen : xs.length + m ≤ 140737488355328 := Nat.le_trans (Nat.le_mul_of_pos_right _ hb0) hl
  obtain ⟨hok, inner, hown, hr⟩ := HO
  have hrun : ∃ v1 w1, (Builtin.append_ #[t, t] o.type #[v, .slice A m c]).run P W = .ok v1 w1 ∧ d.R e w1 base ok v1 (xs ++ ys) ∧ W.grownBy w1 v.ownBlock ∧ (v1.ownBlock = v.ownBlock ∨ ∃ b, v1.ownBlock = some b ∧ W.heap.size ≤ b) := by
    rcases A with _ | ad
    · have h0 : m = 0 := by
        rcases Nat.eq_zero_or_pos m with h0 | h0
        · exact h0
        · obtain ⟨ad, h, _⟩ := HR.2.2 h0
          cases h
      subst h0
      obtain rfl : ys = [] := List.eq_nil_of_length_eq_zero hm
      refine ⟨v, W, ?_, by rw [List.append_nil]; exact ⟨hok, inner, hown, hr⟩, World.grownBy.refl W _, .inl rfl⟩
      rcases hown.2 with ⟨rfl, hn⟩ | ⟨g, cap, cur, rfl, _, _, hnc, _⟩
      · simp [Builtin.append_, run_underlying ht, sizeOf, typeInfo, hi, Builtin.lenOf, Builtin.firstCells]
      · simp [Builtin.append_, run_underlying ht, sizeOf, typeInfo, hi, Builtin.lenOf, Builtin.firstCells, hnc, storeCells]
    · obtain ⟨news, hnr, hnc⟩ := gN.inner_ HR
      have hnM : iV (d.M W base okp) d.sz ys news := hnr.imp_ (fun p c hp => hKM p c hp)
      have hone : ∀ u ∈ news, u.oneCell' = true := by
        intro u hu
        obtain ⟨q, hq, rfl⟩ := List.mem_iff_getElem.1 hu
        have hql : q / d.sz < ys.length := by
          rw [Nat.div_lt_iff_lt_mul hs0]
          rw [← hnM.1]
          exact hq
        have hc := hnM.2 (q / d.sz) _ (List.getElem?_eq_getElem hql)
        refine d.K_one (d.K_of_M hc) _ ?_
        rw [List.mem_iff_getElem?]
        refine ⟨q % d.sz, ?_⟩
        rw [List.getElem?_take, if_pos (Nat.mod_lt _ hs0), List.getElem?_drop, Nat.mul_comm, Nat.div_add_mod, List.getElem?_eq_getElem hq]
      obtain ⟨v1, w1, hrun, h2, hg, _, hat⟩ := run_append_own_at (P := P) W base t o.type e i0 z d.sz bytes ht hi hz0 hz1 hz2 hz hs0 v xs.length inner hown ad m c news (by rw [hnM.1, hm]) hnc hone (by simp only [maxLen]; omega) hl hbase
      have hat' : v1.ownBlock = v.ownBlock ∨ ∃ b, v1.ownBlock = some b ∧ W.heap.size ≤ b := by
        rcases hat with hat | hat
        · exact .inl hat
        · exact .inr ⟨_, hat, Nat.le_refl _⟩
      have hne : ∀ k, some k ≠ v.ownBlock → k < W.heap.size → some k ≠ v1.ownBlock := by
        intro k hk hlt
        rcases hat' with hat | ⟨b, hb, hle⟩
        · rw [hat]; exact hk
        · rw [hb]
          intro he
          injection he with he
          omega
      have step : ∀ {q : α} {c : List Value} {o : Nat → Prop}, d.M W base o q c → (∀ k, o k → ok k ∧ some k ≠ v.ownBlock) → d.M w1 base (fun k => ok k ∧ some k ≠ v1.ownBlock) q c := by
        intro q c o hq ho
        have h1 := d.M_move (w1 := w1) (fun k hk => hg.block k hk.2.2.1 (ho k hk.1).2) (d.M_bound hq)
        exact d.M_mono (fun k hk => ⟨(ho k hk.1).1, hne k (ho k hk.1).2 hk.2.2.1⟩) h1
      refine ⟨v1, w1, hrun, ⟨fun k hk => ?_, inner ++ news, by rw [List.length_append, hm]; exact h2, reps_append (hr.imp_ (fun _ _ hq => step hq (fun _ hk => hk))) (hnM.imp_ (fun _ _ hq => step hq hokp))⟩, hg, hat'⟩
      rcases hat' with hat | ⟨b, hb, hle⟩
      · exact hok k (hat ▸ hk)
      · rw [hb] at hk
        injection hk with hk
        exact hfresh k (by omega)
  obtain ⟨v1, w1, hr1, h1, hg, hat⟩ := hrun
  rw [if_pos hw]
  unfold Oper.wp execOp
  simp only [ho, resolve, invoke, builtin, Sem.run_bind, Sem.run_pure, Result.andThen_ok, List.map_toArray, List.map_cons, List.map_nil, hs, hx, hr1]
  exact h v1 w1 h1 (HB.grown hg hbase (own_base hown)) hg hat
end Kd
end
inductive Vals (P : Program) (tmps : Array Value) (w : World) : List ResultVar → List Value → Prop where
  | nil : Vals P tmps w [] []
  | tmp {u : Tmp} {rs : List ResultVar} {vs : List Value} (h : Vals P tmps w rs vs) : Vals P tmps w (.tmp u :: rs) (tmps.getD u undef :: vs)
  | cell {p : Tmp} {ty : TypeId} {rs : List ResultVar} {vs : List Value} (g : Nat) (t : TypeId) (cs : Array Value) (fr : Nat × Nat) (d : TypeDesc)
      (hp : tmps.getD p undef = .pointer (some ⟨g, 0, none⟩)) (hg : w.heap[g]? = some (.cells cs t fr))
      (hu : P.underlying ty = some d) (hd : (match d with | .struct _ | .array _ _ => true | _ => false) = true) (hi : (P.info? ty).map (·.size) = some cs.size)
      (h : Vals P tmps w rs vs) : Vals P tmps w (.cell p ty :: rs) (.agg cs :: vs)
section
variable {P : Program} {tmps : Array Value} {w : World}
theorem vals_run {rs : List ResultVar} {vs : List Value} (hv : Vals P tmps w rs vs) (f : ResultVar → Sem Value) (hf : ∀ u, f (.tmp u) = pure (tmps.getD u undef)) (hc : ∀ a t, f (.cell a t) = (do loadVar t (← asAddr (tmps.getD a undef)))) :
    (rs.mapM f).run P w = .ok vs w := by
  induction hv with
  | nil => simp
  | tmp h ih => simp [List.mapM_cons, hf, ih]
  | cell g t cs fr d hp hg hu hd hi h ih =>
    rw [List.mapM_cons, hc, hp]
    simp [asAddr, run_loadVar_row w g t _ cs fr d hg hu hd hi, ih]
/-- Two results or more (or none): 'eT (rs := [..]) rfl (by simp) (.cell g t cs fr d rfl hg hu rfl hi (.tmp (.tmp .nil)))'. -/
theorem eT {fn : Func} {rs : List ResultVar} {vs : List Value} (h : fn.results = rs.toArray) (hl : vs.length ≠ 1) (hv : Vals P tmps w rs vs) : (results fn tmps).run P w = .ok (.tuple vs.toArray) w := by
  unfold results
  rw [h, List.mapM_toArray]
  simp only [Sem.run_bind, Sem.run_map]
  rw [vals_run hv]
  · simp [hl]
  · intro u
    rfl
  · intro a t
    rfl
end
namespace Kd
section
variable {P : Program} {α : Type}
end
section
variable {P : Program} {ops : Array Oper} {rest : List Oper} {o : Oper} {a : Act} {Q : Exit → Act → World → Prop} {Kc : Act → World → Prop} {α : Type}
end
end Kd
end Go.WB.PrintWords
end
section
namespace Go.LB
open Go
/-- As Q; by a goto to label l: G. -/
def Goes (l : Nat) (G : Act → World → Prop) (Q : Exit → Act → World → Prop) : Exit → Act → World → Prop
  | .goto l', a, w => if l' = l then G a w else Q (.goto l') a w
  | e, a, w => Q e a w
section
variable {P : Program} {a : Act} {w : World} {Q : Exit → Act → World → Prop} {l : Nat} {G : Act → World → Prop}
@[go_sem] theorem Goes.normal : Goes l G Q .normal a w = Q .normal a w := rfl
@[go_sem] theorem Goes.exit (id : Nat) : Goes l G Q (.exit id) a w = Q (.exit id) a w := rfl
@[go_sem] theorem Goes.ret : Goes l G Q .ret a w = Q .ret a w := rfl
@[go_sem] theorem Goes.panic (ch : List PanicEntry) : Goes l G Q (.panic ch) a w = Q (.panic ch) a w := rfl
theorem Goes.here : Goes l G Q (.goto l) a w = G a w := by simp [Goes]
theorem Goes.there {l' : Nat} (h : (l' = l) = False) : Goes l G Q (.goto l') a w = Q (.goto l') a w := by simp [Goes, h]
theorem je {c B : Code} (l : Nat) (hf : findLabel c l = some (.seq .skip B))
    (h : ∀ G : Act → World → Prop, (∀ a w, B.wp P (Goes l G (Exit.noGoto Q)) a w → G a w) → c.wp P (Goes l G (Exit.noGoto Q)) a w) : (Code.scope c).wp P Q a w := by
  let Sem : Act → World → Prop := fun a w => ∀ (b : Frame) (k : List Item) (cs : List Frame), ∃ e a' w', Q e a' w' ∧ Arrives P (lone (b.at a (.code (.seq .skip B) :: .inScope c :: k)) cs w) b k cs e a' w'
  have close : ∀ (m : Machine) (b : Frame) (k : List Item) (cs : List Frame) (e : Exit) (a₁ : Act) (w₁ : World), Goes l Sem (Exit.noGoto Q) e a₁ w₁ → Arrives P m b (.inScope c :: k) cs e a₁ w₁ → ∃ e a' w', Q e a' w' ∧ Arrives P m b k cs e a' w' := by
    intro m b k cs e a₁ w₁ hq harr
    cases e with
    | normal => exact ⟨.normal, a₁, w₁, hq, Steps.trans harr (.one step_inScope)⟩
    | exit id => exact ⟨.exit id, a₁, w₁, hq, fun k' hk => harr k' (by simp [exitTo, hk])⟩
    | goto l' =>
      by_cases e : l' = l
      · subst e
        have hq' : Sem a₁ w₁ := by simpa [Goes] using hq
        obtain ⟨e₂, a₂, w₂, hq₂, harr₂⟩ := hq' b k cs
        exact ⟨e₂, a₂, w₂, hq₂, .of_steps (harr _ (by simp [gotoIn, hf])) harr₂⟩
      · have hq' : Exit.noGoto Q (.goto l') a₁ w₁ := by simpa [Goes, e] using hq
        exact hq'.elim
    | ret => exact ⟨_, a₁, w₁, hq, harr⟩
    | panic ch => exact ⟨_, a₁, w₁, hq, harr⟩
    | outgrown => exact ⟨_, a₁, w₁, hq, harr⟩
  intro b k cs
  obtain ⟨e, a₁, w₁, hq, harr⟩ := h Sem (by
    intro a w hB b k cs
    obtain ⟨e, a₁, w₁, hq, harr⟩ := (wp_seq (x := .skip) (wp_skip hB)) b (.inScope c :: k) cs
    exact close _ b k cs e a₁ w₁ hq harr) b (.inScope c :: k) cs
  exact close _ b k cs e a₁ w₁ hq (.of_steps (.one step_scope) harr)
theorem wp_scope_two {c B1 B2 : Code} (l1 l2 : Nat) (hf1 : findLabel c l1 = some (.seq .skip B1)) (hf2 : findLabel c l2 = some (.seq .skip B2))
    (h : ∀ G1 G2 : Act → World → Prop, (∀ a w, B1.wp P (Goes l1 G1 (Goes l2 G2 (Exit.noGoto Q))) a w → G1 a w) → (∀ a w, B2.wp P (Goes l1 G1 (Goes l2 G2 (Exit.noGoto Q))) a w → G2 a w) → c.wp P (Goes l1 G1 (Goes l2 G2 (Exit.noGoto Q))) a w) : (Code.scope c).wp P Q a w := by
  let Sem : Code → Act → World → Prop := fun B a w => ∀ (b : Frame) (k : List Item) (cs : List Frame), ∃ e a' w', Q e a' w' ∧ Arrives P (lone (b.at a (.code (.seq .skip B) :: .inScope c :: k)) cs w) b k cs e a' w'
  have close : ∀ (m : Machine) (b : Frame) (k : List Item) (cs : List Frame) (e : Exit) (a₁ : Act) (w₁ : World), Goes l1 (Sem B1) (Goes l2 (Sem B2) (Exit.noGoto Q)) e a₁ w₁ → Arrives P m b (.inScope c :: k) cs e a₁ w₁ → ∃ e a' w', Q e a' w' ∧ Arrives P m b k cs e a' w' := by
    intro m b k cs e a₁ w₁ hq harr
    cases e with
    | normal => exact ⟨.normal, a₁, w₁, hq, Steps.trans harr (.one step_inScope)⟩
    | exit id => exact ⟨.exit id, a₁, w₁, hq, fun k' hk => harr k' (by simp [exitTo, hk])⟩
    | goto l' =>
      by_cases e : l' = l1
      · subst e
        have hq' : Sem B1 a₁ w₁ := by simpa [Goes] using hq
        obtain ⟨e₂, a₂, w₂, hq₂, harr₂⟩ := hq' b k cs
        exact ⟨e₂, a₂, w₂, hq₂, .of_steps (harr _ (by simp [gotoIn, hf1])) harr₂⟩
      · by_cases e2 : l' = l2
        · subst e2
          have hq' : Sem B2 a₁ w₁ := by simpa [Goes, e] using hq
          obtain ⟨e₂, a₂, w₂, hq₂, harr₂⟩ := hq' b k cs
          exact ⟨e₂, a₂, w₂, hq₂, .of_steps (harr _ (by simp [gotoIn, hf2])) harr₂⟩
        · have hq' : Exit.noGoto Q (.goto l') a₁ w₁ := by simpa [Goes, e, e2] using hq
          exact hq'.elim
    | ret => exact ⟨_, a₁, w₁, hq, harr⟩
    | panic ch => exact ⟨_, a₁, w₁, hq, harr⟩
    | outgrown => exact ⟨_, a₁, w₁, hq, harr⟩
  have go : ∀ (B : Code) (a : Act) (w : World), B.wp P (Goes l1 (Sem B1) (Goes l2 (Sem B2) (Exit.noGoto Q))) a w → Sem B a w := by
    intro B a w hB b k cs
    obtain ⟨e, a₁, w₁, hq, harr⟩ := (wp_seq (x := .skip) (wp_skip hB)) b (.inScope c :: k) cs
    exact close _ b k cs e a₁ w₁ hq harr
  intro b k cs
  obtain ⟨e, a₁, w₁, hq, harr⟩ := h (Sem B1) (Sem B2) (go B1) (go B2) b (.inScope c :: k) cs
  exact close _ b k cs e a₁ w₁ hq (.of_steps (.one step_scope) harr)
/-- What a slot held at the label. -/
def tget (t : Array Value) (i : Nat) : Value := t.toList.getD i undef
/-- At a label that is jumped back to: a relation that bears a number, which every round lowers. -/
theorem wp_label_ghost {l : Nat} {K G : Act → World → Prop} {B : Code} {Q' Q'' : Exit → Act → World → Prop} (I : Array Value → List Deferred → Nat → Act → World → Prop) (n₀ : Nat)
    (hK : ∀ a w, B.wp P Q' a w → K a w) (hG : ∀ a w, B.wp P Q' a w → G a w)
    (h₀ : I a.tmps a.defers n₀ a w)
    (round : ∀ n a' w', I a.tmps a.defers n a' w' → ∀ (J : Nat → Act → World → Prop), (∀ k a'' w'', I a.tmps a.defers k a'' w'' → J k a'' w'') → (∀ a'' w'', Handed J n a'' w'' → G a'' w'') → B.wp P Q' a' w') :
    (Code.label l).wp P (Exit.then K Q'') a w := by
  have key : ∀ n a' w', I a.tmps a.defers n a' w' → B.wp P Q' a' w' := by
    intro n
    induction n using Nat.strongRecOn with
    | _ n ih =>
      intro a' w' hI
      exact round n a' w' hI _ (fun _ _ _ q => q) fun a'' w'' ⟨n', hlt, hI'⟩ => hG _ _ (ih n' hlt _ _ hI')
  exact wp_label (hK _ _ (key n₀ a w h₀))
end
open Go.RowKit Go.WB.PrintWords
section
variable {P : Program} (w : World)
theorem append_str_block (base : Nat) (t u ty e : TypeId) (i : TypeInfo) (ht : P.underlying t = some (.slice e)) (hu : P.underlying u = some .string) (hi : P.info? e = some i) (hz : i.zero = some (.int .u8 0))
    (hsize : i.size = 1) (hby : i.bytes = 1) (v : Value) (n : Nat) (xs : List Value) (hown : w.ownsRow base e 1 v n xs) (s : ByteArray) (h63 : n + s.size ≤ maxLen) (hbytes : n + s.size ≤ 140737488355328)
    (v' : Value) (w' : World) (hr : (Builtin.append_ #[t, u] ty #[v, .string s]).run P w = .ok v' w') : v'.ownBlock = v.ownBlock ∨ ∃ b, v'.ownBlock = some b ∧ w.heap.size ≤ b := by
  have hxl : xs.length = n := by simpa using hown.1
  rcases hown.2 with ⟨rfl, rfl⟩ | ⟨g, cap, cur, rfl, hbg, hg, hnc, hcm, hcs, htake⟩
  · have hown0 : w.ownsRow w.heap.size e 1 (.slice none 0 0) 0 xs := ⟨hown.1, .inl ⟨rfl, rfl⟩⟩
    obtain ⟨v2, w2, hr2, ho2, _, _⟩ := Lib.run_append_own_string (P := P) w w.heap.size t u ty e i ht hu hi hz hsize hby _ 0 xs hown0 s (by simpa using h63) (by simpa using hbytes) (Nat.le_refl _)
    rw [hr] at hr2
    injection hr2 with e1 _
    subst e1
    rcases ho2.2 with ⟨rfl, _⟩ | ⟨g, cap, cur, rfl, hb, _⟩
    · exact .inl rfl
    · exact .inr ⟨g, rfl, hb⟩
  · by_cases hroom : n + s.size ≤ cap
    · have hcs' : cur.size = cap := by simpa using hcs
      have h2 := Lib.run_append_room_string (P := P) w t u ty e i ht hu hi hsize g n cap cur hg s hroom (by omega)
      rw [hr] at h2
      injection h2 with e1 _
      subst e1
      exact .inl rfl
    · have h2 := Lib.run_append_grow_string (P := P) w t u ty e i (.int .u8 0) ht hu hi hz ⟨g, 0, none⟩ n cap xs (by rw [hsize]; simpa using hxl) (hown.cells (g := g) rfl) s (by omega) (by simp only [maxLen] at h63; omega) (by rw [hby]; exact growslice_fits (by omega) (by omega))
      rw [hr] at h2
      injection h2 with e1 _
      subst e1
      exact .inr ⟨_, rfl, Nat.le_refl _⟩
end
section
variable {P : Program} {ops : Array Oper} {rest : List Oper} {o : Oper} {a : Act} {Q : Exit → Act → World → Prop}
theorem R_append_str {w0 W : World} (base : Nat) (hgd : o.guard = none) (s x : Operand) (t u e : TypeId)
    (ho : o.op = .call { callee := .builtin .append, args := #[s, x], argTypes := #[t, u] })
    (ht : P.underlying t = some (.slice e)) (hu : P.underlying u = some .string) (hinfo : (P.info? e).map (fun i => (i.zero, i.size, i.bytes)) = some (some (.int .u8 0), 1, 1))
    (v : Value) (xs : List Int) (y : ByteArray) (ok : Nat → Prop) (hs : a.eval s = v) (hx : a.eval x = .string y) (hfresh : ∀ k, W.heap.size ≤ k → ok k)
    (HO : (Kd.int .u8).R e W base ok v xs) (HB : Below base w0 W) (hbase : base ≤ W.heap.size) (hl : xs.length + y.size ≤ 140737488355328)
    (h : ∀ v1 w1, (Kd.int .u8).R e w1 base ok v1 (xs ++ bytesOf y) → Below base w0 w1 → W.grownBy w1 v.ownBlock → (v1.ownBlock = v.ownBlock ∨ ∃ b, v1.ownBlock = some b ∧ W.heap.size ≤ b) → wpList P ops Q rest (a.put o.dst v1) w1) :
    wpList P ops Q (o :: rest) a W := by
  obtain ⟨i0, hi, hzz⟩ := Option.map_eq_some_iff.1 hinfo
  simp only [Prod.mk.injEq] at hzz
  obtain ⟨hz0, hz1, hz2⟩ := hzz
  have hO : W.ownsRow base e 1 v xs.length (nums .u8 xs) := Kd.own_of_R HO
  have h63 : xs.length + y.size ≤ maxLen := by simp only [maxLen]; omega
  refine wpList_plain hgd fun K hK => ?_
  obtain ⟨v', w', hr, h2, h3, _⟩ := Lib.run_append_own_string (P := P) W base t u o.type e i0 ht hu hi hz0 hz1 hz2 v xs.length (nums .u8 xs) hO y h63 hl hbase
  have hat := append_str_block (P := P) W base t u o.type e i0 ht hu hi hz0 hz1 hz2 v xs.length (nums .u8 xs) hO y h63 hl v' w' hr
  have hl2 : (xs ++ bytesOf y).length = xs.length + y.size := by rw [List.length_append, bytesOf_length]
  have hc : nums .u8 (xs ++ bytesOf y) = nums .u8 xs ++ Lib.strCells y := by
    rw [nums_append]
    congr 1
    simp [nums, bytesOf, Lib.strCells]
  have hown : w'.ownsRow base e 1 v' (xs ++ bytesOf y).length (nums .u8 (xs ++ bytesOf y)) := by rw [hl2, hc]; exact h2
  unfold Oper.wp execOp
  simp only [ho, resolve, invoke, builtin, Sem.run_bind, Sem.run_pure, Result.andThen_ok, List.map_toArray, List.map_cons, List.map_nil, hs, hx, hr]
  refine hK _ _ (h v' w' (Kd.R_of_own (h1 := fun _ => rfl) hown (fun k hk => ?_)) (HB.grown h3 hbase (own_base hO)) h3 hat)
  rcases hat with e1 | ⟨b, e1, hbb⟩
  · exact HO.1 k (by rw [← e1]; exact hk)
  · rw [e1] at hk
    injection hk with hk
    subst hk
    exact hfresh _ hbb
end
theorem C_string_as {P : Program} {w : World} {src dst e : TypeId} {A : Option Addr} {n n' c : Nat} {xs : List Int} (hs : P.underlying src = some (.slice e)) (he : P.underlying e = some (.int .u8)) (hd : P.underlying dst = some .string)
    (h : (Kd.int .u8).C w A n xs) (hn : n = n') : (convert src dst (.slice A n' c)).run P w = .ok (.string (strOfNums xs)) w := by
  subst hn
  exact Kd.C_string hs he hd h
def Lim {α : Type} (g : Nat → Option α) (v : Option α) : Prop := (∀ k, LeO (g k) (g (k + 1))) ∧ ∀ r, v = some r ↔ ∃ k, g k = some r
open Classical in
noncomputable def lim {α : Type} (g : Nat → Option α) : Option α := if h : ∃ r, ∃ k, g k = some r then some (Classical.choose h) else none
theorem bT {α : Type} {g : Nat → Option α} (hm : ∀ k, LeO (g k) (g (k + 1))) : Lim g (lim g) := by
  refine ⟨hm, fun r => ?_⟩
  unfold lim
  by_cases h : ∃ r, ∃ k, g k = some r
  · rw [dif_pos h]
    obtain ⟨k1, h1⟩ := Classical.choose_spec h
    constructor
    · intro e
      injection e with e
      exact ⟨k1, by rw [h1, e]⟩
    · rintro ⟨k2, h2⟩
      have a := at_rounds hm (Nat.le_max_left k1 k2) h1
      have b := at_rounds hm (Nat.le_max_right k1 k2) h2
      rw [a] at b
      exact b
  · rw [dif_neg h]
    constructor
    · intro e; cases e
    · intro e; exact absurd ⟨r, e⟩ h
theorem Lim.unique {α : Type} {g : Nat → Option α} {v w : Option α} (h : Lim g v) (k : Lim g w) : v = w := by
  cases v with
  | none =>
    cases w with
    | none => rfl
    | some b => exact absurd ((h.2 b).2 ((k.2 b).1 rfl)) (by simp)
  | some a => exact ((k.2 a).2 ((h.2 a).1 rfl)).symm
theorem Lim.const {α : Type} (v : Option α) : Lim (fun _ => v) v := ⟨fun _ => LeO.refl _, fun _ => ⟨fun h => ⟨0, h⟩, fun ⟨_, h⟩ => h⟩⟩
theorem Lim.ite {α : Type} {c : Prop} [Decidable c] {g f : Nat → Option α} {v w : Option α} (h : Lim g v) (k : Lim f w) : Lim (fun n => if c then g n else f n) (if c then v else w) := by
  by_cases hc : c
  · simp only [if_pos hc]; exact h
  · simp only [if_neg hc]; exact k
theorem Lim.bind {α β : Type} {g : Nat → Option α} {f : Nat → α → Option β} {v : Option α} {w : α → Option β} (h : Lim g v) (k : ∀ a, Lim (fun n => f n a) (w a)) : Lim (fun n => (g n).bind (f n)) (v.bind w) := by
  refine ⟨fun n => LeO.bind (h.1 n) (fun a => (k a).1 n), fun r => ?_⟩
  constructor
  · intro e
    obtain ⟨a, ha, hw⟩ := Option.bind_eq_some_iff.1 e
    obtain ⟨k1, h1⟩ := (h.2 a).1 ha
    obtain ⟨k2, h2⟩ := ((k a).2 r).1 hw
    refine ⟨max k1 k2, ?_⟩
    show (g (max k1 k2)).bind (f (max k1 k2)) = some r
    rw [at_rounds h.1 (Nat.le_max_left k1 k2) h1]
    exact at_rounds (k a).1 (Nat.le_max_right k1 k2) h2
  · rintro ⟨n, e⟩
    obtain ⟨a, ha, hw⟩ := Option.bind_eq_some_iff.1 e
    rw [(h.2 a).2 ⟨n, ha⟩]
    exact ((k a).2 r).2 ⟨n, hw⟩
theorem Lim.shift {α : Type} {g : Nat → Option α} {v : Option α} (h : Lim g v) : Lim (fun n => g (n + 1)) v :=
  ⟨fun k => h.1 (k + 1), fun r => ⟨fun e => let ⟨k, hk⟩ := (h.2 r).1 e; ⟨k, h.1 k r hk⟩, fun ⟨k, hk⟩ => (h.2 r).2 ⟨k + 1, hk⟩⟩⟩
theorem Lim.rounds {α : Type} {g : Nat → Option α} {v : Option α} {r : α} (h : Lim g v) (e : v = some r) : ∃ k, g k = some r := (h.2 r).1 e
theorem setCell_id {w : World} {a : Addr} {v : Value} (h : w.cell? a = some v) : w.setCell a v = w := by
  unfold World.cell? at h
  split at h
  · rename_i c e f hb
    have hs : a.spot.isSome = false := by
      cases hs : a.spot.isSome with
      | false => rfl
      | true => simp [hs] at h
    have hv : c[a.off]? = some v := by simpa [hs] using h
    have hset : c.setIfInBounds a.off v = c := by
      apply Array.ext_getElem?
      intro i
      rw [Array.getElem?_setIfInBounds]
      by_cases hi : a.off = i
      · subst hi
        rw [if_pos rfl, hv]
        have : a.off < c.size := by
          rcases Nat.lt_or_ge a.off c.size with h' | h'
          · exact h'
          · simp [Array.getElem?_eq_none h'] at hv
        simp [this]
      · rw [if_neg hi]
    have hh : (w.setCell a v).heap = w.heap := by
      apply Array.ext_getElem?
      intro i
      simp only [World.setCell, Array.getElem?_modify]
      by_cases hi : a.block = i
      · subst hi; simp [hb, hs, hset]
      · simp [hi]
    show { w with heap := (w.setCell a v).heap } = w
    rw [hh]
  · simp at h
theorem aX {w w1 : World} {a : Addr} {v : Value} (h : w1 = w) (hv : w.cell? a = some v) : w1.setCell a v = w := by subst h; exact setCell_id hv
theorem jb {w w1 : World} {a : Addr} {v : Value} (h : w1 = w) (hv : w.cell? a = some v) : w1.cell? a = some v := by subst h; exact hv
theorem cell_far0 {W : World} {a : Addr} {g j : Nat} {v : Value} (h : a.block ≠ g) : (W.setCell ⟨g, j, none⟩ v).cell? a = W.cell? a := WB.PrintWords.cell_far (p := ⟨g, j, none⟩) h v
theorem far2 {W : World} {a : Addr} {g : Nat} (h : a.block ≠ g) {j0 j1 : Nat} {v0 v1 : Value} : ((W.setCell ⟨g, j0, none⟩ v0).setCell ⟨g, j1, none⟩ v1).cell? a = W.cell? a := (cell_far0 h).trans (cell_far0 h)
theorem cells3 {W : World} {g : Nat} {t : TypeId} {v0 v1 v2 : Value} (h : W.heap[g]? = some (.cells #[v0, v1, v2] t (0, 0))) : W.cell? ⟨g, 0, none⟩ = some v0 ∧ W.cell? ⟨g, 1, none⟩ = some v1 ∧ W.cell? ⟨g, 2, none⟩ = some v2 := ⟨(WB.PrintWords.ag h 0).trans rfl, (WB.PrintWords.ag h 1).trans rfl, (WB.PrintWords.ag h 2).trans rfl⟩
theorem dQ {W : World} {g : Nat} {t : TypeId} {v0 v1 v2 : Value} (h : W.heap[g]? = some (.cells #[v0, v1, v2] t (0, 0))) : W.frozen? ⟨g, 0, none⟩ = false ∧ W.frozen? ⟨g, 1, none⟩ = false ∧ W.frozen? ⟨g, 2, none⟩ = false := ⟨WB.PrintWords.aN h 0, WB.PrintWords.aN h 1, WB.PrintWords.aN h 2⟩
theorem cells4 {W : World} {g : Nat} {t : TypeId} {v0 v1 v2 v3 : Value} (h : W.heap[g]? = some (.cells #[v0, v1, v2, v3] t (0, 0))) : W.cell? ⟨g, 0, none⟩ = some v0 ∧ W.cell? ⟨g, 1, none⟩ = some v1 ∧ W.cell? ⟨g, 2, none⟩ = some v2 ∧ W.cell? ⟨g, 3, none⟩ = some v3 := ⟨(WB.PrintWords.ag h 0).trans rfl, (WB.PrintWords.ag h 1).trans rfl, (WB.PrintWords.ag h 2).trans rfl, (WB.PrintWords.ag h 3).trans rfl⟩
theorem frozen4 {W : World} {g : Nat} {t : TypeId} {v0 v1 v2 v3 : Value} (h : W.heap[g]? = some (.cells #[v0, v1, v2, v3] t (0, 0))) : W.frozen? ⟨g, 0, none⟩ = false ∧ W.frozen? ⟨g, 1, none⟩ = false ∧ W.frozen? ⟨g, 2, none⟩ = false ∧ W.frozen? ⟨g, 3, none⟩ = false := ⟨WB.PrintWords.aN h 0, WB.PrintWords.aN h 1, WB.PrintWords.aN h 2, WB.PrintWords.aN h 3⟩
theorem aK {W : World} {g : Nat} {t : TypeId} {v0 v1 v2 v3 v4 v5 v6 v7 v8 v9 v10 v11 : Value} (h : W.heap[g]? = some (.cells #[v0, v1, v2, v3, v4, v5, v6, v7, v8, v9, v10, v11] t (0, 0))) : W.cell? ⟨g, 0, none⟩ = some v0 ∧ W.cell? ⟨g, 1, none⟩ = some v1 ∧ W.cell? ⟨g, 2, none⟩ = some v2 ∧ W.cell? ⟨g, 3, none⟩ = some v3 ∧ W.cell? ⟨g, 4, none⟩ = some v4 ∧ W.cell? ⟨g, 5, none⟩ = some v5 ∧ W.cell? ⟨g, 6, none⟩ = some v6 ∧ W.cell? ⟨g, 7, none⟩ = some v7 ∧ W.cell? ⟨g, 8, none⟩ = some v8 ∧ W.cell? ⟨g, 9, none⟩ = some v9 ∧ W.cell? ⟨g, 10, none⟩ = some v10 ∧ W.cell? ⟨g, 11, none⟩ = some v11 := ⟨(WB.PrintWords.ag h 0).trans rfl, (WB.PrintWords.ag h 1).trans rfl, (WB.PrintWords.ag h 2).trans rfl, (WB.PrintWords.ag h 3).trans rfl, (WB.PrintWords.ag h 4).trans rfl, (WB.PrintWords.ag h 5).trans rfl, (WB.PrintWords.ag h 6).trans rfl, (WB.PrintWords.ag h 7).trans rfl, (WB.PrintWords.ag h 8).trans rfl, (WB.PrintWords.ag h 9).trans rfl, (WB.PrintWords.ag h 10).trans rfl, (WB.PrintWords.ag h 11).trans rfl⟩
theorem aU {W : World} {g : Nat} {t : TypeId} {v0 v1 v2 v3 v4 v5 v6 v7 v8 v9 v10 v11 : Value} (h : W.heap[g]? = some (.cells #[v0, v1, v2, v3, v4, v5, v6, v7, v8, v9, v10, v11] t (0, 0))) : W.frozen? ⟨g, 0, none⟩ = false ∧ W.frozen? ⟨g, 1, none⟩ = false ∧ W.frozen? ⟨g, 2, none⟩ = false ∧ W.frozen? ⟨g, 3, none⟩ = false ∧ W.frozen? ⟨g, 4, none⟩ = false ∧ W.frozen? ⟨g, 5, none⟩ = false ∧ W.frozen? ⟨g, 6, none⟩ = false ∧ W.frozen? ⟨g, 7, none⟩ = false ∧ W.frozen? ⟨g, 8, none⟩ = false ∧ W.frozen? ⟨g, 9, none⟩ = false ∧ W.frozen? ⟨g, 10, none⟩ = false ∧ W.frozen? ⟨g, 11, none⟩ = false := ⟨WB.PrintWords.aN h 0, WB.PrintWords.aN h 1, WB.PrintWords.aN h 2, WB.PrintWords.aN h 3, WB.PrintWords.aN h 4, WB.PrintWords.aN h 5, WB.PrintWords.aN h 6, WB.PrintWords.aN h 7, WB.PrintWords.aN h 8, WB.PrintWords.aN h 9, WB.PrintWords.aN h 10, WB.PrintWords.aN h 11⟩
theorem cells13 {W : World} {g : Nat} {t : TypeId} {v0 v1 v2 v3 v4 v5 v6 v7 v8 v9 v10 v11 v12 : Value} (h : W.heap[g]? = some (.cells #[v0, v1, v2, v3, v4, v5, v6, v7, v8, v9, v10, v11, v12] t (0, 0))) : W.cell? ⟨g, 0, none⟩ = some v0 ∧ W.cell? ⟨g, 1, none⟩ = some v1 ∧ W.cell? ⟨g, 2, none⟩ = some v2 ∧ W.cell? ⟨g, 3, none⟩ = some v3 ∧ W.cell? ⟨g, 4, none⟩ = some v4 ∧ W.cell? ⟨g, 5, none⟩ = some v5 ∧ W.cell? ⟨g, 6, none⟩ = some v6 ∧ W.cell? ⟨g, 7, none⟩ = some v7 ∧ W.cell? ⟨g, 8, none⟩ = some v8 ∧ W.cell? ⟨g, 9, none⟩ = some v9 ∧ W.cell? ⟨g, 10, none⟩ = some v10 ∧ W.cell? ⟨g, 11, none⟩ = some v11 ∧ W.cell? ⟨g, 12, none⟩ = some v12 := ⟨(WB.PrintWords.ag h 0).trans rfl, (WB.PrintWords.ag h 1).trans rfl, (WB.PrintWords.ag h 2).trans rfl, (WB.PrintWords.ag h 3).trans rfl, (WB.PrintWords.ag h 4).trans rfl, (WB.PrintWords.ag h 5).trans rfl, (WB.PrintWords.ag h 6).trans rfl, (WB.PrintWords.ag h 7).trans rfl, (WB.PrintWords.ag h 8).trans rfl, (WB.PrintWords.ag h 9).trans rfl, (WB.PrintWords.ag h 10).trans rfl, (WB.PrintWords.ag h 11).trans rfl, (WB.PrintWords.ag h 12).trans rfl⟩
theorem frozen13 {W : World} {g : Nat} {t : TypeId} {v0 v1 v2 v3 v4 v5 v6 v7 v8 v9 v10 v11 v12 : Value} (h : W.heap[g]? = some (.cells #[v0, v1, v2, v3, v4, v5, v6, v7, v8, v9, v10, v11, v12] t (0, 0))) : W.frozen? ⟨g, 0, none⟩ = false ∧ W.frozen? ⟨g, 1, none⟩ = false ∧ W.frozen? ⟨g, 2, none⟩ = false ∧ W.frozen? ⟨g, 3, none⟩ = false ∧ W.frozen? ⟨g, 4, none⟩ = false ∧ W.frozen? ⟨g, 5, none⟩ = false ∧ W.frozen? ⟨g, 6, none⟩ = false ∧ W.frozen? ⟨g, 7, none⟩ = false ∧ W.frozen? ⟨g, 8, none⟩ = false ∧ W.frozen? ⟨g, 9, none⟩ = false ∧ W.frozen? ⟨g, 10, none⟩ = false ∧ W.frozen? ⟨g, 11, none⟩ = false ∧ W.frozen? ⟨g, 12, none⟩ = false := ⟨WB.PrintWords.aN h 0, WB.PrintWords.aN h 1, WB.PrintWords.aN h 2, WB.PrintWords.aN h 3, WB.PrintWords.aN h 4, WB.PrintWords.aN h 5, WB.PrintWords.aN h 6, WB.PrintWords.aN h 7, WB.PrintWords.aN h 8, WB.PrintWords.aN h 9, WB.PrintWords.aN h 10, WB.PrintWords.aN h 11, WB.PrintWords.aN h 12⟩
theorem sT {α : Type} (l : List α) (i : Nat) (a : α) : l.toArray.setIfInBounds i a = (l.set i a).toArray := by simp
theorem sZ {α : Type} (x a : α) (l : List α) : (x :: l).set 0 a = a :: l := rfl
theorem sS {α : Type} (x a : α) (l : List α) (n : Nat) : (x :: l).set (n + 1) a = x :: l.set n a := rfl
theorem put_one {W : World} {g : Nat} {t : TypeId} {cs : Array Value} (h : W.heap[g]? = some (.cells cs t (0, 0))) (i : Nat) (u : Value) : (W.setCell ⟨g, i, none⟩ u).heap[g]? = some (.cells (cs.setIfInBounds i u) t (0, 0)) := WB.PrintWords.blk_set h i u
theorem ig {W : World} {sb a : Nat} {t : TypeId} {cs : Array Value} (h : W.heap[a]? = some (.cells cs t (0, 0))) (hn : a ≠ sb) (i : Nat) (u : Value) : (W.setCell ⟨sb, i, none⟩ u).heap[a]? = some (.cells cs t (0, 0)) := WB.PrintWords.iI (p := ⟨sb, i, none⟩) h hn u
theorem put2 {W : World} {g : Nat} {t : TypeId} {u0 u1 v0 v1 : Value} (h : W.heap[g]? = some (.cells #[u0, u1] t (0, 0))) : ((W.setCell ⟨g, 0, none⟩ v0).setCell ⟨g, 1, none⟩ v1).heap[g]? = some (.cells #[v0, v1] t (0, 0)) := by
  have h2 := (put_one (put_one h 0 v0) 1 v1)
  simpa only [List.setIfInBounds_toArray, List.set_cons_zero, List.set_cons_succ] using h2
theorem bfar2 {W : World} {sb a : Nat} {t : TypeId} {cs : Array Value} {j0 j1 : Nat} {v0 v1 : Value} (h : W.heap[a]? = some (.cells cs t (0, 0))) (hn : a ≠ sb) : ((W.setCell ⟨sb, j0, none⟩ v0).setCell ⟨sb, j1, none⟩ v1).heap[a]? = some (.cells cs t (0, 0)) := (ig (ig h hn j0 v0) hn j1 v1)
theorem Rfar2 {α : Type} {d : Kd α} {e base : Nat} {ok : Nat → Prop} {v : Value} {xs : List α} {W : World} {sb : Nat} {j0 j1 : Nat} {v0 v1 : Value} (h : d.R e W base ok v xs) (hn : ∀ k, ok k → k ≠ sb) : d.R e ((W.setCell ⟨sb, j0, none⟩ v0).setCell ⟨sb, j1, none⟩ v1) base ok v xs := (Kd.R_far (p := ⟨sb, j1, none⟩) (Kd.R_far (p := ⟨sb, j0, none⟩) h hn v0) hn v1)
theorem put12 {W : World} {g : Nat} {t : TypeId} {u0 u1 u2 u3 u4 u5 u6 u7 u8 u9 u10 u11 v0 v1 v2 v3 v4 v5 v6 v7 v8 v9 v10 v11 : Value} (h : W.heap[g]? = some (.cells #[u0, u1, u2, u3, u4, u5, u6, u7, u8, u9, u10, u11] t (0, 0))) : ((((((((((((W.setCell ⟨g, 0, none⟩ v0).setCell ⟨g, 1, none⟩ v1).setCell ⟨g, 2, none⟩ v2).setCell ⟨g, 3, none⟩ v3).setCell ⟨g, 4, none⟩ v4).setCell ⟨g, 5, none⟩ v5).setCell ⟨g, 6, none⟩ v6).setCell ⟨g, 7, none⟩ v7).setCell ⟨g, 8, none⟩ v8).setCell ⟨g, 9, none⟩ v9).setCell ⟨g, 10, none⟩ v10).setCell ⟨g, 11, none⟩ v11).heap[g]? = some (.cells #[v0, v1, v2, v3, v4, v5, v6, v7, v8, v9, v10, v11] t (0, 0)) := by
  have h2 := (put_one (put_one (put_one (put_one (put_one (put_one (put_one (put_one (put_one (put_one (put_one (put_one h 0 v0) 1 v1) 2 v2) 3 v3) 4 v4) 5 v5) 6 v6) 7 v7) 8 v8) 9 v9) 10 v10) 11 v11)
  simpa only [List.setIfInBounds_toArray, List.set_cons_zero, List.set_cons_succ] using h2
theorem bfar12 {W : World} {sb a : Nat} {t : TypeId} {cs : Array Value} {j0 j1 j2 j3 j4 j5 j6 j7 j8 j9 j10 j11 : Nat} {v0 v1 v2 v3 v4 v5 v6 v7 v8 v9 v10 v11 : Value} (h : W.heap[a]? = some (.cells cs t (0, 0))) (hn : a ≠ sb) : ((((((((((((W.setCell ⟨sb, j0, none⟩ v0).setCell ⟨sb, j1, none⟩ v1).setCell ⟨sb, j2, none⟩ v2).setCell ⟨sb, j3, none⟩ v3).setCell ⟨sb, j4, none⟩ v4).setCell ⟨sb, j5, none⟩ v5).setCell ⟨sb, j6, none⟩ v6).setCell ⟨sb, j7, none⟩ v7).setCell ⟨sb, j8, none⟩ v8).setCell ⟨sb, j9, none⟩ v9).setCell ⟨sb, j10, none⟩ v10).setCell ⟨sb, j11, none⟩ v11).heap[a]? = some (.cells cs t (0, 0)) := (ig (ig (ig (ig (ig (ig (ig (ig (ig (ig (ig (ig h hn j0 v0) hn j1 v1) hn j2 v2) hn j3 v3) hn j4 v4) hn j5 v5) hn j6 v6) hn j7 v7) hn j8 v8) hn j9 v9) hn j10 v10) hn j11 v11)
theorem gQ {α : Type} {d : Kd α} {e base : Nat} {ok : Nat → Prop} {v : Value} {xs : List α} {W : World} {sb : Nat} {j0 j1 j2 j3 j4 j5 j6 j7 j8 j9 j10 j11 : Nat} {v0 v1 v2 v3 v4 v5 v6 v7 v8 v9 v10 v11 : Value} (h : d.R e W base ok v xs) (hn : ∀ k, ok k → k ≠ sb) : d.R e ((((((((((((W.setCell ⟨sb, j0, none⟩ v0).setCell ⟨sb, j1, none⟩ v1).setCell ⟨sb, j2, none⟩ v2).setCell ⟨sb, j3, none⟩ v3).setCell ⟨sb, j4, none⟩ v4).setCell ⟨sb, j5, none⟩ v5).setCell ⟨sb, j6, none⟩ v6).setCell ⟨sb, j7, none⟩ v7).setCell ⟨sb, j8, none⟩ v8).setCell ⟨sb, j9, none⟩ v9).setCell ⟨sb, j10, none⟩ v10).setCell ⟨sb, j11, none⟩ v11) base ok v xs := (Kd.R_far (p := ⟨sb, j11, none⟩) (Kd.R_far (p := ⟨sb, j10, none⟩) (Kd.R_far (p := ⟨sb, j9, none⟩) (Kd.R_far (p := ⟨sb, j8, none⟩) (Kd.R_far (p := ⟨sb, j7, none⟩) (Kd.R_far (p := ⟨sb, j6, none⟩) (Kd.R_far (p := ⟨sb, j5, none⟩) (Kd.R_far (p := ⟨sb, j4, none⟩) (Kd.R_far (p := ⟨sb, j3, none⟩) (Kd.R_far (p := ⟨sb, j2, none⟩) (Kd.R_far (p := ⟨sb, j1, none⟩) (Kd.R_far (p := ⟨sb, j0, none⟩) h hn v0) hn v1) hn v2) hn v3) hn v4) hn v5) hn v6) hn v7) hn v8) hn v9) hn v10) hn v11)
end Go.LB
end
section
namespace Go.WB.PrintLast
section
variable {P : Program} {ops : Array Oper} {Q : Exit → Act → World → Prop} {md : Region.Mode} {S : World → Prop} {ds : List Nat}
/-- Operation d waits for operation i, by a chain of at most 'fuel' edges. -/
def Region.reachB (md : Region.Mode) (ops : Array Oper) (i : Nat) : Nat → Nat → Bool
  | 0, _ => false
  | fuel + 1, d => match ops[d]? with
    | some o => o.after.any fun e => Region.binds md e && (e.on == i || Region.reachB md ops i fuel e.on)
    | none => false
/-- What is listed is closed under the edges. -/
def Region.closedB (md : Region.Mode) (ops : Array Oper) (listed : Array Bool) : Bool :=
  (List.range ops.size).all fun j => !listed.getD j false || match ops[j]? with
    | some o => o.after.all fun e => !Region.binds md e || listed.getD e.on false
    | none => true
/-- Each of ds that has not come up yet waits for number i. -/
def Region.lastB (md : Region.Mode) (ops : Array Oper) (listed : Array Bool) (ds : List Nat) (i : Nat) : Bool :=
  ds.all fun d => listed.getD d true || Region.reachB md ops i ops.size d
def iC (md : Region.Mode) (ops : Array Oper) (listed : Array Bool) : Prop :=
  ∀ j oj, ops[j]? = some oj → listed.getD j false = true → ∀ e ∈ oj.after, Region.binds md e = true → listed.getD e.on false = true
theorem Region.closedB_spec {listed : Array Bool} (h : Region.closedB md ops listed = true) : iC md ops listed := by
  intro j oj hj hl e he hb
  have hlt : j < ops.size := (Array.getElem?_eq_some_iff.1 hj).1
  have h1 := List.all_eq_true.1 h j (List.mem_range.2 hlt)
  simp only [hl, hj, Bool.not_true, Bool.false_or] at h1
  have h2 := Array.all_eq_true_iff_forall_mem.1 h1 e he
  simpa [hb] using h2
theorem iC.set {listed : Array Bool} {i : Nat} (h : iC md ops listed) (hi : i ∈ Region.ready md ops listed) : iC md ops (listed.setIfInBounds i true) := by
  obtain ⟨_, oi, hoi, hall⟩ := mem_ready.1 hi
  intro j oj hj hl e he hb
  by_cases hij : i = j
  · subst hij
    have : oj = oi := Option.some.inj (hj.symm.trans hoi)
    subst this
    exact getD_set_true (hall e he hb)
  · rw [getD_set_ne false hij] at hl
    exact getD_set_true (h j oj hj hl e he hb)
theorem Region.reach_listed {listed : Array Bool} {i : Nat} (hc : iC md ops listed) : ∀ (fuel d : Nat), Region.reachB md ops i fuel d = true → listed.getD d false = true → listed.getD i false = true
  | 0, _, h, _ => by simp [Region.reachB] at h
  | fuel + 1, d, h, hl => by
    unfold Region.reachB at h
    cases ho : ops[d]? with
    | none => rw [ho] at h; simp at h
    | some o =>
      rw [ho] at h
      obtain ⟨e, he, h1⟩ := Array.any_eq_true'.1 h
      simp only [Bool.and_eq_true, Bool.or_eq_true, beq_iff_eq] at h1
      have hle := hc d o ho hl e he h1.1
      rcases h1.2 with h2 | h2
      · rw [← h2]; exact hle
      · exact Region.reach_listed hc fuel e.on h2 hle
/-- What waits for i cannot come up before i is listed. -/
theorem Region.reach_not_ready {listed : Array Bool} {i d fuel : Nat} (hc : iC md ops listed) (hr : Region.reachB md ops i fuel d = true) (hun : listed.getD i true = false) : d ∉ Region.ready md ops listed := by
  intro hd
  obtain ⟨_, o, ho, hall⟩ := mem_ready.1 hd
  have hi : listed.getD i false = true := by
    cases fuel with
    | zero => simp [Region.reachB] at hr
    | succ n =>
      unfold Region.reachB at hr
      rw [ho] at hr
      obtain ⟨e, he, h1⟩ := Array.any_eq_true'.1 hr
      simp only [Bool.and_eq_true, Bool.or_eq_true, beq_iff_eq] at h1
      have hle := hall e he h1.1
      rcases h1.2 with h2 | h2
      · rw [← h2]; exact hle
      · exact Region.reach_listed hc n e.on h2 hle
  rcases Nat.lt_or_ge i listed.size with h' | h'
  · simp [h'] at hun hi
    rw [hun] at hi
    cases hi
  · simp [Array.getElem?_eq_none h'] at hun
/-- Whatever order is picked from here on, AND 'S' HOLDS BEHIND EVERY OPERATION THAT IS CARRIED OUT, those of ds apart. -/
def dw (P : Program) (md : Region.Mode) (ops : Array Oper) (Q : Exit → Act → World → Prop) (S : World → Prop) (ds : List Nat) : Nat → Array Bool → Act → World → Prop
  | 0, listed, a, w => Region.ready md ops listed = [] ∧ Q .normal a w
  | fuel + 1, listed, a, w =>
    (Region.ready md ops listed = [] → Q .normal a w) ∧
    ∀ i ∈ Region.ready md ops listed, wpOp P ops Q i (fun a' w' => (i ∉ ds → S w → S w') ∧ dw P md ops Q S ds fuel (listed.setIfInBounds i true) a' w') a w
theorem wpAny_of_last : ∀ (fuel : Nat) (listed : Array Bool) (a : Act) (w : World), dw P md ops Q S ds fuel listed a w → wpAny P md ops Q fuel listed a w
  | 0, _, _, _, h => h
  | fuel + 1, _, _, _, h => ⟨h.1, fun i hi => wpOp_mono (fun a' w' h' => wpAny_of_last fuel _ a' w' h'.2) (h.2 i hi)⟩
theorem wpAnyLast_first {i : Nat} {oi : Oper} {v : Value} (hi : ops[i]? = some oi) (hsel : ∀ (j : Nat) (o : Oper) cs b, ops[j]? = some o → o.op ≠ .select cs b)
    (hQ : ∀ c a w, Q (.panic c) (a.put oi.dst v) w → Q (.panic c) a w) (n : Nat) :
    ∀ (fuel : Nat) (listed : Array Bool) (a : Act) (w : World),
      (∀ j oj, ops[j]? = some oj → j ≠ i → listed.getD j true = false → (∀ e ∈ oj.after, Region.binds md e = true → e.on ≠ i) → oi.apart ops oj = true) →
      iC md ops listed → (∀ d ∈ ds, listed.getD d true = false → Region.reachB md ops i n d = true) →
      i ∈ Region.ready md ops listed → YieldsIf P ops S oi v a → S w →
      dw P md ops Q S ds fuel (listed.setIfInBounds i true) (a.put oi.dst v) w → dw P md ops Q S ds (fuel + 1) listed a w := by
  intro fuel
  induction fuel with
  | zero =>
    intro listed a w _ _ _ hr hy hS H
    refine ⟨fun h => (by rw [h] at hr; cases hr), fun j hj => ?_⟩
    by_cases hji : j = i
    · subst hji; exact hy.wpOp hi hS ⟨fun _ h => h, H⟩
    · have := ready_mono hj hji
      rw [H.1] at this
      cases this
  | succ fuel ih =>
    intro listed a w hfree hc hd hr hy hS H
    refine ⟨fun h => (by rw [h] at hr; cases hr), fun j hj => ?_⟩
    by_cases hji : j = i
    · subst hji; exact hy.wpOp hi hS ⟨fun _ h => h, H⟩
    · have h1 := H.2 j (ready_mono hj hji)
      obtain ⟨hjun, oj, hoj, hall⟩ := mem_ready.1 hj
      have hiun := (mem_ready.1 hr).1
      have hnot : ∀ e ∈ oj.after, Region.binds md e = true → e.on ≠ i := fun e he hb heq => by
        have h1 := hall e he hb
        rw [heq] at h1
        rcases Nat.lt_or_ge i listed.size with h' | h'
        · simp [h'] at hiun h1; rw [hiun] at h1; cases h1
        · simp [Array.getElem?_eq_none h'] at h1
      have hjd : j ∉ ds := fun hm => Region.reach_not_ready hc (hd j hm hjun) hiun hj
      have h2 := wpOp_putIf hoj (hfree j oj hoj hji hjun hnot) (fun cs b => hsel i oi cs b hi) (fun cs b => hsel j oj cs b hoj) hQ hy h1
      have hfree' : ∀ k ok, ops[k]? = some ok → k ≠ i → (listed.setIfInBounds j true).getD k true = false →
          (∀ e ∈ ok.after, Region.binds md e = true → e.on ≠ i) → oi.apart ops ok = true := fun k ok hk hki hun hno => by
        refine hfree k ok hk hki ?_ hno
        by_cases hjk : j = k
        · subst hjk; exact hjun
        · rw [getD_set_ne true hjk] at hun; exact hun
      have hd' : ∀ d ∈ ds, (listed.setIfInBounds j true).getD d true = false → Region.reachB md ops i n d = true := fun d hm hun => by
        refine hd d hm ?_
        by_cases hjk : j = d
        · subst hjk; exact hjun
        · rw [getD_set_ne true hjk] at hun; exact hun
      refine wpOp_mono (fun a' w' h3 => ⟨h3.2.1, ih (listed.setIfInBounds j true) a' w' hfree' (hc.set hj) hd' (ready_mono hr (Ne.symm hji)) h3.1 (h3.2.1 hjd hS) ?_⟩) h2
      rw [Array.setIfInBounds_comm _ _ hji]
      exact h3.2.2
/-- Take number 'i' first, which yields whatever the world: no S is asked for, nor that anything waits for it. -/
theorem wpAnyLast_any {i : Nat} {oi : Oper} {v : Value} (hi : ops[i]? = some oi) (hsel : ∀ (j : Nat) (o : Oper) cs b, ops[j]? = some o → o.op ≠ .select cs b)
    (hQ : ∀ c a w, Q (.panic c) (a.put oi.dst v) w → Q (.panic c) a w) :
    ∀ (fuel : Nat) (listed : Array Bool) (a : Act) (w : World),
      (∀ j oj, ops[j]? = some oj → j ≠ i → listed.getD j true = false → (∀ e ∈ oj.after, Region.binds md e = true → e.on ≠ i) → oi.apart ops oj = true) →
      i ∈ Region.ready md ops listed → Yields P ops oi v a →
      dw P md ops Q S ds fuel (listed.setIfInBounds i true) (a.put oi.dst v) w → dw P md ops Q S ds (fuel + 1) listed a w := by
  intro fuel
  induction fuel with
  | zero =>
    intro listed a w _ hr hy H
    refine ⟨fun h => (by rw [h] at hr; cases hr), fun j hj => ?_⟩
    by_cases hji : j = i
    · subst hji; exact (hy.yieldsIf (S := fun _ => True)).wpOp hi trivial ⟨fun _ h => h, H⟩
    · have := ready_mono hj hji
      rw [H.1] at this
      cases this
  | succ fuel ih =>
    intro listed a w hfree hr hy H
    refine ⟨fun h => (by rw [h] at hr; cases hr), fun j hj => ?_⟩
    by_cases hji : j = i
    · subst hji; exact (hy.yieldsIf (S := fun _ => True)).wpOp hi trivial ⟨fun _ h => h, H⟩
    · have h1 := H.2 j (ready_mono hj hji)
      obtain ⟨hjun, oj, hoj, hall⟩ := mem_ready.1 hj
      have hiun := (mem_ready.1 hr).1
      have hnot : ∀ e ∈ oj.after, Region.binds md e = true → e.on ≠ i := fun e he hb heq => by
        have h1 := hall e he hb
        rw [heq] at h1
        rcases Nat.lt_or_ge i listed.size with h' | h'
        · simp [h'] at hiun h1; rw [hiun] at h1; cases h1
        · simp [Array.getElem?_eq_none h'] at h1
      have h2 := wpOp_put hoj (hfree j oj hoj hji hjun hnot) (fun cs b => hsel i oi cs b hi) (fun cs b => hsel j oj cs b hoj) hQ hy h1
      have hfree' : ∀ k ok, ops[k]? = some ok → k ≠ i → (listed.setIfInBounds j true).getD k true = false →
          (∀ e ∈ ok.after, Region.binds md e = true → e.on ≠ i) → oi.apart ops ok = true := fun k ok hk hki hun hno => by
        refine hfree k ok hk hki ?_ hno
        by_cases hjk : j = k
        · subst hjk; exact hjun
        · rw [getD_set_ne true hjk] at hun; exact hun
      refine wpOp_mono (fun a' w' h3 => ⟨h3.2.1, ih (listed.setIfInBounds j true) a' w' hfree' (ready_mono hr (Ne.symm hji)) h3.1 ?_⟩) h2
      rw [Array.setIfInBounds_comm _ _ hji]
      exact h3.2.2
/-- Take number 'i' first. -/
theorem wpAnyLast_take {i : Nat} {oi : Oper} {v : Value} {fuel : Nat} {listed : Array Bool} {a : Act} {w : World} (hi : ops[i]? = some oi)
    (hs : Region.noSelect ops = true) (hf : Region.free md ops listed i = true) (hr : (Region.ready md ops listed).contains i = true)
    (hc : Region.closedB md ops listed = true) (hl : Region.lastB md ops listed ds i = true)
    (hQ : ∀ c a w, Q (.panic c) (a.put oi.dst v) w → Q (.panic c) a w) (hy : YieldsIf P ops S oi v a) (hS : S w)
    (h : dw P md ops Q S ds fuel (listed.setIfInBounds i true) (a.put oi.dst v) w) : dw P md ops Q S ds (fuel + 1) listed a w :=
  wpAnyLast_first hi (Region.noSelect_spec hs) hQ ops.size fuel listed a w (Region.free_spec hi hf) (Region.closedB_spec hc)
    (fun d hm hun => by have := List.all_eq_true.1 hl d hm; rw [hun] at this; simpa using this) (by simpa using hr) hy hS h
theorem wpAnyLast_all {rs : List Nat} {fuel : Nat} {listed : Array Bool} {a : Act} {w : World} (hr : Region.ready md ops listed = rs) (hne : rs ≠ [])
    (h : ∀ i ∈ rs, wpOp P ops Q i (fun a' w' => (i ∉ ds → S w → S w') ∧ dw P md ops Q S ds fuel (listed.setIfInBounds i true) a' w') a w) : dw P md ops Q S ds (fuel + 1) listed a w :=
  ⟨fun h0 => absurd (hr ▸ h0) hne, hr ▸ h⟩
theorem wpAnyLast_done {listed : Array Bool} {a : Act} {w : World} (hr : Region.ready md ops listed = []) (h : Q .normal a w) :
    ∀ fuel, dw P md ops Q S ds fuel listed a w
  | 0 => ⟨hr, h⟩
  | _ + 1 => ⟨fun _ => h, by rw [hr]; simp⟩
theorem wp_region_last {id : Nat} {a : Act} {w : World} (hm : P.follows .mixedOrders = true)
    (h : dw P .any ops Q S ds ops.size (Array.replicate ops.size false) a { w with drawn := w.drawn + 1 }) : (Code.region id ops true).wp P Q a w :=
  wp_region_any hm (wpAny_of_last _ _ _ _ h)
end
section
variable {P : Program} {ops : Array Oper} {Q : Exit → Act → World → Prop} {md : Region.Mode} {S : World → Prop} {ds : List Nat}
def iU (P : Program) (md : Region.Mode) (ops : Array Oper) (Q : Exit → Act → World → Prop) (S : World → Prop) (ds : List Nat) (fuel : Nat) (listed : Array Bool) (a : Act) (w : World) (rs : List Nat) : Prop :=
  ∀ i ∈ rs, wpOp P ops Q i (fun a' w' => (i ∉ ds → S w → S w') ∧ dw P md ops Q S ds fuel (listed.setIfInBounds i true) a' w') a w
theorem iU.nil {fuel : Nat} {listed : Array Bool} {a : Act} {w : World} : iU P md ops Q S ds fuel listed a w [] := fun _ h => by cases h
theorem iU.cons {fuel : Nat} {listed : Array Bool} {a : Act} {w : World} {i : Nat} {o : Oper} {rs : List Nat} (ho : ops[i]? = some o) (hd : i ∉ ds)
    (h : ∀ K' : Act → World → Prop, Shut (∀ a w, S w → (S w → dw P md ops Q S ds fuel (listed.setIfInBounds i true) a w) → K' a w) → if Region.wanted o (yielded ops a.tmps) = true then Oper.wp P o a w K' Q else K' (a.put o.dst undef) w)
    (hs : iU P md ops Q S ds fuel listed a w rs) : iU P md ops Q S ds fuel listed a w (i :: rs) := fun j hj => by
  rcases List.mem_cons.1 hj with rfl | hj
  · exact wpOp_step ho (fun K' hK => h K' (fun a w hS hW => hK a w ⟨fun _ _ => hS, hW hS⟩))
  · exact hs j hj
theorem wpAnyLast_ready {rs : List Nat} {fuel : Nat} {listed : Array Bool} {a : Act} {w : World} (hr : Region.ready md ops listed = rs) (hne : rs ≠ [])
    (h : iU P md ops Q S ds fuel listed a w rs) : dw P md ops Q S ds (fuel + 1) listed a w := wpAnyLast_all hr hne h
/-- THE SAME STEPS WITH WHAT HAS COME UP WRITTEN OUT (a literal array of Bools) and one check a step: quicker, and what is printed stays short. -/
theorem eD {id n : Nat} {a : Act} {w : World} (l : Array Bool) (hm : P.follows .mixedOrders = true) (hn : ops.size = n) (hl : Array.replicate n false = l) (hS : S w.drew)
    (h : S w.drew → dw P .any ops Q S ds n l a w.drew) : (Code.region id ops true).wp P Q a w := by
  subst hn
  subst hl
  exact wp_region_last hm (h hS)
def takeB (md : Region.Mode) (ops : Array Oper) (ds : List Nat) (l l' : Array Bool) (i : Nat) : Bool :=
  Region.noSelect ops && Region.free md ops l i && (Region.ready md ops l).contains i && Region.closedB md ops l && Region.lastB md ops l ds i && (l.setIfInBounds i true == l')
theorem take_ {i : Nat} {N : Option Tmp} {oi : Oper} {v : Value} {fuel : Nat} {l : Array Bool} {a : Act} {w : World} (l' : Array Bool) (hi : ops[i]? = some oi) (hN : oi.dst = N) (hc : takeB md ops ds l l' i = true)
    (hQ : ∀ c a w, Q (.panic c) (a.put oi.dst v) w → Q (.panic c) a w) (hy : YieldsIf P ops S oi v a) (hS : S w) {a' : Act} (ha : a.put N v = a')
    (h : dw P md ops Q S ds fuel l' a' w) : dw P md ops Q S ds (fuel + 1) l a w := by
  subst ha
  subst hN
  simp only [takeB, Bool.and_eq_true, beq_iff_eq] at hc
  obtain ⟨⟨⟨⟨⟨h1, h2⟩, h3⟩, h4⟩, h5⟩, h6⟩ := hc
  subst h6
  exact wpAnyLast_take hi h1 h2 h3 h4 h5 hQ hy hS h
def anyB (md : Region.Mode) (ops : Array Oper) (l l' : Array Bool) (i : Nat) : Bool :=
  Region.noSelect ops && Region.free md ops l i && (Region.ready md ops l).contains i && (l.setIfInBounds i true == l')
/-- An operation that yields in every world (a move, a number, an address): taken first wherever it may come up, behind a store too. -/
theorem pure_ {i : Nat} {N : Option Tmp} {oi : Oper} {v : Value} {fuel : Nat} {l : Array Bool} {a : Act} {w : World} (l' : Array Bool) (hi : ops[i]? = some oi) (hN : oi.dst = N) (hc : anyB md ops l l' i = true)
    (hQ : ∀ c a w, Q (.panic c) (a.put oi.dst v) w → Q (.panic c) a w) (hy : Yields P ops oi v a) {a' : Act} (ha : a.put N v = a')
    (h : dw P md ops Q S ds fuel l' a' w) : dw P md ops Q S ds (fuel + 1) l a w := by
  subst ha
  subst hN
  simp only [anyB, Bool.and_eq_true, beq_iff_eq] at hc
  obtain ⟨⟨⟨h1, h2⟩, h3⟩, h6⟩ := hc
  subst h6
  exact wpAnyLast_any hi (Region.noSelect_spec h1) hQ fuel l a w (Region.free_spec hi h2) (by simpa using h3) hy h
def readyB (md : Region.Mode) (ops : Array Oper) (l l' : Array Bool) (i : Nat) : Bool := (Region.ready md ops l == [i]) && (l.setIfInBounds i true == l')
/-- One operation alone may come up now (a call, a build, an append ..): it is run, S is shown behind it. -/
theorem gy {i : Nat} {N : Option Tmp} {oi : Oper} {fuel : Nat} {l : Array Bool} {a : Act} {w : World} (l' : Array Bool) (hi : ops[i]? = some oi) (hN : oi.dst = N) (hc : readyB md ops l l' i = true) (hd : i ∉ ds)
    (h : ∀ K : Act → World → Prop, Shut (∀ a' w', S w' → (S w' → dw P md ops Q S ds fuel l' a' w') → K a' w') → if Region.wanted oi (yielded ops a.tmps) = true then Oper.wp P oi a w K Q else K (a.put N undef) w) :
    dw P md ops Q S ds (fuel + 1) l a w := by
  subst hN
  simp only [readyB, Bool.and_eq_true, beq_iff_eq] at hc
  obtain ⟨h1, h2⟩ := hc
  subst h2
  exact wpAnyLast_ready h1 (by simp) (iU.cons hi hd (fun K hK => h K hK) iU.nil)
theorem gz {l : Array Bool} {a : Act} {w : World} {n : Nat} (hr : (Region.ready md ops l == []) = true) (h : Q .normal a w) : dw P md ops Q S ds n l a w := wpAnyLast_done (by simpa using hr) h n
theorem two_ {i j : Nat} {Ni Nj : Option Tmp} {oi oj : Oper} {fuel : Nat} {l : Array Bool} {a : Act} {w : World} (li lj : Array Bool) (hi : ops[i]? = some oi) (hj : ops[j]? = some oj) (hNi : oi.dst = Ni) (hNj : oj.dst = Nj)
    (hc : (Region.ready md ops l == [i, j] && l.setIfInBounds i true == li && l.setIfInBounds j true == lj) = true) (hdi : i ∉ ds) (hdj : j ∉ ds)
    (h1 : ∀ K : Act → World → Prop, Shut (∀ a' w', S w' → (S w' → dw P md ops Q S ds fuel li a' w') → K a' w') → if Region.wanted oi (yielded ops a.tmps) = true then Oper.wp P oi a w K Q else K (a.put Ni undef) w)
    (h2 : ∀ K : Act → World → Prop, Shut (∀ a' w', S w' → (S w' → dw P md ops Q S ds fuel lj a' w') → K a' w') → if Region.wanted oj (yielded ops a.tmps) = true then Oper.wp P oj a w K Q else K (a.put Nj undef) w) :
    dw P md ops Q S ds (fuel + 1) l a w := by
  subst hNi
  subst hNj
  simp only [Bool.and_eq_true, beq_iff_eq] at hc
  obtain ⟨⟨h3, h4⟩, h5⟩ := hc
  subst h4
  subst h5
  exact wpAnyLast_ready h3 (by simp) (iU.cons hi hdi (fun K hK => h1 K hK) (iU.cons hj hdj (fun K hK => h2 K hK) iU.nil))
/-- The act with some destinations filled. -/
def putAll : Act → List (Tmp × Value) → Act
  | a, [] => a
  | a, (n, v) :: r => putAll (a.put (some n) v) r
/-- What follows, once: s the values that the orders leave, F what is known of them and of the world. -/
theorem join_ {σ : Type} {fuel : Nat} {l : Array Bool} {a : Act} {w : World} (fuel' : Nat) (l' : Array Bool) (ns : σ → List (Tmp × Value)) (F : σ → World → Prop)
    (hcont : ∀ s w', F s w' → dw P md ops Q S ds fuel' l' (putAll a (ns s)) w')
    (h : (∀ s w', F s w' → dw P md ops Q S ds fuel' l' (putAll a (ns s)) w') → dw P md ops Q S ds fuel l a w) : dw P md ops Q S ds fuel l a w := h hcont
/-- The act written out. -/
theorem dV {fuel : Nat} {l : Array Bool} {a a' : Act} {w : World} (ha : a = a') (h : dw P md ops Q S ds fuel l a' w) : dw P md ops Q S ds fuel l a w := by
  subst ha
  exact h
/-- A call of a Go function, by its contract. -/
theorem call_ {oi : Oper} {N : Option Tmp} {a : Act} {w : World} {K : Act → World → Prop} (f : FuncId) (args : Array Value) (hw : Region.wanted oi (yielded ops a.tmps) = true) (hN : oi.dst = N) (hrun : (execOp a.eval oi).run P w = .ok (.enter f args) w)
    (h : Calls P f args w fun e w' => ∃ v, e = .returned v ∧ K (a.put N v) w') : if Region.wanted oi (yielded ops a.tmps) = true then Oper.wp P oi a w K Q else K (a.put N undef) w := by
  rw [if_pos hw]
  subst hN
  unfold Oper.wp
  rw [hrun, Oper.upon_enter]
  refine h.mono fun e w'' hh => ?_
  obtain ⟨v, rfl, hk⟩ := hh
  exact hk
theorem enters_ {f : FuncId} {fn : Func} (hf : P.funcs[f]? = some fn) (hname : (fn.name == "runtime.NumGoroutine") = false) (hb : fn.body.isSome = true) (args : Array Value) (w : World) : (callFunc f args).run P w = .ok (.enter f args) w := by
  have h1 : fn.name ≠ "runtime.NumGoroutine" := by simpa using hname
  obtain ⟨c, hc⟩ := Option.isSome_iff_exists.1 hb
  simp [callFunc, hf, h1, hc]
/-- The same, the operation's run shown here: 'dY A.func3 (by kernel_rfl) rfl #[..] (by rfl) rfl rfl (by rfl) ?_'. -/
theorem dY {oi : Oper} {N : Option Tmp} {a : Act} {w : World} {K : Act → World → Prop} {f : FuncId} {fn : Func} {asv : Array Operand} {ts : Array TypeId} (hf : P.funcs[f]? = some fn) (hname : (fn.name == "runtime.NumGoroutine") = false) (hb : fn.body.isSome = true) (args : Array Value)
    (hw : Region.wanted oi (yielded ops a.tmps) = true) (hN : oi.dst = N) (hop : oi.op = .call { callee := .value (.func f), args := asv, argTypes := ts }) (hargs : asv.map a.eval = args)
    (h : Calls P f args w fun e w' => ∃ v, e = .returned v ∧ K (a.put N v) w') : if Region.wanted oi (yielded ops a.tmps) = true then Oper.wp P oi a w K Q else K (a.put N undef) w := by
  refine call_ f args hw hN ?_ h
  have he := enters_ hf hname hb args w
  unfold execOp
  simp [hop, resolve, Deferred.ofValue, invoke, Act.eval, hargs, he]
/-- A call in a plain region, asv an arm of go_wp2_with ('hd' first: it fails at once at another operation). -/
theorem bZ {rest : List Oper} {oi : Oper} {a : Act} {w : World} (N : Option Tmp) (hd : oi.dst = N) (hg : oi.guard = none) {f : FuncId} {fn : Func} {asv : Array Operand} {ts : Array TypeId} (hf : P.funcs[f]? = some fn) (hname : (fn.name == "runtime.NumGoroutine") = false) (hb : fn.body.isSome = true) (args : Array Value)
    (hop : oi.op = .call { callee := .value (.func f), args := asv, argTypes := ts }) (hargs : asv.map a.eval = args)
    (h : Calls P f args w fun e w' => ∃ v, e = .returned v ∧ wpList P ops Q rest (a.put N v) w') : wpList P ops Q (oi :: rest) a w := by
  refine wpList_plain hg fun K hK => ?_
  have he := enters_ hf hname hb args w
  have hrun : (execOp a.eval oi).run P w = .ok (.enter f args) w := by
    unfold execOp
    simp [hop, resolve, Deferred.ofValue, invoke, Act.eval, hargs, he]
  unfold Oper.wp
  rw [hrun, Oper.upon_enter]
  refine h.mono fun e w'' hh => ?_
  obtain ⟨v, rfl, hk⟩ := hh
  subst hd
  exact hK _ _ hk
/-- A store. -/
theorem skip_ {oi : Oper} {a : Act} {w w1 : World} {K : Act → World → Prop} (hw : Region.wanted oi (yielded ops a.tmps) = true) (hN : oi.dst = none) (hrun : (execOp a.eval oi).run P w = .ok .skip w1)
    (h : K a w1) : if Region.wanted oi (yielded ops a.tmps) = true then Oper.wp P oi a w K Q else K (a.put none undef) w := by
  rw [if_pos hw]
  unfold Oper.wp
  rw [hrun]
  show K (a.put oi.dst undef) w1
  rw [hN]
  exact h
theorem iY (n : Int) : IntKind.i64.wrap n = Go.RowKit.wrap64 n := by unfold Go.RowKit.wrap64; exact IntKind.wrap_i64 n
theorem i32_w (n : Int) : IntKind.i32.wrap n = Go.RowKit.wrap32 n := by unfold Go.RowKit.wrap32; exact IntKind.wrap_i32 n
end
end Go.WB.PrintLast
end
section
namespace Go.WB.PrintLast
open Go.WB.PrintWords (aa)
def needsOf (md : Region.Mode) (o : Oper) : List Nat := (o.after.toList.filter (fun e => Region.binds md e)).map (fun e => e.on)
def clashOf (md : Region.Mode) (ops : Array Oper) (i : Nat) (oi : Oper) : List Nat := (List.range ops.size).filter fun j => !(j == i) && match ops[j]? with
  | some oj => !(oj.after.any (fun e => Region.binds md e && e.on == i) || oi.apart ops oj)
  | none => false
/-- No select in it; for each operation: what must have come up before it, and what may not come up behind it if it is taken first. -/
def rtab (md : Region.Mode) (ops : Array Oper) : Bool × List (List Nat × List Nat) := (Region.noSelect ops, (List.range ops.size).map fun i => match ops[i]? with
  | some o => (needsOf md o, clashOf md ops i o)
  | none => ([], []))
def readyAt (T : List (List Nat × List Nat)) (l : List Bool) (i : Nat) : Bool := !l.getD i true && match T[i]? with
  | some r => r.1.all (fun j => l.getD j false)
  | none => false
def readyT (T : List (List Nat × List Nat)) (l : List Bool) : List Nat := (List.range T.length).filter (readyAt T l)
def freeT (T : List (List Nat × List Nat)) (l : List Bool) (i : Nat) : Bool := match T[i]? with
  | some r => r.2.all (fun j => l.getD j true)
  | none => false
def closedT (T : List (List Nat × List Nat)) (l : List Bool) : Bool := (List.range T.length).all fun j => !l.getD j false || match T[j]? with
  | some r => r.1.all (fun k => l.getD k false)
  | none => true
def reachT (T : List (List Nat × List Nat)) (i : Nat) : Nat → Nat → Bool
  | 0, _ => false
  | fuel + 1, d => match T[d]? with
    | some r => r.1.any fun j => j == i || reachT T i fuel j
    | none => false
def lastT (T : List (List Nat × List Nat)) (l : List Bool) (ds : List Nat) (i : Nat) : Bool := ds.all fun d => l.getD d true || reachT T i T.length d
section
variable {md : Region.Mode} {ops : Array Oper} {T : Bool × List (List Nat × List Nat)} {l l' li lj lk : Array Bool} {ds : List Nat} {i j k : Nat}
theorem gd (l : Array Bool) (j : Nat) (b : Bool) : l.getD j b = l.toList.getD j b := by simp [Array.getD_eq_getD_getElem?, List.getD_eq_getElem?_getD]
theorem needs_all (o : Oper) (p : Nat → Bool) : o.after.all (fun e => !Region.binds md e || p e.on) = (needsOf md o).all p := by
  unfold needsOf
  rw [← Array.all_toList]
  induction o.after.toList with
  | nil => rfl
  | cons e r ih =>
    rw [List.all_cons, ih, List.filter_cons]
    cases h : Region.binds md e <;> simp
theorem needs_any (o : Oper) (p : Nat → Bool) : o.after.any (fun e => Region.binds md e && p e.on) = (needsOf md o).any p := by
  unfold needsOf
  rw [← Array.any_toList]
  induction o.after.toList with
  | nil => rfl
  | cons e r ih =>
    rw [List.any_cons, ih, List.filter_cons]
    cases h : Region.binds md e <;> simp
theorem rtab_length : (rtab md ops).2.length = ops.size := by simp [rtab]
theorem rtab_some {o : Oper} (h : ops[i]? = some o) : (rtab md ops).2[i]? = some (needsOf md o, clashOf md ops i o) := by
  have hi := (Array.getElem?_eq_some_iff.1 h).1
  unfold rtab
  rw [List.getElem?_map, List.getElem?_range hi, Option.map_some, h]
theorem rtab_none (h : ops[i]? = none) : (rtab md ops).2[i]? = none := by
  have hi : ops.size ≤ i := Array.getElem?_eq_none_iff.1 h
  exact List.getElem?_eq_none (by rw [rtab_length]; exact hi)
theorem readyAt_eq : readyAt (rtab md ops).2 l.toList i = (!l.getD i true && ((ops[i]?).map (·.after.all fun e => !Region.binds md e || l.getD e.on false)).getD false) := by
  unfold readyAt
  rw [gd]
  cases h : ops[i]? with
  | none => rw [rtab_none h]; rfl
  | some o =>
    rw [rtab_some h]
    simp only [Option.map_some, Option.getD_some]
    rw [← needs_all]
    simp only [gd]
theorem ready_eq : Region.ready md ops l = readyT (rtab md ops).2 l.toList := by
  unfold Region.ready readyT
  rw [rtab_length]
  refine List.filter_congr (fun i _ => ?_)
  rw [readyAt_eq]
theorem free_eq : Region.free md ops l i = freeT (rtab md ops).2 l.toList i := by
  unfold Region.free freeT
  cases h : ops[i]? with
  | none => rw [rtab_none h]
  | some oi =>
    rw [rtab_some h]
    simp only [clashOf]
    rw [List.all_filter]
    congr 1
    funext j
    rw [gd]
    cases hj : ops[j]? with
    | none => cases (j == i) <;> cases (l.toList.getD j true) <;> simp
    | some oj =>
      cases (j == i) <;> cases (l.toList.getD j true) <;> cases (oj.after.any (fun e => Region.binds md e && e.on == i) || oi.apart ops oj) <;> simp_all
theorem closed_eq : Region.closedB md ops l = closedT (rtab md ops).2 l.toList := by
  unfold Region.closedB closedT
  rw [rtab_length]
  congr 1
  funext j
  rw [gd]
  cases h : ops[j]? with
  | none => rw [rtab_none h]
  | some o =>
    rw [rtab_some h]
    simp only
    rw [← needs_all]
    simp only [gd]
theorem reach_eq : ∀ (fuel d : Nat), Region.reachB md ops i fuel d = reachT (rtab md ops).2 i fuel d
  | 0, _ => rfl
  | fuel + 1, d => by
    unfold Region.reachB reachT
    cases h : ops[d]? with
    | none => rw [rtab_none h]
    | some o =>
      rw [rtab_some h]
      simp only
      rw [← needs_any]
      congr 1
      funext e
      rw [reach_eq fuel]
theorem last_eq : Region.lastB md ops l ds i = lastT (rtab md ops).2 l.toList ds i := by
  unfold Region.lastB lastT
  rw [rtab_length]
  congr 1
  funext d
  rw [gd, reach_eq]
theorem readyAt_mem (h : readyAt T.2 l.toList i = true) (hT : rtab md ops = T) : (Region.ready md ops l).contains i = true := by
  subst hT
  rw [ready_eq]
  unfold readyT
  rw [List.contains_iff_mem, List.mem_filter, List.mem_range]
  refine ⟨?_, h⟩
  unfold readyAt at h
  rw [Bool.and_eq_true] at h
  cases hq : (rtab md ops).2[i]? with
  | none => rw [hq] at h; simp at h
  | some r => exact (List.getElem?_eq_some_iff.1 hq).1
theorem set_of (h : (l.toList.set i true == l'.toList) = true) : (l.setIfInBounds i true == l') = true := by
  rw [beq_iff_eq] at h ⊢
  apply Array.ext'
  rw [Array.toList_setIfInBounds]
  exact h
def anyT (T : Bool × List (List Nat × List Nat)) (l l' : List Bool) (i : Nat) : Bool := T.1 && freeT T.2 l i && readyAt T.2 l i && (l.set i true == l')
/-- pure_'s condition out of the table. -/
theorem any_of (hT : rtab md ops = T) (h : anyT T l.toList l'.toList i = true) : anyB md ops l l' i = true := by
  simp only [anyT, Bool.and_eq_true] at h
  obtain ⟨⟨⟨h1, h2⟩, h3⟩, h4⟩ := h
  have h5 := readyAt_mem h3 hT
  have h6 := set_of h4
  subst hT
  simp only [anyB, Bool.and_eq_true]
  exact ⟨⟨⟨h1, by rw [free_eq]; exact h2⟩, h5⟩, h6⟩
def takeT (T : Bool × List (List Nat × List Nat)) (ds : List Nat) (l l' : List Bool) (i : Nat) : Bool := T.1 && freeT T.2 l i && readyAt T.2 l i && closedT T.2 l && lastT T.2 l ds i && (l.set i true == l')
/-- take_'s. -/
theorem take_of (hT : rtab md ops = T) (h : takeT T ds l.toList l'.toList i = true) : takeB md ops ds l l' i = true := by
  simp only [takeT, Bool.and_eq_true] at h
  obtain ⟨⟨⟨⟨⟨h1, h2⟩, h3⟩, h4⟩, h5⟩, h6⟩ := h
  have h7 := readyAt_mem h3 hT
  have h8 := set_of h6
  subst hT
  simp only [takeB, Bool.and_eq_true]
  exact ⟨⟨⟨⟨⟨h1, by rw [free_eq]; exact h2⟩, h7⟩, by rw [closed_eq]; exact h4⟩, by rw [last_eq]; exact h5⟩, h8⟩
/-- one_'s and last_'s. -/
theorem di (hT : rtab md ops = T) (h : (readyT T.2 l.toList == [i] && l.toList.set i true == l'.toList) = true) : readyB md ops l l' i = true := by
  simp only [Bool.and_eq_true] at h
  obtain ⟨h1, h2⟩ := h
  subst hT
  simp only [readyB, Bool.and_eq_true]
  exact ⟨by rw [ready_eq]; exact h1, set_of h2⟩
theorem two_of (hT : rtab md ops = T) (h : (readyT T.2 l.toList == [i, j] && l.toList.set i true == li.toList && l.toList.set j true == lj.toList) = true) : (Region.ready md ops l == [i, j] && l.setIfInBounds i true == li && l.setIfInBounds j true == lj) = true := by
  simp only [Bool.and_eq_true] at h ⊢
  obtain ⟨⟨h1, h2⟩, h3⟩ := h
  subst hT
  exact ⟨⟨by rw [ready_eq]; exact h1, set_of h2⟩, set_of h3⟩
/-- done_'s. -/
theorem dS (hT : rtab md ops = T) (h : (readyT T.2 l.toList == []) = true) : (Region.ready md ops l == []) = true := by
  subst hT
  rw [ready_eq]
  exact h
/-- What d waits for, as_ bits: told in the table (B), checked in one pass: each bit is a need of d, or a bit of an earlier need's. -/
def upM (B : List Nat) (d : Nat) : List Nat → Nat
  | [] => 0
  | n :: r => (2 ^ n ||| (if n < d then B.getD n 0 else 0)) ||| upM B d r
def fQ (T : List (List Nat × List Nat)) (B : List Nat) : Bool := (List.range T.length).all fun d => match T[d]? with
  | some r => (B.getD d 0 ||| upM B d r.1) == upM B d r.1
  | none => false
theorem upM_bit {B : List Nat} {d i : Nat} : ∀ {ns : List Nat}, (upM B d ns).testBit i = true → ∃ n ∈ ns, n = i ∨ (n < d ∧ (B.getD n 0).testBit i = true)
  | [], h => by simp [upM] at h
  | n :: r, h => by
    unfold upM at h
    rw [Nat.testBit_or, Nat.testBit_or, Bool.or_eq_true, Bool.or_eq_true] at h
    rcases h with (h | h) | h
    · rw [Nat.testBit_two_pow] at h
      exact ⟨n, List.mem_cons_self, .inl (by simpa using h)⟩
    · by_cases hn : n < d
      · rw [if_pos hn] at h
        exact ⟨n, List.mem_cons_self, .inr ⟨hn, h⟩⟩
      · rw [if_neg hn] at h
        simp at h
    · obtain ⟨m, hm, h2⟩ := upM_bit h
      exact ⟨m, List.mem_cons_of_mem _ hm, h2⟩
theorem reach_bit {T : List (List Nat × List Nat)} {B : List Nat} (hB : fQ T B = true) : ∀ (fuel d : Nat), d < fuel → d < T.length → (B.getD d 0).testBit i = true → reachT T i fuel d = true
  | 0, d, h, _, _ => by omega
  | fuel + 1, d, h, hd, hb => by
    have h1 := List.all_eq_true.1 hB d (List.mem_range.2 hd)
    cases hr : T[d]? with
    | none => rw [hr] at h1; simp at h1
    | some r =>
      rw [hr] at h1
      simp only [beq_iff_eq] at h1
      have h2 : (upM B d r.1).testBit i = true := by rw [← h1, Nat.testBit_or, hb, Bool.true_or]
      obtain ⟨n, hn, h3⟩ := upM_bit h2
      unfold reachT
      rw [hr]
      simp only
      rw [List.any_eq_true]
      refine ⟨n, hn, ?_⟩
      rcases h3 with rfl | ⟨h4, h5⟩
      · simp
      · rw [reach_bit hB fuel n (by omega) (by omega) h5, Bool.or_true]
def lastW (T : List (List Nat × List Nat)) (B : List Nat) (l : List Bool) (ds : List Nat) (i : Nat) : Bool := ds.all fun d => l.getD d true || (decide (d < T.length) && (B.getD d 0).testBit i)
def takeW (T : Bool × List (List Nat × List Nat)) (B : List Nat) (ds : List Nat) (l l' : List Bool) (i : Nat) : Bool := T.1 && freeT T.2 l i && readyAt T.2 l i && closedT T.2 l && lastW T.2 B l ds i && (l.set i true == l')
/-- take_'s, by the bits. -/
theorem take_ofW {B : List Nat} (hT : rtab md ops = T) (hB : fQ T.2 B = true) (h : takeW T B ds l.toList l'.toList i = true) : takeB md ops ds l l' i = true := by
  refine take_of hT ?_
  simp only [takeW, takeT, Bool.and_eq_true] at h ⊢
  obtain ⟨⟨⟨⟨⟨h1, h2⟩, h3⟩, h4⟩, h5⟩, h6⟩ := h
  refine ⟨⟨⟨⟨⟨h1, h2⟩, h3⟩, h4⟩, ?_⟩, h6⟩
  unfold lastW at h5
  unfold lastT
  rw [List.all_eq_true] at h5 ⊢
  intro d hd
  have h7 := h5 d hd
  rw [Bool.or_eq_true, Bool.and_eq_true, decide_eq_true_eq] at h7
  rcases h7 with h7 | ⟨h8, h9⟩
  · rw [h7, Bool.true_or]
  · rw [reach_bit hB _ d h8 h8 h9, Bool.or_true]
theorem dx {P : Program} {Q : Exit → Act → World → Prop} {S : World → Prop} {n : Nat} {a : Act} {w : World} {B : List Nat} (hT : rtab md ops = T) (hB : fQ T.2 B = true) (h : aa (rtab md ops = T) → aa (fQ T.2 B = true) → dw P md ops Q S ds n l a w) : dw P md ops Q S ds n l a w := h ⟨hT⟩ ⟨hB⟩
end
/-- The operations of a region, by its number. -/
def opsIn : Code → Nat → Option (Array Oper)
  | .region id ops _, k => if id == k then some ops else none
  | .seq a b, k => match opsIn a k with
    | some o => some o
    | none => opsIn b k
  | .cond _ a b, k => match opsIn a k with
    | some o => some o
    | none => opsIn b k
  | .block _ c, k => opsIn c k
  | .loop c, k => opsIn c k
  | .scope c, k => opsIn c k
  | .rangeFunc _ _ a b, k => match opsIn a k with
    | some o => some o
    | none => opsIn b k
  | _, _ => none
def opsOf (f : Func) (k : Nat) : Array Oper := ((f.body.bind fun c => opsIn c k)).getD #[]
end Go.WB.PrintLast
end
section
namespace Go.SB
open Go Go.RowKit
section
open Go.WB.PrintLast
variable {P : Program} {ops : Array Oper} {Q : Exit → Act → World → Prop} {md : Region.Mode} {S : World → Prop} {ds : List Nat}
theorem rpu {T : Bool × List (List Nat × List Nat)} (i : Nat) (N : Option Tmp) {oi : Oper} {v : Value} {fuel : Nat} {l : Array Bool} {a : Act} {w : World} (HT : WB.PrintWords.aa (rtab md ops = T)) (l' : Array Bool) (hi : ops[i]? = some oi) (hN : oi.dst = N) (hc : anyT T l.toList l'.toList i = true)
    (hQ : ∀ c a w, Q (.panic c) (a.put oi.dst v) w → Q (.panic c) a w) (hw : Region.wanted oi (yielded ops a.tmps) = true) (hy : ∀ w, (execOp a.eval oi).run P w = .ok (.value v) w) {a' : Act} (ha : a.put N v = a')
    (h : dw P md ops Q S ds fuel l' a' w) : dw P md ops Q S ds (fuel + 1) l a w := pure_ l' hi hN (any_of HT.out hc) hQ (Or.inl ⟨hw, hy⟩) ha h
theorem rpf {T : Bool × List (List Nat × List Nat)} (i : Nat) (N : Option Tmp) {oi : Oper} {fuel : Nat} {l : Array Bool} {a : Act} {w : World} (HT : WB.PrintWords.aa (rtab md ops = T)) (l' : Array Bool) (hi : ops[i]? = some oi) (hN : oi.dst = N) (hc : anyT T l.toList l'.toList i = true)
    (hQ : ∀ c a w, Q (.panic c) (a.put oi.dst undef) w → Q (.panic c) a w) (hw : Region.wanted oi (yielded ops a.tmps) = false) {a' : Act} (ha : a.put N undef = a')
    (h : dw P md ops Q S ds fuel l' a' w) : dw P md ops Q S ds (fuel + 1) l a w := pure_ l' hi hN (any_of HT.out hc) hQ (Or.inr ⟨hw, rfl⟩) ha h
theorem rtk {T : Bool × List (List Nat × List Nat)} {B : List Nat} (i : Nat) (N : Option Tmp) {oi : Oper} {v : Value} {fuel : Nat} {l : Array Bool} {a : Act} {w : World} (HT : WB.PrintWords.aa (rtab md ops = T)) (HW : WB.PrintWords.aa (fQ T.2 B = true)) (hS : S w) (l' : Array Bool) (hi : ops[i]? = some oi) (hN : oi.dst = N) (hc : takeW T B ds l.toList l'.toList i = true)
    (hQ : ∀ c a w, Q (.panic c) (a.put oi.dst v) w → Q (.panic c) a w) (hw : Region.wanted oi (yielded ops a.tmps) = true) (hy : ∀ w, S w → (execOp a.eval oi).run P w = .ok (.value v) w) {a' : Act} (ha : a.put N v = a')
    (h : dw P md ops Q S ds fuel l' a' w) : dw P md ops Q S ds (fuel + 1) l a w := take_ l' hi hN (take_ofW HT.out HW.out hc) hQ (Or.inl ⟨hw, hy⟩) hS ha h
theorem rpu0 (i : Nat) (N : Option Tmp) {oi : Oper} {v : Value} {fuel : Nat} {l : Array Bool} {a : Act} {w : World} (l' : Array Bool) (hi : ops[i]? = some oi) (hN : oi.dst = N) (hc : anyB md ops l l' i = true)
    (hQ : ∀ c a w, Q (.panic c) (a.put oi.dst v) w → Q (.panic c) a w) (hw : Region.wanted oi (yielded ops a.tmps) = true) (hy : ∀ w, (execOp a.eval oi).run P w = .ok (.value v) w) {a' : Act} (ha : a.put N v = a')
    (h : dw P md ops Q S ds fuel l' a' w) : dw P md ops Q S ds (fuel + 1) l a w := pure_ l' hi hN hc hQ (Or.inl ⟨hw, hy⟩) ha h
theorem rpf0 (i : Nat) (N : Option Tmp) {oi : Oper} {fuel : Nat} {l : Array Bool} {a : Act} {w : World} (l' : Array Bool) (hi : ops[i]? = some oi) (hN : oi.dst = N) (hc : anyB md ops l l' i = true)
    (hQ : ∀ c a w, Q (.panic c) (a.put oi.dst undef) w → Q (.panic c) a w) (hw : Region.wanted oi (yielded ops a.tmps) = false) {a' : Act} (ha : a.put N undef = a')
    (h : dw P md ops Q S ds fuel l' a' w) : dw P md ops Q S ds (fuel + 1) l a w := pure_ l' hi hN hc hQ (Or.inr ⟨hw, rfl⟩) ha h
theorem rtk0 (i : Nat) (N : Option Tmp) {oi : Oper} {v : Value} {fuel : Nat} {l : Array Bool} {a : Act} {w : World} (hS : S w) (l' : Array Bool) (hi : ops[i]? = some oi) (hN : oi.dst = N) (hc : takeB md ops ds l l' i = true)
    (hQ : ∀ c a w, Q (.panic c) (a.put oi.dst v) w → Q (.panic c) a w) (hw : Region.wanted oi (yielded ops a.tmps) = true) (hy : ∀ w, S w → (execOp a.eval oi).run P w = .ok (.value v) w) {a' : Act} (ha : a.put N v = a')
    (h : dw P md ops Q S ds fuel l' a' w) : dw P md ops Q S ds (fuel + 1) l a w := take_ l' hi hN hc hQ (Or.inl ⟨hw, hy⟩) hS ha h
end
/-- The operations that have come up, as a number's bits. -/
def rbs (n k : Nat) : Array Bool := ((List.range n).map fun i => k.testBit i).toArray
theorem rud {n : Nat} {w W W' : World} (h : Below n w W) (ho : W'.os = W.os) (ht : W'.tape = W.tape) (hq : W'.output = W.output) (hh : W'.heap = W.heap) : Below n w W' :=
  ⟨ho.trans h.os, ht.trans h.tape, hq.trans h.output, by rw [hh]; exact h.size, fun i hi => by rw [hh]; exact h.block i hi⟩
theorem lA {α β : Type} (f : α → β) (l : List α) : l.toArray.map f = (l.map f).toArray := by simp
theorem lC {α β : Type} (f : α → β) (a : α) (l : List α) : (a :: l).map f = f a :: l.map f := rfl
theorem lN {α β : Type} (f : α → β) : ([] : List α).map f = [] := rfl
theorem lD {α : Type} (i : Nat) (l : List α) : (l.drop i).length = l.length - i := List.length_drop
theorem lT {α : Type} (i : Nat) (l : List α) : (l.take i).length = min i l.length := List.length_take
/-- What is put into a frame, as rewriting rules. -/
theorem pS : (∀ (a : Act) (n : Tmp) (v : Value), a.put (some n) v = { a with tmps := a.tmps.setIfInBounds n v }) ∧ (∀ (a : Act) (v : Value), a.put none v = a) ∧ (∀ (l : List Value) (i : Nat) (a : Value), l.toArray.setIfInBounds i a = (l.set i a).toArray) ∧
    (∀ (x a : Value) (l : List Value), (x :: l).set 0 a = a :: l) ∧ (∀ (x a : Value) (l : List Value) (n : Nat), (x :: l).set (n + 1) a = x :: l.set n a) ∧ (∀ n : Int, IntKind.i64.wrap n = wrap64 n) ∧ (∀ n : Int, IntKind.i32.wrap n = wrap32 n) :=
  ⟨fun _ _ _ => rfl, fun _ _ => rfl, fun _ _ _ => by simp, fun _ _ _ => rfl, fun _ _ _ _ => rfl, WB.PrintLast.iY, WB.PrintLast.i32_w⟩
end Go.SB
end
section
namespace Go.WB.PrintWords
open Go.RowKit
namespace Kd
/-- An element with its index: its blocks are those that f gives to it. -/
def tag {α : Type} (f : Nat → Nat) (d : Kd α) : Kd (α × Nat) where
  sz := d.sz
  E := d.E
  K := fun w x cs => d.K w x.1 cs
  M := fun w base ok x cs => d.M w base (fun k => ok k ∧ f k = x.2) x.1 cs
  K_len := fun h => d.K_len h
  K_one := fun h => d.K_one h
  K_below := fun hb h => d.K_below hb h
  K_of_M := fun h => d.K_of_M h
  M_mono := fun hok h => d.M_mono (fun k hk => ⟨hok k hk.1, hk.2⟩) h
  M_bound := fun h => d.M_mono (fun _ hk => ⟨⟨hk.1.1, hk.2⟩, hk.1.2⟩) (d.M_bound h)
  M_move := fun hm h => d.M_move (fun k hk => hm k hk.1) h
  M_lower := fun hb h => d.M_lower hb h
/-- The cells themselves. -/
def raw (sz : Nat) : Kd (List Value) where
  sz := sz
  E := []
  K := fun _ x cs => cs = x ∧ cs.length = sz ∧ ∀ u ∈ cs, u.oneCell' = true
  M := fun _ _ _ x cs => cs = x ∧ cs.length = sz ∧ ∀ u ∈ cs, u.oneCell' = true
  K_len := fun h => h.2.1
  K_one := fun h => h.2.2
  K_below := fun _ h => h
  K_of_M := fun h => h
  M_mono := fun _ h => h
  M_bound := fun h => h
  M_move := fun _ h => h
  M_lower := fun _ h => h
/-- A row of elements (type e) of the call's own, no two of which lead to one block. -/
def S {α : Type} (d : Kd α) (e : Nat) (w : World) (base : Nat) (ok : Nat → Prop) (v : Value) (xs : List α) : Prop := ∃ f, (tag f d).R e w base ok v xs.zipIdx
section
variable {α β : Type} {d : Kd α} {d' : Kd β} {e e' : Nat} {w w1 W : World} {base b : Nat} {ok ok' okv oku : Nat → Prop} {u v : Value} {xs : List α} {ys : List β}
/-- A row whose elements lead to nothing: its blocks are its own one. -/
theorem iF (hE : d.E = []) (h : d.R e w base ok v xs) : d.R e w base (fun k => some k = v.ownBlock) v xs := by
  obtain ⟨h0, inner, ho, hr⟩ := h
  refine ⟨fun k hk => hk.symm, inner, ho, hr.imp_ (fun p c hp => d.M_mono (fun k hk => ?_) (d.M_bound hp))⟩
  obtain ⟨_, _, _, q, hq, _⟩ := hk
  rw [hE] at hq
  cases hq
theorem S_nil (d : Kd α) (e : Nat) (w : World) (base : Nat) (ok : Nat → Prop) : S d e w base ok (.slice none 0 0) [] := ⟨fun _ => 0, R_nil _ _ _ _ _⟩
end
section
variable {α β : Type} {d : Kd α} {d' : Kd β} {e e' g : Nat} {w w1 W : World} {base b : Nat} {ok ok' okv oku : Nat → Prop} {u v : Value} {xs : List α} {ys : List β}
end
section
variable {P : Program} {ops : Array Oper} {rest : List Oper} {o : Oper} {a : Act} {Q : Exit → Act → World → Prop} {Kc : Act → World → Prop} {α : Type}
end
/-- Element i is these cells; the others are d's. -/
def gap {α : Type} (f : Nat → Nat) (d : Kd α) (i : Nat) (c : List Value) : Kd (α × Nat) where
  sz := d.sz
  E := d.E
  K := fun w x cs => (x.2 = i → cs = c ∧ cs.length = d.sz ∧ ∀ u ∈ cs, u.oneCell' = true) ∧ (x.2 ≠ i → d.K w x.1 cs)
  M := fun w base ok x cs => (x.2 = i → cs = c ∧ cs.length = d.sz ∧ ∀ u ∈ cs, u.oneCell' = true) ∧ (x.2 ≠ i → d.M w base (fun k => ok k ∧ f k = x.2) x.1 cs)
  K_len := fun {w x cs} h => by
    by_cases hx : x.2 = i
    · exact (h.1 hx).2.1
    · exact d.K_len (h.2 hx)
  K_one := fun {w x cs} h => by
    by_cases hx : x.2 = i
    · exact (h.1 hx).2.2
    · exact d.K_one (h.2 hx)
  K_below := fun hb h => ⟨h.1, fun hx => d.K_below hb (h.2 hx)⟩
  K_of_M := fun h => ⟨h.1, fun hx => d.K_of_M (h.2 hx)⟩
  M_mono := fun hok h => ⟨h.1, fun hx => d.M_mono (fun k hk => ⟨hok k hk.1, hk.2⟩) (h.2 hx)⟩
  M_bound := fun h => ⟨h.1, fun hx => d.M_mono (fun _ hk => ⟨⟨hk.1.1, hk.2⟩, hk.1.2⟩) (d.M_bound (h.2 hx))⟩
  M_move := fun hm h => ⟨h.1, fun hx => d.M_move (fun k hk => hm k hk.1) (h.2 hx)⟩
  M_lower := fun hb h => ⟨h.1, fun hx => d.M_lower hb (h.2 hx)⟩
def H {α : Type} (d : Kd α) (e : Nat) (w : World) (base : Nat) (ok : Nat → Prop) (v : Value) (xs : List α) (i : Int) (oki : Nat → Prop) (c : List Value) : Prop :=
  (∀ k, oki k → ok k) ∧ ∃ f, (gap f d i.toNat c).R e w base (fun k => ok k ∧ ¬ oki k) v xs.zipIdx
section
variable {α β : Type} {d : Kd α} {e e' g n cap : Nat} {w w1 W : World} {base : Nat} {ok ok' oki okp : Nat → Prop} {u v : Value} {xs : List α} {i : Int} {c : List Value}
end
section
variable {P : Program} {ops : Array Oper} {rest : List Oper} {o : Oper} {a : Act} {Q : Exit → Act → World → Prop} {α : Type}
end
end Kd
end Go.WB.PrintWords
end
section
namespace Go.WB.PrintWords
open Go.RowKit
namespace Kd
/-- What a kind reads lies in the blocks: nothing else of the world is looked at. -/
structure Heap {α : Type} (d : Kd α) : Prop where
  K : ∀ {w w1 : World} {x : α} {cs : List Value}, (∀ k, k < w.heap.size → w1.heap[k]? = w.heap[k]?) → d.K w x cs → d.K w1 x cs
theorem cell_heap {w w1 : World} (hb : ∀ k, k < w.heap.size → w1.heap[k]? = w.heap[k]?) {a : Addr} {v : Value} (h : w.cell? a = some v) : w1.cell? a = some v := by
  have := hb a.block (World.block_lt_of_cell? w a h)
  simpa [World.cell?, this] using h
theorem Heap.C {α : Type} {d : Kd α} (hd : Heap d) {w w1 : World} {A : Option Addr} {n : Nat} {xs : List α} (hb : ∀ k, k < w.heap.size → w1.heap[k]? = w.heap[k]?) (h : d.C w A n xs) : d.C w1 A n xs :=
  ⟨h.1, h.2.1, fun hn => by
    obtain ⟨ad, e, hc⟩ := h.2.2 hn
    refine ⟨ad, e, fun j p hj => ?_⟩
    obtain ⟨c, hs, hr, hcell⟩ := hc j p hj
    exact ⟨c, hs, hd.K hb hr, fun i u hu => cell_heap hb (hcell i u hu)⟩⟩
theorem heap_int (k : IntKind) : Heap (Kd.int k) := ⟨fun _ h => h⟩
section
variable {α : Type} {d : Kd α} {e base g n c : Nat} {ok : Nat → Prop} {w w0 W : World} {A : Option Addr} {xs : List α}
end
end Kd
end Go.WB.PrintWords
end
section
namespace Go.WB.PrintWords
open Go.RowKit
def Kept (w W : World) (S : Nat → Prop) : Prop := w.heap.size ≤ W.heap.size ∧ ∀ i, i < w.heap.size → ¬ S i → W.heap[i]? = w.heap[i]?
section
variable {w W W2 : World} {S S2 S' : Nat → Prop}
theorem Kept.refl (w : World) (S : Nat → Prop) : Kept w w S := ⟨Nat.le_refl _, fun _ _ _ => rfl⟩
theorem Kept.of_below (h : Below w.heap.size w W) (S : Nat → Prop) : Kept w W S := ⟨h.size, fun i hi _ => h.block i hi⟩
theorem Kept.mono (h : Kept w W S) (hs : ∀ k, S k → S' k) : Kept w W S' := ⟨h.1, fun i hi hn => h.2 i hi (fun hk => hn (hs i hk))⟩
theorem Kept.then_ (h : Kept w W S) (k : Kept W W2 S2) (hs : ∀ k, S2 k → S k ∨ w.heap.size ≤ k) : Kept w W2 S :=
  ⟨Nat.le_trans h.1 k.1, fun i hi hn => (k.2 i (Nat.lt_of_lt_of_le hi h.1) (fun h2 => (hs i h2).elim hn (fun h3 => by omega))).trans (h.2 i hi hn)⟩
theorem Kept.of_grown {row : Option Nat} (hg : W.grownBy W2 row) (h : Kept w W S) (hr : ∀ k, row = some k → S k ∨ w.heap.size ≤ k) : Kept w W2 S :=
  h.then_ (S2 := fun k => row = some k) ⟨hg.size, fun i hi hn => hg.block i hi (fun he => hn he.symm)⟩ hr
theorem Kept.below (h : Kept w W S) (hb : Below W.heap.size W W2) : Kept w W2 S := h.then_ (Kept.of_below hb (fun _ => False)) (fun _ hk => hk.elim)
theorem Kept.alloc (h : Kept w W S) (o : Obj) : Kept w (W.alloc o) S := h.below (bq (Below.refl _ _) o)
theorem Kept.drew (h : Kept w W S) : Kept w W.drew S := h
theorem Kept.drewN (h : Kept w W S) (m : Nat) : Kept w (W.drewN m) S := h
theorem Kept.setCell (h : Kept w W S) {p : Addr} (hp : S p.block ∨ w.heap.size ≤ p.block) (u : Value) : Kept w (W.setCell p u) S :=
  h.then_ (S2 := fun k => k = p.block) ⟨by simp [World.setCell], fun i _ hn => Below.heap_setCell W p u i hn⟩ (fun k hk => by rw [hk]; exact hp)
theorem gM {g : Nat} {o : Obj} (hb : W.heap[g]? = some o) (hk : Kept W W2 S) (hne : ¬ S g) : W2.heap[g]? = some o := (hk.2 g (gB hb) hne).trans hb
end
namespace Kd
section
variable {α : Type} {d : Kd α} {e base n c : Nat} {ok oki S S2 : Nat → Prop} {w w0 W W1 W2 : World} {v : Value} {A : Option Addr} {xs : List α} {i : Int} {cs : List Value}
/-- A row that came in. -/
theorem C_kept_came (hd : Heap d) (h : d.C w0 A n xs) (hb : Below w0.heap.size w0 W) (hS : ∀ k, S k → w0.heap.size ≤ k) : ∀ W', Kept W W' S → d.C W' A n xs := fun W' hk =>
  hd.C (fun k hlt => (hk.2 k (Nat.lt_of_lt_of_le hlt hb.size) (fun h2 => by have := hS k h2; omega)).trans (hb.block k hlt)) h
/-- .. and at a call that writes less. -/
theorem C_kept_call (h : ∀ W', Kept w W' S → d.C W' A n xs) (hk : Kept w W S) (hs : ∀ k, S2 k → S k ∨ w.heap.size ≤ k) : ∀ W', Kept W W' S2 → d.C W' A n xs := fun W' hk' => h W' (hk.then_ hk' hs)
theorem C_kept_now (h : ∀ W', Kept w W' S → d.C W' A n xs) (hk : Kept w W S) : d.C W A n xs := h W hk
end
end Kd
end Go.WB.PrintWords
end
section
namespace Go.WB.PrintWords
open Go.RowKit
/-- P holds in W and in every world that has W's blocks of ok. -/
def Foot (P : World → Prop) (W : World) (ok : Nat → Prop) : Prop := ∀ W' : World, (∀ k, ok k → k < W.heap.size → W'.heap[k]? = W.heap[k]?) → P W'
theorem heap_lt {W W1 : World} {k : Nat} (h : W1.heap[k]? = W.heap[k]?) (hlt : k < W.heap.size) : k < W1.heap.size := by
  rw [Array.getElem?_eq_getElem hlt] at h
  exact (Array.getElem?_eq_some_iff.1 h).1
namespace Foot
variable {P Q : World → Prop} {W W1 : World} {ok ok' : Nat → Prop}
theorem mono (h : Foot P W ok) (hok : ∀ k, ok k → ok' k) : Foot P W ok' := fun W' hW => h W' (fun k hk hlt => hW k (hok k hk) hlt)
theorem step (h : Foot P W ok) (hm : ∀ k, ok k → k < W.heap.size → W1.heap[k]? = W.heap[k]?) : Foot P W1 ok := fun W' hW => h W' (fun k hk hlt => (hW k hk (heap_lt (hm k hk hlt) hlt)).trans (hm k hk hlt))
end Foot
namespace Kd
/-- A row that is only read: what it leads to lies in ok. -/
def F {α : Type} (d : Kd α) (W : World) (ok : Nat → Prop) (A : Option Addr) (n : Nat) (xs : List α) : Prop := Foot (fun W => d.C W A n xs) W ok
/-- An element's cells: what they lead to lies in ok. -/
def FK {α : Type} (d : Kd α) (W : World) (ok : Nat → Prop) (x : α) (c : List Value) : Prop := Foot (fun W => d.K W x c) W ok
section
variable {α β : Type} {d : Kd α} {e base n n' cc g N : Nat} {ok ok' okp S : Nat → Prop} {w w0 w1 W W1 : World} {A A' : Option Addr} {u v v1 : Value} {xs : List α} {xs' : List β} {d' : Kd β} {x : α} {c : List Value}
theorem F_nil (d : Kd α) (W : World) (ok : Nat → Prop) : F d W ok none ([] : List α).length [] := fun W' _ => C_nil d W'
theorem FK_of_M (h : d.M W base ok x c) : FK d W ok x c := fun _ hW => d.K_of_M (M_step h hW)
end
end Kd
end Go.WB.PrintWords
end
section
namespace Go.WB.PrintWords
open Go.RowKit
namespace Kd
/-- The cells one behind the other, element by element. -/
def chunks (sz : Nat) (n : Nat) (inner : List Value) : List (List Value) := (List.range n).map fun j => (inner.drop (j * sz)).take sz
theorem chunks_length (sz n : Nat) (inner : List Value) : (chunks sz n inner).length = n := by simp [chunks]
theorem chunks_at {sz n : Nat} {inner : List Value} {j : Nat} (hj : j < n) : (chunks sz n inner)[j]? = some ((inner.drop (j * sz)).take sz) := by simp [chunks, hj]
theorem chunks_get {sz n : Nat} {inner : List Value} {j : Nat} {c : List Value} (h : (chunks sz n inner)[j]? = some c) : c = (inner.drop (j * sz)).take sz := by
  have hj : j < n := by have := (List.getElem?_eq_some_iff.1 h).1; rwa [chunks_length] at this
  rw [chunks_at hj] at h
  injection h with h
  exact h.symm
theorem reps_raw {α : Type} {Rr : α → List Value → Prop} {sz : Nat} {xs : List α} {inner : List Value} (h : iV Rr sz xs inner) (hR : ∀ x c, Rr x c → c.length = sz ∧ ∀ u ∈ c, u.oneCell' = true) : iV (fun x cs => cs = x ∧ cs.length = sz ∧ ∀ u ∈ cs, u.oneCell' = true) sz (chunks sz xs.length inner) inner := by
  refine ⟨by rw [chunks_length]; exact h.1, fun j p hj => ?_⟩
  have hjl : j < xs.length := by have := (List.getElem?_eq_some_iff.1 hj).1; rwa [chunks_length] at this
  have hp := chunks_get hj
  exact ⟨hp.symm, hR _ _ (h.2 j _ (List.getElem?_eq_getElem hjl))⟩
section
variable {α : Type} {d : Kd α} {e base n cc g : Nat} {ok ok' okp S : Nat → Prop} {w w1 W W1 : World} {A : Option Addr} {u v v1 : Value} {xs : List α} {x : α} {c : List Value}
/-- A row of elements (type e) of the call's own; what the elements lead to is only read, and is not this row. -/
def N {α : Type} (d : Kd α) (e : Nat) (w : World) (base : Nat) (ok : Nat → Prop) (v : Value) (xs : List α) : Prop :=
  (∀ k, v.ownBlock = some k → ok k) ∧ ∃ rows : List (List Value), rows.length = xs.length ∧ (raw d.sz).R e w base (fun k => some k = v.ownBlock) v rows ∧ ∀ (j : Nat) (x : α) (c : List Value), xs[j]? = some x → rows[j]? = some c → FK d w (fun k => ok k ∧ some k ≠ v.ownBlock) x c
theorem R_N (h : d.R e w base ok v xs) : N d e w base ok v xs := by
  obtain ⟨h0, inner, ho, hr⟩ := h
  refine ⟨h0, chunks d.sz xs.length inner, chunks_length _ _ _, ⟨fun k hk => hk.symm, inner, by rw [chunks_length]; exact ho, reps_raw hr (fun x c hp => ⟨d.K_len (d.K_of_M hp), d.K_one (d.K_of_M hp)⟩)⟩, fun j x c hx hc => ?_⟩
  rw [chunks_get hc]
  exact FK_of_M (hr.2 j x hx)
theorem N_nil (d : Kd α) (e : Nat) (w : World) (base : Nat) (ok : Nat → Prop) : N d e w base ok (.slice none 0 0) [] := R_N (R_nil _ _ _ _ _)
end
end Kd
end Go.WB.PrintWords
end
section
namespace Go.WB.PrintWords
open Go.RowKit
section
variable {P : Program} {d : Nat} {xs ys : Array Value} {f : Field} {fs : List Field} {a b : Value} {r s : Bool} {w : World}
/-- The last field that counts. -/
theorem eqf_last (hn : (f.name == "_") = false) (ha : (part f.type xs f.offset).run P w = .ok a w) (hb : (part f.type ys f.offset).run P w = .ok b w) (he : (Op.equalIn d f.type a b).run P w = .ok r w) : (Op.eqFields d xs ys [f]).run P w = .ok r w := by
  have hn' : f.name ≠ "_" := by simpa using hn
  simp only [Op.eqFields, if_pos hn', Sem.run_bind, ha, hb, he, Result.andThen_ok]
  cases r <;> simp
theorem eqf_cons (hn : (f.name == "_") = false) (ha : (part f.type xs f.offset).run P w = .ok a w) (hb : (part f.type ys f.offset).run P w = .ok b w) (he : (Op.equalIn d f.type a b).run P w = .ok r w) (hr : (Op.eqFields d xs ys fs).run P w = .ok s w) : (Op.eqFields d xs ys (f :: fs)).run P w = .ok (r && s) w := by
  have hn' : f.name ≠ "_" := by simpa using hn
  rw [Op.eqFields]
  simp only [if_pos hn', Sem.run_bind, ha, hb, he, Result.andThen_ok]
  cases r
  · simp
  · simpa using hr
theorem eqA_of {t : TypeId} {fs : Array Field} (hu : P.underlying t = some (.struct fs)) (hp : P.stoodInHeld t = false) (h : (Op.eqFields d xs ys fs.toList).run P w = .ok r w) : (Op.equalIn (d + 1) t (.agg xs) (.agg ys)).run P w = .ok r w := by
  have hf : P.fieldsOf t = fs := by simp [Program.fieldsOf, hu]
  rw [run_equalIn_struct (P := P) w d t xs ys (by rw [hf]; exact hu) hp, hf]
  exact h
end
end Go.WB.PrintWords
end
section
namespace Go.WB.PrintWords
/-- One cell an element. -/
theorem iV.one {α : Type} {R : α → List Value → Prop} {ps : List α} {cs : List Value} {p : α} {v : Value} (hp : R p [v]) (h : iV R 1 ps cs) : iV R 1 (p :: ps) (v :: cs) := by
  refine ⟨by simp [h.1], fun j q hq => ?_⟩
  cases j with
  | zero =>
    simp only [List.getElem?_cons_zero, Option.some.injEq] at hq
    subst hq
    simpa using hp
  | succ j =>
    simp only [List.getElem?_cons_succ] at hq
    have h1 := h.2 j q hq
    simpa [Nat.mul_one] using h1
/-- More cells an element: told apart by the cells' list. -/
theorem iV.front {α : Type} {R : α → List Value → Prop} {size : Nat} {ps : List α} {cs c all : List Value} {p : α} (hp : R p c) (hc : c.length = size) (h : iV R size ps cs) (ha : c ++ cs = all) : iV R size (p :: ps) all := by
  subst ha
  refine ⟨by rw [List.length_append, hc, h.1, List.length_cons, Nat.succ_mul, Nat.add_comm], fun j q hq => ?_⟩
  cases j with
  | zero =>
    simp only [List.getElem?_cons_zero, Option.some.injEq] at hq
    subst hq
    rw [Nat.zero_mul, List.drop_zero, List.take_append_of_le_length (by omega), List.take_of_length_le (by omega)]
    exact hp
  | succ j =>
    simp only [List.getElem?_cons_succ] at hq
    have h1 := h.2 j q hq
    rw [Nat.succ_mul, List.drop_append, List.drop_of_length_le (by rw [hc]; exact Nat.le_add_left _ _), List.nil_append, hc, Nat.add_sub_cancel]
    exact h1
theorem iV.c2 {α : Type} {R : α → List Value → Prop} {ps : List α} {cs : List Value} {p : α} {va vb : Value} (hp : R p [va, vb]) (h : iV R 2 ps cs) : iV R 2 (p :: ps) (va :: vb :: cs) := iV.front hp rfl h rfl
theorem iV.c3 {α : Type} {R : α → List Value → Prop} {ps : List α} {cs : List Value} {p : α} {va vb vc : Value} (hp : R p [va, vb, vc]) (h : iV R 3 ps cs) : iV R 3 (p :: ps) (va :: vb :: vc :: cs) := iV.front hp rfl h rfl
theorem iV.c4 {α : Type} {R : α → List Value → Prop} {ps : List α} {cs : List Value} {p : α} {va vb vc vd : Value} (hp : R p [va, vb, vc, vd]) (h : iV R 4 ps cs) : iV R 4 (p :: ps) (va :: vb :: vc :: vd :: cs) := iV.front hp rfl h rfl
theorem iV.c5 {α : Type} {R : α → List Value → Prop} {ps : List α} {cs : List Value} {p : α} {va vb vc vd ve : Value} (hp : R p [va, vb, vc, vd, ve]) (h : iV R 5 ps cs) : iV R 5 (p :: ps) (va :: vb :: vc :: vd :: ve :: cs) := iV.front hp rfl h rfl
theorem iV.c6 {α : Type} {R : α → List Value → Prop} {ps : List α} {cs : List Value} {p : α} {va vb vc vd ve vf : Value} (hp : R p [va, vb, vc, vd, ve, vf]) (h : iV R 6 ps cs) : iV R 6 (p :: ps) (va :: vb :: vc :: vd :: ve :: vf :: cs) := iV.front hp rfl h rfl
theorem iV.c7 {α : Type} {R : α → List Value → Prop} {ps : List α} {cs : List Value} {p : α} {va vb vc vd ve vf vg : Value} (hp : R p [va, vb, vc, vd, ve, vf, vg]) (h : iV R 7 ps cs) : iV R 7 (p :: ps) (va :: vb :: vc :: vd :: ve :: vf :: vg :: cs) := iV.front hp rfl h rfl
theorem iV.c8 {α : Type} {R : α → List Value → Prop} {ps : List α} {cs : List Value} {p : α} {va vb vc vd ve vf vg vh : Value} (hp : R p [va, vb, vc, vd, ve, vf, vg, vh]) (h : iV R 8 ps cs) : iV R 8 (p :: ps) (va :: vb :: vc :: vd :: ve :: vf :: vg :: vh :: cs) := iV.front hp rfl h rfl
theorem iV.c9 {α : Type} {R : α → List Value → Prop} {ps : List α} {cs : List Value} {p : α} {va vb vc vd ve vf vg vh vi : Value} (hp : R p [va, vb, vc, vd, ve, vf, vg, vh, vi]) (h : iV R 9 ps cs) : iV R 9 (p :: ps) (va :: vb :: vc :: vd :: ve :: vf :: vg :: vh :: vi :: cs) := iV.front hp rfl h rfl
theorem iV.c10 {α : Type} {R : α → List Value → Prop} {ps : List α} {cs : List Value} {p : α} {va vb vc vd ve vf vg vh vi vj : Value} (hp : R p [va, vb, vc, vd, ve, vf, vg, vh, vi, vj]) (h : iV R 10 ps cs) : iV R 10 (p :: ps) (va :: vb :: vc :: vd :: ve :: vf :: vg :: vh :: vi :: vj :: cs) := iV.front hp rfl h rfl
end Go.WB.PrintWords
end
section
namespace Go.WB.PrintWords
open Go.RowKit
section
variable {P : Program} {ops : Array Oper} {rest : List Oper} {o : Oper} {a : Act} {Q : Exit → Act → World → Prop} {W : World}
/-- The gate takes the guard off (hw: 'by rfl', 'by kernel_rfl': the guard's slot holds what is wanted). -/
theorem fH (hw : Region.wanted o (yielded ops a.tmps) = true) (h : wpList P ops Q ({ o with guard := none } :: rest) a W) : wpList P ops Q (o :: rest) a W := by
  have h1 : Region.wanted { o with guard := none } (yielded ops a.tmps) = true := rfl
  unfold wpList at h ⊢
  rw [if_pos h1] at h
  rw [if_pos hw]
  exact h
end
end Go.WB.PrintWords
end
section
namespace Go.WB.PrintMore
open Go.RowKit Go.WB.PrintWords
namespace Kd
open Go.WB.PrintWords.Kd
end Kd
namespace Kd
open Go.WB.PrintWords.Kd
section
variable {α : Type} {d : Kd α} {e base g N : Nat} {ok : Nat → Prop} {W w1 : World} {u v : Value} {xs : List α}
end
end Kd
/-- 'max' and 'min' of two whole numbers. -/
theorem cB (k k' : IntKind) (x y : Int) : Builtin.max2 (.int k x) (.int k' y) = pure (.int k (if x < y then y else x)) := by simp only [Builtin.max2, gt_iff_lt]
theorem cZ (k k' : IntKind) (x y : Int) : Builtin.min2 (.int k x) (.int k' y) = pure (.int k (if y < x then y else x)) := by simp only [Builtin.min2]
theorem dE (ats : Array TypeId) (ty : TypeId) (a b : Value) : Builtin.max_ ats ty #[a, b] = (Builtin.max2 a b >>= fun s => pure s) := by simp only [Builtin.max_, List.foldlM_cons, List.foldlM_nil]
theorem dD (ats : Array TypeId) (ty : TypeId) (a b : Value) : Builtin.min_ ats ty #[a, b] = (Builtin.min2 a b >>= fun s => pure s) := by simp only [Builtin.min_, List.foldlM_cons, List.foldlM_nil]
theorem bP (ats : Array TypeId) (ty : TypeId) (a b c : Value) : Builtin.max_ ats ty #[a, b, c] = (Builtin.max2 a b >>= fun s => Builtin.max2 s c >>= fun s => pure s) := by simp only [Builtin.max_, List.foldlM_cons, List.foldlM_nil]
theorem bQ (ats : Array TypeId) (ty : TypeId) (a b c : Value) : Builtin.min_ ats ty #[a, b, c] = (Builtin.min2 a b >>= fun s => Builtin.min2 s c >>= fun s => pure s) := by simp only [Builtin.min_, List.foldlM_cons, List.foldlM_nil]
theorem cO (ats : Array TypeId) (ty : TypeId) (a b c d : Value) : Builtin.max_ ats ty #[a, b, c, d] = (Builtin.max2 a b >>= fun s => Builtin.max2 s c >>= fun s => Builtin.max2 s d >>= fun s => pure s) := by simp only [Builtin.max_, List.foldlM_cons, List.foldlM_nil]
theorem cK (ats : Array TypeId) (ty : TypeId) (a b c d : Value) : Builtin.min_ ats ty #[a, b, c, d] = (Builtin.min2 a b >>= fun s => Builtin.min2 s c >>= fun s => Builtin.min2 s d >>= fun s => pure s) := by simp only [Builtin.min_, List.foldlM_cons, List.foldlM_nil]
end Go.WB.PrintMore
namespace Go.WB.PrintWords
open Go.RowKit
section
variable {P : Program} {ops : Array Oper} {rest : List Oper} {o : Oper} {a : Act} {Q : Exit → Act → World → Prop} {W : World}
/-- The operation is a call of this function (a cheap look ahead of a dear step). -/
theorem aQ {f : FuncId} {asv : Array Operand} {ts : Array TypeId} (_ho : o.op = .call { callee := .value (.func f), args := asv, argTypes := ts }) (h : wpList P ops Q (o :: rest) a W) : wpList P ops Q (o :: rest) a W := h
/-- The operation is a builtin over these places. -/
theorem eB {b : Builtin} {xs : Array Operand} {ts : Array TypeId} (_ho : o.op = .call { callee := .builtin b, args := xs, argTypes := ts }) (h : wpList P ops Q (o :: rest) a W) : wpList P ops Q (o :: rest) a W := h
end
/-- A call's arguments, spelled otherwise. -/
theorem calls_of_args {P : Program} {f : FuncId} {args args' : Array Value} {w : World} {Q : Ending → World → Prop} (h : args = args') (hc : Calls P f args' w Q) : Calls P f args w Q := h ▸ hc
/-- A shift to the left, asv Go tells it: a count beyond the width leaves nothing. -/
def shl (k : IntKind) (x y : Int) : Int := k.wrap (x * 2 ^ min y.toNat k.bits)
theorem shl_small {k : IntKind} {x y j : Int} (h : shl k x y = j) (hy : y ≤ k.bits) : k.wrap (x * 2 ^ y.toNat) = j := by rw [← h]; unfold shl; rw [Nat.min_eq_left (by omega)]
/-- It says x = x, and that is its use: 'rw [jf w]' fails where the world was not drawn, and the row behind it is skipped. -/
theorem jf (w : World) (n : Nat) : w.drewN n = w.drewN n := rfl
namespace Kd
section
variable {α : Type} {d : Kd α} {e base : Nat} {ok : Nat → Prop} {W w1 : World} {v : Value} {xs : List α}
end
section
variable {α : Type} {d : Kd α} {e base g n cap : Nat} {ok oki okp : Nat → Prop} {W : World} {xs : List α} {i : Int} {c : List Value}
end
section
variable {α : Type} {d : Kd α} {e base b b' g N : Nat} {ok ok1 : Nat → Prop} {W W2 w1 : World} {u v : Value} {xs ys : List α} {S : Nat → Prop}
end
end Kd
end Go.WB.PrintWords
namespace Go.WB.PrintWords
open Go.RowKit
namespace Kd
/-- A row that is only read, told by its value: its form, its length, what it leads to (in ok). e and base say nothing; they make it asv the others are. -/
def V {α : Type} (d : Kd α) (_e : Nat) (W : World) (_base : Nat) (ok : Nat → Prop) (v : Value) (xs : List α) : Prop := ∃ A c, v = .slice A xs.length c ∧ xs.length ≤ c ∧ F d W ok A xs.length xs
section
variable {α β : Type} {d : Kd α} {e base base' n m c g N' lo hi : Nat} {ok ok' S : Nat → Prop} {w W w1 : World} {A : Option Addr} {ad : Addr} {u v v1 : Value} {xs : List α}
theorem V_nil (d : Kd α) (e : Nat) (W : World) (base : Nat) (ok : Nat → Prop) : V d e W base ok (.slice none 0 0) [] := ⟨none, 0, rfl, Nat.le_refl _, F_nil d W ok⟩
end
end Kd
end Go.WB.PrintWords
end
section
namespace Go.Proofs.Ytddnlnjmikcgfaa.PC
open Go.RowKit Go.WB.PrintWords Go.WB.PrintLast Go.WB.PrintMore
attribute [local go_sem] cB cZ dE dD bP bQ cO cK
set_option linter.unusedVariables false
set_option linter.unusedSimpArgs false
set_option maxHeartbeats 40000000
set_option maxRecDepth 100000
def errW : Option Int → Value
  | none => .nilIface
  | some c => .iface 0 (.int .i64 c)
theorem au : errW none = .nilIface := rfl
theorem ak (c : Int) : errW (some c) = .iface 0 (.int .i64 c) := rfl
theorem info3 : (Try.prog.info? 3).map (fun i => (i.zero, i.size, i.bytes)) = some (some (.int .i64 0), 1, 8) := by kernel_rfl
theorem info5 : (Try.prog.info? 5).map (fun i => (i.zero, i.size, i.bytes)) = some (some (.int .u8 0), 1, 1) := by kernel_rfl
structure S25 where
  f0 : Int
  f1 : Int
def z25 : S25 := ⟨(0 : Int), (0 : Int)⟩
def k25 : Kd S25 := Kd.iso (Kd.pair (Kd.int .i64) (Kd.int .i64)) (fun x : S25 => (x.f0, x.f1))
theorem k25_open {w : World} {x : S25} {cs : List Value} (h : k25.K w x cs) : cs = [.int .i64 x.f0, .int .i64 x.f1] := by
  obtain ⟨_, _, rfl, rfl, rfl⟩ := h
  exact rfl
structure S28 where
  f0 : S25
  f1 : Int
  f2 : (List Int)
  f3 : Int
  f4 : S25
  f5 : S25
  f6 : ByteArray
  f7 : Int
  f8 : Int
def z28 : S28 := ⟨z25, (0 : Int), ([] : List Int), (0 : Int), z25, z25, (⟨#[]⟩ : ByteArray), (0 : Int), (0 : Int)⟩
def k28 : Kd S28 := Kd.iso (Kd.pair k25 (Kd.pair (Kd.int .i64) (Kd.pair (Kd.slice 3 (Kd.int .i64)) (Kd.pair (Kd.int .i64) (Kd.pair k25 (Kd.pair k25 (Kd.pair Kd.string (Kd.pair (Kd.int .i64) (Kd.int .i64))))))))) (fun x : S28 => (x.f0, x.f1, x.f2, x.f3, x.f4, x.f5, x.f6, x.f7, x.f8))
theorem k28_open {w : World} {x : S28} {cs : List Value} (h : k28.K w x cs) : ∃ A3 c3, cs = [.int .i64 x.f0.f0, .int .i64 x.f0.f1, .int .i64 x.f1, .slice A3 x.f2.length c3, .int .i64 x.f3, .int .i64 x.f4.f0, .int .i64 x.f4.f1, .int .i64 x.f5.f0, .int .i64 x.f5.f1, .string x.f6, .int .i64 x.f7, .int .i64 x.f8] ∧ x.f2.length ≤ c3 ∧ (Kd.int .i64).C w A3 x.f2.length x.f2 := by
  obtain ⟨_, _, rfl, s0, ⟨_, _, rfl, rfl, ⟨_, _, rfl, ⟨A3, c3, rfl, l3, g3⟩, ⟨_, _, rfl, rfl, ⟨_, _, rfl, s5, ⟨_, _, rfl, s7, ⟨_, _, rfl, rfl, ⟨_, _, rfl, rfl, rfl⟩⟩⟩⟩⟩⟩⟩⟩ := h
  obtain rfl := k25_open s0
  obtain rfl := k25_open s5
  obtain rfl := k25_open s7
  exact ⟨A3, c3, rfl, l3, g3⟩
structure S31 where
  f0 : S28
  f1 : (List Int)
def z31 : S31 := ⟨z28, ([] : List Int)⟩
def k31 : Kd S31 := Kd.iso (Kd.pair k28 (Kd.slice 5 (Kd.int .u8))) (fun x : S31 => (x.f0, x.f1))
theorem k31_open {w : World} {x : S31} {cs : List Value} (h : k31.K w x cs) : ∃ A3 c3 A12 c12, cs = [.int .i64 x.f0.f0.f0, .int .i64 x.f0.f0.f1, .int .i64 x.f0.f1, .slice A3 x.f0.f2.length c3, .int .i64 x.f0.f3, .int .i64 x.f0.f4.f0, .int .i64 x.f0.f4.f1, .int .i64 x.f0.f5.f0, .int .i64 x.f0.f5.f1, .string x.f0.f6, .int .i64 x.f0.f7, .int .i64 x.f0.f8, .slice A12 x.f1.length c12] ∧ x.f0.f2.length ≤ c3 ∧ (Kd.int .i64).C w A3 x.f0.f2.length x.f0.f2 ∧ x.f1.length ≤ c12 ∧ (Kd.int .u8).C w A12 x.f1.length x.f1 := by
  obtain ⟨_, _, rfl, s0, ⟨A12, c12, rfl, l12, g12⟩⟩ := h
  obtain ⟨A3, c3, rfl, l3, g3⟩ := k28_open s0
  exact ⟨A3, c3, A12, c12, rfl, l3, g3, l12, g12⟩
def aA (xs : List S31) (i : Int) : S31 := xs.getD i.toNat z31
theorem at_T31 {w : World} {A : Option Addr} {n : Nat} {xs : List S31} (h : Kd.C k31 w A n xs) (i : Int) (h0 : 0 ≤ i) (h1 : i < n) : ∃ ad A3 c3 A12 c12, A = some ad ∧ w.cell? (ad.add (i.toNat * 13)) = some (.int .i64 (aA xs i).f0.f0.f0) ∧ w.cell? ⟨(ad.add (i.toNat * 13)).block, (ad.add (i.toNat * 13)).off + 1, none⟩ = some (.int .i64 (aA xs i).f0.f0.f1) ∧ w.cell? ⟨(ad.add (i.toNat * 13)).block, (ad.add (i.toNat * 13)).off + 2, none⟩ = some (.int .i64 (aA xs i).f0.f1) ∧ w.cell? ⟨(ad.add (i.toNat * 13)).block, (ad.add (i.toNat * 13)).off + 3, none⟩ = some (.slice A3 (aA xs i).f0.f2.length c3) ∧ w.cell? ⟨(ad.add (i.toNat * 13)).block, (ad.add (i.toNat * 13)).off + 4, none⟩ = some (.int .i64 (aA xs i).f0.f3) ∧ w.cell? ⟨(ad.add (i.toNat * 13)).block, (ad.add (i.toNat * 13)).off + 5, none⟩ = some (.int .i64 (aA xs i).f0.f4.f0) ∧ w.cell? ⟨(ad.add (i.toNat * 13)).block, (ad.add (i.toNat * 13)).off + 6, none⟩ = some (.int .i64 (aA xs i).f0.f4.f1) ∧ w.cell? ⟨(ad.add (i.toNat * 13)).block, (ad.add (i.toNat * 13)).off + 7, none⟩ = some (.int .i64 (aA xs i).f0.f5.f0) ∧ w.cell? ⟨(ad.add (i.toNat * 13)).block, (ad.add (i.toNat * 13)).off + 8, none⟩ = some (.int .i64 (aA xs i).f0.f5.f1) ∧ w.cell? ⟨(ad.add (i.toNat * 13)).block, (ad.add (i.toNat * 13)).off + 9, none⟩ = some (.string (aA xs i).f0.f6) ∧ w.cell? ⟨(ad.add (i.toNat * 13)).block, (ad.add (i.toNat * 13)).off + 10, none⟩ = some (.int .i64 (aA xs i).f0.f7) ∧ w.cell? ⟨(ad.add (i.toNat * 13)).block, (ad.add (i.toNat * 13)).off + 11, none⟩ = some (.int .i64 (aA xs i).f0.f8) ∧ w.cell? ⟨(ad.add (i.toNat * 13)).block, (ad.add (i.toNat * 13)).off + 12, none⟩ = some (.slice A12 (aA xs i).f1.length c12) ∧ (aA xs i).f0.f2.length ≤ c3 ∧ (Kd.int .i64).C w A3 (aA xs i).f0.f2.length (aA xs i).f0.f2 ∧ (aA xs i).f1.length ≤ c12 ∧ (Kd.int .u8).C w A12 (aA xs i).f1.length (aA xs i).f1 := by
  obtain ⟨ad, c, e, _, hK, hc0⟩ := Kd.C_get h z31 i h0 h1
  have hc : ∀ j u, c[j]? = some u → w.cell? (ad.add (i.toNat * 13 + j)) = some u := hc0
  obtain ⟨A3, c3, A12, c12, rfl, l3, g3, l12, g12⟩ := k31_open hK
  exact ⟨ad, A3, c3, A12, c12, e, hc 0 _ rfl, by rw [← gT _ _ 1 (by omega)]; exact hc 1 _ rfl, by rw [← gT _ _ 2 (by omega)]; exact hc 2 _ rfl, by rw [← gT _ _ 3 (by omega)]; exact hc 3 _ rfl, by rw [← gT _ _ 4 (by omega)]; exact hc 4 _ rfl, by rw [← gT _ _ 5 (by omega)]; exact hc 5 _ rfl, by rw [← gT _ _ 6 (by omega)]; exact hc 6 _ rfl, by rw [← gT _ _ 7 (by omega)]; exact hc 7 _ rfl, by rw [← gT _ _ 8 (by omega)]; exact hc 8 _ rfl, by rw [← gT _ _ 9 (by omega)]; exact hc 9 _ rfl, by rw [← gT _ _ 10 (by omega)]; exact hc 10 _ rfl, by rw [← gT _ _ 11 (by omega)]; exact hc 11 _ rfl, by rw [← gT _ _ 12 (by omega)]; exact hc 12 _ rfl, l3, g3, l12, g12⟩
def fe.f (a0_0 : Int) (a0_1 : Int) (a0_2 : Int) (l0_3 : List Int) (a0_4 : Int) (a0_5 : Int) (a0_6 : Int) (a0_7 : Int) (a0_8 : Int) (a0_9 : ByteArray) (a0_10 : Int) (a0_11 : Int) : Option (Int) := some (wrap64 ((wrap64 (1 + (l0_3.length : Int))) + (a0_9.size : Int)))
def eP.f (a0_0 : Int) (a0_1 : Int) (a0_2 : Int) (l0_3 : List Int) (a0_4 : Int) (a0_5 : Int) (a0_6 : Int) (a0_7 : Int) (a0_8 : Int) (a0_9 : ByteArray) (a0_10 : Int) (a0_11 : Int) (l0_12 : List Int) : Option (Bool) := (fe.f a0_0 a0_1 a0_2 l0_3 a0_4 a0_5 a0_6 a0_7 a0_8 a0_9 a0_10 a0_11).bind fun t103 => (if t103 > 2000 then (some true) else (some (decide ((l0_12.length : Int) > 3000))))
/-- A state of type 79 at block g of W; what its slices lead to came in by w0. -/
def bB (w0 W : World) (g : Nat) (f0 : List Int) (f1 : Int) (f2 : Int) : Prop := ∃ A0 c0, W.heap[g]? = some (.cells #[.slice A0 f0.length c0, .int .i64 f1, .int .i64 f2] 79 (0, 0)) ∧ w0.heap.size ≤ g ∧ Kd.C (Kd.int .u8) w0 A0 f0.length f0 ∧ f0.length ≤ c0
theorem bB.grown {w0 W : World} {g : Nat} {f0 : List Int} {f1 : Int} {f2 : Int} {W1 : World} {row : Option Nat} (h : bB w0 W g f0 f1 f2) (hw : W.grownBy W1 row) (hne : some g ≠ row) : bB w0 W1 g f0 f1 f2 := by
 obtain ⟨A0, c0, hb, hg, hr0, hk0⟩ := h
 exact ⟨A0, c0, gW hb hw hne, hg, hr0, hk0⟩
theorem bB.kept {w0 W : World} {g : Nat} {f0 : List Int} {f1 : Int} {f2 : Int} {W1 : World} {S : Nat → Prop} (h : bB w0 W g f0 f1 f2) (hk : Kept W W1 S) (hne : ¬ S g) : bB w0 W1 g f0 f1 f2 := by
 obtain ⟨A0, c0, hb, hg, hr0, hk0⟩ := h
 exact ⟨A0, c0, gM hb hk hne, hg, hr0, hk0⟩
theorem bB.below {w0 W : World} {g : Nat} {f0 : List Int} {f1 : Int} {f2 : Int} {W1 : World} (h : bB w0 W g f0 f1 f2) (hw : Below W.heap.size W W1) : bB w0 W1 g f0 f1 f2 := h.grown (grown_of_below hw none) (by simp)
theorem bB.alloc {w0 W : World} {g : Nat} {f0 : List Int} {f1 : Int} {f2 : Int} (h : bB w0 W g f0 f1 f2) (o : Obj) : bB w0 (W.alloc o) g f0 f1 f2 := h.below (bq (Below.refl _ _) o)
theorem bB.drewN {w0 W : World} {g : Nat} {f0 : List Int} {f1 : Int} {f2 : Int} (h : bB w0 W g f0 f1 f2) (m : Nat) : bB w0 (W.drewN m) g f0 f1 f2 := h
theorem bB.drew {w0 W : World} {g : Nat} {f0 : List Int} {f1 : Int} {f2 : Int} (h : bB w0 W g f0 f1 f2) : bB w0 W.drew g f0 f1 f2 := h
theorem bB.at_ {w0 W : World} {g : Nat} {f0 : List Int} {f1 : Int} {f2 : Int} {w' : World} {m : Nat} (hq : W.drewN m = w') (h : bB w0 W g f0 f1 f2) : bB w0 w' g f0 f1 f2 := by subst hq; exact bB.drewN h m
theorem bB.apart {w0 W : World} {g : Nat} {f0 : List Int} {f1 : Int} {f2 : Int} {α : Type} {d : Kd α} {e : Nat} {base : Nat} {ok : Nat → Prop} {v : Value} {xs : List α} (h : bB w0 W g f0 f1 f2) (ho : d.R e W base ok v xs) (ht : ∀ q, q ∈ e :: d.E → q ≠ 79) : d.R e W base (fun k => ok k ∧ k ≠ g) v xs := by
 obtain ⟨A0, c0, hb, hg, hr0, hk0⟩ := h
 exact Kd.ek ho hb ht
theorem bB.own_ne {w0 W : World} {g : Nat} {f0 : List Int} {f1 : Int} {f2 : Int} {α : Type} {d : Kd α} {e : Nat} {base : Nat} {ok : Nat → Prop} {v : Value} {xs : List α} (h : bB w0 W g f0 f1 f2) (ho : d.R e W base ok v xs) (ht : e ≠ 79) : some g ≠ v.ownBlock := by
 obtain ⟨A0, c0, hb, hg, hr0, hk0⟩ := h
 exact Kd.R_ne ho hb ht
theorem bB.lt {w0 W : World} {g : Nat} {f0 : List Int} {f1 : Int} {f2 : Int} (h : bB w0 W g f0 f1 f2) : g < W.heap.size := by
 obtain ⟨A0, c0, hb, hg, hr0, hk0⟩ := h
 exact gB hb
theorem bB.ge {w0 W : World} {g : Nat} {f0 : List Int} {f1 : Int} {f2 : Int} (h : bB w0 W g f0 f1 f2) : w0.heap.size ≤ g := by
 obtain ⟨A0, c0, hb, hg, hr0, hk0⟩ := h
 exact hg
theorem bB.far {w0 W : World} {g : Nat} {f0 : List Int} {f1 : Int} {f2 : Int} {p : Addr} (h : bB w0 W g f0 f1 f2) (hne : g ≠ p.block) (u : Value) : bB w0 (W.setCell p u) g f0 f1 f2 := by
 obtain ⟨A0, c0, hb, hg, hr0, hk0⟩ := h
 exact ⟨A0, c0, iI hb hne u, hg, hr0, hk0⟩
theorem iO {W : World} {g : Nat} {A0 : Option Addr} {c0 : Nat} {f0 : List Int} {f1 : Int} {f2 : Int} (h : W.heap[g]? = some (.cells #[.slice A0 f0.length c0, .int .i64 f1, .int .i64 f2] 79 (0, 0))) : W.cell? ⟨g, 0, none⟩ = some (.slice A0 f0.length c0) := (ag h 0).trans rfl
theorem iT {W : World} {g : Nat} {A0 : Option Addr} {c0 : Nat} {f0 : List Int} {f1 : Int} {f2 : Int} (h : W.heap[g]? = some (.cells #[.slice A0 f0.length c0, .int .i64 f1, .int .i64 f2] 79 (0, 0))) : W.cell? ⟨g, 1, none⟩ = some (.int .i64 f1) := (ag h 1).trans rfl
theorem bB.set_1 {w0 W : World} {g : Nat} {f0 : List Int} {f1 : Int} {f2 : Int} (h : bB w0 W g f0 f1 f2) (x : Int) : bB w0 (W.setCell ⟨g, 1, none⟩ (.int .i64 x)) g f0 x f2 := by
 obtain ⟨A0, c0, hb, hg, hr0, hk0⟩ := h
 exact ⟨A0, c0, by simpa using blk_set hb 1 (.int .i64 x), hg, hr0, hk0⟩
theorem iG {W : World} {g : Nat} {A0 : Option Addr} {c0 : Nat} {f0 : List Int} {f1 : Int} {f2 : Int} (h : W.heap[g]? = some (.cells #[.slice A0 f0.length c0, .int .i64 f1, .int .i64 f2] 79 (0, 0))) : W.cell? ⟨g, 2, none⟩ = some (.int .i64 f2) := (ag h 2).trans rfl
theorem bB.set_2 {w0 W : World} {g : Nat} {f0 : List Int} {f1 : Int} {f2 : Int} (h : bB w0 W g f0 f1 f2) (x : Int) : bB w0 (W.setCell ⟨g, 2, none⟩ (.int .i64 x)) g f0 f1 x := by
 obtain ⟨A0, c0, hb, hg, hr0, hk0⟩ := h
 exact ⟨A0, c0, by simpa using blk_set hb 2 (.int .i64 x), hg, hr0, hk0⟩
def bV.f (s0_0 : List Int) (s0_1 : Int) (s0_2 : Int) (a1 : Int) (a2 : Int) : Option (Int × Int) := if s0_2 = 0 then (some (wrap64 (s0_1 + a1), a2)) else (some (s0_1, s0_2))
mutual
def ah.l0 : Nat → List Int → Int → Int → Option (Int × Int × Int)
 | 0, _, _, _ => none
 | k + 1, x0, x2, x5 => if x5 = (x0.length : Int) then (some (0, 0, 7)) else (if 0 ≤ x5 then (if x5 < (x0.length : Int) then (if (rd x0 x5) ≥ 128 then (ah.j1 k x0 x2 x5 (x5 == 8)) else (ah.j1 k x0 x2 x5 false)) else (none)) else (none))
def ah.j1 : Nat → List Int → Int → Int → Bool → Option (Int × Int × Int)
 | 0, _, _, _, _ => none
 | k + 1, x0, x2, x5, x18 => if x18 = true then (some (0, 0, 1)) else (if 0 ≤ x5 then (if x5 < (x0.length : Int) then (if 0 ≤ (wrap64 (7 * x5)) then (if (rd x0 x5) ≥ 128 then (ah.l0 k x0 (Go.bits .or .i64 x2 (shl .i64 (wrap64 (Go.bits .and .u8 (rd x0 x5) 127)) (wrap64 (7 * x5)))) (wrap64 (x5 + 1))) else (if (rd x0 x5) = 0 then (if x5 > 0 then (ah.j2 k (Go.bits .or .i64 x2 (shl .i64 (wrap64 (Go.bits .and .u8 (rd x0 x5) 127)) (wrap64 (7 * x5)))) x5 true) else (ah.j2 k (Go.bits .or .i64 x2 (shl .i64 (wrap64 (Go.bits .and .u8 (rd x0 x5) 127)) (wrap64 (7 * x5)))) x5 (decide ((Go.bits .or .i64 x2 (shl .i64 (wrap64 (Go.bits .and .u8 (rd x0 x5) 127)) (wrap64 (7 * x5)))) > 4611686018427387904)))) else (ah.j2 k (Go.bits .or .i64 x2 (shl .i64 (wrap64 (Go.bits .and .u8 (rd x0 x5) 127)) (wrap64 (7 * x5)))) x5 (decide ((Go.bits .or .i64 x2 (shl .i64 (wrap64 (Go.bits .and .u8 (rd x0 x5) 127)) (wrap64 (7 * x5)))) > 4611686018427387904))))) else (none)) else (none)) else (none))
def ah.j2 : Nat → Int → Int → Bool → Option (Int × Int × Int)
 | 0, _, _, _ => none
 | k + 1, x2, x5, x49 => if x49 = true then (some (0, 0, 1)) else (some (x2, wrap64 (x5 + 1), 0))
end
def ah.f (k : Nat) (l0 : List Int) : Option (Int × Int × Int) := ah.l0 k l0 0 0
theorem ah.dC : ∀ k, (∀ y0 y1 y2, LeO (ah.l0 k y0 y1 y2) (ah.l0 (k + 1) y0 y1 y2)) ∧ (∀ y0 y1 y2 y3, LeO (ah.j1 k y0 y1 y2 y3) (ah.j1 (k + 1) y0 y1 y2 y3)) ∧ (∀ y0 y1 y2, LeO (ah.j2 k y0 y1 y2) (ah.j2 (k + 1) y0 y1 y2))
 | 0 => ⟨fun _ _ _ r h => by simp [ah.l0] at h, fun _ _ _ _ r h => by simp [ah.j1] at h, fun _ _ _ r h => by simp [ah.j2] at h⟩
 | k + 1 => by
  obtain ⟨ih0, ih1, ih2⟩ := ah.dC k
  refine ⟨?_, ?_, ?_⟩
  ·intro y0 y1 y2
   unfold ah.l0
   repeat' first
   | (with_reducible exact ih0 _ _ _)
   | (with_reducible exact ih1 _ _ _ _)
   | (with_reducible exact ih2 _ _ _)
   | (with_reducible exact LeO.refl _)
   | (with_reducible exact LeO.none _)
   | (with_reducible refine LeO.ite ?_ ?_)
   | (with_reducible refine LeO.bind ?_ (fun _ => ?_))
   | exact ih0 _ _ _
   | exact ih1 _ _ _ _
   | exact ih2 _ _ _
   | exact LeO.none _
   | refine LeO.ite ?_ ?_
   | refine LeO.bind ?_ (fun _ => ?_)
  ·intro y0 y1 y2 y3
   unfold ah.j1
   repeat' first
   | (with_reducible exact ih0 _ _ _)
   | (with_reducible exact ih1 _ _ _ _)
   | (with_reducible exact ih2 _ _ _)
   | (with_reducible exact LeO.refl _)
   | (with_reducible exact LeO.none _)
   | (with_reducible refine LeO.ite ?_ ?_)
   | (with_reducible refine LeO.bind ?_ (fun _ => ?_))
   | exact ih0 _ _ _
   | exact ih1 _ _ _ _
   | exact ih2 _ _ _
   | exact LeO.none _
   | refine LeO.ite ?_ ?_
   | refine LeO.bind ?_ (fun _ => ?_)
  ·intro y0 y1 y2
   unfold ah.j2
   repeat' first
   | (with_reducible exact ih0 _ _ _)
   | (with_reducible exact ih1 _ _ _ _)
   | (with_reducible exact ih2 _ _ _)
   | (with_reducible exact LeO.refl _)
   | (with_reducible exact LeO.none _)
   | (with_reducible refine LeO.ite ?_ ?_)
   | (with_reducible refine LeO.bind ?_ (fun _ => ?_))
   | exact ih0 _ _ _
   | exact ih1 _ _ _ _
   | exact ih2 _ _ _
   | exact LeO.none _
   | refine LeO.ite ?_ ?_
   | refine LeO.bind ?_ (fun _ => ?_)
theorem ah.mono : ∀ a0 k, LeO (ah.f k a0) (ah.f (k + 1) a0) := by
 intro a0 k
 obtain ⟨ih0, ih1, ih2⟩ := ah.dC k
 unfold ah.f
 repeat' first
   | (with_reducible exact ih0 _ _ _)
   | (with_reducible exact ih1 _ _ _ _)
   | (with_reducible exact ih2 _ _ _)
   | (with_reducible exact LeO.refl _)
   | (with_reducible exact LeO.none _)
   | (with_reducible refine LeO.ite ?_ ?_)
   | (with_reducible refine LeO.bind ?_ (fun _ => ?_))
   | exact ih0 _ _ _
   | exact ih1 _ _ _ _
   | exact ih2 _ _ _
   | exact LeO.none _
   | refine LeO.ite ?_ ?_
   | refine LeO.bind ?_ (fun _ => ?_)
noncomputable def ah.L0 (x0 : List Int) (x2 : Int) (x5 : Int) : Option (Int × Int × Int) := LB.lim (fun k => ah.l0 k x0 x2 x5)
noncomputable def ah.J1 (x0 : List Int) (x2 : Int) (x5 : Int) (x18 : Bool) : Option (Int × Int × Int) := LB.lim (fun k => ah.j1 k x0 x2 x5 x18)
noncomputable def ah.J2 (x2 : Int) (x5 : Int) (x49 : Bool) : Option (Int × Int × Int) := LB.lim (fun k => ah.j2 k x2 x5 x49)
theorem ah.dZ (x0 : List Int) (x2 : Int) (x5 : Int) : LB.Lim (fun k => ah.l0 k x0 x2 x5) (ah.L0 x0 x2 x5) := LB.bT (fun k => (ah.dC k).1 x0 x2 x5)
theorem ah.gD (x0 : List Int) (x2 : Int) (x5 : Int) (x18 : Bool) : LB.Lim (fun k => ah.j1 k x0 x2 x5 x18) (ah.J1 x0 x2 x5 x18) := LB.bT (fun k => (ah.dC k).2.1 x0 x2 x5 x18)
theorem ah.gY (x2 : Int) (x5 : Int) (x49 : Bool) : LB.Lim (fun k => ah.j2 k x2 x5 x49) (ah.J2 x2 x5 x49) := LB.bT (fun k => (ah.dC k).2.2 x2 x5 x49)
theorem ah.iX (x0 : List Int) (x2 : Int) (x5 : Int) : ah.L0 x0 x2 x5 = (if x5 = (x0.length : Int) then (some (0, 0, 7)) else (if 0 ≤ x5 then (if x5 < (x0.length : Int) then (if (rd x0 x5) ≥ 128 then (ah.J1 x0 x2 x5 (x5 == 8)) else (ah.J1 x0 x2 x5 false)) else (none)) else (none))) := by
  refine LB.Lim.unique (ah.dZ x0 x2 x5).shift ?_
  simp only [ah.l0]
  (repeat' (first | exact LB.Lim.const _ | exact ah.dZ _ _ _ | exact ah.gD _ _ _ _ | exact ah.gY _ _ _ | refine LB.Lim.ite ?_ ?_ | refine LB.Lim.bind ?_ (fun _ => ?_)))
theorem ah.J1_eq (x0 : List Int) (x2 : Int) (x5 : Int) (x18 : Bool) : ah.J1 x0 x2 x5 x18 = (if x18 = true then (some (0, 0, 1)) else (if 0 ≤ x5 then (if x5 < (x0.length : Int) then (if 0 ≤ (wrap64 (7 * x5)) then (if (rd x0 x5) ≥ 128 then (ah.L0 x0 (Go.bits .or .i64 x2 (shl .i64 (wrap64 (Go.bits .and .u8 (rd x0 x5) 127)) (wrap64 (7 * x5)))) (wrap64 (x5 + 1))) else (if (rd x0 x5) = 0 then (if x5 > 0 then (ah.J2 (Go.bits .or .i64 x2 (shl .i64 (wrap64 (Go.bits .and .u8 (rd x0 x5) 127)) (wrap64 (7 * x5)))) x5 true) else (ah.J2 (Go.bits .or .i64 x2 (shl .i64 (wrap64 (Go.bits .and .u8 (rd x0 x5) 127)) (wrap64 (7 * x5)))) x5 (decide ((Go.bits .or .i64 x2 (shl .i64 (wrap64 (Go.bits .and .u8 (rd x0 x5) 127)) (wrap64 (7 * x5)))) > 4611686018427387904)))) else (ah.J2 (Go.bits .or .i64 x2 (shl .i64 (wrap64 (Go.bits .and .u8 (rd x0 x5) 127)) (wrap64 (7 * x5)))) x5 (decide ((Go.bits .or .i64 x2 (shl .i64 (wrap64 (Go.bits .and .u8 (rd x0 x5) 127)) (wrap64 (7 * x5)))) > 4611686018427387904))))) else (none)) else (none)) else (none))) := by
  refine LB.Lim.unique (ah.gD x0 x2 x5 x18).shift ?_
  simp only [ah.j1]
  (repeat' (first | exact LB.Lim.const _ | exact ah.dZ _ _ _ | exact ah.gD _ _ _ _ | exact ah.gY _ _ _ | refine LB.Lim.ite ?_ ?_ | refine LB.Lim.bind ?_ (fun _ => ?_)))
theorem ah.J2_eq (x2 : Int) (x5 : Int) (x49 : Bool) : ah.J2 x2 x5 x49 = (if x49 = true then (some (0, 0, 1)) else (some (x2, wrap64 (x5 + 1), 0))) := by
  refine LB.Lim.unique (ah.gY x2 x5 x49).shift ?_
  simp only [ah.j2]
  (repeat' (first | exact LB.Lim.const _ | exact ah.dZ _ _ _ | exact ah.gD _ _ _ _ | exact ah.gY _ _ _ | refine LB.Lim.ite ?_ ?_ | refine LB.Lim.bind ?_ (fun _ => ?_)))
noncomputable def ah.F (l0 : List Int) : Option (Int × Int × Int) := LB.lim (fun k => ah.f k l0)
theorem ah.bS (l0 : List Int) : LB.Lim (fun k => ah.f k l0) (ah.F l0) := LB.bT (ah.mono l0)
theorem ah.gU (l0 : List Int) : ah.F l0 = (ah.L0 l0 0 0) := by
  refine LB.Lim.unique (ah.bS l0) ?_
  simp only [ah.f]
  (repeat' (first | exact LB.Lim.const _ | exact ah.dZ _ _ _ | exact ah.gD _ _ _ _ | exact ah.gY _ _ _ | refine LB.Lim.ite ?_ ?_ | refine LB.Lim.bind ?_ (fun _ => ?_)))
def fq.f (a0_0 : Int) (a0_1 : Int) : Option (Bool) := if a0_0 ≥ 1 then (if a0_0 ≤ 1099511627776 then (if a0_1 ≥ 0 then (some (decide (a0_1 < 16))) else (some false)) else (some false)) else (some false)
def fB.f  : Option (Int × Int) := some (0, 0)
def iJ.f  : Option (Int × Int) := some (0, 1)
def dB.f (a0_0 : Int) (a0_1 : Int) : Option (Bool) := (fq.f a0_0 a0_1).bind fun t116 => (if t116 = true then (some true) else ((fB.f).bind fun bt117 => (if (a0_0 == bt117.1 && (a0_1 == bt117.2)) = true then (some true) else ((iJ.f).bind fun bt119 => (some (a0_0 == bt119.1 && (a0_1 == bt119.2)))))))
def dR.f (k : Nat) (l0 : List Int) : Option (Int × Int × Int × Int) := (ah.f k l0).bind fun bt122 => (if bt122.2.2 = 0 then (if 0 ≤ bt122.2.1 then (if bt122.2.1 ≤ (l0.length : Int) then ((ah.f k (l0.drop (bt122.2.1 : Int).toNat)).bind fun bt126 => (if bt126.2.2 = 0 then ((dB.f bt122.1 bt126.1).bind fun t129 => (if t129 = true then (some (bt122.1, bt126.1, wrap64 (bt122.2.1 + bt126.2.1), 0)) else (some (0, 0, 0, 1)))) else (some (0, 0, 0, bt126.2.2)))) else (none)) else (none)) else (some (0, 0, 0, bt122.2.2)))
theorem dR.mono : ∀ a0 k, LeO (dR.f k a0) (dR.f (k + 1) a0) := by
 intro a0 k
 unfold dR.f
 repeat' first
   | (with_reducible exact ah.mono _ _)
   | (with_reducible exact LeO.refl _)
   | (with_reducible exact LeO.none _)
   | (with_reducible refine LeO.ite ?_ ?_)
   | (with_reducible refine LeO.bind ?_ (fun _ => ?_))
   | exact ah.mono _ _
   | exact LeO.none _
   | refine LeO.ite ?_ ?_
   | refine LeO.bind ?_ (fun _ => ?_)
noncomputable def dR.F (l0 : List Int) : Option (Int × Int × Int × Int) := LB.lim (fun k => dR.f k l0)
theorem dR.bS (l0 : List Int) : LB.Lim (fun k => dR.f k l0) (dR.F l0) := LB.bT (dR.mono l0)
theorem dR.gU (l0 : List Int) : dR.F l0 = ((ah.F l0).bind fun bt122 => (if bt122.2.2 = 0 then (if 0 ≤ bt122.2.1 then (if bt122.2.1 ≤ (l0.length : Int) then ((ah.F (l0.drop (bt122.2.1 : Int).toNat)).bind fun bt126 => (if bt126.2.2 = 0 then ((dB.f bt122.1 bt126.1).bind fun t129 => (if t129 = true then (some (bt122.1, bt126.1, wrap64 (bt122.2.1 + bt126.2.1), 0)) else (some (0, 0, 0, 1)))) else (some (0, 0, 0, bt126.2.2)))) else (none)) else (none)) else (some (0, 0, 0, bt122.2.2)))) := by
  refine LB.Lim.unique (dR.bS l0) ?_
  simp only [dR.f]
  (repeat' (first | exact LB.Lim.const _ | exact ah.bS _ | refine LB.Lim.ite ?_ ?_ | refine LB.Lim.bind ?_ (fun _ => ?_)))
def bA.f (k : Nat) (s0_0 : List Int) (s0_1 : Int) (s0_2 : Int) : Option (Int × Int × Int × Int) := if 0 ≤ s0_1 then (if s0_1 ≤ (s0_0.length : Int) then ((dR.f k (s0_0.drop (s0_1 : Int).toNat)).bind fun bt132 => ((bV.f s0_0 s0_1 s0_2 bt132.2.2.1 bt132.2.2.2).bind fun bt137 => (some (bt132.1, bt132.2.1, bt137.1, bt137.2)))) else (none)) else (none)
theorem bA.mono : ∀ a0 a1 a2 k, LeO (bA.f k a0 a1 a2) (bA.f (k + 1) a0 a1 a2) := by
 intro a0 a1 a2 k
 unfold bA.f
 repeat' first
   | (with_reducible exact dR.mono _ _)
   | (with_reducible exact LeO.refl _)
   | (with_reducible exact LeO.none _)
   | (with_reducible refine LeO.ite ?_ ?_)
   | (with_reducible refine LeO.bind ?_ (fun _ => ?_))
   | exact dR.mono _ _
   | exact LeO.none _
   | refine LeO.ite ?_ ?_
   | refine LeO.bind ?_ (fun _ => ?_)
noncomputable def bA.F (s0_0 : List Int) (s0_1 : Int) (s0_2 : Int) : Option (Int × Int × Int × Int) := LB.lim (fun k => bA.f k s0_0 s0_1 s0_2)
theorem bA.bS (s0_0 : List Int) (s0_1 : Int) (s0_2 : Int) : LB.Lim (fun k => bA.f k s0_0 s0_1 s0_2) (bA.F s0_0 s0_1 s0_2) := LB.bT (bA.mono s0_0 s0_1 s0_2)
theorem bA.gU (s0_0 : List Int) (s0_1 : Int) (s0_2 : Int) : bA.F s0_0 s0_1 s0_2 = (if 0 ≤ s0_1 then (if s0_1 ≤ (s0_0.length : Int) then ((dR.F (s0_0.drop (s0_1 : Int).toNat)).bind fun bt132 => ((bV.f s0_0 s0_1 s0_2 bt132.2.2.1 bt132.2.2.2).bind fun bt137 => (some (bt132.1, bt132.2.1, bt137.1, bt137.2)))) else (none)) else (none)) := by
  refine LB.Lim.unique (bA.bS s0_0 s0_1 s0_2) ?_
  simp only [bA.f]
  (repeat' (first | exact LB.Lim.const _ | exact dR.bS _ | refine LB.Lim.ite ?_ ?_ | refine LB.Lim.bind ?_ (fun _ => ?_)))
def dn.l0 : Nat → List Int → Int → Option (Bool)
 | 0, _, _ => none
 | k + 1, x0, x3 => if x3 = (x0.length : Int) then (if x3 ≥ 1 then (some (decide (x3 ≤ 16))) else (some false)) else (if 0 ≤ x3 then (if x3 < (x0.length : Int) then (if (rd x0 x3) ≥ 0 then (if (rd x0 x3) ≤ 1099511627776 then (dn.l0 k x0 (wrap64 (x3 + 1))) else (some false)) else (some false)) else (none)) else (none))
def dn.f (k : Nat) (l0 : List Int) : Option (Bool) := dn.l0 k l0 0
theorem dn.dC : ∀ k, (∀ y0 y1, LeO (dn.l0 k y0 y1) (dn.l0 (k + 1) y0 y1))
 | 0 => fun _ _ r h => by simp [dn.l0] at h
 | k + 1 => by
  have ih0 := dn.dC k
  ·intro y0 y1
   unfold dn.l0
   repeat' first
   | (with_reducible exact ih0 _ _)
   | (with_reducible exact LeO.refl _)
   | (with_reducible exact LeO.none _)
   | (with_reducible refine LeO.ite ?_ ?_)
   | (with_reducible refine LeO.bind ?_ (fun _ => ?_))
   | exact ih0 _ _
   | exact LeO.none _
   | refine LeO.ite ?_ ?_
   | refine LeO.bind ?_ (fun _ => ?_)
theorem dn.mono : ∀ a0 k, LeO (dn.f k a0) (dn.f (k + 1) a0) := by
 intro a0 k
 have ih0 := dn.dC k
 unfold dn.f
 repeat' first
   | (with_reducible exact ih0 _ _)
   | (with_reducible exact LeO.refl _)
   | (with_reducible exact LeO.none _)
   | (with_reducible refine LeO.ite ?_ ?_)
   | (with_reducible refine LeO.bind ?_ (fun _ => ?_))
   | exact ih0 _ _
   | exact LeO.none _
   | refine LeO.ite ?_ ?_
   | refine LeO.bind ?_ (fun _ => ?_)
noncomputable def dn.L0 (x0 : List Int) (x3 : Int) : Option (Bool) := LB.lim (fun k => dn.l0 k x0 x3)
theorem dn.dZ (x0 : List Int) (x3 : Int) : LB.Lim (fun k => dn.l0 k x0 x3) (dn.L0 x0 x3) := LB.bT (fun k => (dn.dC k) x0 x3)
theorem dn.iX (x0 : List Int) (x3 : Int) : dn.L0 x0 x3 = (if x3 = (x0.length : Int) then (if x3 ≥ 1 then (some (decide (x3 ≤ 16))) else (some false)) else (if 0 ≤ x3 then (if x3 < (x0.length : Int) then (if (rd x0 x3) ≥ 0 then (if (rd x0 x3) ≤ 1099511627776 then (dn.L0 x0 (wrap64 (x3 + 1))) else (some false)) else (some false)) else (none)) else (none))) := by
  refine LB.Lim.unique (dn.dZ x0 x3).shift ?_
  simp only [dn.l0]
  (repeat' (first | exact LB.Lim.const _ | exact dn.dZ _ _ | refine LB.Lim.ite ?_ ?_ | refine LB.Lim.bind ?_ (fun _ => ?_)))
noncomputable def dn.F (l0 : List Int) : Option (Bool) := LB.lim (fun k => dn.f k l0)
theorem dn.bS (l0 : List Int) : LB.Lim (fun k => dn.f k l0) (dn.F l0) := LB.bT (dn.mono l0)
theorem dn.gU (l0 : List Int) : dn.F l0 = (dn.L0 l0 0) := by
  refine LB.Lim.unique (dn.bS l0) ?_
  simp only [dn.f]
  (repeat' (first | exact LB.Lim.const _ | exact dn.dZ _ _ | refine LB.Lim.ite ?_ ?_ | refine LB.Lim.bind ?_ (fun _ => ?_)))
def bv.l0 : Nat → List Int → List Int → Int → Int → Int → Option (List Int × Int × Int)
 | 0, _, _, _, _, _ => none
 | k + 1, x0, x2, x3, x20, x21 => if x21 < x20 then (if 0 ≤ x3 then (if x3 ≤ (x0.length : Int) then ((ah.f k (x0.drop (x3 : Int).toNat)).bind fun bt145 => (if bt145.2.2 = 0 then (if x2.length < 17592186044416 then (bv.l0 k x0 (x2 ++ [bt145.1]) (wrap64 (x3 + bt145.2.1)) x20 (wrap64 (x21 + 1))) else (none)) else (some (([] : List Int), 0, bt145.2.2)))) else (none)) else (none)) else (some (x2, x3, 0))
def bv.f (k : Nat) (l0 : List Int) : Option (List Int × Int × Int) := (ah.f k l0).bind fun bt141 => (if bt141.2.2 = 0 then (if bt141.1 > 1024 then (some (([] : List Int), 0, 1)) else (bv.l0 k l0 ([] : List Int) bt141.2.1 bt141.1 0)) else (some (([] : List Int), 0, bt141.2.2)))
theorem bv.dC : ∀ k, (∀ y0 y1 y2 y3 y4, LeO (bv.l0 k y0 y1 y2 y3 y4) (bv.l0 (k + 1) y0 y1 y2 y3 y4))
 | 0 => fun _ _ _ _ _ r h => by simp [bv.l0] at h
 | k + 1 => by
  have ih0 := bv.dC k
  ·intro y0 y1 y2 y3 y4
   unfold bv.l0
   repeat' first
   | (with_reducible exact ih0 _ _ _ _ _)
   | (with_reducible exact ah.mono _ _)
   | (with_reducible exact LeO.refl _)
   | (with_reducible exact LeO.none _)
   | (with_reducible refine LeO.ite ?_ ?_)
   | (with_reducible refine LeO.bind ?_ (fun _ => ?_))
   | exact ih0 _ _ _ _ _
   | exact ah.mono _ _
   | exact LeO.none _
   | refine LeO.ite ?_ ?_
   | refine LeO.bind ?_ (fun _ => ?_)
theorem bv.mono : ∀ a0 k, LeO (bv.f k a0) (bv.f (k + 1) a0) := by
 intro a0 k
 have ih0 := bv.dC k
 unfold bv.f
 repeat' first
   | (with_reducible exact ih0 _ _ _ _ _)
   | (with_reducible exact ah.mono _ _)
   | (with_reducible exact LeO.refl _)
   | (with_reducible exact LeO.none _)
   | (with_reducible refine LeO.ite ?_ ?_)
   | (with_reducible refine LeO.bind ?_ (fun _ => ?_))
   | exact ih0 _ _ _ _ _
   | exact ah.mono _ _
   | exact LeO.none _
   | refine LeO.ite ?_ ?_
   | refine LeO.bind ?_ (fun _ => ?_)
noncomputable def bv.L0 (x0 : List Int) (x2 : List Int) (x3 : Int) (x20 : Int) (x21 : Int) : Option (List Int × Int × Int) := LB.lim (fun k => bv.l0 k x0 x2 x3 x20 x21)
theorem bv.dZ (x0 : List Int) (x2 : List Int) (x3 : Int) (x20 : Int) (x21 : Int) : LB.Lim (fun k => bv.l0 k x0 x2 x3 x20 x21) (bv.L0 x0 x2 x3 x20 x21) := LB.bT (fun k => (bv.dC k) x0 x2 x3 x20 x21)
theorem bv.iX (x0 : List Int) (x2 : List Int) (x3 : Int) (x20 : Int) (x21 : Int) : bv.L0 x0 x2 x3 x20 x21 = (if x21 < x20 then (if 0 ≤ x3 then (if x3 ≤ (x0.length : Int) then ((ah.F (x0.drop (x3 : Int).toNat)).bind fun bt145 => (if bt145.2.2 = 0 then (if x2.length < 17592186044416 then (bv.L0 x0 (x2 ++ [bt145.1]) (wrap64 (x3 + bt145.2.1)) x20 (wrap64 (x21 + 1))) else (none)) else (some (([] : List Int), 0, bt145.2.2)))) else (none)) else (none)) else (some (x2, x3, 0))) := by
  refine LB.Lim.unique (bv.dZ x0 x2 x3 x20 x21).shift ?_
  simp only [bv.l0]
  (repeat' (first | exact LB.Lim.const _ | exact bv.dZ _ _ _ _ _ | exact ah.bS _ | refine LB.Lim.ite ?_ ?_ | refine LB.Lim.bind ?_ (fun _ => ?_)))
noncomputable def bv.F (l0 : List Int) : Option (List Int × Int × Int) := LB.lim (fun k => bv.f k l0)
theorem bv.bS (l0 : List Int) : LB.Lim (fun k => bv.f k l0) (bv.F l0) := LB.bT (bv.mono l0)
theorem bv.gU (l0 : List Int) : bv.F l0 = ((ah.F l0).bind fun bt141 => (if bt141.2.2 = 0 then (if bt141.1 > 1024 then (some (([] : List Int), 0, 1)) else (bv.L0 l0 ([] : List Int) bt141.2.1 bt141.1 0)) else (some (([] : List Int), 0, bt141.2.2)))) := by
  refine LB.Lim.unique (bv.bS l0) ?_
  simp only [bv.f]
  (repeat' (first | exact LB.Lim.const _ | exact bv.dZ _ _ _ _ _ | exact ah.bS _ | refine LB.Lim.ite ?_ ?_ | refine LB.Lim.bind ?_ (fun _ => ?_)))
def dP.f (k : Nat) (l0 : List Int) : Option (List Int × Int × Int) := (bv.f k l0).bind fun bt151 => (if bt151.2.2 = 0 then ((dn.f k bt151.1).bind fun t156 => (if t156 = true then (some (bt151.1, bt151.2.1, 0)) else (some (([] : List Int), 0, 1)))) else (some (([] : List Int), 0, bt151.2.2)))
theorem dP.mono : ∀ a0 k, LeO (dP.f k a0) (dP.f (k + 1) a0) := by
 intro a0 k
 unfold dP.f
 repeat' first
   | (with_reducible exact bv.mono _ _)
   | (with_reducible exact dn.mono _ _)
   | (with_reducible exact LeO.refl _)
   | (with_reducible exact LeO.none _)
   | (with_reducible refine LeO.ite ?_ ?_)
   | (with_reducible refine LeO.bind ?_ (fun _ => ?_))
   | exact bv.mono _ _
   | exact dn.mono _ _
   | exact LeO.none _
   | refine LeO.ite ?_ ?_
   | refine LeO.bind ?_ (fun _ => ?_)
noncomputable def dP.F (l0 : List Int) : Option (List Int × Int × Int) := LB.lim (fun k => dP.f k l0)
theorem dP.bS (l0 : List Int) : LB.Lim (fun k => dP.f k l0) (dP.F l0) := LB.bT (dP.mono l0)
theorem dP.gU (l0 : List Int) : dP.F l0 = ((bv.F l0).bind fun bt151 => (if bt151.2.2 = 0 then ((dn.F bt151.1).bind fun t156 => (if t156 = true then (some (bt151.1, bt151.2.1, 0)) else (some (([] : List Int), 0, 1)))) else (some (([] : List Int), 0, bt151.2.2)))) := by
  refine LB.Lim.unique (dP.bS l0) ?_
  simp only [dP.f]
  (repeat' (first | exact LB.Lim.const _ | exact bv.bS _ | exact dn.bS _ | refine LB.Lim.ite ?_ ?_ | refine LB.Lim.bind ?_ (fun _ => ?_)))
def bE.f (k : Nat) (s0_0 : List Int) (s0_1 : Int) (s0_2 : Int) : Option (Int × Int × Int) := if 0 ≤ s0_1 then (if s0_1 ≤ (s0_0.length : Int) then ((ah.f k (s0_0.drop (s0_1 : Int).toNat)).bind fun bt158 => ((bV.f s0_0 s0_1 s0_2 bt158.2.1 bt158.2.2).bind fun bt161 => (some (bt158.1, bt161.1, bt161.2)))) else (none)) else (none)
theorem bE.mono : ∀ a0 a1 a2 k, LeO (bE.f k a0 a1 a2) (bE.f (k + 1) a0 a1 a2) := by
 intro a0 a1 a2 k
 unfold bE.f
 repeat' first
   | (with_reducible exact ah.mono _ _)
   | (with_reducible exact LeO.refl _)
   | (with_reducible exact LeO.none _)
   | (with_reducible refine LeO.ite ?_ ?_)
   | (with_reducible refine LeO.bind ?_ (fun _ => ?_))
   | exact ah.mono _ _
   | exact LeO.none _
   | refine LeO.ite ?_ ?_
   | refine LeO.bind ?_ (fun _ => ?_)
noncomputable def bE.F (s0_0 : List Int) (s0_1 : Int) (s0_2 : Int) : Option (Int × Int × Int) := LB.lim (fun k => bE.f k s0_0 s0_1 s0_2)
theorem bE.bS (s0_0 : List Int) (s0_1 : Int) (s0_2 : Int) : LB.Lim (fun k => bE.f k s0_0 s0_1 s0_2) (bE.F s0_0 s0_1 s0_2) := LB.bT (bE.mono s0_0 s0_1 s0_2)
theorem bE.gU (s0_0 : List Int) (s0_1 : Int) (s0_2 : Int) : bE.F s0_0 s0_1 s0_2 = (if 0 ≤ s0_1 then (if s0_1 ≤ (s0_0.length : Int) then ((ah.F (s0_0.drop (s0_1 : Int).toNat)).bind fun bt158 => ((bV.f s0_0 s0_1 s0_2 bt158.2.1 bt158.2.2).bind fun bt161 => (some (bt158.1, bt161.1, bt161.2)))) else (none)) else (none)) := by
  refine LB.Lim.unique (bE.bS s0_0 s0_1 s0_2) ?_
  simp only [bE.f]
  (repeat' (first | exact LB.Lim.const _ | exact ah.bS _ | refine LB.Lim.ite ?_ ?_ | refine LB.Lim.bind ?_ (fun _ => ?_)))
def bX.f (k : Nat) (l0 : List Int) : Option (ByteArray × Int × Int) := (ah.f k l0).bind fun bt163 => (if bt163.2.2 = 0 then (if bt163.1 > 65536 then (some ((⟨#[]⟩ : ByteArray), 0, 1)) else (if bt163.1 > (wrap64 ((l0.length : Int) - bt163.2.1)) then (some ((⟨#[]⟩ : ByteArray), 0, 7)) else (if 0 ≤ bt163.2.1 then (if bt163.2.1 ≤ (wrap64 (bt163.2.1 + bt163.1)) then (if (wrap64 (bt163.2.1 + bt163.1)) ≤ (l0.length : Int) then (some (strOfNums ((l0.take ((wrap64 (bt163.2.1 + bt163.1)) : Int).toNat).drop (bt163.2.1 : Int).toNat), wrap64 (bt163.2.1 + bt163.1), 0)) else (none)) else (none)) else (none)))) else (some ((⟨#[]⟩ : ByteArray), 0, bt163.2.2)))
theorem bX.mono : ∀ a0 k, LeO (bX.f k a0) (bX.f (k + 1) a0) := by
 intro a0 k
 unfold bX.f
 repeat' first
   | (with_reducible exact ah.mono _ _)
   | (with_reducible exact LeO.refl _)
   | (with_reducible exact LeO.none _)
   | (with_reducible refine LeO.ite ?_ ?_)
   | (with_reducible refine LeO.bind ?_ (fun _ => ?_))
   | exact ah.mono _ _
   | exact LeO.none _
   | refine LeO.ite ?_ ?_
   | refine LeO.bind ?_ (fun _ => ?_)
noncomputable def bX.F (l0 : List Int) : Option (ByteArray × Int × Int) := LB.lim (fun k => bX.f k l0)
theorem bX.bS (l0 : List Int) : LB.Lim (fun k => bX.f k l0) (bX.F l0) := LB.bT (bX.mono l0)
theorem bX.gU (l0 : List Int) : bX.F l0 = ((ah.F l0).bind fun bt163 => (if bt163.2.2 = 0 then (if bt163.1 > 65536 then (some ((⟨#[]⟩ : ByteArray), 0, 1)) else (if bt163.1 > (wrap64 ((l0.length : Int) - bt163.2.1)) then (some ((⟨#[]⟩ : ByteArray), 0, 7)) else (if 0 ≤ bt163.2.1 then (if bt163.2.1 ≤ (wrap64 (bt163.2.1 + bt163.1)) then (if (wrap64 (bt163.2.1 + bt163.1)) ≤ (l0.length : Int) then (some (strOfNums ((l0.take ((wrap64 (bt163.2.1 + bt163.1)) : Int).toNat).drop (bt163.2.1 : Int).toNat), wrap64 (bt163.2.1 + bt163.1), 0)) else (none)) else (none)) else (none)))) else (some ((⟨#[]⟩ : ByteArray), 0, bt163.2.2)))) := by
  refine LB.Lim.unique (bX.bS l0) ?_
  simp only [bX.f]
  (repeat' (first | exact LB.Lim.const _ | exact ah.bS _ | refine LB.Lim.ite ?_ ?_ | refine LB.Lim.bind ?_ (fun _ => ?_)))
mutual
def az.j0 : Nat → Bool → List Int → Int → Int → Int → Int → Int → List Int → Int → Int → Int → Int → Int → ByteArray → Int → Int → Option (Int × Int × Int × List Int × Int × Int × Int × Int × Int × ByteArray × Int × Int × Int × Int)
 | 0, _, _, _, _, _, _, _, _, _, _, _, _, _, _, _, _ => none
 | k + 1, x42, x1000, x1001, x1002, fA, fu, fC, fw, eZ, gu, gm, fI, fO, fK, fM, fJ => if x42 = true then ((bV.f x1000 x1001 x1002 0 1).bind fun bt183 => (az.j1 k x1000 bt183.1 bt183.2 fA fu fC fw eZ gu gm fI fO fK fM fJ)) else (az.j1 k x1000 x1001 x1002 fA fu fC fw eZ gu gm fI fO fK fM fJ)
def az.j1 : Nat → List Int → Int → Int → Int → Int → Int → List Int → Int → Int → Int → Int → Int → ByteArray → Int → Int → Option (Int × Int × Int × List Int × Int × Int × Int × Int × Int × ByteArray × Int × Int × Int × Int)
 | 0, _, _, _, _, _, _, _, _, _, _, _, _, _, _, _ => none
 | k + 1, x1000, x1001, x1002, fA, fu, fC, fw, eZ, gu, gm, fI, fO, fK, fM, fJ => (bA.f k x1000 x1001 x1002).bind fun bt185 => (if eZ = 1 then ((bA.f k x1000 bt185.2.2.1 bt185.2.2.2).bind fun bt189 => (if 0 ≤ bt189.2.2.1 then (if bt189.2.2.1 ≤ (x1000.length : Int) then ((bX.f k (x1000.drop (bt189.2.2.1 : Int).toNat)).bind fun bt194 => ((bV.f x1000 bt189.2.2.1 bt189.2.2.2 bt194.2.1 bt194.2.2).bind fun bt197 => (some (fA, fu, fC, fw, eZ, bt185.1, bt185.2.1, bt189.1, bt189.2.1, bt194.1, fM, fJ, bt197.1, bt197.2)))) else (none)) else (none))) else ((bE.f k x1000 bt185.2.2.1 bt185.2.2.2).bind fun bt199 => ((bE.f k x1000 bt199.2.1 bt199.2.2).bind fun bt202 => (some (fA, fu, fC, fw, eZ, bt185.1, bt185.2.1, fI, fO, fK, bt199.1, wrap64 (bt202.1 - 1), bt202.2.1, bt202.2.2)))))
end
def az.f (k : Nat) (s0_0 : List Int) (s0_1 : Int) (s0_2 : Int) : Option (Int × Int × Int × List Int × Int × Int × Int × Int × Int × ByteArray × Int × Int × Int × Int) := (bA.f k s0_0 s0_1 s0_2).bind fun bt168 => (if 0 ≤ bt168.2.2.1 then (if bt168.2.2.1 ≤ (s0_0.length : Int) then ((dP.f k (s0_0.drop (bt168.2.2.1 : Int).toNat)).bind fun bt173 => ((bV.f s0_0 bt168.2.2.1 bt168.2.2.2 bt173.2.1 bt173.2.2).bind fun bt178 => ((bE.f k s0_0 bt178.1 bt178.2).bind fun bt180 => (if bt180.1 = 1 then (az.j0 k false s0_0 bt180.2.1 bt180.2.2 bt168.1 bt168.2.1 0 bt173.1 bt180.1 0 0 0 0 (⟨#[]⟩ : ByteArray) 0 0) else (az.j0 k (bt180.1 != 2) s0_0 bt180.2.1 bt180.2.2 bt168.1 bt168.2.1 0 bt173.1 bt180.1 0 0 0 0 (⟨#[]⟩ : ByteArray) 0 0))))) else (none)) else (none))
theorem az.dC : ∀ k, (∀ y0 y1 y2 y3 y4 y5 y6 y7 y8 y9 y10 y11 y12 y13 y14 y15, LeO (az.j0 k y0 y1 y2 y3 y4 y5 y6 y7 y8 y9 y10 y11 y12 y13 y14 y15) (az.j0 (k + 1) y0 y1 y2 y3 y4 y5 y6 y7 y8 y9 y10 y11 y12 y13 y14 y15)) ∧ (∀ y0 y1 y2 y3 y4 y5 y6 y7 y8 y9 y10 y11 y12 y13 y14, LeO (az.j1 k y0 y1 y2 y3 y4 y5 y6 y7 y8 y9 y10 y11 y12 y13 y14) (az.j1 (k + 1) y0 y1 y2 y3 y4 y5 y6 y7 y8 y9 y10 y11 y12 y13 y14))
 | 0 => ⟨fun _ _ _ _ _ _ _ _ _ _ _ _ _ _ _ _ r h => by simp [az.j0] at h, fun _ _ _ _ _ _ _ _ _ _ _ _ _ _ _ r h => by simp [az.j1] at h⟩
 | k + 1 => by
  obtain ⟨ih0, ih1⟩ := az.dC k
  refine ⟨?_, ?_⟩
  ·intro y0 y1 y2 y3 y4 y5 y6 y7 y8 y9 y10 y11 y12 y13 y14 y15
   unfold az.j0
   repeat' first
   | (with_reducible exact ih0 _ _ _ _ _ _ _ _ _ _ _ _ _ _ _ _)
   | (with_reducible exact ih1 _ _ _ _ _ _ _ _ _ _ _ _ _ _ _)
   | (with_reducible exact bX.mono _ _)
   | (with_reducible exact dP.mono _ _)
   | (with_reducible exact bE.mono _ _ _ _)
   | (with_reducible exact bA.mono _ _ _ _)
   | (with_reducible exact LeO.refl _)
   | (with_reducible exact LeO.none _)
   | (with_reducible refine LeO.ite ?_ ?_)
   | (with_reducible refine LeO.bind ?_ (fun _ => ?_))
   | exact ih0 _ _ _ _ _ _ _ _ _ _ _ _ _ _ _ _
   | exact ih1 _ _ _ _ _ _ _ _ _ _ _ _ _ _ _
   | exact bX.mono _ _
   | exact dP.mono _ _
   | exact bE.mono _ _ _ _
   | exact bA.mono _ _ _ _
   | exact LeO.none _
   | refine LeO.ite ?_ ?_
   | refine LeO.bind ?_ (fun _ => ?_)
  ·intro y0 y1 y2 y3 y4 y5 y6 y7 y8 y9 y10 y11 y12 y13 y14
   unfold az.j1
   repeat' first
   | (with_reducible exact ih0 _ _ _ _ _ _ _ _ _ _ _ _ _ _ _ _)
   | (with_reducible exact ih1 _ _ _ _ _ _ _ _ _ _ _ _ _ _ _)
   | (with_reducible exact bX.mono _ _)
   | (with_reducible exact dP.mono _ _)
   | (with_reducible exact bE.mono _ _ _ _)
   | (with_reducible exact bA.mono _ _ _ _)
   | (with_reducible exact LeO.refl _)
   | (with_reducible exact LeO.none _)
   | (with_reducible refine LeO.ite ?_ ?_)
   | (with_reducible refine LeO.bind ?_ (fun _ => ?_))
   | exact ih0 _ _ _ _ _ _ _ _ _ _ _ _ _ _ _ _
   | exact ih1 _ _ _ _ _ _ _ _ _ _ _ _ _ _ _
   | exact bX.mono _ _
   | exact dP.mono _ _
   | exact bE.mono _ _ _ _
   | exact bA.mono _ _ _ _
   | exact LeO.none _
   | refine LeO.ite ?_ ?_
   | refine LeO.bind ?_ (fun _ => ?_)
theorem az.mono : ∀ a0 a1 a2 k, LeO (az.f k a0 a1 a2) (az.f (k + 1) a0 a1 a2) := by
 intro a0 a1 a2 k
 obtain ⟨ih0, ih1⟩ := az.dC k
 unfold az.f
 repeat' first
   | (with_reducible exact ih0 _ _ _ _ _ _ _ _ _ _ _ _ _ _ _ _)
   | (with_reducible exact ih1 _ _ _ _ _ _ _ _ _ _ _ _ _ _ _)
   | (with_reducible exact bX.mono _ _)
   | (with_reducible exact dP.mono _ _)
   | (with_reducible exact bE.mono _ _ _ _)
   | (with_reducible exact bA.mono _ _ _ _)
   | (with_reducible exact LeO.refl _)
   | (with_reducible exact LeO.none _)
   | (with_reducible refine LeO.ite ?_ ?_)
   | (with_reducible refine LeO.bind ?_ (fun _ => ?_))
   | exact ih0 _ _ _ _ _ _ _ _ _ _ _ _ _ _ _ _
   | exact ih1 _ _ _ _ _ _ _ _ _ _ _ _ _ _ _
   | exact bX.mono _ _
   | exact dP.mono _ _
   | exact bE.mono _ _ _ _
   | exact bA.mono _ _ _ _
   | exact LeO.none _
   | refine LeO.ite ?_ ?_
   | refine LeO.bind ?_ (fun _ => ?_)
noncomputable def az.J0 (x42 : Bool) (x1000 : List Int) (x1001 : Int) (x1002 : Int) (fA : Int) (fu : Int) (fC : Int) (fw : List Int) (eZ : Int) (gu : Int) (gm : Int) (fI : Int) (fO : Int) (fK : ByteArray) (fM : Int) (fJ : Int) : Option (Int × Int × Int × List Int × Int × Int × Int × Int × Int × ByteArray × Int × Int × Int × Int) := LB.lim (fun k => az.j0 k x42 x1000 x1001 x1002 fA fu fC fw eZ gu gm fI fO fK fM fJ)
noncomputable def az.J1 (x1000 : List Int) (x1001 : Int) (x1002 : Int) (fA : Int) (fu : Int) (fC : Int) (fw : List Int) (eZ : Int) (gu : Int) (gm : Int) (fI : Int) (fO : Int) (fK : ByteArray) (fM : Int) (fJ : Int) : Option (Int × Int × Int × List Int × Int × Int × Int × Int × Int × ByteArray × Int × Int × Int × Int) := LB.lim (fun k => az.j1 k x1000 x1001 x1002 fA fu fC fw eZ gu gm fI fO fK fM fJ)
theorem az.gV (x42 : Bool) (x1000 : List Int) (x1001 : Int) (x1002 : Int) (fA : Int) (fu : Int) (fC : Int) (fw : List Int) (eZ : Int) (gu : Int) (gm : Int) (fI : Int) (fO : Int) (fK : ByteArray) (fM : Int) (fJ : Int) : LB.Lim (fun k => az.j0 k x42 x1000 x1001 x1002 fA fu fC fw eZ gu gm fI fO fK fM fJ) (az.J0 x42 x1000 x1001 x1002 fA fu fC fw eZ gu gm fI fO fK fM fJ) := LB.bT (fun k => (az.dC k).1 x42 x1000 x1001 x1002 fA fu fC fw eZ gu gm fI fO fK fM fJ)
theorem az.gD (x1000 : List Int) (x1001 : Int) (x1002 : Int) (fA : Int) (fu : Int) (fC : Int) (fw : List Int) (eZ : Int) (gu : Int) (gm : Int) (fI : Int) (fO : Int) (fK : ByteArray) (fM : Int) (fJ : Int) : LB.Lim (fun k => az.j1 k x1000 x1001 x1002 fA fu fC fw eZ gu gm fI fO fK fM fJ) (az.J1 x1000 x1001 x1002 fA fu fC fw eZ gu gm fI fO fK fM fJ) := LB.bT (fun k => (az.dC k).2 x1000 x1001 x1002 fA fu fC fw eZ gu gm fI fO fK fM fJ)
theorem az.J0_eq (x42 : Bool) (x1000 : List Int) (x1001 : Int) (x1002 : Int) (fA : Int) (fu : Int) (fC : Int) (fw : List Int) (eZ : Int) (gu : Int) (gm : Int) (fI : Int) (fO : Int) (fK : ByteArray) (fM : Int) (fJ : Int) : az.J0 x42 x1000 x1001 x1002 fA fu fC fw eZ gu gm fI fO fK fM fJ = (if x42 = true then ((bV.f x1000 x1001 x1002 0 1).bind fun bt183 => (az.J1 x1000 bt183.1 bt183.2 fA fu fC fw eZ gu gm fI fO fK fM fJ)) else (az.J1 x1000 x1001 x1002 fA fu fC fw eZ gu gm fI fO fK fM fJ)) := by
  refine LB.Lim.unique (az.gV x42 x1000 x1001 x1002 fA fu fC fw eZ gu gm fI fO fK fM fJ).shift ?_
  simp only [az.j0]
  (repeat' (first | exact LB.Lim.const _ | exact az.gV _ _ _ _ _ _ _ _ _ _ _ _ _ _ _ _ | exact az.gD _ _ _ _ _ _ _ _ _ _ _ _ _ _ _ | exact bX.bS _ | exact dP.bS _ | exact bE.bS _ _ _ | exact bA.bS _ _ _ | refine LB.Lim.ite ?_ ?_ | refine LB.Lim.bind ?_ (fun _ => ?_)))
theorem az.J1_eq (x1000 : List Int) (x1001 : Int) (x1002 : Int) (fA : Int) (fu : Int) (fC : Int) (fw : List Int) (eZ : Int) (gu : Int) (gm : Int) (fI : Int) (fO : Int) (fK : ByteArray) (fM : Int) (fJ : Int) : az.J1 x1000 x1001 x1002 fA fu fC fw eZ gu gm fI fO fK fM fJ = ((bA.F x1000 x1001 x1002).bind fun bt185 => (if eZ = 1 then ((bA.F x1000 bt185.2.2.1 bt185.2.2.2).bind fun bt189 => (if 0 ≤ bt189.2.2.1 then (if bt189.2.2.1 ≤ (x1000.length : Int) then ((bX.F (x1000.drop (bt189.2.2.1 : Int).toNat)).bind fun bt194 => ((bV.f x1000 bt189.2.2.1 bt189.2.2.2 bt194.2.1 bt194.2.2).bind fun bt197 => (some (fA, fu, fC, fw, eZ, bt185.1, bt185.2.1, bt189.1, bt189.2.1, bt194.1, fM, fJ, bt197.1, bt197.2)))) else (none)) else (none))) else ((bE.F x1000 bt185.2.2.1 bt185.2.2.2).bind fun bt199 => ((bE.F x1000 bt199.2.1 bt199.2.2).bind fun bt202 => (some (fA, fu, fC, fw, eZ, bt185.1, bt185.2.1, fI, fO, fK, bt199.1, wrap64 (bt202.1 - 1), bt202.2.1, bt202.2.2)))))) := by
  refine LB.Lim.unique (az.gD x1000 x1001 x1002 fA fu fC fw eZ gu gm fI fO fK fM fJ).shift ?_
  simp only [az.j1]
  (repeat' (first | exact LB.Lim.const _ | exact az.gV _ _ _ _ _ _ _ _ _ _ _ _ _ _ _ _ | exact az.gD _ _ _ _ _ _ _ _ _ _ _ _ _ _ _ | exact bX.bS _ | exact dP.bS _ | exact bE.bS _ _ _ | exact bA.bS _ _ _ | refine LB.Lim.ite ?_ ?_ | refine LB.Lim.bind ?_ (fun _ => ?_)))
noncomputable def az.F (s0_0 : List Int) (s0_1 : Int) (s0_2 : Int) : Option (Int × Int × Int × List Int × Int × Int × Int × Int × Int × ByteArray × Int × Int × Int × Int) := LB.lim (fun k => az.f k s0_0 s0_1 s0_2)
theorem az.bS (s0_0 : List Int) (s0_1 : Int) (s0_2 : Int) : LB.Lim (fun k => az.f k s0_0 s0_1 s0_2) (az.F s0_0 s0_1 s0_2) := LB.bT (az.mono s0_0 s0_1 s0_2)
theorem az.gU (s0_0 : List Int) (s0_1 : Int) (s0_2 : Int) : az.F s0_0 s0_1 s0_2 = ((bA.F s0_0 s0_1 s0_2).bind fun bt168 => (if 0 ≤ bt168.2.2.1 then (if bt168.2.2.1 ≤ (s0_0.length : Int) then ((dP.F (s0_0.drop (bt168.2.2.1 : Int).toNat)).bind fun bt173 => ((bV.f s0_0 bt168.2.2.1 bt168.2.2.2 bt173.2.1 bt173.2.2).bind fun bt178 => ((bE.F s0_0 bt178.1 bt178.2).bind fun bt180 => (if bt180.1 = 1 then (az.J0 false s0_0 bt180.2.1 bt180.2.2 bt168.1 bt168.2.1 0 bt173.1 bt180.1 0 0 0 0 (⟨#[]⟩ : ByteArray) 0 0) else (az.J0 (bt180.1 != 2) s0_0 bt180.2.1 bt180.2.2 bt168.1 bt168.2.1 0 bt173.1 bt180.1 0 0 0 0 (⟨#[]⟩ : ByteArray) 0 0))))) else (none)) else (none))) := by
  refine LB.Lim.unique (az.bS s0_0 s0_1 s0_2) ?_
  simp only [az.f]
  (repeat' (first | exact LB.Lim.const _ | exact az.gV _ _ _ _ _ _ _ _ _ _ _ _ _ _ _ _ | exact az.gD _ _ _ _ _ _ _ _ _ _ _ _ _ _ _ | exact bX.bS _ | exact dP.bS _ | exact bE.bS _ _ _ | exact bA.bS _ _ _ | refine LB.Lim.ite ?_ ?_ | refine LB.Lim.bind ?_ (fun _ => ?_)))
def key_Is.f (a0 : ByteArray) : Option (Bool) := if (a0.size : Int) ≥ 1 then (if (a0.size : Int) ≤ 64 then (if 0 ≤ (wrap64 ((a0.size : Int) - 1)) then (if (wrap64 ((a0.size : Int) - 1)) < (a0.size : Int) then (some ((bt a0 (wrap64 ((a0.size : Int) - 1))) != 0)) else (none)) else (none)) else (some false)) else (some false)
def prop_Is.f (a0 : Int) : Option (Bool) := if a0 ≥ 0 then (some (decide (a0 < 19))) else (some false)
mutual
def aC.j0 : Nat → Int → Bool → Option (Int × Int × Int × Bool)
 | 0, _, _ => none
 | k + 1, x3, x7 => if x7 = true then (some (0, 1, 0, false)) else (if x3 = 3 then (aC.j1 k x3 (x3 == 3)) else (if x3 = 4 then (aC.j1 k x3 (x3 == 4)) else (if x3 = 6 then (aC.j1 k x3 (x3 == 6)) else (if x3 = 8 then (aC.j1 k x3 (x3 == 8)) else (aC.j1 k x3 (x3 == 11))))))
def aC.j1 : Nat → Int → Bool → Option (Int × Int × Int × Bool)
 | 0, _, _ => none
 | k + 1, x3, x11 => if x11 = true then (some ((-1), 1099511627776, (-1), false)) else (if x3 = 5 then (aC.j2 k x3 (x3 == 5)) else (aC.j2 k x3 (x3 == 7)))
def aC.j2 : Nat → Int → Bool → Option (Int × Int × Int × Bool)
 | 0, _, _ => none
 | k + 1, x3, x18 => if x18 = true then (some (0, 1099511627776, 0, false)) else (if x3 = 9 then (some (0, 1048576, 0, false)) else (if x3 = 10 then (some (0, 1048576, 1, false)) else (if x3 = 15 then (some (0, 4, 0, false)) else (if x3 = 16 then (some (0, 3, 0, false)) else (if x3 = 17 then (some (0, 16777215, 0, true)) else (if x3 = 18 then (some (64, 64000, 1024, true)) else (some (0, 1073741824, 0, false))))))))
end
def aC.f (k : Nat) (a0 : Int) : Option (Int × Int × Int × Bool) := if a0 = 0 then (some (0, 2, 0, false)) else (if a0 = 1 then (aC.j0 k a0 (a0 == 1)) else (aC.j0 k a0 (a0 == 2)))
theorem aC.dC : ∀ k, (∀ y0 y1, LeO (aC.j0 k y0 y1) (aC.j0 (k + 1) y0 y1)) ∧ (∀ y0 y1, LeO (aC.j1 k y0 y1) (aC.j1 (k + 1) y0 y1)) ∧ (∀ y0 y1, LeO (aC.j2 k y0 y1) (aC.j2 (k + 1) y0 y1))
 | 0 => ⟨fun _ _ r h => by simp [aC.j0] at h, fun _ _ r h => by simp [aC.j1] at h, fun _ _ r h => by simp [aC.j2] at h⟩
 | k + 1 => by
  obtain ⟨ih0, ih1, ih2⟩ := aC.dC k
  refine ⟨?_, ?_, ?_⟩
  ·intro y0 y1
   unfold aC.j0
   repeat' first
   | (with_reducible exact ih0 _ _)
   | (with_reducible exact ih1 _ _)
   | (with_reducible exact ih2 _ _)
   | (with_reducible exact LeO.refl _)
   | (with_reducible exact LeO.none _)
   | (with_reducible refine LeO.ite ?_ ?_)
   | (with_reducible refine LeO.bind ?_ (fun _ => ?_))
   | exact ih0 _ _
   | exact ih1 _ _
   | exact ih2 _ _
   | exact LeO.none _
   | refine LeO.ite ?_ ?_
   | refine LeO.bind ?_ (fun _ => ?_)
  ·intro y0 y1
   unfold aC.j1
   repeat' first
   | (with_reducible exact ih0 _ _)
   | (with_reducible exact ih1 _ _)
   | (with_reducible exact ih2 _ _)
   | (with_reducible exact LeO.refl _)
   | (with_reducible exact LeO.none _)
   | (with_reducible refine LeO.ite ?_ ?_)
   | (with_reducible refine LeO.bind ?_ (fun _ => ?_))
   | exact ih0 _ _
   | exact ih1 _ _
   | exact ih2 _ _
   | exact LeO.none _
   | refine LeO.ite ?_ ?_
   | refine LeO.bind ?_ (fun _ => ?_)
  ·intro y0 y1
   unfold aC.j2
   repeat' first
   | (with_reducible exact ih0 _ _)
   | (with_reducible exact ih1 _ _)
   | (with_reducible exact ih2 _ _)
   | (with_reducible exact LeO.refl _)
   | (with_reducible exact LeO.none _)
   | (with_reducible refine LeO.ite ?_ ?_)
   | (with_reducible refine LeO.bind ?_ (fun _ => ?_))
   | exact ih0 _ _
   | exact ih1 _ _
   | exact ih2 _ _
   | exact LeO.none _
   | refine LeO.ite ?_ ?_
   | refine LeO.bind ?_ (fun _ => ?_)
theorem aC.mono : ∀ a0 k, LeO (aC.f k a0) (aC.f (k + 1) a0) := by
 intro a0 k
 obtain ⟨ih0, ih1, ih2⟩ := aC.dC k
 unfold aC.f
 repeat' first
   | (with_reducible exact ih0 _ _)
   | (with_reducible exact ih1 _ _)
   | (with_reducible exact ih2 _ _)
   | (with_reducible exact LeO.refl _)
   | (with_reducible exact LeO.none _)
   | (with_reducible refine LeO.ite ?_ ?_)
   | (with_reducible refine LeO.bind ?_ (fun _ => ?_))
   | exact ih0 _ _
   | exact ih1 _ _
   | exact ih2 _ _
   | exact LeO.none _
   | refine LeO.ite ?_ ?_
   | refine LeO.bind ?_ (fun _ => ?_)
noncomputable def aC.J0 (x3 : Int) (x7 : Bool) : Option (Int × Int × Int × Bool) := LB.lim (fun k => aC.j0 k x3 x7)
noncomputable def aC.J1 (x3 : Int) (x11 : Bool) : Option (Int × Int × Int × Bool) := LB.lim (fun k => aC.j1 k x3 x11)
noncomputable def aC.J2 (x3 : Int) (x18 : Bool) : Option (Int × Int × Int × Bool) := LB.lim (fun k => aC.j2 k x3 x18)
theorem aC.gV (x3 : Int) (x7 : Bool) : LB.Lim (fun k => aC.j0 k x3 x7) (aC.J0 x3 x7) := LB.bT (fun k => (aC.dC k).1 x3 x7)
theorem aC.gD (x3 : Int) (x11 : Bool) : LB.Lim (fun k => aC.j1 k x3 x11) (aC.J1 x3 x11) := LB.bT (fun k => (aC.dC k).2.1 x3 x11)
theorem aC.gY (x3 : Int) (x18 : Bool) : LB.Lim (fun k => aC.j2 k x3 x18) (aC.J2 x3 x18) := LB.bT (fun k => (aC.dC k).2.2 x3 x18)
theorem aC.J0_eq (x3 : Int) (x7 : Bool) : aC.J0 x3 x7 = (if x7 = true then (some (0, 1, 0, false)) else (if x3 = 3 then (aC.J1 x3 (x3 == 3)) else (if x3 = 4 then (aC.J1 x3 (x3 == 4)) else (if x3 = 6 then (aC.J1 x3 (x3 == 6)) else (if x3 = 8 then (aC.J1 x3 (x3 == 8)) else (aC.J1 x3 (x3 == 11))))))) := by
  refine LB.Lim.unique (aC.gV x3 x7).shift ?_
  simp only [aC.j0]
  (repeat' (first | exact LB.Lim.const _ | exact aC.gV _ _ | exact aC.gD _ _ | exact aC.gY _ _ | refine LB.Lim.ite ?_ ?_ | refine LB.Lim.bind ?_ (fun _ => ?_)))
theorem aC.J1_eq (x3 : Int) (x11 : Bool) : aC.J1 x3 x11 = (if x11 = true then (some ((-1), 1099511627776, (-1), false)) else (if x3 = 5 then (aC.J2 x3 (x3 == 5)) else (aC.J2 x3 (x3 == 7)))) := by
  refine LB.Lim.unique (aC.gD x3 x11).shift ?_
  simp only [aC.j1]
  (repeat' (first | exact LB.Lim.const _ | exact aC.gV _ _ | exact aC.gD _ _ | exact aC.gY _ _ | refine LB.Lim.ite ?_ ?_ | refine LB.Lim.bind ?_ (fun _ => ?_)))
theorem aC.J2_eq (x3 : Int) (x18 : Bool) : aC.J2 x3 x18 = (if x18 = true then (some (0, 1099511627776, 0, false)) else (if x3 = 9 then (some (0, 1048576, 0, false)) else (if x3 = 10 then (some (0, 1048576, 1, false)) else (if x3 = 15 then (some (0, 4, 0, false)) else (if x3 = 16 then (some (0, 3, 0, false)) else (if x3 = 17 then (some (0, 16777215, 0, true)) else (if x3 = 18 then (some (64, 64000, 1024, true)) else (some (0, 1073741824, 0, false))))))))) := by
  refine LB.Lim.unique (aC.gY x3 x18).shift ?_
  simp only [aC.j2]
  (repeat' (first | exact LB.Lim.const _ | exact aC.gV _ _ | exact aC.gD _ _ | exact aC.gY _ _ | refine LB.Lim.ite ?_ ?_ | refine LB.Lim.bind ?_ (fun _ => ?_)))
noncomputable def aC.F (a0 : Int) : Option (Int × Int × Int × Bool) := LB.lim (fun k => aC.f k a0)
theorem aC.bS (a0 : Int) : LB.Lim (fun k => aC.f k a0) (aC.F a0) := LB.bT (aC.mono a0)
theorem aC.gU (a0 : Int) : aC.F a0 = (if a0 = 0 then (some (0, 2, 0, false)) else (if a0 = 1 then (aC.J0 a0 (a0 == 1)) else (aC.J0 a0 (a0 == 2)))) := by
  refine LB.Lim.unique (aC.bS a0) ?_
  simp only [aC.f]
  (repeat' (first | exact LB.Lim.const _ | exact aC.gV _ _ | exact aC.gD _ _ | exact aC.gY _ _ | refine LB.Lim.ite ?_ ?_ | refine LB.Lim.bind ?_ (fun _ => ?_)))
def eF.f (k : Nat) (a0 : Int) (a1 : Int) : Option (Bool) := (prop_Is.f a0).bind fun t206 => (if t206 = true then ((aC.f k a0).bind fun bt207 => (if a1 ≥ bt207.1 then ((aC.f k a0).bind fun bt211 => (some (decide (a1 ≤ bt211.2.1)))) else (some false))) else (some false))
theorem eF.mono : ∀ a0 a1 k, LeO (eF.f k a0 a1) (eF.f (k + 1) a0 a1) := by
 intro a0 a1 k
 unfold eF.f
 repeat' first
   | (with_reducible exact aC.mono _ _)
   | (with_reducible exact LeO.refl _)
   | (with_reducible exact LeO.none _)
   | (with_reducible refine LeO.ite ?_ ?_)
   | (with_reducible refine LeO.bind ?_ (fun _ => ?_))
   | exact aC.mono _ _
   | exact LeO.none _
   | refine LeO.ite ?_ ?_
   | refine LeO.bind ?_ (fun _ => ?_)
noncomputable def eF.F (a0 : Int) (a1 : Int) : Option (Bool) := LB.lim (fun k => eF.f k a0 a1)
theorem eF.bS (a0 : Int) (a1 : Int) : LB.Lim (fun k => eF.f k a0 a1) (eF.F a0 a1) := LB.bT (eF.mono a0 a1)
theorem eF.gU (a0 : Int) (a1 : Int) : eF.F a0 a1 = ((prop_Is.f a0).bind fun t206 => (if t206 = true then ((aC.F a0).bind fun bt207 => (if a1 ≥ bt207.1 then ((aC.F a0).bind fun bt211 => (some (decide (a1 ≤ bt211.2.1)))) else (some false))) else (some false))) := by
  refine LB.Lim.unique (eF.bS a0 a1) ?_
  simp only [eF.f]
  (repeat' (first | exact LB.Lim.const _ | exact aC.bS _ | refine LB.Lim.ite ?_ ?_ | refine LB.Lim.bind ?_ (fun _ => ?_)))
def dX.f (k : Nat) (a0_0 : Int) (a0_1 : Int) (a0_2 : Int) (l0_3 : List Int) (a0_4 : Int) (a0_5 : Int) (a0_6 : Int) (a0_7 : Int) (a0_8 : Int) (a0_9 : ByteArray) (a0_10 : Int) (a0_11 : Int) : Option (Bool) := if a0_4 = 1 then ((dB.f a0_7 a0_8).bind fun t216 => (if t216 = true then ((key_Is.f a0_9).bind fun t217 => (if t217 = true then (if a0_10 = 0 then (some (a0_11 == 0)) else (some false)) else (some false))) else (some false))) else (if a0_4 = 2 then ((eF.f k a0_10 a0_11).bind fun t218 => (if t218 = true then ((fB.f).bind fun bt219 => (if (a0_7 == bt219.1 && (a0_8 == bt219.2)) = true then (some (a0_9.toList == ([] : List UInt8))) else (some false))) else (some false))) else (some false))
theorem dX.mono : ∀ a0 a1 a2 a3 a4 a5 a6 a7 a8 a9 a10 a11 k, LeO (dX.f k a0 a1 a2 a3 a4 a5 a6 a7 a8 a9 a10 a11) (dX.f (k + 1) a0 a1 a2 a3 a4 a5 a6 a7 a8 a9 a10 a11) := by
 intro a0 a1 a2 a3 a4 a5 a6 a7 a8 a9 a10 a11 k
 unfold dX.f
 repeat' first
   | (with_reducible exact eF.mono _ _ _)
   | (with_reducible exact LeO.refl _)
   | (with_reducible exact LeO.none _)
   | (with_reducible refine LeO.ite ?_ ?_)
   | (with_reducible refine LeO.bind ?_ (fun _ => ?_))
   | exact eF.mono _ _ _
   | exact LeO.none _
   | refine LeO.ite ?_ ?_
   | refine LeO.bind ?_ (fun _ => ?_)
noncomputable def dX.F (a0_0 : Int) (a0_1 : Int) (a0_2 : Int) (l0_3 : List Int) (a0_4 : Int) (a0_5 : Int) (a0_6 : Int) (a0_7 : Int) (a0_8 : Int) (a0_9 : ByteArray) (a0_10 : Int) (a0_11 : Int) : Option (Bool) := LB.lim (fun k => dX.f k a0_0 a0_1 a0_2 l0_3 a0_4 a0_5 a0_6 a0_7 a0_8 a0_9 a0_10 a0_11)
theorem dX.bS (a0_0 : Int) (a0_1 : Int) (a0_2 : Int) (l0_3 : List Int) (a0_4 : Int) (a0_5 : Int) (a0_6 : Int) (a0_7 : Int) (a0_8 : Int) (a0_9 : ByteArray) (a0_10 : Int) (a0_11 : Int) : LB.Lim (fun k => dX.f k a0_0 a0_1 a0_2 l0_3 a0_4 a0_5 a0_6 a0_7 a0_8 a0_9 a0_10 a0_11) (dX.F a0_0 a0_1 a0_2 l0_3 a0_4 a0_5 a0_6 a0_7 a0_8 a0_9 a0_10 a0_11) := LB.bT (dX.mono a0_0 a0_1 a0_2 l0_3 a0_4 a0_5 a0_6 a0_7 a0_8 a0_9 a0_10 a0_11)
theorem dX.gU (a0_0 : Int) (a0_1 : Int) (a0_2 : Int) (l0_3 : List Int) (a0_4 : Int) (a0_5 : Int) (a0_6 : Int) (a0_7 : Int) (a0_8 : Int) (a0_9 : ByteArray) (a0_10 : Int) (a0_11 : Int) : dX.F a0_0 a0_1 a0_2 l0_3 a0_4 a0_5 a0_6 a0_7 a0_8 a0_9 a0_10 a0_11 = (if a0_4 = 1 then ((dB.f a0_7 a0_8).bind fun t216 => (if t216 = true then ((key_Is.f a0_9).bind fun t217 => (if t217 = true then (if a0_10 = 0 then (some (a0_11 == 0)) else (some false)) else (some false))) else (some false))) else (if a0_4 = 2 then ((eF.F a0_10 a0_11).bind fun t218 => (if t218 = true then ((fB.f).bind fun bt219 => (if (a0_7 == bt219.1 && (a0_8 == bt219.2)) = true then (some (a0_9.toList == ([] : List UInt8))) else (some false))) else (some false))) else (some false))) := by
  refine LB.Lim.unique (dX.bS a0_0 a0_1 a0_2 l0_3 a0_4 a0_5 a0_6 a0_7 a0_8 a0_9 a0_10 a0_11) ?_
  simp only [dX.f]
  (repeat' (first | exact LB.Lim.const _ | exact eF.bS _ _ | refine LB.Lim.ite ?_ ?_ | refine LB.Lim.bind ?_ (fun _ => ?_)))
def cz.j0 : Nat → Bool → Int → Int → Int → List Int → Int → Int → Int → Int → Int → ByteArray → Int → Int → Option (Bool)
 | 0, _, _, _, _, _, _, _, _, _, _, _, _, _ => none
 | k + 1, x27, x222000, iE, jd, jc, x222004, x222005, x222006, x222007, x222008, x222009, x222010, x222011 => if x27 = true then (some false) else (if 0 ≤ iE then (if iE < (jc.length : Int) then (if jd = (wrap64 ((rd jc iE) + 1)) then (if jd ≤ 1099511627776 then ((dX.f k x222000 iE jd jc x222004 x222005 x222006 x222007 x222008 x222009 x222010 x222011).bind fun t226 => (some t226)) else (some false)) else (some false)) else (none)) else (none))
def cz.f (k : Nat) (a0_0 : Int) (a0_1 : Int) (a0_2 : Int) (l0_3 : List Int) (a0_4 : Int) (a0_5 : Int) (a0_6 : Int) (a0_7 : Int) (a0_8 : Int) (a0_9 : ByteArray) (a0_10 : Int) (a0_11 : Int) : Option (Bool) := (fq.f a0_0 a0_1).bind fun t222 => (if t222 = true then ((dn.f k l0_3).bind fun t223 => (if t223 = true then (if (l0_3.length : Int) ≤ a0_1 then (cz.j0 k true a0_0 a0_1 a0_2 l0_3 a0_4 a0_5 a0_6 a0_7 a0_8 a0_9 a0_10 a0_11) else ((fq.f a0_5 a0_6).bind fun t224 => (cz.j0 k (!t224) a0_0 a0_1 a0_2 l0_3 a0_4 a0_5 a0_6 a0_7 a0_8 a0_9 a0_10 a0_11))) else (cz.j0 k true a0_0 a0_1 a0_2 l0_3 a0_4 a0_5 a0_6 a0_7 a0_8 a0_9 a0_10 a0_11))) else (cz.j0 k true a0_0 a0_1 a0_2 l0_3 a0_4 a0_5 a0_6 a0_7 a0_8 a0_9 a0_10 a0_11))
theorem cz.dC : ∀ k, (∀ y0 y1 y2 y3 y4 y5 y6 y7 y8 y9 y10 y11 y12, LeO (cz.j0 k y0 y1 y2 y3 y4 y5 y6 y7 y8 y9 y10 y11 y12) (cz.j0 (k + 1) y0 y1 y2 y3 y4 y5 y6 y7 y8 y9 y10 y11 y12))
 | 0 => fun _ _ _ _ _ _ _ _ _ _ _ _ _ r h => by simp [cz.j0] at h
 | k + 1 => by
  have ih0 := cz.dC k
  ·intro y0 y1 y2 y3 y4 y5 y6 y7 y8 y9 y10 y11 y12
   unfold cz.j0
   repeat' first
   | (with_reducible exact ih0 _ _ _ _ _ _ _ _ _ _ _ _ _)
   | (with_reducible exact dn.mono _ _)
   | (with_reducible exact dX.mono _ _ _ _ _ _ _ _ _ _ _ _ _)
   | (with_reducible exact LeO.refl _)
   | (with_reducible exact LeO.none _)
   | (with_reducible refine LeO.ite ?_ ?_)
   | (with_reducible refine LeO.bind ?_ (fun _ => ?_))
   | exact ih0 _ _ _ _ _ _ _ _ _ _ _ _ _
   | exact dn.mono _ _
   | exact dX.mono _ _ _ _ _ _ _ _ _ _ _ _ _
   | exact LeO.none _
   | refine LeO.ite ?_ ?_
   | refine LeO.bind ?_ (fun _ => ?_)
theorem cz.mono : ∀ a0 a1 a2 a3 a4 a5 a6 a7 a8 a9 a10 a11 k, LeO (cz.f k a0 a1 a2 a3 a4 a5 a6 a7 a8 a9 a10 a11) (cz.f (k + 1) a0 a1 a2 a3 a4 a5 a6 a7 a8 a9 a10 a11) := by
 intro a0 a1 a2 a3 a4 a5 a6 a7 a8 a9 a10 a11 k
 have ih0 := cz.dC k
 unfold cz.f
 repeat' first
   | (with_reducible exact ih0 _ _ _ _ _ _ _ _ _ _ _ _ _)
   | (with_reducible exact dn.mono _ _)
   | (with_reducible exact dX.mono _ _ _ _ _ _ _ _ _ _ _ _ _)
   | (with_reducible exact LeO.refl _)
   | (with_reducible exact LeO.none _)
   | (with_reducible refine LeO.ite ?_ ?_)
   | (with_reducible refine LeO.bind ?_ (fun _ => ?_))
   | exact ih0 _ _ _ _ _ _ _ _ _ _ _ _ _
   | exact dn.mono _ _
   | exact dX.mono _ _ _ _ _ _ _ _ _ _ _ _ _
   | exact LeO.none _
   | refine LeO.ite ?_ ?_
   | refine LeO.bind ?_ (fun _ => ?_)
noncomputable def cz.J0 (x27 : Bool) (x222000 : Int) (iE : Int) (jd : Int) (jc : List Int) (x222004 : Int) (x222005 : Int) (x222006 : Int) (x222007 : Int) (x222008 : Int) (x222009 : ByteArray) (x222010 : Int) (x222011 : Int) : Option (Bool) := LB.lim (fun k => cz.j0 k x27 x222000 iE jd jc x222004 x222005 x222006 x222007 x222008 x222009 x222010 x222011)
theorem cz.gV (x27 : Bool) (x222000 : Int) (iE : Int) (jd : Int) (jc : List Int) (x222004 : Int) (x222005 : Int) (x222006 : Int) (x222007 : Int) (x222008 : Int) (x222009 : ByteArray) (x222010 : Int) (x222011 : Int) : LB.Lim (fun k => cz.j0 k x27 x222000 iE jd jc x222004 x222005 x222006 x222007 x222008 x222009 x222010 x222011) (cz.J0 x27 x222000 iE jd jc x222004 x222005 x222006 x222007 x222008 x222009 x222010 x222011) := LB.bT (fun k => (cz.dC k) x27 x222000 iE jd jc x222004 x222005 x222006 x222007 x222008 x222009 x222010 x222011)
theorem cz.J0_eq (x27 : Bool) (x222000 : Int) (iE : Int) (jd : Int) (jc : List Int) (x222004 : Int) (x222005 : Int) (x222006 : Int) (x222007 : Int) (x222008 : Int) (x222009 : ByteArray) (x222010 : Int) (x222011 : Int) : cz.J0 x27 x222000 iE jd jc x222004 x222005 x222006 x222007 x222008 x222009 x222010 x222011 = (if x27 = true then (some false) else (if 0 ≤ iE then (if iE < (jc.length : Int) then (if jd = (wrap64 ((rd jc iE) + 1)) then (if jd ≤ 1099511627776 then ((dX.F x222000 iE jd jc x222004 x222005 x222006 x222007 x222008 x222009 x222010 x222011).bind fun t226 => (some t226)) else (some false)) else (some false)) else (none)) else (none))) := by
  refine LB.Lim.unique (cz.gV x27 x222000 iE jd jc x222004 x222005 x222006 x222007 x222008 x222009 x222010 x222011).shift ?_
  simp only [cz.j0]
  (repeat' (first | exact LB.Lim.const _ | exact cz.gV _ _ _ _ _ _ _ _ _ _ _ _ _ | exact dn.bS _ | exact dX.bS _ _ _ _ _ _ _ _ _ _ _ _ | refine LB.Lim.ite ?_ ?_ | refine LB.Lim.bind ?_ (fun _ => ?_)))
noncomputable def cz.F (a0_0 : Int) (a0_1 : Int) (a0_2 : Int) (l0_3 : List Int) (a0_4 : Int) (a0_5 : Int) (a0_6 : Int) (a0_7 : Int) (a0_8 : Int) (a0_9 : ByteArray) (a0_10 : Int) (a0_11 : Int) : Option (Bool) := LB.lim (fun k => cz.f k a0_0 a0_1 a0_2 l0_3 a0_4 a0_5 a0_6 a0_7 a0_8 a0_9 a0_10 a0_11)
theorem cz.bS (a0_0 : Int) (a0_1 : Int) (a0_2 : Int) (l0_3 : List Int) (a0_4 : Int) (a0_5 : Int) (a0_6 : Int) (a0_7 : Int) (a0_8 : Int) (a0_9 : ByteArray) (a0_10 : Int) (a0_11 : Int) : LB.Lim (fun k => cz.f k a0_0 a0_1 a0_2 l0_3 a0_4 a0_5 a0_6 a0_7 a0_8 a0_9 a0_10 a0_11) (cz.F a0_0 a0_1 a0_2 l0_3 a0_4 a0_5 a0_6 a0_7 a0_8 a0_9 a0_10 a0_11) := LB.bT (cz.mono a0_0 a0_1 a0_2 l0_3 a0_4 a0_5 a0_6 a0_7 a0_8 a0_9 a0_10 a0_11)
theorem cz.gU (a0_0 : Int) (a0_1 : Int) (a0_2 : Int) (l0_3 : List Int) (a0_4 : Int) (a0_5 : Int) (a0_6 : Int) (a0_7 : Int) (a0_8 : Int) (a0_9 : ByteArray) (a0_10 : Int) (a0_11 : Int) : cz.F a0_0 a0_1 a0_2 l0_3 a0_4 a0_5 a0_6 a0_7 a0_8 a0_9 a0_10 a0_11 = ((fq.f a0_0 a0_1).bind fun t222 => (if t222 = true then ((dn.F l0_3).bind fun t223 => (if t223 = true then (if (l0_3.length : Int) ≤ a0_1 then (cz.J0 true a0_0 a0_1 a0_2 l0_3 a0_4 a0_5 a0_6 a0_7 a0_8 a0_9 a0_10 a0_11) else ((fq.f a0_5 a0_6).bind fun t224 => (cz.J0 (!t224) a0_0 a0_1 a0_2 l0_3 a0_4 a0_5 a0_6 a0_7 a0_8 a0_9 a0_10 a0_11))) else (cz.J0 true a0_0 a0_1 a0_2 l0_3 a0_4 a0_5 a0_6 a0_7 a0_8 a0_9 a0_10 a0_11))) else (cz.J0 true a0_0 a0_1 a0_2 l0_3 a0_4 a0_5 a0_6 a0_7 a0_8 a0_9 a0_10 a0_11))) := by
  refine LB.Lim.unique (cz.bS a0_0 a0_1 a0_2 l0_3 a0_4 a0_5 a0_6 a0_7 a0_8 a0_9 a0_10 a0_11) ?_
  simp only [cz.f]
  (repeat' (first | exact LB.Lim.const _ | exact cz.gV _ _ _ _ _ _ _ _ _ _ _ _ _ | exact dn.bS _ | exact dX.bS _ _ _ _ _ _ _ _ _ _ _ _ | refine LB.Lim.ite ?_ ?_ | refine LB.Lim.bind ?_ (fun _ => ?_)))
def eu.f (k : Nat) (l0 : List Int) : Option (Int × Int × Int × List Int × Int × Int × Int × Int × Int × ByteArray × Int × Int × Int × Int) := (az.f k l0 0 0).bind fun bt229 => (if bt229.2.2.2.2.2.2.2.2.2.2.2.2.2 = 0 then (if bt229.2.1 ≥ (bt229.2.2.2.1.length : Int) then (some (0, 0, 0, ([] : List Int), 0, 0, 0, 0, 0, (⟨#[]⟩ : ByteArray), 0, 0, 0, 1)) else (if 0 ≤ bt229.2.1 then (if bt229.2.1 < (bt229.2.2.2.1.length : Int) then ((cz.f k bt229.1 bt229.2.1 (wrap64 ((rd bt229.2.2.2.1 bt229.2.1) + 1)) bt229.2.2.2.1 bt229.2.2.2.2.1 bt229.2.2.2.2.2.1 bt229.2.2.2.2.2.2.1 bt229.2.2.2.2.2.2.2.1 bt229.2.2.2.2.2.2.2.2.1 bt229.2.2.2.2.2.2.2.2.2.1 bt229.2.2.2.2.2.2.2.2.2.2.1 bt229.2.2.2.2.2.2.2.2.2.2.2.1).bind fun t246 => (if t246 = true then (some (bt229.1, bt229.2.1, wrap64 ((rd bt229.2.2.2.1 bt229.2.1) + 1), bt229.2.2.2.1, bt229.2.2.2.2.1, bt229.2.2.2.2.2.1, bt229.2.2.2.2.2.2.1, bt229.2.2.2.2.2.2.2.1, bt229.2.2.2.2.2.2.2.2.1, bt229.2.2.2.2.2.2.2.2.2.1, bt229.2.2.2.2.2.2.2.2.2.2.1, bt229.2.2.2.2.2.2.2.2.2.2.2.1, bt229.2.2.2.2.2.2.2.2.2.2.2.2.1, 0)) else (some (0, 0, 0, ([] : List Int), 0, 0, 0, 0, 0, (⟨#[]⟩ : ByteArray), 0, 0, 0, 1)))) else (none)) else (none))) else (some (0, 0, 0, ([] : List Int), 0, 0, 0, 0, 0, (⟨#[]⟩ : ByteArray), 0, 0, 0, bt229.2.2.2.2.2.2.2.2.2.2.2.2.2)))
theorem eu.mono : ∀ a0 k, LeO (eu.f k a0) (eu.f (k + 1) a0) := by
 intro a0 k
 unfold eu.f
 repeat' first
   | (with_reducible exact cz.mono _ _ _ _ _ _ _ _ _ _ _ _ _)
   | (with_reducible exact az.mono _ _ _ _)
   | (with_reducible exact LeO.refl _)
   | (with_reducible exact LeO.none _)
   | (with_reducible refine LeO.ite ?_ ?_)
   | (with_reducible refine LeO.bind ?_ (fun _ => ?_))
   | exact cz.mono _ _ _ _ _ _ _ _ _ _ _ _ _
   | exact az.mono _ _ _ _
   | exact LeO.none _
   | refine LeO.ite ?_ ?_
   | refine LeO.bind ?_ (fun _ => ?_)
noncomputable def eu.F (l0 : List Int) : Option (Int × Int × Int × List Int × Int × Int × Int × Int × Int × ByteArray × Int × Int × Int × Int) := LB.lim (fun k => eu.f k l0)
theorem eu.bS (l0 : List Int) : LB.Lim (fun k => eu.f k l0) (eu.F l0) := LB.bT (eu.mono l0)
theorem eu.gU (l0 : List Int) : eu.F l0 = ((az.F l0 0 0).bind fun bt229 => (if bt229.2.2.2.2.2.2.2.2.2.2.2.2.2 = 0 then (if bt229.2.1 ≥ (bt229.2.2.2.1.length : Int) then (some (0, 0, 0, ([] : List Int), 0, 0, 0, 0, 0, (⟨#[]⟩ : ByteArray), 0, 0, 0, 1)) else (if 0 ≤ bt229.2.1 then (if bt229.2.1 < (bt229.2.2.2.1.length : Int) then ((cz.F bt229.1 bt229.2.1 (wrap64 ((rd bt229.2.2.2.1 bt229.2.1) + 1)) bt229.2.2.2.1 bt229.2.2.2.2.1 bt229.2.2.2.2.2.1 bt229.2.2.2.2.2.2.1 bt229.2.2.2.2.2.2.2.1 bt229.2.2.2.2.2.2.2.2.1 bt229.2.2.2.2.2.2.2.2.2.1 bt229.2.2.2.2.2.2.2.2.2.2.1 bt229.2.2.2.2.2.2.2.2.2.2.2.1).bind fun t246 => (if t246 = true then (some (bt229.1, bt229.2.1, wrap64 ((rd bt229.2.2.2.1 bt229.2.1) + 1), bt229.2.2.2.1, bt229.2.2.2.2.1, bt229.2.2.2.2.2.1, bt229.2.2.2.2.2.2.1, bt229.2.2.2.2.2.2.2.1, bt229.2.2.2.2.2.2.2.2.1, bt229.2.2.2.2.2.2.2.2.2.1, bt229.2.2.2.2.2.2.2.2.2.2.1, bt229.2.2.2.2.2.2.2.2.2.2.2.1, bt229.2.2.2.2.2.2.2.2.2.2.2.2.1, 0)) else (some (0, 0, 0, ([] : List Int), 0, 0, 0, 0, 0, (⟨#[]⟩ : ByteArray), 0, 0, 0, 1)))) else (none)) else (none))) else (some (0, 0, 0, ([] : List Int), 0, 0, 0, 0, 0, (⟨#[]⟩ : ByteArray), 0, 0, 0, bt229.2.2.2.2.2.2.2.2.2.2.2.2.2)))) := by
  refine LB.Lim.unique (eu.bS l0) ?_
  simp only [eu.f]
  (repeat' (first | exact LB.Lim.const _ | exact cz.bS _ _ _ _ _ _ _ _ _ _ _ _ | exact az.bS _ _ _ | refine LB.Lim.ite ?_ ?_ | refine LB.Lim.bind ?_ (fun _ => ?_)))
def aH.l0 : Nat → List Int → List Int → Int → Option (Bool)
 | 0, _, _, _ => none
 | k + 1, x0, x1, x5 => if x5 < (x0.length : Int) then (if 0 ≤ x5 then (if x5 < (x1.length : Int) then (if (rd x0 x5) = (rd x1 x5) then (aH.l0 k x0 x1 (wrap64 (x5 + 1))) else (some false)) else (none)) else (none)) else (some true)
def aH.f (k : Nat) (l0 : List Int) (l1 : List Int) : Option (Bool) := if (l0.length : Int) = (l1.length : Int) then (aH.l0 k l0 l1 0) else (some false)
theorem aH.dC : ∀ k, (∀ y0 y1 y2, LeO (aH.l0 k y0 y1 y2) (aH.l0 (k + 1) y0 y1 y2))
 | 0 => fun _ _ _ r h => by simp [aH.l0] at h
 | k + 1 => by
  have ih0 := aH.dC k
  ·intro y0 y1 y2
   unfold aH.l0
   repeat' first
   | (with_reducible exact ih0 _ _ _)
   | (with_reducible exact LeO.refl _)
   | (with_reducible exact LeO.none _)
   | (with_reducible refine LeO.ite ?_ ?_)
   | (with_reducible refine LeO.bind ?_ (fun _ => ?_))
   | exact ih0 _ _ _
   | exact LeO.none _
   | refine LeO.ite ?_ ?_
   | refine LeO.bind ?_ (fun _ => ?_)
theorem aH.mono : ∀ a0 a1 k, LeO (aH.f k a0 a1) (aH.f (k + 1) a0 a1) := by
 intro a0 a1 k
 have ih0 := aH.dC k
 unfold aH.f
 repeat' first
   | (with_reducible exact ih0 _ _ _)
   | (with_reducible exact LeO.refl _)
   | (with_reducible exact LeO.none _)
   | (with_reducible refine LeO.ite ?_ ?_)
   | (with_reducible refine LeO.bind ?_ (fun _ => ?_))
   | exact ih0 _ _ _
   | exact LeO.none _
   | refine LeO.ite ?_ ?_
   | refine LeO.bind ?_ (fun _ => ?_)
noncomputable def aH.L0 (x0 : List Int) (x1 : List Int) (x5 : Int) : Option (Bool) := LB.lim (fun k => aH.l0 k x0 x1 x5)
theorem aH.dZ (x0 : List Int) (x1 : List Int) (x5 : Int) : LB.Lim (fun k => aH.l0 k x0 x1 x5) (aH.L0 x0 x1 x5) := LB.bT (fun k => (aH.dC k) x0 x1 x5)
theorem aH.iX (x0 : List Int) (x1 : List Int) (x5 : Int) : aH.L0 x0 x1 x5 = (if x5 < (x0.length : Int) then (if 0 ≤ x5 then (if x5 < (x1.length : Int) then (if (rd x0 x5) = (rd x1 x5) then (aH.L0 x0 x1 (wrap64 (x5 + 1))) else (some false)) else (none)) else (none)) else (some true)) := by
  refine LB.Lim.unique (aH.dZ x0 x1 x5).shift ?_
  simp only [aH.l0]
  (repeat' (first | exact LB.Lim.const _ | exact aH.dZ _ _ _ | refine LB.Lim.ite ?_ ?_ | refine LB.Lim.bind ?_ (fun _ => ?_)))
noncomputable def aH.F (l0 : List Int) (l1 : List Int) : Option (Bool) := LB.lim (fun k => aH.f k l0 l1)
theorem aH.bS (l0 : List Int) (l1 : List Int) : LB.Lim (fun k => aH.f k l0 l1) (aH.F l0 l1) := LB.bT (aH.mono l0 l1)
theorem aH.gU (l0 : List Int) (l1 : List Int) : aH.F l0 l1 = (if (l0.length : Int) = (l1.length : Int) then (aH.L0 l0 l1 0) else (some false)) := by
  refine LB.Lim.unique (aH.bS l0 l1) ?_
  simp only [aH.f]
  (repeat' (first | exact LB.Lim.const _ | exact aH.dZ _ _ _ | refine LB.Lim.ite ?_ ?_ | refine LB.Lim.bind ?_ (fun _ => ?_)))
def aV.f (k : Nat) (a0_0 : Int) (a0_1 : Int) (a0_2 : Int) (l0_3 : List Int) (a0_4 : Int) (a0_5 : Int) (a0_6 : Int) (a0_7 : Int) (a0_8 : Int) (a0_9 : ByteArray) (a0_10 : Int) (a0_11 : Int) (a1_0 : Int) (a1_1 : Int) (a1_2 : Int) (l1_3 : List Int) (a1_4 : Int) (a1_5 : Int) (a1_6 : Int) (a1_7 : Int) (a1_8 : Int) (a1_9 : ByteArray) (a1_10 : Int) (a1_11 : Int) : Option (Bool) := if (a0_0 == a1_0 && (a0_1 == a1_1)) = true then (if a0_2 = a1_2 then ((aH.f k l0_3 l1_3).bind fun t251 => (if t251 = true then (if a0_4 = a1_4 then (if (a0_5 == a1_5 && (a0_6 == a1_6)) = true then (if (a0_7 == a1_7 && (a0_8 == a1_8)) = true then (if a0_9.toList = a1_9.toList then (if a0_10 = a1_10 then (some (a0_11 == a1_11)) else (some false)) else (some false)) else (some false)) else (some false)) else (some false)) else (some false))) else (some false)) else (some false)
theorem aV.mono : ∀ a0 a1 a2 a3 a4 a5 a6 a7 a8 a9 a10 a11 a12 a13 a14 a15 a16 a17 a18 a19 a20 a21 a22 a23 k, LeO (aV.f k a0 a1 a2 a3 a4 a5 a6 a7 a8 a9 a10 a11 a12 a13 a14 a15 a16 a17 a18 a19 a20 a21 a22 a23) (aV.f (k + 1) a0 a1 a2 a3 a4 a5 a6 a7 a8 a9 a10 a11 a12 a13 a14 a15 a16 a17 a18 a19 a20 a21 a22 a23) := by
 intro a0 a1 a2 a3 a4 a5 a6 a7 a8 a9 a10 a11 a12 a13 a14 a15 a16 a17 a18 a19 a20 a21 a22 a23 k
 unfold aV.f
 repeat' first
   | (with_reducible exact aH.mono _ _ _)
   | (with_reducible exact LeO.refl _)
   | (with_reducible exact LeO.none _)
   | (with_reducible refine LeO.ite ?_ ?_)
   | (with_reducible refine LeO.bind ?_ (fun _ => ?_))
   | exact aH.mono _ _ _
   | exact LeO.none _
   | refine LeO.ite ?_ ?_
   | refine LeO.bind ?_ (fun _ => ?_)
noncomputable def aV.F (a0_0 : Int) (a0_1 : Int) (a0_2 : Int) (l0_3 : List Int) (a0_4 : Int) (a0_5 : Int) (a0_6 : Int) (a0_7 : Int) (a0_8 : Int) (a0_9 : ByteArray) (a0_10 : Int) (a0_11 : Int) (a1_0 : Int) (a1_1 : Int) (a1_2 : Int) (l1_3 : List Int) (a1_4 : Int) (a1_5 : Int) (a1_6 : Int) (a1_7 : Int) (a1_8 : Int) (a1_9 : ByteArray) (a1_10 : Int) (a1_11 : Int) : Option (Bool) := LB.lim (fun k => aV.f k a0_0 a0_1 a0_2 l0_3 a0_4 a0_5 a0_6 a0_7 a0_8 a0_9 a0_10 a0_11 a1_0 a1_1 a1_2 l1_3 a1_4 a1_5 a1_6 a1_7 a1_8 a1_9 a1_10 a1_11)
theorem aV.bS (a0_0 : Int) (a0_1 : Int) (a0_2 : Int) (l0_3 : List Int) (a0_4 : Int) (a0_5 : Int) (a0_6 : Int) (a0_7 : Int) (a0_8 : Int) (a0_9 : ByteArray) (a0_10 : Int) (a0_11 : Int) (a1_0 : Int) (a1_1 : Int) (a1_2 : Int) (l1_3 : List Int) (a1_4 : Int) (a1_5 : Int) (a1_6 : Int) (a1_7 : Int) (a1_8 : Int) (a1_9 : ByteArray) (a1_10 : Int) (a1_11 : Int) : LB.Lim (fun k => aV.f k a0_0 a0_1 a0_2 l0_3 a0_4 a0_5 a0_6 a0_7 a0_8 a0_9 a0_10 a0_11 a1_0 a1_1 a1_2 l1_3 a1_4 a1_5 a1_6 a1_7 a1_8 a1_9 a1_10 a1_11) (aV.F a0_0 a0_1 a0_2 l0_3 a0_4 a0_5 a0_6 a0_7 a0_8 a0_9 a0_10 a0_11 a1_0 a1_1 a1_2 l1_3 a1_4 a1_5 a1_6 a1_7 a1_8 a1_9 a1_10 a1_11) := LB.bT (aV.mono a0_0 a0_1 a0_2 l0_3 a0_4 a0_5 a0_6 a0_7 a0_8 a0_9 a0_10 a0_11 a1_0 a1_1 a1_2 l1_3 a1_4 a1_5 a1_6 a1_7 a1_8 a1_9 a1_10 a1_11)
theorem aV.gU (a0_0 : Int) (a0_1 : Int) (a0_2 : Int) (l0_3 : List Int) (a0_4 : Int) (a0_5 : Int) (a0_6 : Int) (a0_7 : Int) (a0_8 : Int) (a0_9 : ByteArray) (a0_10 : Int) (a0_11 : Int) (a1_0 : Int) (a1_1 : Int) (a1_2 : Int) (l1_3 : List Int) (a1_4 : Int) (a1_5 : Int) (a1_6 : Int) (a1_7 : Int) (a1_8 : Int) (a1_9 : ByteArray) (a1_10 : Int) (a1_11 : Int) : aV.F a0_0 a0_1 a0_2 l0_3 a0_4 a0_5 a0_6 a0_7 a0_8 a0_9 a0_10 a0_11 a1_0 a1_1 a1_2 l1_3 a1_4 a1_5 a1_6 a1_7 a1_8 a1_9 a1_10 a1_11 = (if (a0_0 == a1_0 && (a0_1 == a1_1)) = true then (if a0_2 = a1_2 then ((aH.F l0_3 l1_3).bind fun t251 => (if t251 = true then (if a0_4 = a1_4 then (if (a0_5 == a1_5 && (a0_6 == a1_6)) = true then (if (a0_7 == a1_7 && (a0_8 == a1_8)) = true then (if a0_9.toList = a1_9.toList then (if a0_10 = a1_10 then (some (a0_11 == a1_11)) else (some false)) else (some false)) else (some false)) else (some false)) else (some false)) else (some false))) else (some false)) else (some false)) := by
  refine LB.Lim.unique (aV.bS a0_0 a0_1 a0_2 l0_3 a0_4 a0_5 a0_6 a0_7 a0_8 a0_9 a0_10 a0_11 a1_0 a1_1 a1_2 l1_3 a1_4 a1_5 a1_6 a1_7 a1_8 a1_9 a1_10 a1_11) ?_
  simp only [aV.f]
  (repeat' (first | exact LB.Lim.const _ | exact aH.bS _ _ | refine LB.Lim.ite ?_ ?_ | refine LB.Lim.bind ?_ (fun _ => ?_)))
def eX.f (a0 : Int) (a1 : Int) : Option (Bool) := if a0 ≥ 0 then (some (decide (a0 ≤ a1))) else (some false)
def cu.f (a0_0 : Int) (a0_1 : Int) : Option (Bool) := if a0_0 ≥ 1 then (if a0_0 ≤ 1099511627776 then ((eX.f a0_1 15).bind fun t253 => (some t253)) else (some false)) else (some false)
def aM.l0 : Nat → List Int → Int → Option (Bool)
 | 0, _, _ => none
 | k + 1, x0, x3 => if x3 < (x0.length : Int) then (if 0 ≤ x3 then ((eX.f (rd x0 x3) 1099511627776).bind fun t255 => (if t255 = true then (aM.l0 k x0 (wrap64 (x3 + 1))) else (some false))) else (none)) else (if (x0.length : Int) ≥ 1 then (some (decide ((x0.length : Int) ≤ 16))) else (some false))
def aM.f (k : Nat) (l0 : List Int) : Option (Bool) := aM.l0 k l0 0
theorem aM.dC : ∀ k, (∀ y0 y1, LeO (aM.l0 k y0 y1) (aM.l0 (k + 1) y0 y1))
 | 0 => fun _ _ r h => by simp [aM.l0] at h
 | k + 1 => by
  have ih0 := aM.dC k
  ·intro y0 y1
   unfold aM.l0
   repeat' first
   | (with_reducible exact ih0 _ _)
   | (with_reducible exact LeO.refl _)
   | (with_reducible exact LeO.none _)
   | (with_reducible refine LeO.ite ?_ ?_)
   | (with_reducible refine LeO.bind ?_ (fun _ => ?_))
   | exact ih0 _ _
   | exact LeO.none _
   | refine LeO.ite ?_ ?_
   | refine LeO.bind ?_ (fun _ => ?_)
theorem aM.mono : ∀ a0 k, LeO (aM.f k a0) (aM.f (k + 1) a0) := by
 intro a0 k
 have ih0 := aM.dC k
 unfold aM.f
 repeat' first
   | (with_reducible exact ih0 _ _)
   | (with_reducible exact LeO.refl _)
   | (with_reducible exact LeO.none _)
   | (with_reducible refine LeO.ite ?_ ?_)
   | (with_reducible refine LeO.bind ?_ (fun _ => ?_))
   | exact ih0 _ _
   | exact LeO.none _
   | refine LeO.ite ?_ ?_
   | refine LeO.bind ?_ (fun _ => ?_)
noncomputable def aM.L0 (x0 : List Int) (x3 : Int) : Option (Bool) := LB.lim (fun k => aM.l0 k x0 x3)
theorem aM.dZ (x0 : List Int) (x3 : Int) : LB.Lim (fun k => aM.l0 k x0 x3) (aM.L0 x0 x3) := LB.bT (fun k => (aM.dC k) x0 x3)
theorem aM.iX (x0 : List Int) (x3 : Int) : aM.L0 x0 x3 = (if x3 < (x0.length : Int) then (if 0 ≤ x3 then ((eX.f (rd x0 x3) 1099511627776).bind fun t255 => (if t255 = true then (aM.L0 x0 (wrap64 (x3 + 1))) else (some false))) else (none)) else (if (x0.length : Int) ≥ 1 then (some (decide ((x0.length : Int) ≤ 16))) else (some false))) := by
  refine LB.Lim.unique (aM.dZ x0 x3).shift ?_
  simp only [aM.l0]
  (repeat' (first | exact LB.Lim.const _ | exact aM.dZ _ _ | refine LB.Lim.ite ?_ ?_ | refine LB.Lim.bind ?_ (fun _ => ?_)))
noncomputable def aM.F (l0 : List Int) : Option (Bool) := LB.lim (fun k => aM.f k l0)
theorem aM.bS (l0 : List Int) : LB.Lim (fun k => aM.f k l0) (aM.F l0) := LB.bT (aM.mono l0)
theorem aM.gU (l0 : List Int) : aM.F l0 = (aM.L0 l0 0) := by
  refine LB.Lim.unique (aM.bS l0) ?_
  simp only [aM.f]
  (repeat' (first | exact LB.Lim.const _ | exact aM.dZ _ _ | refine LB.Lim.ite ?_ ?_ | refine LB.Lim.bind ?_ (fun _ => ?_)))
def fV.f  : Option (Int × Int) := some (0, 0)
def fE.f  : Option (Int × Int) := some (0, 1)
def df.f (a0_0 : Int) (a0_1 : Int) : Option (Bool) := (cu.f a0_0 a0_1).bind fun t259 => (if t259 = true then (some true) else ((fV.f).bind fun bt260 => (if (a0_0 == bt260.1 && (a0_1 == bt260.2)) = true then (some true) else ((fE.f).bind fun bt262 => (some (a0_0 == bt262.1 && (a0_1 == bt262.2)))))))
def fD.f (a0 : ByteArray) : Option (Bool) := if (a0.size : Int) ≥ 1 then (if (a0.size : Int) ≤ 64 then (if 0 ≤ (wrap64 ((a0.size : Int) - 1)) then (if (wrap64 ((a0.size : Int) - 1)) < (a0.size : Int) then (some ((bt a0 (wrap64 ((a0.size : Int) - 1))) != 0)) else (none)) else (none)) else (some false)) else (some false)
mutual
def af.j0 : Nat → Int → Bool → Option (Int × Int × Int × Bool)
 | 0, _, _ => none
 | k + 1, x6, x9 => if x9 = true then (some (0, 1, 0, true)) else (if x6 = 3 then (af.j1 k x6 (x6 == 3)) else (if x6 = 4 then (af.j1 k x6 (x6 == 4)) else (if x6 = 6 then (af.j1 k x6 (x6 == 6)) else (if x6 = 8 then (af.j1 k x6 (x6 == 8)) else (af.j1 k x6 (x6 == 11))))))
def af.j1 : Nat → Int → Bool → Option (Int × Int × Int × Bool)
 | 0, _, _ => none
 | k + 1, x6, x12 => if x12 = true then (some ((-1), 1099511627776, (-1), true)) else (if x6 = 5 then (af.j2 k x6 (x6 == 5)) else (af.j2 k x6 (x6 == 7)))
def af.j2 : Nat → Int → Bool → Option (Int × Int × Int × Bool)
 | 0, _, _ => none
 | k + 1, x6, x18 => if x18 = true then (some (0, 1099511627776, 0, true)) else (if x6 = 9 then (some (0, 1048576, 0, true)) else (if x6 = 10 then (some (0, 1048576, 1, true)) else (if x6 = 12 then (af.j3 k x6 (x6 == 12)) else (if x6 = 13 then (af.j3 k x6 (x6 == 13)) else (af.j3 k x6 (x6 == 14))))))
def af.j3 : Nat → Int → Bool → Option (Int × Int × Int × Bool)
 | 0, _, _ => none
 | k + 1, x6, x25 => if x25 = true then (some (0, 1073741824, 0, true)) else (if x6 = 15 then (some (0, 4, 0, true)) else (if x6 = 16 then (some (0, 3, 0, true)) else (if x6 = 17 then (some (0, 16777215, 0, true)) else (if x6 = 18 then (some (64, 64000, 1024, true)) else (some (0, 0, 0, false))))))
end
def af.f (k : Nat) (a0 : Int) : Option (Int × Int × Int × Bool) := if a0 = 0 then (some (0, 2, 0, true)) else (if a0 = 1 then (af.j0 k a0 (a0 == 1)) else (af.j0 k a0 (a0 == 2)))
theorem af.dC : ∀ k, (∀ y0 y1, LeO (af.j0 k y0 y1) (af.j0 (k + 1) y0 y1)) ∧ (∀ y0 y1, LeO (af.j1 k y0 y1) (af.j1 (k + 1) y0 y1)) ∧ (∀ y0 y1, LeO (af.j2 k y0 y1) (af.j2 (k + 1) y0 y1)) ∧ (∀ y0 y1, LeO (af.j3 k y0 y1) (af.j3 (k + 1) y0 y1))
 | 0 => ⟨fun _ _ r h => by simp [af.j0] at h, fun _ _ r h => by simp [af.j1] at h, fun _ _ r h => by simp [af.j2] at h, fun _ _ r h => by simp [af.j3] at h⟩
 | k + 1 => by
  obtain ⟨ih0, ih1, ih2, ih3⟩ := af.dC k
  refine ⟨?_, ?_, ?_, ?_⟩
  ·intro y0 y1
   unfold af.j0
   repeat' first
   | (with_reducible exact ih0 _ _)
   | (with_reducible exact ih1 _ _)
   | (with_reducible exact ih2 _ _)
   | (with_reducible exact ih3 _ _)
   | (with_reducible exact LeO.refl _)
   | (with_reducible exact LeO.none _)
   | (with_reducible refine LeO.ite ?_ ?_)
   | (with_reducible refine LeO.bind ?_ (fun _ => ?_))
   | exact ih0 _ _
   | exact ih1 _ _
   | exact ih2 _ _
   | exact ih3 _ _
   | exact LeO.none _
   | refine LeO.ite ?_ ?_
   | refine LeO.bind ?_ (fun _ => ?_)
  ·intro y0 y1
   unfold af.j1
   repeat' first
   | (with_reducible exact ih0 _ _)
   | (with_reducible exact ih1 _ _)
   | (with_reducible exact ih2 _ _)
   | (with_reducible exact ih3 _ _)
   | (with_reducible exact LeO.refl _)
   | (with_reducible exact LeO.none _)
   | (with_reducible refine LeO.ite ?_ ?_)
   | (with_reducible refine LeO.bind ?_ (fun _ => ?_))
   | exact ih0 _ _
   | exact ih1 _ _
   | exact ih2 _ _
   | exact ih3 _ _
   | exact LeO.none _
   | refine LeO.ite ?_ ?_
   | refine LeO.bind ?_ (fun _ => ?_)
  ·intro y0 y1
   unfold af.j2
   repeat' first
   | (with_reducible exact ih0 _ _)
   | (with_reducible exact ih1 _ _)
   | (with_reducible exact ih2 _ _)
   | (with_reducible exact ih3 _ _)
   | (with_reducible exact LeO.refl _)
   | (with_reducible exact LeO.none _)
   | (with_reducible refine LeO.ite ?_ ?_)
   | (with_reducible refine LeO.bind ?_ (fun _ => ?_))
   | exact ih0 _ _
   | exact ih1 _ _
   | exact ih2 _ _
   | exact ih3 _ _
   | exact LeO.none _
   | refine LeO.ite ?_ ?_
   | refine LeO.bind ?_ (fun _ => ?_)
  ·intro y0 y1
   unfold af.j3
   repeat' first
   | (with_reducible exact ih0 _ _)
   | (with_reducible exact ih1 _ _)
   | (with_reducible exact ih2 _ _)
   | (with_reducible exact ih3 _ _)
   | (with_reducible exact LeO.refl _)
   | (with_reducible exact LeO.none _)
   | (with_reducible refine LeO.ite ?_ ?_)
   | (with_reducible refine LeO.bind ?_ (fun _ => ?_))
   | exact ih0 _ _
   | exact ih1 _ _
   | exact ih2 _ _
   | exact ih3 _ _
   | exact LeO.none _
   | refine LeO.ite ?_ ?_
   | refine LeO.bind ?_ (fun _ => ?_)
theorem af.mono : ∀ a0 k, LeO (af.f k a0) (af.f (k + 1) a0) := by
 intro a0 k
 obtain ⟨ih0, ih1, ih2, ih3⟩ := af.dC k
 unfold af.f
 repeat' first
   | (with_reducible exact ih0 _ _)
   | (with_reducible exact ih1 _ _)
   | (with_reducible exact ih2 _ _)
   | (with_reducible exact ih3 _ _)
   | (with_reducible exact LeO.refl _)
   | (with_reducible exact LeO.none _)
   | (with_reducible refine LeO.ite ?_ ?_)
   | (with_reducible refine LeO.bind ?_ (fun _ => ?_))
   | exact ih0 _ _
   | exact ih1 _ _
   | exact ih2 _ _
   | exact ih3 _ _
   | exact LeO.none _
   | refine LeO.ite ?_ ?_
   | refine LeO.bind ?_ (fun _ => ?_)
noncomputable def af.J0 (x6 : Int) (x9 : Bool) : Option (Int × Int × Int × Bool) := LB.lim (fun k => af.j0 k x6 x9)
noncomputable def af.J1 (x6 : Int) (x12 : Bool) : Option (Int × Int × Int × Bool) := LB.lim (fun k => af.j1 k x6 x12)
noncomputable def af.J2 (x6 : Int) (x18 : Bool) : Option (Int × Int × Int × Bool) := LB.lim (fun k => af.j2 k x6 x18)
noncomputable def af.J3 (x6 : Int) (x25 : Bool) : Option (Int × Int × Int × Bool) := LB.lim (fun k => af.j3 k x6 x25)
theorem af.gV (x6 : Int) (x9 : Bool) : LB.Lim (fun k => af.j0 k x6 x9) (af.J0 x6 x9) := LB.bT (fun k => (af.dC k).1 x6 x9)
theorem af.gD (x6 : Int) (x12 : Bool) : LB.Lim (fun k => af.j1 k x6 x12) (af.J1 x6 x12) := LB.bT (fun k => (af.dC k).2.1 x6 x12)
theorem af.gY (x6 : Int) (x18 : Bool) : LB.Lim (fun k => af.j2 k x6 x18) (af.J2 x6 x18) := LB.bT (fun k => (af.dC k).2.2.1 x6 x18)
theorem af.J3_lim (x6 : Int) (x25 : Bool) : LB.Lim (fun k => af.j3 k x6 x25) (af.J3 x6 x25) := LB.bT (fun k => (af.dC k).2.2.2 x6 x25)
theorem af.J0_eq (x6 : Int) (x9 : Bool) : af.J0 x6 x9 = (if x9 = true then (some (0, 1, 0, true)) else (if x6 = 3 then (af.J1 x6 (x6 == 3)) else (if x6 = 4 then (af.J1 x6 (x6 == 4)) else (if x6 = 6 then (af.J1 x6 (x6 == 6)) else (if x6 = 8 then (af.J1 x6 (x6 == 8)) else (af.J1 x6 (x6 == 11))))))) := by
  refine LB.Lim.unique (af.gV x6 x9).shift ?_
  simp only [af.j0]
  (repeat' (first | exact LB.Lim.const _ | exact af.gV _ _ | exact af.gD _ _ | exact af.gY _ _ | exact af.J3_lim _ _ | refine LB.Lim.ite ?_ ?_ | refine LB.Lim.bind ?_ (fun _ => ?_)))
theorem af.J1_eq (x6 : Int) (x12 : Bool) : af.J1 x6 x12 = (if x12 = true then (some ((-1), 1099511627776, (-1), true)) else (if x6 = 5 then (af.J2 x6 (x6 == 5)) else (af.J2 x6 (x6 == 7)))) := by
  refine LB.Lim.unique (af.gD x6 x12).shift ?_
  simp only [af.j1]
  (repeat' (first | exact LB.Lim.const _ | exact af.gV _ _ | exact af.gD _ _ | exact af.gY _ _ | exact af.J3_lim _ _ | refine LB.Lim.ite ?_ ?_ | refine LB.Lim.bind ?_ (fun _ => ?_)))
theorem af.J2_eq (x6 : Int) (x18 : Bool) : af.J2 x6 x18 = (if x18 = true then (some (0, 1099511627776, 0, true)) else (if x6 = 9 then (some (0, 1048576, 0, true)) else (if x6 = 10 then (some (0, 1048576, 1, true)) else (if x6 = 12 then (af.J3 x6 (x6 == 12)) else (if x6 = 13 then (af.J3 x6 (x6 == 13)) else (af.J3 x6 (x6 == 14))))))) := by
  refine LB.Lim.unique (af.gY x6 x18).shift ?_
  simp only [af.j2]
  (repeat' (first | exact LB.Lim.const _ | exact af.gV _ _ | exact af.gD _ _ | exact af.gY _ _ | exact af.J3_lim _ _ | refine LB.Lim.ite ?_ ?_ | refine LB.Lim.bind ?_ (fun _ => ?_)))
theorem af.J3_eq (x6 : Int) (x25 : Bool) : af.J3 x6 x25 = (if x25 = true then (some (0, 1073741824, 0, true)) else (if x6 = 15 then (some (0, 4, 0, true)) else (if x6 = 16 then (some (0, 3, 0, true)) else (if x6 = 17 then (some (0, 16777215, 0, true)) else (if x6 = 18 then (some (64, 64000, 1024, true)) else (some (0, 0, 0, false))))))) := by
  refine LB.Lim.unique (af.J3_lim x6 x25).shift ?_
  simp only [af.j3]
  (repeat' (first | exact LB.Lim.const _ | exact af.gV _ _ | exact af.gD _ _ | exact af.gY _ _ | exact af.J3_lim _ _ | refine LB.Lim.ite ?_ ?_ | refine LB.Lim.bind ?_ (fun _ => ?_)))
noncomputable def af.F (a0 : Int) : Option (Int × Int × Int × Bool) := LB.lim (fun k => af.f k a0)
theorem af.bS (a0 : Int) : LB.Lim (fun k => af.f k a0) (af.F a0) := LB.bT (af.mono a0)
theorem af.gU (a0 : Int) : af.F a0 = (if a0 = 0 then (some (0, 2, 0, true)) else (if a0 = 1 then (af.J0 a0 (a0 == 1)) else (af.J0 a0 (a0 == 2)))) := by
  refine LB.Lim.unique (af.bS a0) ?_
  simp only [af.f]
  (repeat' (first | exact LB.Lim.const _ | exact af.gV _ _ | exact af.gD _ _ | exact af.gY _ _ | exact af.J3_lim _ _ | refine LB.Lim.ite ?_ ?_ | refine LB.Lim.bind ?_ (fun _ => ?_)))
def bO.f (k : Nat) (a0 : Int) (a1 : Int) : Option (Int) := (af.f k a0).bind fun bt264 => (if bt264.2.2.2 = true then (if a1 < bt264.1 then (some 9) else (if a1 > bt264.2.1 then (some 9) else (some 0))) else (some 3))
theorem bO.mono : ∀ a0 a1 k, LeO (bO.f k a0 a1) (bO.f (k + 1) a0 a1) := by
 intro a0 a1 k
 unfold bO.f
 repeat' first
   | (with_reducible exact af.mono _ _)
   | (with_reducible exact LeO.refl _)
   | (with_reducible exact LeO.none _)
   | (with_reducible refine LeO.ite ?_ ?_)
   | (with_reducible refine LeO.bind ?_ (fun _ => ?_))
   | exact af.mono _ _
   | exact LeO.none _
   | refine LeO.ite ?_ ?_
   | refine LeO.bind ?_ (fun _ => ?_)
noncomputable def bO.F (a0 : Int) (a1 : Int) : Option (Int) := LB.lim (fun k => bO.f k a0 a1)
theorem bO.bS (a0 : Int) (a1 : Int) : LB.Lim (fun k => bO.f k a0 a1) (bO.F a0 a1) := LB.bT (bO.mono a0 a1)
theorem bO.gU (a0 : Int) (a1 : Int) : bO.F a0 a1 = ((af.F a0).bind fun bt264 => (if bt264.2.2.2 = true then (if a1 < bt264.1 then (some 9) else (if a1 > bt264.2.1 then (some 9) else (some 0))) else (some 3))) := by
  refine LB.Lim.unique (bO.bS a0 a1) ?_
  simp only [bO.f]
  (repeat' (first | exact LB.Lim.const _ | exact af.bS _ | refine LB.Lim.ite ?_ ?_ | refine LB.Lim.bind ?_ (fun _ => ?_)))
def ai.j0 : Nat → Bool → Int → Int → Int → List Int → Int → Int → Int → Int → Int → ByteArray → Int → Int → Option (Bool)
 | 0, _, _, _, _, _, _, _, _, _, _, _, _, _ => none
 | k + 1, x51, iw, iP, iM, iD, gK, iN, iQ, iq, iy, iK, iA, iR => if x51 = true then (some false) else (if gK = 1 then ((aV.f k iw iP iM iD gK iN iQ iq iy iK 0 0 iw iP iM iD gK iN iQ iq iy iK iA iR).bind fun t274 => (if t274 = true then ((df.f iq iy).bind fun t275 => (if t275 = true then ((fD.f iK).bind fun t276 => (some t276)) else (some false))) else (some false))) else (if gK = 2 then ((aV.f k iw iP iM iD gK iN iQ 0 0 (⟨#[]⟩ : ByteArray) iA iR iw iP iM iD gK iN iQ iq iy iK iA iR).bind fun t277 => (if t277 = true then ((bO.f k iA iR).bind fun t278 => (some (t278 == 0))) else (some false))) else (some false)))
def ai.f (k : Nat) (a0_0 : Int) (a0_1 : Int) (a0_2 : Int) (l0_3 : List Int) (a0_4 : Int) (a0_5 : Int) (a0_6 : Int) (a0_7 : Int) (a0_8 : Int) (a0_9 : ByteArray) (a0_10 : Int) (a0_11 : Int) : Option (Bool) := (cu.f a0_0 a0_1).bind fun t269 => (if t269 = true then ((aM.f k l0_3).bind fun t270 => (if t270 = true then (if (l0_3.length : Int) ≤ a0_1 then (ai.j0 k true a0_0 a0_1 a0_2 l0_3 a0_4 a0_5 a0_6 a0_7 a0_8 a0_9 a0_10 a0_11) else (if a0_2 < 1 then (ai.j0 k true a0_0 a0_1 a0_2 l0_3 a0_4 a0_5 a0_6 a0_7 a0_8 a0_9 a0_10 a0_11) else (if a0_2 > 1099511627776 then (ai.j0 k true a0_0 a0_1 a0_2 l0_3 a0_4 a0_5 a0_6 a0_7 a0_8 a0_9 a0_10 a0_11) else (if 0 ≤ a0_1 then (if a0_1 < (l0_3.length : Int) then (if a0_2 = (wrap64 ((rd l0_3 a0_1) + 1)) then ((cu.f a0_5 a0_6).bind fun t272 => (ai.j0 k (!t272) a0_0 a0_1 a0_2 l0_3 a0_4 a0_5 a0_6 a0_7 a0_8 a0_9 a0_10 a0_11)) else (ai.j0 k true a0_0 a0_1 a0_2 l0_3 a0_4 a0_5 a0_6 a0_7 a0_8 a0_9 a0_10 a0_11)) else (none)) else (none))))) else (ai.j0 k true a0_0 a0_1 a0_2 l0_3 a0_4 a0_5 a0_6 a0_7 a0_8 a0_9 a0_10 a0_11))) else (ai.j0 k true a0_0 a0_1 a0_2 l0_3 a0_4 a0_5 a0_6 a0_7 a0_8 a0_9 a0_10 a0_11))
theorem ai.dC : ∀ k, (∀ y0 y1 y2 y3 y4 y5 y6 y7 y8 y9 y10 y11 y12, LeO (ai.j0 k y0 y1 y2 y3 y4 y5 y6 y7 y8 y9 y10 y11 y12) (ai.j0 (k + 1) y0 y1 y2 y3 y4 y5 y6 y7 y8 y9 y10 y11 y12))
 | 0 => fun _ _ _ _ _ _ _ _ _ _ _ _ _ r h => by simp [ai.j0] at h
 | k + 1 => by
  have ih0 := ai.dC k
  ·intro y0 y1 y2 y3 y4 y5 y6 y7 y8 y9 y10 y11 y12
   unfold ai.j0
   repeat' first
   | (with_reducible exact ih0 _ _ _ _ _ _ _ _ _ _ _ _ _)
   | (with_reducible exact aV.mono _ _ _ _ _ _ _ _ _ _ _ _ _ _ _ _ _ _ _ _ _ _ _ _ _)
   | (with_reducible exact aM.mono _ _)
   | (with_reducible exact bO.mono _ _ _)
   | (with_reducible exact LeO.refl _)
   | (with_reducible exact LeO.none _)
   | (with_reducible refine LeO.ite ?_ ?_)
   | (with_reducible refine LeO.bind ?_ (fun _ => ?_))
   | exact ih0 _ _ _ _ _ _ _ _ _ _ _ _ _
   | exact aV.mono _ _ _ _ _ _ _ _ _ _ _ _ _ _ _ _ _ _ _ _ _ _ _ _ _
   | exact aM.mono _ _
   | exact bO.mono _ _ _
   | exact LeO.none _
   | refine LeO.ite ?_ ?_
   | refine LeO.bind ?_ (fun _ => ?_)
theorem ai.mono : ∀ a0 a1 a2 a3 a4 a5 a6 a7 a8 a9 a10 a11 k, LeO (ai.f k a0 a1 a2 a3 a4 a5 a6 a7 a8 a9 a10 a11) (ai.f (k + 1) a0 a1 a2 a3 a4 a5 a6 a7 a8 a9 a10 a11) := by
 intro a0 a1 a2 a3 a4 a5 a6 a7 a8 a9 a10 a11 k
 have ih0 := ai.dC k
 unfold ai.f
 repeat' first
   | (with_reducible exact ih0 _ _ _ _ _ _ _ _ _ _ _ _ _)
   | (with_reducible exact aV.mono _ _ _ _ _ _ _ _ _ _ _ _ _ _ _ _ _ _ _ _ _ _ _ _ _)
   | (with_reducible exact aM.mono _ _)
   | (with_reducible exact bO.mono _ _ _)
   | (with_reducible exact LeO.refl _)
   | (with_reducible exact LeO.none _)
   | (with_reducible refine LeO.ite ?_ ?_)
   | (with_reducible refine LeO.bind ?_ (fun _ => ?_))
   | exact ih0 _ _ _ _ _ _ _ _ _ _ _ _ _
   | exact aV.mono _ _ _ _ _ _ _ _ _ _ _ _ _ _ _ _ _ _ _ _ _ _ _ _ _
   | exact aM.mono _ _
   | exact bO.mono _ _ _
   | exact LeO.none _
   | refine LeO.ite ?_ ?_
   | refine LeO.bind ?_ (fun _ => ?_)
noncomputable def ai.J0 (x51 : Bool) (iw : Int) (iP : Int) (iM : Int) (iD : List Int) (gK : Int) (iN : Int) (iQ : Int) (iq : Int) (iy : Int) (iK : ByteArray) (iA : Int) (iR : Int) : Option (Bool) := LB.lim (fun k => ai.j0 k x51 iw iP iM iD gK iN iQ iq iy iK iA iR)
theorem ai.gV (x51 : Bool) (iw : Int) (iP : Int) (iM : Int) (iD : List Int) (gK : Int) (iN : Int) (iQ : Int) (iq : Int) (iy : Int) (iK : ByteArray) (iA : Int) (iR : Int) : LB.Lim (fun k => ai.j0 k x51 iw iP iM iD gK iN iQ iq iy iK iA iR) (ai.J0 x51 iw iP iM iD gK iN iQ iq iy iK iA iR) := LB.bT (fun k => (ai.dC k) x51 iw iP iM iD gK iN iQ iq iy iK iA iR)
theorem ai.J0_eq (x51 : Bool) (iw : Int) (iP : Int) (iM : Int) (iD : List Int) (gK : Int) (iN : Int) (iQ : Int) (iq : Int) (iy : Int) (iK : ByteArray) (iA : Int) (iR : Int) : ai.J0 x51 iw iP iM iD gK iN iQ iq iy iK iA iR = (if x51 = true then (some false) else (if gK = 1 then ((aV.F iw iP iM iD gK iN iQ iq iy iK 0 0 iw iP iM iD gK iN iQ iq iy iK iA iR).bind fun t274 => (if t274 = true then ((df.f iq iy).bind fun t275 => (if t275 = true then ((fD.f iK).bind fun t276 => (some t276)) else (some false))) else (some false))) else (if gK = 2 then ((aV.F iw iP iM iD gK iN iQ 0 0 (⟨#[]⟩ : ByteArray) iA iR iw iP iM iD gK iN iQ iq iy iK iA iR).bind fun t277 => (if t277 = true then ((bO.F iA iR).bind fun t278 => (some (t278 == 0))) else (some false))) else (some false)))) := by
  refine LB.Lim.unique (ai.gV x51 iw iP iM iD gK iN iQ iq iy iK iA iR).shift ?_
  simp only [ai.j0]
  (repeat' (first | exact LB.Lim.const _ | exact ai.gV _ _ _ _ _ _ _ _ _ _ _ _ _ | exact aV.bS _ _ _ _ _ _ _ _ _ _ _ _ _ _ _ _ _ _ _ _ _ _ _ _ | exact aM.bS _ | exact bO.bS _ _ | refine LB.Lim.ite ?_ ?_ | refine LB.Lim.bind ?_ (fun _ => ?_)))
noncomputable def ai.F (a0_0 : Int) (a0_1 : Int) (a0_2 : Int) (l0_3 : List Int) (a0_4 : Int) (a0_5 : Int) (a0_6 : Int) (a0_7 : Int) (a0_8 : Int) (a0_9 : ByteArray) (a0_10 : Int) (a0_11 : Int) : Option (Bool) := LB.lim (fun k => ai.f k a0_0 a0_1 a0_2 l0_3 a0_4 a0_5 a0_6 a0_7 a0_8 a0_9 a0_10 a0_11)
theorem ai.bS (a0_0 : Int) (a0_1 : Int) (a0_2 : Int) (l0_3 : List Int) (a0_4 : Int) (a0_5 : Int) (a0_6 : Int) (a0_7 : Int) (a0_8 : Int) (a0_9 : ByteArray) (a0_10 : Int) (a0_11 : Int) : LB.Lim (fun k => ai.f k a0_0 a0_1 a0_2 l0_3 a0_4 a0_5 a0_6 a0_7 a0_8 a0_9 a0_10 a0_11) (ai.F a0_0 a0_1 a0_2 l0_3 a0_4 a0_5 a0_6 a0_7 a0_8 a0_9 a0_10 a0_11) := LB.bT (ai.mono a0_0 a0_1 a0_2 l0_3 a0_4 a0_5 a0_6 a0_7 a0_8 a0_9 a0_10 a0_11)
theorem ai.gU (a0_0 : Int) (a0_1 : Int) (a0_2 : Int) (l0_3 : List Int) (a0_4 : Int) (a0_5 : Int) (a0_6 : Int) (a0_7 : Int) (a0_8 : Int) (a0_9 : ByteArray) (a0_10 : Int) (a0_11 : Int) : ai.F a0_0 a0_1 a0_2 l0_3 a0_4 a0_5 a0_6 a0_7 a0_8 a0_9 a0_10 a0_11 = ((cu.f a0_0 a0_1).bind fun t269 => (if t269 = true then ((aM.F l0_3).bind fun t270 => (if t270 = true then (if (l0_3.length : Int) ≤ a0_1 then (ai.J0 true a0_0 a0_1 a0_2 l0_3 a0_4 a0_5 a0_6 a0_7 a0_8 a0_9 a0_10 a0_11) else (if a0_2 < 1 then (ai.J0 true a0_0 a0_1 a0_2 l0_3 a0_4 a0_5 a0_6 a0_7 a0_8 a0_9 a0_10 a0_11) else (if a0_2 > 1099511627776 then (ai.J0 true a0_0 a0_1 a0_2 l0_3 a0_4 a0_5 a0_6 a0_7 a0_8 a0_9 a0_10 a0_11) else (if 0 ≤ a0_1 then (if a0_1 < (l0_3.length : Int) then (if a0_2 = (wrap64 ((rd l0_3 a0_1) + 1)) then ((cu.f a0_5 a0_6).bind fun t272 => (ai.J0 (!t272) a0_0 a0_1 a0_2 l0_3 a0_4 a0_5 a0_6 a0_7 a0_8 a0_9 a0_10 a0_11)) else (ai.J0 true a0_0 a0_1 a0_2 l0_3 a0_4 a0_5 a0_6 a0_7 a0_8 a0_9 a0_10 a0_11)) else (none)) else (none))))) else (ai.J0 true a0_0 a0_1 a0_2 l0_3 a0_4 a0_5 a0_6 a0_7 a0_8 a0_9 a0_10 a0_11))) else (ai.J0 true a0_0 a0_1 a0_2 l0_3 a0_4 a0_5 a0_6 a0_7 a0_8 a0_9 a0_10 a0_11))) := by
  refine LB.Lim.unique (ai.bS a0_0 a0_1 a0_2 l0_3 a0_4 a0_5 a0_6 a0_7 a0_8 a0_9 a0_10 a0_11) ?_
  simp only [ai.f]
  (repeat' (first | exact LB.Lim.const _ | exact ai.gV _ _ _ _ _ _ _ _ _ _ _ _ _ | exact aV.bS _ _ _ _ _ _ _ _ _ _ _ _ _ _ _ _ _ _ _ _ _ _ _ _ | exact aM.bS _ | exact bO.bS _ _ | refine LB.Lim.ite ?_ ?_ | refine LB.Lim.bind ?_ (fun _ => ?_)))
def bU.f (a0 : Int) : Option (Int) := some a0
def aI.l0 : Nat → List Int → List Int → Int → Option (Bool)
 | 0, _, _, _ => none
 | k + 1, x0, x1, x5 => if x5 < (x0.length : Int) then (if 0 ≤ x5 then (if x5 < (x1.length : Int) then (if (rd x0 x5) = (rd x1 x5) then (aI.l0 k x0 x1 (wrap64 (x5 + 1))) else (some false)) else (none)) else (none)) else (some true)
def aI.f (k : Nat) (l0 : List Int) (l1 : List Int) : Option (Bool) := if (l0.length : Int) = (l1.length : Int) then (aI.l0 k l0 l1 0) else (some false)
theorem aI.dC : ∀ k, (∀ y0 y1 y2, LeO (aI.l0 k y0 y1 y2) (aI.l0 (k + 1) y0 y1 y2))
 | 0 => fun _ _ _ r h => by simp [aI.l0] at h
 | k + 1 => by
  have ih0 := aI.dC k
  ·intro y0 y1 y2
   unfold aI.l0
   repeat' first
   | (with_reducible exact ih0 _ _ _)
   | (with_reducible exact LeO.refl _)
   | (with_reducible exact LeO.none _)
   | (with_reducible refine LeO.ite ?_ ?_)
   | (with_reducible refine LeO.bind ?_ (fun _ => ?_))
   | exact ih0 _ _ _
   | exact LeO.none _
   | refine LeO.ite ?_ ?_
   | refine LeO.bind ?_ (fun _ => ?_)
theorem aI.mono : ∀ a0 a1 k, LeO (aI.f k a0 a1) (aI.f (k + 1) a0 a1) := by
 intro a0 a1 k
 have ih0 := aI.dC k
 unfold aI.f
 repeat' first
   | (with_reducible exact ih0 _ _ _)
   | (with_reducible exact LeO.refl _)
   | (with_reducible exact LeO.none _)
   | (with_reducible refine LeO.ite ?_ ?_)
   | (with_reducible refine LeO.bind ?_ (fun _ => ?_))
   | exact ih0 _ _ _
   | exact LeO.none _
   | refine LeO.ite ?_ ?_
   | refine LeO.bind ?_ (fun _ => ?_)
noncomputable def aI.L0 (x0 : List Int) (x1 : List Int) (x5 : Int) : Option (Bool) := LB.lim (fun k => aI.l0 k x0 x1 x5)
theorem aI.dZ (x0 : List Int) (x1 : List Int) (x5 : Int) : LB.Lim (fun k => aI.l0 k x0 x1 x5) (aI.L0 x0 x1 x5) := LB.bT (fun k => (aI.dC k) x0 x1 x5)
theorem aI.iX (x0 : List Int) (x1 : List Int) (x5 : Int) : aI.L0 x0 x1 x5 = (if x5 < (x0.length : Int) then (if 0 ≤ x5 then (if x5 < (x1.length : Int) then (if (rd x0 x5) = (rd x1 x5) then (aI.L0 x0 x1 (wrap64 (x5 + 1))) else (some false)) else (none)) else (none)) else (some true)) := by
  refine LB.Lim.unique (aI.dZ x0 x1 x5).shift ?_
  simp only [aI.l0]
  (repeat' (first | exact LB.Lim.const _ | exact aI.dZ _ _ _ | refine LB.Lim.ite ?_ ?_ | refine LB.Lim.bind ?_ (fun _ => ?_)))
noncomputable def aI.F (l0 : List Int) (l1 : List Int) : Option (Bool) := LB.lim (fun k => aI.f k l0 l1)
theorem aI.bS (l0 : List Int) (l1 : List Int) : LB.Lim (fun k => aI.f k l0 l1) (aI.F l0 l1) := LB.bT (aI.mono l0 l1)
theorem aI.gU (l0 : List Int) (l1 : List Int) : aI.F l0 l1 = (if (l0.length : Int) = (l1.length : Int) then (aI.L0 l0 l1 0) else (some false)) := by
  refine LB.Lim.unique (aI.bS l0 l1) ?_
  simp only [aI.f]
  (repeat' (first | exact LB.Lim.const _ | exact aI.dZ _ _ _ | refine LB.Lim.ite ?_ ?_ | refine LB.Lim.bind ?_ (fun _ => ?_)))
end Go.Proofs.Ytddnlnjmikcgfaa.PC
end
