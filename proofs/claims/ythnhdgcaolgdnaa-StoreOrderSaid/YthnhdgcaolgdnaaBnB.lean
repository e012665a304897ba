/- An argument that reads as data stands in view: blocks that are only read, and what they hold. -/
import Derived.Test.YthnhdgcaolgdnaaBnA
import Derived.Deep.Slices
import Derived.SizedLaws
set_option linter.unusedVariables false
set_option linter.unusedSimpArgs false
namespace Go.Proofs.YthnhdgcaolgdnaaAn
open Go
/-! ### kinds of data -/
/-- cells that hold data of one kind -/
structure Kn (α : Type) where
  sz : Nat
  K : Hp → α → List AV → Prop
  mono : ∀ {h h' a cs}, h.le h' → K h a cs → K h' a cs
  len : ∀ {h a cs}, K h a cs → cs.length = sz
  sc : ∀ {h a cs}, K h a cs → cs.all AV.sc = true
def Kn.int : Kn Int := ⟨1, fun _ n cs => cs = [.i .i64 n] ∧ -9223372036854775808 ≤ n ∧ n < 9223372036854775808, fun _ k => k, fun k => by rw [k.1]; rfl, fun k => by rw [k.1]; rfl⟩
def Kn.byte : Kn Nat := ⟨1, fun _ n cs => cs = [.i .u8 (.ofNat n)] ∧ n < 256, fun _ k => k, fun k => by rw [k.1]; rfl, fun k => by rw [k.1]; rfl⟩
def Kn.bool : Kn Bool := ⟨1, fun _ n cs => cs = [.b n], fun _ k => k, fun k => by rw [k]; rfl, fun k => by rw [k]; rfl⟩
def Kn.str : Kn (List Nat) := ⟨1, fun _ l cs => cs = [.s l] ∧ l.length ≤ 140737488351232 ∧ ∀ x ∈ l, x < 256, fun _ k => k, fun k => by rw [k.1]; rfl, fun k => by rw [k.1]; rfl⟩
def Kn.pair {α β : Type} (d : Kn α) (e : Kn β) : Kn (α × β) := ⟨d.sz + e.sz, fun h x cs => ∃ c1 c2, cs = c1 ++ c2 ∧ d.K h x.1 c1 ∧ e.K h x.2 c2,
  fun l ⟨c1, c2, h1, h2, h3⟩ => ⟨c1, c2, h1, d.mono l h2, e.mono l h3⟩,
  fun ⟨c1, c2, h1, h2, h3⟩ => by rw [h1, List.length_append, d.len h2, e.len h3],
  fun ⟨c1, c2, h1, h2, h3⟩ => by rw [h1, List.all_append, d.sc h2, e.sc h3]; rfl⟩
def Kn.iso {α S : Type} (d : Kn α) (f : S → α) : Kn S := ⟨d.sz, fun h s cs => d.K h (f s) cs, fun l k => d.mono l k, fun k => d.len k, fun k => d.sc k⟩
/-- what stands in a slice's elements -/
def Kn.Row {α : Type} (d : Kn α) (h : Hp) (a : AV) (l : List α) : Prop := ∃ css, Raw h a d.sz css ∧ All2 (d.K h) l css
theorem All2.monoP {α β : Type} {R S : α → β → Prop} (hm : ∀ a b, R a b → S a b) {xs : List α} {ys : List β} (h : All2 R xs ys) : All2 S xs ys := All2.mono hm h
theorem Kn.Row.mono {α : Type} {d : Kn α} {h h' : Hp} {a : AV} {l : List α} (r : d.Row h a l) (le : h.le h') : d.Row h' a l := by
  obtain ⟨css, r1, r2⟩ := r
  exact ⟨css, r1.mono le, r2.mono fun _ _ k => d.mono le k⟩
/-- a slice; nb: bytes an element -/
def Kn.slice {α : Type} (d : Kn α) (nb : Nat) : Kn (List α) := ⟨1, fun h l cs => ∃ a, cs = [a] ∧ d.Row h a l ∧ l.length * nb ≤ 140737488351232,
  fun le ⟨a, h1, h2, h3⟩ => ⟨a, h1, h2.mono le, h3⟩, fun ⟨a, h1, _⟩ => by rw [h1]; rfl, fun ⟨a, h1, ⟨css, h2, _⟩, _⟩ => by rw [h1]; simp [h2.sc]⟩

/-! ### what is seen grows -/
noncomputable def Hp.of (H : Heap) : Hp := ⟨H.get, H.low⟩
/-- nothing but blocks that are only read -/
structure Ro (j : Inj) (H : Heap) (w : World) : Prop where
  rel : Rel j H w
  low : H.low = H.next
structure Grows (j : Inj) (H : Heap) (j' : Inj) (H' : Heap) : Prop where
  j : j.le j'
  h : (Hp.of H).le (Hp.of H')
theorem Grows.refl (j : Inj) (H : Heap) : Grows j H j H := ⟨Inj.le_refl j, Hp.le_refl _⟩
theorem Grows.trans {j j1 j2 : Inj} {H H1 H2 : Heap} (a : Grows j H j1 H1) (b : Grows j1 H1 j2 H2) : Grows j H j2 H2 := ⟨Inj.le_trans a.j b.j, Hp.le_trans a.h b.h⟩
/-- one more block -/
noncomputable def Heap.more (H : Heap) (cs : List AV) : Heap := ⟨H.next + 1, H.m.set H.next (some cs), H.next + 1⟩
theorem more_get (H : Heap) (cs : List AV) (b : Nat) : (H.more cs).get b = if b = H.next then some cs else H.get b := T.get_set H.m H.next b (some cs)
theorem Ro.more {j : Inj} {H : Heap} {w : World} (r : Ro j H w) {cs : List AV} {rb d : Nat} {rc : Array Value} {ty : TypeId} {fz : Nat × Nat} {vs : List Value} (hb : w.heap[rb]? = some (.cells rc ty fz)) (hd : d + vs.length ≤ rc.size) (hvs : vs = (rc.toList.drop d).take vs.length) (hv : VRs j cs vs) :
    Ro (j.add H.next (rb, d, rc.size)) (H.more cs) w ∧ Grows j H (j.add H.next (rb, d, rc.size)) (H.more cs) := by
  have hnone := r.rel.next_none
  have hle : j.le (j.add H.next (rb, d, rc.size)) := Inj.le_add _ hnone
  refine ⟨⟨⟨?_, ?_, ?_, ?_, Nat.le_refl _⟩, rfl⟩, hle, ?_⟩
  · intro b x hx
    show b < H.next + 1
    by_cases e : b = H.next
    · omega
    · rw [Inj.add_ne _ _ e] at hx
      have := r.rel.dom b x hx
      omega
  · intro b cells rb' d' n' hg hj
    have hlt : decide (b < (H.more cs).low) = true := by
      apply decide_eq_true
      show b < H.next + 1
      by_cases e : b = H.next
      · omega
      · rw [Inj.add_ne _ _ e] at hj
        have := r.rel.dom _ _ hj
        omega
    rw [hlt]
    by_cases e : b = H.next
    · subst e
      rw [more_get, if_pos rfl] at hg
      injection hg with hg
      rw [Inj.add_same] at hj
      injection hj with hj
      injection hj with e1 hj
      injection hj with e2 e3
      subst hg; subst e1; subst e2; subst e3
      refine ⟨rc, ty, fz.1, fz.2, hb, rfl, .inl rfl, rc.toList.take d, vs, rc.toList.drop (d + vs.length), ?_, by simp; omega, hv.mono hle⟩
      conv => lhs; rw [← List.take_append_drop d rc.toList]
      congr 1
      conv => lhs; rw [← List.take_append_drop vs.length (rc.toList.drop d)]
      rw [← hvs, List.drop_drop]
    · rw [more_get, if_neg e] at hg
      rw [Inj.add_ne _ _ e] at hj
      have := r.rel.blk b cells rb' d' n' hg hj
      have h1 : decide (b < H.low) = true := decide_eq_true (by rw [r.low]; exact r.rel.dom _ _ hj)
      rw [h1] at this
      exact this.mono hle
  · intro b b' cells cells' rb' d' n' d2 n2 _ _ h1 h2
    refine .inr ⟨?_, ?_⟩
    · show b < H.next + 1
      by_cases e : b = H.next
      · omega
      · rw [Inj.add_ne _ _ e] at h1
        have := r.rel.dom _ _ h1
        omega
    · show b' < H.next + 1
      by_cases e : b' = H.next
      · omega
      · rw [Inj.add_ne _ _ e] at h2
        have := r.rel.dom _ _ h2
        omega
  · intro b hb
    have hb : H.next + 1 ≤ b := hb
    rw [more_get, if_neg (by omega)]
    exact r.rel.fresh b (by omega)
  · intro b c hc
    have hc : H.get b = some c := hc
    show (H.more cs).get b = some c
    rw [more_get, if_neg ?_]
    · exact hc
    · intro e
      rw [e, r.rel.fresh _ (Nat.le_refl _)] at hc
      cases hc

/-! ### what reads as data stands in view -/
/-- Whatever of type t reads as data stands in view as data of the kind. -/
def Opens (P : Program) (t : TypeId) {α : Type} (d : Kn α) : Prop :=
  ∀ {Hd : Type} (enc : TypeId × Value → Hd) (w : World) (base : Nat) (held : Bool) (fuel : Nat) (cs : List Value) (x : DataW Hd) (ps : List MemPlace),
    DataW.trod enc P w base (fun _ => true) held fuel t cs = some (x, ps) → (∀ n ∈ x.weights P t, n ≤ reachBytes) →
    ∀ (j : Inj) (H : Heap), Ro j H w → ∃ (a : α) (avs : List AV) (j' : Inj) (H' : Heap), Ro j' H' w ∧ Grows j H j' H' ∧ VRs j' avs cs ∧ d.K (Hp.of H') a avs
section
variable {P : Program} {t : TypeId}
theorem opens_int (ht : P.underlying t = some (.int .i64)) : Opens P t Kn.int := by
  intro Hd enc w base held fuel cs x ps h _ j H r
  obtain ⟨n, rfl, _, hw⟩ := DataW.trod_int ht h
  simp only [Lit.wf, Bool.and_eq_true, decide_eq_true_eq] at hw
  have h1 : (IntKind.i64).min = -9223372036854775808 := by decide
  have h2 : (IntKind.i64).max = 9223372036854775807 := by decide
  exact ⟨n, [.i .i64 n], j, H, r, Grows.refl _ _, .cons (.i _ _) .nil, rfl, by omega, by omega⟩
theorem opens_byte (ht : P.underlying t = some (.int .u8)) : Opens P t Kn.byte := by
  intro Hd enc w base held fuel cs x ps h _ j H r
  obtain ⟨n, rfl, _, hw⟩ := DataW.trod_int ht h
  simp only [Lit.wf, Bool.and_eq_true, decide_eq_true_eq] at hw
  have h1 : (IntKind.u8).min = 0 := by decide
  have h2 : (IntKind.u8).max = 255 := by decide
  obtain ⟨m, rfl⟩ := Int.eq_ofNat_of_zero_le (a := n) (by omega)
  exact ⟨m, [.i .u8 (.ofNat m)], j, H, r, Grows.refl _ _, .cons (.i _ _) .nil, rfl, by omega⟩
theorem opens_string (ht : P.underlying t = some .string) : Opens P t Kn.str := by
  intro Hd enc w base held fuel cs x ps h hs j H r
  obtain ⟨s, rfl, hx, _⟩ := DataW.trod_string ht h
  simp only [Prod.mk.injEq] at hx
  obtain ⟨rfl, rfl⟩ := hx
  have h1 := hs s.data.toList.length (by simp [DataW.weights])
  have hr : reachBytes = 140737488351232 := by decide
  refine ⟨bytesL s, [.s (bytesL s)], j, H, r, Grows.refl _ _, .cons (.s _) .nil, rfl, by simp [bytesL] at *; omega, fun x hx => ?_⟩
  obtain ⟨u, _, rfl⟩ := List.mem_map.1 hx
  exact u.toNat_lt
theorem mem_weightsAll {Hd : Type} {e : TypeId} : ∀ {l : List (DataW Hd)} {d : DataW Hd}, d ∈ l → ∀ n ∈ d.weights P e, n ∈ DataW.weightsAll P e l
  | d0 :: l, d, hd, n, hn => by
    simp only [DataW.weightsAll, List.mem_append]
    rcases List.mem_cons.1 hd with rfl | hd
    · exact .inl hn
    · exact .inr (mem_weightsAll hd n hn)
theorem add_off {a : Addr} {n : Nat} (ha : a.spot = none) : a.add n = ⟨a.block, a.off + n, none⟩ := by
  unfold Addr.add
  split
  · rename_i h; subst h; cases a; simp_all
  · cases a; simp_all
theorem opens_slice {α : Type} {e : TypeId} (nb : Nat) {d : Kn α} (ht : P.underlying t = some (.slice e)) (hsz : P.cellsOf e = d.sz) (hpos : 0 < d.sz) (hnb : P.bytesOf e = nb) (ho : Opens P e d) : Opens P t (Kn.slice d nb) := by
  subst hnb
  intro Hd enc w base held fuel cs x ps h hs j H r
  have hr : reachBytes = 140737488351232 := by decide
  rcases Deep.open_slice ht h with ⟨rfl, _⟩ | ⟨a, len, cap, m, n, D, Pl, rfl, hb, hl, hm, hmm, hx, hel⟩
  · exact ⟨[], [.ns], j, H, r, Grows.refl _ _, .cons .ns .nil, .ns, rfl, ⟨[], ⟨fun _ h => (by cases h), rfl⟩, .nil⟩, by simp⟩
  · simp only [Prod.mk.injEq] at hx
    obtain ⟨rfl, rfl⟩ := hx
    simp only [if_true] at hmm
    subst hmm
    rw [hsz] at hel
    have hw := hs ((((List.range len).map D).length + ((List.range (m - len)).map fun j => D (len + j)).length) * P.bytesOf e) (by simp [DataW.weights, ht])
    simp only [List.length_map, List.length_range] at hw
    have hbnd : len * P.bytesOf e ≤ 140737488351232 := by
      rw [hr] at hw
      exact Nat.le_trans (Nat.mul_le_mul_right _ (by omega)) hw
    by_cases h0 : m = 0
    · subst h0
      obtain rfl : len = 0 := by omega
      exact ⟨[], [.e a], j, H, r, Grows.refl _ _, .cons (.e a) .nil, .e a, rfl, ⟨[], ⟨fun _ h => (by cases h), rfl⟩, .nil⟩, by simp⟩
    · -- the block
      obtain ⟨c0, hc0, _⟩ := hel 0 (by omega)
      obtain ⟨_, hcl0, hcc0⟩ := World.cells?_some hc0
      have h00 := hcc0 0 hpos
      have hz : (a.add (0 * d.sz)).add 0 = a := by rw [Nat.zero_mul]; rfl
      rw [hz, List.getElem?_eq_getElem (by omega)] at h00
      have hblk : ∃ rc ty fz, w.heap[a.block]? = some (.cells rc ty fz) ∧ a.spot = none := by
        unfold World.cell? at h00
        split at h00
        · rename_i rc ty fz he
          refine ⟨rc, ty, fz, he, ?_⟩
          cases hsp : a.spot with
          | none => rfl
          | some _ => rw [hsp] at h00; simp at h00
        · cases h00
      obtain ⟨rc, ty, fz, hheap, hspot⟩ := hblk
      have hcell : ∀ i, i < m → ∀ cs', w.cells? base (a.add (i * d.sz)) d.sz = some cs' → cs' = (rc.toList.drop (a.off + i * d.sz)).take d.sz ∧ a.off + i * d.sz + d.sz ≤ rc.size := by
        intro i hi cs' hcs
        obtain ⟨_, hcl, hcc⟩ := World.cells?_some hcs
        have hk : ∀ k, k < d.sz → rc.toList[a.off + i * d.sz + k]? = cs'[k]? := by
          intro k hk
          rw [← hcc k hk, add_off hspot, add_off rfl]
          simp [World.cell?, hheap]
        have hlast := hk (d.sz - 1) (by omega)
        rw [List.getElem?_eq_getElem (l := cs') (by omega)] at hlast
        have hlt := (List.getElem?_eq_some_iff.1 hlast).1
        have hfit : a.off + i * d.sz + d.sz ≤ rc.size := by simp at hlt; omega
        refine ⟨List.ext_getElem? fun k => ?_, hfit⟩
        by_cases hk' : k < d.sz
        · rw [← hk k hk', List.getElem?_take_of_lt hk', List.getElem?_drop]
        · rw [List.getElem?_eq_none (by omega), List.getElem?_eq_none (by simp; omega)]
      have hfit : a.off + m * d.sz ≤ rc.size := by
        obtain ⟨c1, hc1, _⟩ := hel (m - 1) (by omega)
        have h2 := (hcell (m - 1) (by omega) c1 hc1).2
        have e : m * d.sz = (m - 1) * d.sz + d.sz := by rw [← Nat.succ_mul]; congr 1; omega
        omega
      have key : ∀ k, k ≤ len → ∃ (l : List α) (css : List (List AV)) (j' : Inj) (H' : Heap), l.length = k ∧ css.length = k ∧ Ro j' H' w ∧ Grows j H j' H' ∧ All2 (d.K (Hp.of H')) l css ∧ VRs j' css.flatten ((rc.toList.drop a.off).take (k * d.sz)) := by
        intro k
        induction k with
        | zero => intro _; exact ⟨[], [], j, H, rfl, rfl, r, Grows.refl _ _, .nil, by simp; exact .nil⟩
        | succ k ih =>
          intro hk
          obtain ⟨l, css, j1, H1, e1, e2, r1, g1, a1, v1⟩ := ih (by omega)
          obtain ⟨cs', h1, h2⟩ := hel k (by omega)
          obtain ⟨y, avs, j2, H2, r2, g2, v2, k2⟩ := ho enc w base held n cs' (D k) (Pl k) h2 (fun q hq => hs q (by
            simp only [DataW.weights, ht, List.mem_cons, List.mem_append]
            exact .inr (.inl (mem_weightsAll (List.mem_map.2 ⟨k, List.mem_range.2 (by omega), rfl⟩) q hq)))) j1 H1 r1
          refine ⟨l ++ [y], css ++ [avs], j2, H2, by simp [e1], by simp [e2], r2, g1.trans g2, (a1.mono fun _ _ q => d.mono g2.h q).append (.cons k2 .nil), ?_⟩
          rw [List.flatten_append, Nat.succ_mul, List.take_add, List.drop_drop]
          refine (v1.mono g2.j).append ?_
          rw [← (hcell k (by omega) cs' h1).1]
          simpa using v2
      obtain ⟨l, css, j1, H1, e1, e2, r1, g1, a1, v1⟩ := key len (Nat.le_refl _)
      have hlm : len * d.sz ≤ m * d.sz := Nat.mul_le_mul_right _ hl
      have hvl : ((rc.toList.drop a.off).take (len * d.sz)).length = len * d.sz := by simp; omega
      obtain ⟨r2, g2⟩ := r1.more (d := a.off) hheap (by rw [hvl]; omega) (by rw [hvl]) v1
      have hcl : ∀ c ∈ css, c.length = d.sz := by
        intro c hc
        obtain ⟨i, hi, rfl⟩ := List.getElem_of_mem hc
        have hi' : i < l.length := by omega
        exact d.len (a1.get2 (List.getElem?_eq_getElem hi') (List.getElem?_eq_getElem hi))
      refine ⟨l, [.sl H1.next 0 len m true d.sz], _, _, r2, g1.trans g2, .cons ?_ .nil, _, rfl, ⟨css, ⟨hcl, rfl, e2.symm, hl, .inr ?_⟩, a1.mono fun _ _ q => d.mono g2.h q⟩, by rw [e1]; exact hbnd⟩
      · have he : a = ⟨a.block, a.off, none⟩ := by cases a; simp_all
        rw [he]
        exact .sl (Inj.add_same _ _ _) (fun _ => by simp) hl (Nat.le_refl _) (fun _ => rfl) (by omega)
      · show rdH (Hp.of (H1.more css.flatten)) H1.next 0 (css.length * d.sz) = some css.flatten
        unfold rdH
        show ((H1.more css.flatten).get H1.next).bind _ = _
        rw [more_get, if_pos rfl, Option.bind_some, sub_mk (by rw [flat_len hcl]; omega), List.drop_zero, List.take_of_length_le (by rw [flat_len hcl]; omega)]
end
/-! ### structs: their fields one behind the other -/
section
variable {P : Program}
/-- Cells that hold values of these types one behind the other. -/
def Chunks {Hd : Type} (enc : TypeId × Value → Hd) (P : Program) (w : World) (base : Nat) (held : Bool) (fuel : Nat) : List TypeId → List Value → List (DataW Hd) → Prop
  | [], cs, ds => cs = [] ∧ ds = []
  | t :: ts, cs, d :: ds => (∃ ps, DataW.trod enc P w base (fun _ => true) held fuel t (cs.take (P.cellsOf t)) = some (d, ps)) ∧ Chunks enc P w base held fuel ts (cs.drop (P.cellsOf t)) ds
  | _ :: _, _, [] => False
def OpensAll (P : Program) (ts : List TypeId) {α : Type} (d : Kn α) : Prop :=
  ∀ {Hd : Type} (enc : TypeId × Value → Hd) (w : World) (base : Nat) (held : Bool) (fuel : Nat) (cs : List Value) (ds : List (DataW Hd)),
    Chunks enc P w base held fuel ts cs ds → (∀ n ∈ DataW.weightsEach P ts ds, n ≤ reachBytes) →
    ∀ (j : Inj) (H : Heap), Ro j H w → ∃ (a : α) (avs : List AV) (j' : Inj) (H' : Heap), Ro j' H' w ∧ Grows j H j' H' ∧ VRs j' avs cs ∧ d.K (Hp.of H') a avs
theorem opens_one {t : TypeId} {α : Type} {d : Kn α} (h : Opens P t d) : OpensAll P [t] d := by
  intro Hd enc w base held fuel cs ds hc hs j H r
  match ds, hc with
  | [x], ⟨⟨ps, h1⟩, h2, _⟩ =>
    have e : cs.take (P.cellsOf t) = cs := by
      rw [List.take_of_length_le]
      have := congrArg List.length h2
      simp at this
      omega
    rw [e] at h1
    exact h enc w base held fuel cs x ps h1 (fun n hn => hs n (by simp [DataW.weightsEach, hn])) j H r
theorem opens_cons {t : TypeId} {ts : List TypeId} {α β : Type} {d : Kn α} {d2 : Kn β} (h : Opens P t d) (h2 : OpensAll P ts d2) : OpensAll P (t :: ts) (Kn.pair d d2) := by
  intro Hd enc w base held fuel cs ds hc hs j H r
  match ds, hc with
  | x :: ds, ⟨⟨ps, h1⟩, hr⟩ =>
    obtain ⟨a, avs, j1, H1, r1, g1, v1, k1⟩ := h enc w base held fuel _ x ps h1 (fun n hn => hs n (by simp [DataW.weightsEach, hn])) j H r
    obtain ⟨b, bvs, j2, H2, r2, g2, v2, k2⟩ := h2 enc w base held fuel _ ds hr (fun n hn => hs n (by simp [DataW.weightsEach, hn])) j1 H1 r1
    refine ⟨(a, b), avs ++ bvs, j2, H2, r2, g1.trans g2, ?_, _, _, rfl, d.mono g2.h k1, k2⟩
    have := (v1.mono g2.j).append v2
    rw [List.take_append_drop] at this
    exact this
/-- Where the fields stand: each behind the one ahead of it. -/
def inRow (P : Program) : Nat → List Field → Bool
  | _, [] => true
  | o, f :: fs => f.offset == o && inRow P (o + P.cellsOf f.type) fs
def total (P : Program) (fs : List Field) : Nat := (fs.map fun f => P.cellsOf f.type).sum
theorem chunks_of {Hd : Type} (enc : TypeId × Value → Hd) (w : World) (base : Nat) (held : Bool) (fuel : Nat) : ∀ (fs : List Field) (o : Nat) (cs : List Value) (xs : List (DataW Hd × List MemPlace)),
    inRow P o fs = true → cs.length = o + total P fs → (fs.mapM fun f => DataW.trod enc P w base (fun _ => true) held fuel f.type ((cs.drop f.offset).take (P.cellsOf f.type))) = some xs →
    Chunks enc P w base held fuel (fs.map (·.type)) (cs.drop o) (xs.map (·.1))
  | [], o, cs, xs, _, hl, hm => by
    simp [total] at hl
    simp at hm
    subst hm
    simp [Chunks, ← hl]
  | f :: fs, o, cs, xs, hr, hl, hm => by
    simp only [inRow, Bool.and_eq_true, beq_iff_eq] at hr
    obtain ⟨hfo, hr⟩ := hr
    rw [List.mapM_cons] at hm
    cases h1 : DataW.trod enc P w base (fun _ => true) held fuel f.type ((cs.drop f.offset).take (P.cellsOf f.type)) with
    | none => rw [h1] at hm; simp at hm
    | some y =>
      rw [h1] at hm
      cases h2 : (fs.mapM fun f => DataW.trod enc P w base (fun _ => true) held fuel f.type ((cs.drop f.offset).take (P.cellsOf f.type))) with
      | none => rw [h2] at hm; simp at hm
      | some ys =>
        rw [h2] at hm
        simp at hm
        subst hm
        have ih := chunks_of enc w base held fuel fs (o + P.cellsOf f.type) cs ys hr (by rw [hl]; simp [total]; omega) h2
        refine ⟨⟨y.2, ?_⟩, ?_⟩
        · rw [← hfo]; exact h1
        · rw [List.drop_drop]; exact ih
theorem opens_struct {t : TypeId} {fs : Array Field} {α S : Type} {d : Kn α} (ht : P.underlying t = some (.struct fs)) (hr : inRow P 0 fs.toList = true) (hc : P.cellsOf t = total P fs.toList)
    (h : OpensAll P (fs.toList.map (·.type)) d) (f : S → α) (g : α → S) (hfg : ∀ a, f (g a) = a) : Opens P t (Kn.iso d f) := by
  intro Hd enc w base held fuel cs x ps hx hs j H r
  cases fuel with
  | zero => simp [DataW.trod] at hx
  | succ n =>
    obtain ⟨xs, m, hm, hxe, hl, hall⟩ : ∃ (xs : List (DataW Hd × List MemPlace)) (m : Nat), n = m ∧ x = .agg (xs.map (·.1)) ∧ cs.length = P.cellsOf t ∧ (fs.toList.mapM fun f => DataW.trod enc P w base (fun _ => true) held m f.type ((cs.drop f.offset).take (P.cellsOf f.type))) = some xs := by
      unfold DataW.trod at hx
      rw [ht] at hx
      split at hx <;> simp_all
      obtain ⟨hl, hx⟩ := hx
      obtain ⟨xs, h1, h2, h3⟩ := hx
      exact ⟨xs, h2.symm, h1⟩
    subst hm
    subst hxe
    have hch := chunks_of (P := P) enc w base held n fs.toList 0 cs xs hr (by rw [hl, hc]; omega) hall
    obtain ⟨a, avs, j1, H1, r1, g1, v1, k1⟩ := h enc w base held n cs _ (by simpa using hch) (fun q hq => hs q (by simpa [DataW.weights, ht] using hq)) j H r
    refine ⟨g a, avs, j1, H1, r1, g1, v1, ?_⟩
    show d.K _ (f (g a)) avs
    rw [hfg]; exact k1
/-- A struct's value is its cells. -/
theorem okWide_agg {W : World} {r : Go.Reach} {b0 : Nat} {t : TypeId} {fs : Array Field} {v : Value} (ht : P.underlying t = some (.struct fs)) (h : Value.okWide P W r b0 t v) : ∃ xs : Array Value, v = .agg xs := by
  simp only [Value.okWide, ht] at h
  obtain ⟨cs, h1, _⟩ := h
  exact ⟨cs, h1⟩
theorem weights_of {Hd : Type} {ts : List TypeId} {ds : List (DataW Hd)} (h : (DataW.weightsEach P ts ds).all (· ≤ reachBytes) = true) {j : Nat} {t : TypeId} {d : DataW Hd} (ht : ts[j]? = some t) (hd : ds[j]? = some d) : ∀ n ∈ d.weights P t, n ≤ reachBytes :=
  fun n hn => by simpa using List.all_eq_true.1 h _ (DataW.weights_mem_each ht hd n hn)
end
end Go.Proofs.YthnhdgcaolgdnaaAn
