/- A row with elements set in: told by hand, and shown once for all that says so where the capacity is known. -/
import Derived.Test.YtecjbmibngfpmaaAnZh
set_option linter.unusedVariables false
set_option linter.unusedSimpArgs false
namespace Go.Proofs.YtecjbmibngfpmaaAn
open Go
section
variable {hk : Hook}
/-- what was known of a value is what is known of it -/
theorem VR.back {j j3 : Inj} (hle : j.le j3) {a : AV} {v0 : Value} (h : VR j a v0) : ∀ {v : Value}, VR j3 a v → VR j a v := by
  induction h with
  | b x => intro v h; cases h; exact .b x
  | i k n => intro v h; cases h; exact .i k n
  | s t =>
    intro v h
    generalize e : AV.s (bytesL t) = a at h ⊢
    cases h <;> first | (cases e; done) | exact .s _
  | p h =>
    intro v h'
    cases h' with
    | p h' =>
      rw [hle _ _ h] at h'
      injection h' with h'; injection h' with e1 h'; injection h' with e2 e3
      subst e1; subst e2; subst e3
      exact .p h
  | np => intro v h; cases h; exact .np
  | sl h ho hl hc hx hb =>
    intro v h'
    cases h' with
    | sl h' ho' hl' hc' hx' hb' =>
      rw [hle _ _ h] at h'
      injection h' with h'; injection h' with e1 h'; injection h' with e2 e3
      subst e1; subst e2; subst e3
      exact .sl h ho' hl' hc' hx' hb'
  | ns => intro v h; cases h; exact .ns
  | e a => intro v h; cases h; exact .e _
  | @f g cs vs hl _ ih =>
    intro v h
    obtain ⟨us, rfl, hus⟩ := h.f_inv
    refine .f hus.length fun i c u hc hu => ?_
    have hlt : i < vs.length := by rw [← hl]; exact (List.getElem?_eq_some_iff.1 hc).1
    exact ih i c _ hc (List.getElem?_eq_getElem hlt) (hus.get2 hc hu)
  | nf => intro v h; cases h; exact .nf
  | @agg cs vs hl _ ih =>
    intro v h
    obtain ⟨us, rfl, hus⟩ := h.agg_inv
    refine .agg hus.length fun i c u hc hu => ?_
    have hlt : i < vs.length := by rw [← hl]; exact (List.getElem?_eq_some_iff.1 hc).1
    exact ih i c _ hc (List.getElem?_eq_getElem hlt) (hus.get2 hc hu)
  | @tup cs vs hl _ ih =>
    intro v h
    obtain ⟨us, rfl, hus⟩ := h.tup_inv
    refine .tup hus.length fun i c u hc hu => ?_
    have hlt : i < vs.length := by rw [← hl]; exact (List.getElem?_eq_some_iff.1 hc).1
    exact ih i c _ hc (List.getElem?_eq_getElem hlt) (hus.get2 hc hu)
  | x v => intro v h; cases h; exact .x _
theorem VRs.back {j j3 : Inj} (hle : j.le j3) {as : List AV} {v0 : List Value} (h : VRs j as v0) {vs : List Value} (h3 : VRs j3 as vs) : VRs j as vs :=
  All2.of_get h3.length fun i a v ha hv => by
    obtain ⟨u, _, hu⟩ := h.get ha
    exact hu.back hle (h3.get2 ha hv)
/-- memory told anew: one new block, which is a part of one there is, some blocks let go -/
theorem Rel.relay {j j3 : Inj} {H H3 : Heap} {w w3 : World} (hR : Rel j H w) (hR3 : Rel j3 H3 w3) (hE : Ext j H w j3 H3 w3) {K : Nat → Prop} {H' : Heap} {b3 o3 L rb3 d3 n3 : Nat} {c3 cells : List AV}
    (hsame : ∀ k, k < H.next → ¬ K k → H3.get k = H.get k) (hK : ∀ k, K k → H.low ≤ k) (hn : H'.next = H.next + 1) (hlow : H'.low = H.low)
    (hg : ∀ k cs, H'.get k = some cs → (k = H.next ∧ cs = cells) ∨ (k < H.next ∧ ¬ K k ∧ H.get k = some cs)) (hg2 : ∀ k, k < H.low → H'.get k = H.get k)
    (h3 : H3.get b3 = some c3) (hb3 : H.next ≤ b3) (hj3 : j3 b3 = some (rb3, d3, n3)) (hsub : sub? c3 o3 L = some cells) {vs0 : List Value} (hcells : VRs j cells vs0) :
    Rel (j.add H.next (rb3, d3 + o3, n3)) H' w3 ∧ Ext j H w (j.add H.next (rb3, d3 + o3, n3)) H' w3 := by
  have hjn : j H.next = none := hR.next_none
  have hle : j.le (j.add H.next (rb3, d3 + o3, n3)) := Inj.le_add _ hjn
  have hle3 : j.le j3 := hE.le
  have hl3 : H3.low = H.low := hE.low
  have hln := hR.low
  refine ⟨⟨fun b x hb => ?_, fun k cs rb d n hk hj => ?_, fun k k' cs cs' rb d n d' n' hk hk' hj hj' => ?_, fun k hk => ?_, by omega⟩, ⟨hle, by omega, fun b x hb => ?_, fun rb hrb ⟨b, cs, d, n, hb, hj⟩ => ?_, hE.keep, hE.os, hE.tape, hE.output, hE.size, hlow, hg2, hE.rw⟩⟩
  · by_cases e : b = H.next
    · omega
    · rw [Inj.add_ne _ _ e] at hb
      have := hR.dom _ _ hb; omega
  · rcases hg k cs hk with ⟨rfl, rfl⟩ | ⟨hlt, hnK, hk0⟩
    · rw [Inj.add_same] at hj; injection hj with hj; injection hj with e1 hj; injection hj with e2 e3
      subst e1; subst e2; subst e3
      obtain ⟨rc, ty, lo, hi, p1, p2, p3, pre, vs, post, p4, p5, p6⟩ := hR3.blk b3 c3 rb3 d3 n3 h3 hj3
      obtain ⟨hL, rfl⟩ := sub_some hsub
      have hl6 := p6.length
      refine ⟨rc, ty, lo, hi, p1, p2, .inr (p3.resolve_left (by simp; omega)), pre ++ vs.take o3, (vs.drop o3).take L, (vs.drop o3).drop L ++ post, ?_, ?_, (hcells.back hle3 ((p6.drop o3).take L)).mono hle⟩
      · rw [p4]
        conv => lhs; rw [← List.take_append_drop o3 vs, ← List.take_append_drop L (vs.drop o3)]
        simp only [List.append_assoc]
      · rw [List.length_append, List.length_take, p5]; omega
    · have hne : k ≠ H.next := by omega
      rw [Inj.add_ne _ _ hne] at hj
      obtain ⟨rc0, ty0, lo0, hi0, _, _, _, pre0, vs0', post0, _, _, p6'⟩ := hR.blk k cs rb d n hk0 hj
      obtain ⟨rc, ty, lo, hi, p1, p2, p3, pre, vs, post, p4, p5, p6⟩ := hR3.blk k cs rb d n ((hsame k hlt hnK).trans hk0) (hle3 _ _ hj)
      rw [hl3, ← hlow] at p3
      exact ⟨rc, ty, lo, hi, p1, p2, p3, pre, vs, post, p4, p5, (p6'.back hle3 p6).mono hle⟩
  · have mix : ∀ {k' cs' d' n'}, (k' < H.next ∧ ¬ K k' ∧ H.get k' = some cs') → j k' = some (rb3, d', n') → False := fun {k' cs' d' n'} hh hjk => by
      obtain ⟨a1, a2, a3⟩ := hh
      rcases hR3.inj b3 k' c3 cs' rb3 d3 n3 d' n' h3 ((hsame k' a1 a2).trans a3) hj3 (hle3 _ _ hjk) with e | ⟨e, _⟩ <;> omega
    rcases hg k cs hk with ⟨rfl, rfl⟩ | h1
    · rw [Inj.add_same] at hj; injection hj with hj; injection hj with e1 _; subst e1
      rcases hg k' cs' hk' with ⟨rfl, rfl⟩ | h2
      · exact .inl rfl
      · rw [Inj.add_ne _ _ (by omega)] at hj'
        exact (mix h2 hj').elim
    · rw [Inj.add_ne _ _ (by omega)] at hj
      rcases hg k' cs' hk' with ⟨rfl, rfl⟩ | h2
      · rw [Inj.add_same] at hj'; injection hj' with hj'; injection hj' with e1 _; subst e1
        exact (mix h1 hj).elim
      · rw [Inj.add_ne _ _ (by omega)] at hj'
        rw [hlow]
        exact hR.inj k k' cs cs' rb d n d' n' h1.2.2 h2.2.2 hj hj'
  · cases hc : H'.get k with
    | none => rfl
    | some cs =>
      rcases hg k cs hc with ⟨e, _⟩ | ⟨e, _⟩ <;> omega
  · by_cases e : b = H.next
    · exact .inr (by omega)
    · rw [Inj.add_ne _ _ e] at hb; exact .inl hb
  · rcases hg b cs hb with ⟨rfl, rfl⟩ | ⟨hlt, _, hk0⟩
    · rw [Inj.add_same] at hj; injection hj with hj; injection hj with e1 _; subst e1
      exact hE.own rb3 hrb ⟨b3, c3, d3, n3, h3, hj3⟩
    · rw [Inj.add_ne _ _ (by omega)] at hj
      exact ⟨b, cs, d, n, hk0, hj⟩
end
/-- a row with elements of another one set in -/
noncomputable def insN (sz i vb vo vn vz : Nat) (H : Heap) : Option (AV × Heap) :=
  cond (Nat.beq i 0 && (Nat.beq vz sz && (Nat.ble H.low vb && (Nat.blt 0 vn && Nat.blt vn 1000000)))) ((rd H vb vo (vn * sz)).bind fun new => cond (new.all AV.sc) (some (.sl H.next 0 vn vn false sz, alloc H new)) none) none
noncomputable def insA (sz : Nat) (args : List AV) (H : Heap) : Option (AV × Heap) := match args with
  | [.ns, .i .i64 (.ofNat i), .sl vb vo vn vl vx vz] => insN sz i vb vo vn vz H
  | [.e _, .i .i64 (.ofNat i), .sl vb vo vn vl vx vz] => insN sz i vb vo vn vz H
  | [.sl b o len lo ex z, .i .i64 (.ofNat i), .sl vb vo vn vl vx vz] =>
    cond (Nat.beq z sz && (Nat.beq vz sz && (Nat.ble H.low b && (Nat.ble H.low vb && (!(Nat.beq vb b) && (Nat.ble i len && (Nat.blt 0 vn && Nat.blt (len + vn) 1000000)))))))
      ((H.get b).bind fun cs => (cond (Nat.beq len 0) (some []) (sub? cs o (len * sz))).bind fun old => (rd H vb vo (vn * sz)).bind fun new =>
        cond (old.all AV.sc && new.all AV.sc) (some (.sl H.next 0 (len + vn) (len + vn) false sz, alloc ⟨H.next, H.m.set b none, H.low⟩ (old.take (i * sz) ++ (new ++ old.drop (i * sz))))) none) none
  | _ => none
/-- what the code says where the capacity is known -/
def InsSpec [Hook] (P : Program) (f : FuncId) (sz : Nat) : Prop :=
  (∀ (h : Hp) (sb cap len i vb vo vn vl : Nat) (vx : Bool) (cells2 old new : List AV), h.g sb = some cells2 → cells2.length = cap * sz → len ≤ cap → h.lo ≤ sb → h.lo ≤ vb → vb ≠ sb → sub? cells2 0 (len * sz) = some old → rdH h vb vo (vn * sz) = some new →
    old.all AV.sc = true → new.all AV.sc = true → i ≤ len → 0 < vn → vn ≤ vl → len + vn < 1000000 → wpC P f [.sl sb 0 len cap true sz, .i .i64 (.ofNat i), .sl vb vo vn vl vx sz] (fun v h' => ∃ b3 o3 lo3 ex3, v = .sl b3 o3 (len + vn) lo3 ex3 sz ∧ (b3 = sb ∨ h.g b3 = none) ∧ h'.g vb = h.g vb ∧
      rdH h' b3 o3 ((len + vn) * sz) = some (old.take (i * sz) ++ (new ++ old.drop (i * sz)))) h) ∧
  (∀ (h : Hp) (s : AV) (vb vo vn vl : Nat) (vx : Bool) (new : List AV), (s = .ns ∨ ∃ z, s = .e z) → h.lo ≤ vb → rdH h vb vo (vn * sz) = some new → new.all AV.sc = true → 0 < vn → vn ≤ vl → vn < 1000000 → wpC P f [s, .i .i64 (.ofNat 0), .sl vb vo vn vl vx sz] (fun v h' => ∃ b3 o3 lo3 ex3, v = .sl b3 o3 vn lo3 ex3 sz ∧ h.g b3 = none ∧ h'.g vb = h.g vb ∧
      rdH h' b3 o3 (vn * sz) = some new) h)
theorem insN_ok (hk0 : Hook) {P : Program} (e0 : @ExtOk hk0 P) (hc0 : CallOk P hk0.call) (hm : P.follows .mixedOrders = true) {f : FuncId} {sz : Nat} (spec : @InsSpec hk0 P f sz) {s : AV} (hsn : s = .ns ∨ ∃ z, s = .e z) {i vb vo vn vl vz : Nat} {vx : Bool} {H : Heap} {v : AV} {H' : Heap} {j : Inj} {w : World} {args' : List Value}
    (he : insN sz i vb vo vn vz H = some (v, H')) (hR : Rel j H w) (hv : VRs j [s, .i .i64 (.ofNat i), .sl vb vo vn vl vx vz] args') : Calls P f args'.toArray w fun e w' => ∃ v' j', e = .returned v' ∧ VR j' v v' ∧ Rel j' H' w' ∧ Ext j H w j' H' w' := by
  letI := hk0
  unfold insN at he
  have he1 := cond_some he
  clear he
  obtain ⟨hc, he⟩ := he1
  simp only [Bool.and_eq_true] at hc
  obtain ⟨c1, c2, c3, c4, c5⟩ := hc
  have := beq_eq' c1; subst this
  have := beq_eq' c2; subst this
  have c3 := ble_le c3
  have c4 := blt_lt c4
  have c5 := blt_lt c5
  obtain ⟨new, hnew, he⟩ := bind_some' he
  obtain ⟨hsc, he⟩ := cond_some he
  injection he with he; injection he with e1 e2; subst e1; subst e2
  have hvs : vn ≤ vl := by
    cases hv with | cons _ hv => cases hv with | cons _ hv => cases hv with | cons q _ => cases q with | sl _ _ q _ _ _ => exact q
  obtain ⟨vcells, hvg, hvs2⟩ := bind_some' hnew
  have hvj : ∃ rb d n, j vb = some (rb, d, n) := by
    cases hv with | cons _ hv => cases hv with | cons _ hv => cases hv with | cons q _ => cases q with | sl q _ _ _ _ _ => exact ⟨_, _, _, q⟩
  obtain ⟨vrb, vd, vnn, hvj⟩ := hvj
  have hvlt := hR.dom _ _ hvj
  obtain ⟨nvs, _, _, hnvs⟩ := hR.rd hnew hvj
  have F : Fits ⟨fun k => if k = vb then some vcells else none, H.low⟩ H := ⟨(fun b cs e => by
    have e : (if b = vb then some vcells else none) = some cs := e
    by_cases hb : b = vb
    · rw [if_pos hb] at e; rw [hb, ← e]; exact ⟨hvg, hvlt⟩
    · rw [if_neg hb] at e; cases e), rfl, hR.low, hR.fresh⟩
  obtain ⟨v3, H3, h3, ⟨n, hgo⟩, S, b3, o3, lo3, ex3, rfl, hor, hvb, hrd⟩ := spec.2 ⟨fun k => if k = vb then some vcells else none, H.low⟩ s vb vo vn vl vx new hsn c3 (by unfold rdH; rw [show (⟨fun k => if k = vb then some vcells else none, H.low⟩ : Hp).g vb = some vcells from if_pos rfl]; exact hvs2) hsc c4 hvs c5 H F
  refine Calls.mono (calls_of_callA hc0 hm n f _ H _ H3 j w args' hgo hR hv) ?_
  rintro e w' ⟨v', j3, rfl, q1, q2, q3⟩
  cases q1 with
  | @sl _ _ _ _ _ _ rb3 d3 n3 oo3 cap3 hj3 ho3 hl3 hc3 hx3 hb3 =>
  obtain ⟨c3', hg3, hs3⟩ := bind_some' hrd
  have hbb : H.next ≤ b3 := by
    rcases S.dom b3 (by rw [hg3]; simp) with e | e
    · exact absurd hor e
    · exact e
  obtain ⟨r1, r2⟩ := hR.relay (K := fun _ => False) (H' := alloc H new) q2 q3 (fun k hk _ => by
      by_cases hb : k = vb
      · subst hb
        rw [(S.fits.get k vcells (by rw [hvb]; exact if_pos rfl)).1, hvg]
      · exact S.keep k hk (if_neg hb)) (fun k hk => hk.elim) rfl rfl (fun k cs hk => by
      rw [get_alloc] at hk
      by_cases hb : k = H.next
      · rw [if_pos hb] at hk; injection hk with hk; exact .inl ⟨hb, hk.symm⟩
      · rw [if_neg hb] at hk
        refine .inr ⟨?_, id, hk⟩
        rcases Nat.lt_or_ge k H.next with h | h
        · exact h
        · rw [hR.fresh k h] at hk; cases hk) (fun k hk => by
      have := hR.low
      rw [get_alloc, if_neg (by omega)]) (S.fits.get b3 c3' hg3).1 hbb hj3 hs3 hnvs
  exact ⟨_, _, rfl, .sl (Inj.add_same _ _ _) (fun _ => by rw [ho3 (by omega)]; omega) (Nat.le_refl _) (by omega) (fun h => by cases h) hb3, r1, r2⟩
theorem insA_ok (hk0 : Hook) {P : Program} (e0 : @ExtOk hk0 P) (hc0 : CallOk P hk0.call) (hm : P.follows .mixedOrders = true) {f : FuncId} {sz : Nat} (spec : @InsSpec hk0 P f sz) {args : List AV} {H : Heap} {v : AV} {H' : Heap} {j : Inj} {w : World} {args' : List Value}
    (he : insA sz args H = some (v, H')) (hR : Rel j H w) (hv : VRs j args args') : Calls P f args'.toArray w fun e w' => ∃ v' j', e = .returned v' ∧ VR j' v v' ∧ Rel j' H' w' ∧ Ext j H w j' H' w' := by
  letI := hk0
  unfold insA at he
  split at he
  · exact insN_ok hk0 e0 hc0 hm spec (.inl rfl) he hR hv
  · exact insN_ok hk0 e0 hc0 hm spec (.inr ⟨_, rfl⟩) he hR hv
  · rename_i b o len lo ex z i vb vo vn vl vx vz
    have he1 := cond_some he
    clear he
    obtain ⟨hc, he⟩ := he1
    simp only [Bool.and_eq_true, Bool.not_eq_true'] at hc
    obtain ⟨c1, c2, c3, c4, c5, c6, c7, c8⟩ := hc
    have := beq_eq' c1; subst this
    have := beq_eq' c2; subst this
    have c3 := ble_le c3
    have c4 := ble_le c4
    have c5 : vb ≠ b := fun e => by rw [e, Nat.beq_refl] at c5; cases c5
    have c6 := ble_le c6
    have c7 := blt_lt c7
    have c8 := blt_lt c8
    obtain ⟨cs, hbc, he⟩ := bind_some' he
    obtain ⟨old, hold, he⟩ := bind_some' he
    obtain ⟨new, hnew, he⟩ := bind_some' he
    obtain ⟨hsc, he⟩ := cond_some he
    simp only [Bool.and_eq_true] at hsc
    injection he with he; injection he with e1 e2; subst e1; subst e2
    cases hv with
    | cons hs hv =>
    have hv0 := hv
    cases hv with
    | cons hi hv =>
    cases hv with
    | cons hvv hv =>
    cases hv
    cases hs with
    | @sl _ _ _ _ _ _ rb d n oo cap hj ho hl hcp hex hb =>
    cases hvv with
    | @sl _ _ _ _ _ _ vrb vd vnn voo vcap hvj vho hvs vhcp vhex vhb =>
    obtain ⟨vcells, hvg, hvs2⟩ := bind_some' hnew
    have hvlt := hR.dom _ _ hvj
    obtain ⟨nvs, _, _, hnvs⟩ := hR.rd hnew hvj
    have hbk := hR.blk b cs rb d n hbc hj
    rw [decide_eq_false (by omega)] at hbk
    have hbk0 := hbk
    obtain ⟨rc, ty, flo, fhi, p1, p2, p3, pre, us, post, p4, p5, p6⟩ := hbk
    have p3 := p3.resolve_left (by simp)
    have hcell : ∀ i, w.cell? ⟨rb, i, none⟩ = rc[i]? := by
      intro i
      simp only [World.cell?, p1, Option.isSome_none, Bool.false_eq_true, if_false]
    -- what stands in the row
    have hold' : ∃ old', VRs j old old' ∧ old.length = len * vz ∧ At w rb oo old' := by
      cases hl0 : Nat.beq len 0 with
      | true =>
        rw [hl0, cond_true] at hold
        injection hold with hold; subst hold
        have := beq_eq' hl0; subst this
        exact ⟨[], .nil, by simp, fun i v hv => by simp at hv⟩
      | false =>
        rw [hl0, cond_false] at hold
        have hpos : 0 < len := by
          rcases Nat.eq_zero_or_pos len with h | h
          · subst h; cases hl0
          · exact h
        have hoo := ho (by omega)
        obtain ⟨vs, g1, g2, g3⟩ := hbk0.at hold
        exact ⟨vs, g3, by rw [g3.length, g1], by rw [hoo]; exact g2⟩
    obtain ⟨old', g1, g2, g3⟩ := hold'
    have g4 : old'.length = len * vz := by rw [← g1.length]; exact g2
    have hlc : len * vz ≤ cap * vz := Nat.mul_le_mul_right _ (by omega)
    obtain ⟨vals, hvals⟩ : ∃ vals, vals = (rc.toList.drop oo).take (cap * vz) := ⟨_, rfl⟩
    have hvl : vals.length = cap * vz := by rw [hvals]; simp; omega
    have htake : vals.take (len * vz) = old' := by
      apply List.ext_getElem?
      intro i
      by_cases hi : i < len * vz
      · rw [List.getElem?_take_of_lt hi, hvals, List.getElem?_take_of_lt (by omega), List.getElem?_drop]
        have hlt : i < old'.length := by omega
        have := g3 i _ (List.getElem?_eq_getElem hlt)
        rw [hcell] at this
        rw [List.getElem?_eq_getElem hlt, ← this]
        simp
      · rw [List.getElem?_eq_none (by simp; omega), List.getElem?_eq_none (by omega)]
    obtain ⟨cells2, hcells2⟩ : ∃ cells2, cells2 = old ++ (vals.drop (len * vz)).map AV.x := ⟨_, rfl⟩
    have hc2l : cells2.length = cap * vz := by rw [hcells2]; simp; omega
    have hxs : ∀ l : List Value, VRs j (l.map AV.x) l := fun l => All2.of_get (by simp) fun i a b ha hb => by
      rw [List.getElem?_map, hb] at ha; injection ha with ha; subst ha; exact .x _
    have hc2v : VRs j cells2 vals := by
      rw [hcells2, ← List.take_append_drop (len * vz) vals, htake]
      have : (old' ++ vals.drop (len * vz)).drop (len * vz) = vals.drop (len * vz) := by rw [List.drop_left' g4]
      rw [this]
      exact g1.append (hxs _)
    have hle : j.le (j.add H.next (rb, oo, n)) := Inj.le_add _ hR.next_none
    have hh : Holds false (j.add H.next (rb, oo, n)) w cells2 rb oo n := by
      refine ⟨rc, ty, flo, fhi, p1, p2, .inr p3, rc.toList.take oo, vals, rc.toList.drop (oo + cap * vz), ?_, by simp; omega, VRs.mono hle hc2v⟩
      rw [hvals]
      conv => lhs; rw [← List.take_append_drop oo rc.toList, ← List.take_append_drop (cap * vz) (rc.toList.drop oo), List.drop_drop]
    obtain ⟨a1, a2⟩ := hR.take hbc hj c3 hh (fun _ _ => rfl) rfl rfl rfl rfl
    obtain ⟨H2, hH2⟩ : ∃ H2, H2 = alloc ⟨H.next, H.m.set b none, H.low⟩ cells2 := ⟨_, rfl⟩
    rw [← hH2] at a1 a2
    have hnl := hR.low
    have hblt := hR.dom _ _ hj
    have hget2 : ∀ k, H2.get k = if k = H.next then some cells2 else if k = b then none else H.get k := fun k => by
      rw [hH2, get_alloc]
      by_cases hk : k = H.next
      · rw [if_pos hk, if_pos hk]
      · rw [if_neg hk, if_neg hk]
        exact get_kill H b k
    obtain ⟨h2, hh2⟩ : ∃ h2 : Hp, h2 = ⟨fun k => if k = H.next then some cells2 else if k = vb then some vcells else none, H.low⟩ := ⟨_, rfl⟩
    have g2s : h2.g H.next = some cells2 := by rw [hh2]; exact if_pos rfl
    have g2v : h2.g vb = some vcells := by rw [hh2]; show (if vb = H.next then _ else _) = _; rw [if_neg (by omega), if_pos rfl]
    have g2n : ∀ k, k ≠ H.next → k ≠ vb → h2.g k = none := fun k e1 e2 => by rw [hh2]; show (if k = H.next then _ else _) = _; rw [if_neg e1, if_neg e2]
    have g2l : h2.lo = H.low := by rw [hh2]
    have hn2 : H2.next = H.next + 1 := by rw [hH2]; rfl
    have hl2 : H2.low = H.low := by rw [hH2]; rfl
    have F : Fits h2 H2 := ⟨(fun k c e => by
      by_cases e1 : k = H.next
      · rw [e1, g2s] at e; rw [hget2, if_pos e1]; exact ⟨e, by omega⟩
      · by_cases e2 : k = vb
        · rw [e2, g2v] at e; rw [hget2, if_neg e1, if_neg (by omega), e2, hvg]; exact ⟨e, by omega⟩
        · rw [g2n k e1 e2] at e; cases e), by rw [g2l]; exact hl2, a1.low, a1.fresh⟩
    obtain ⟨v3, H3, h3, ⟨m, hgo⟩, S, b3, o3, lo3, ex3, rfl, hor, hvb, hrd⟩ := spec.1 h2 H.next cap len i vb vo vn vl vx cells2 old new g2s hc2l (by omega) (by rw [g2l]; exact hnl) (by rw [g2l]; exact c4) (by omega)
      (by unfold sub?; rw [Nat.ble_eq_true_of_le (by omega), cond_true, List.drop_zero, hcells2, List.take_left' g2]) (by unfold rdH; rw [g2v]; exact hvs2) hsc.1 hsc.2 c6 c7 hvs c8 H2 F
    refine Calls.mono (calls_of_callA hc0 hm m f _ H2 _ H3 _ w _ hgo a1 (.cons (.sl (Inj.add_same _ _ _) (fun _ => by omega) (by omega) (Nat.le_refl _) (fun _ => rfl) hb) (VRs.mono hle hv0))) ?_
    rintro e w' ⟨v', j3, rfl, q1, q2, q3⟩
    cases q1 with
    | @sl _ _ _ _ _ _ rb3 d3 n3 oo3 cap3 hj3 ho3 hl3 hc3 hx3 hb3 =>
    obtain ⟨c3', hg3, hs3⟩ := bind_some' hrd
    have hbb : H.next ≤ b3 := by
      rcases hor with e | e
      · omega
      · rcases S.dom b3 (by rw [hg3]; simp) with e' | e'
        · exact absurd e e'
        · omega
    obtain ⟨r1, r2⟩ := hR.relay (K := fun k => k = b) (H' := alloc ⟨H.next, H.m.set b none, H.low⟩ (old.take (i * vz) ++ (new ++ old.drop (i * vz)))) q2 (a2.trans q3) (fun k hk hkb => by
        by_cases hb : k = vb
        · subst hb
          rw [(S.fits.get k vcells (by rw [hvb]; exact g2v)).1, hvg]
        · rw [S.keep k (by omega) (g2n k (by omega) hb), hget2, if_neg (by omega), if_neg hkb]) (fun k hk => by rw [hk]; exact c3) rfl rfl (fun k cs hk => by
        rw [get_alloc] at hk
        by_cases hb : k = H.next
        · rw [if_pos hb] at hk; injection hk with hk; exact .inl ⟨hb, hk.symm⟩
        · rw [if_neg hb] at hk
          have hk := (get_kill H b k).symm.trans hk
          by_cases hkb : k = b
          · rw [if_pos hkb] at hk; cases hk
          · rw [if_neg hkb] at hk
            refine .inr ⟨?_, hkb, hk⟩
            rcases Nat.lt_or_ge k H.next with h | h
            · exact h
            · rw [hR.fresh k h] at hk; cases hk) (fun k hk => by
        rw [get_alloc, if_neg (by show k ≠ H.next; omega)]
        exact (get_kill H b k).trans (if_neg (by omega))) (S.fits.get b3 c3' hg3).1 hbb hj3 hs3 ((g1.take (i * vz)).append (hnvs.append (g1.drop (i * vz))))
    exact ⟨_, _, rfl, .sl (Inj.add_same _ _ _) (fun _ => by rw [ho3 (by omega)]; omega) (Nat.le_refl _) (by omega) (fun h => by cases h) hb3, r1, r2⟩
  · cases he
end Go.Proofs.YtecjbmibngfpmaaAn
