/- What the functions that the law reaches come to, down to the law itself. -/
import Derived.Test.YtecjbmibngfpmaaCnHoldOrdersp0
import Derived.Test.YtecjbmibngfpmaaProg
import Derived.Lib.Overlaps
set_option linter.unusedVariables false
set_option linter.unusedSimpArgs false
set_option maxRecDepth 100000
namespace Go.Proofs.YtecjbmibngfpmaaAn
open Go
/-! ### parts -/
theorem add_cases {p g : Hp} {k : Nat} {c : List AV} (e : (p.add g).g k = some c) : p.g k = some c ∨ g.g k = some c := by
  have e : (match p.g k with | some c => some c | none => g.g k) = some c := e
  cases h : p.g k with
  | none => rw [h] at e; exact .inr e
  | some x => rw [h] at e; exact .inl e
theorem addH_none {p g : Hp} {k : Nat} (h1 : p.g k = none) (h2 : g.g k = none) : (p.add g).g k = none := by
  show (match p.g k with | some c => some c | none => g.g k) = none
  rw [h1]; exact h2
theorem restH_le (H q : Hp) : (restH H q).le H := fun k c e => by
  have e : (match q.g k with | some _ => none | none => H.g k) = some c := e
  cases h : q.g k with
  | none => rw [h] at e; exact e
  | some x => rw [h] at e; cases e
theorem rest_none {H q : Hp} {k : Nat} (h : q.g k ≠ none) : (restH H q).g k = none := by
  show (match q.g k with | some _ => none | none => H.g k) = none
  cases e : q.g k with
  | none => exact absurd e h
  | some x => rfl
theorem rest_disj' {H q R : Hp} (l : R.le q) : Disj R (restH H q) := fun k c e => rest_none (by rw [l k c e]; simp)
/-- numbers in a part of their own -/
noncomputable def IntP (lo : Nat) (q : Hp) (a : AV) (v : List Int) : Prop := q.lo = lo ∧ Fresh (Hp.none lo) q a 1 (intC v) ∧ IR q a v ∧ ∀ b, q.g b ≠ none → lo ≤ b
/-- operations in a part of their own -/
noncomputable def OpsP (lo : Nat) (q : Hp) (a : AV) (l : List D.Op) : Prop := q.lo = lo ∧ OpOwn (Hp.none lo) q a l
theorem IntP.row {lo : Nat} {q H : Hp} {a : AV} {v : List Int} (p : IntP lo q a v) (l : q.le H) : IR H a v := p.2.2.1.mono l
theorem OpsP.row {lo : Nat} {q H : Hp} {a : AV} {v : List D.Op} (p : OpsP lo q a v) (l : q.le H) : OpRow H a v := by
  have r : OpRow q a v := OpOwn.kn p.2 |>.row
  exact r.mono l
theorem IntP.of {g H : Hp} {a : AV} {v : List Int} (o : Kn.int.Own g H a v) : ∃ q, q.le H ∧ Disj q g ∧ IntP g.lo q a v := by
  obtain ⟨q, q1, q2, q3, q4, q5, q6⟩ := o.part
  exact ⟨q, q1, q2, q3, q5, q6, q4⟩
theorem OpsP.of {g H : Hp} {a : AV} {l : List D.Op} (o : OpOwn g H a l) : ∃ q, q.le H ∧ Disj q g ∧ OpsP g.lo q a l := by
  obtain ⟨q, q1, q2, q3, q4⟩ := o.part
  exact ⟨q, q1, q2, q3, q4⟩
theorem Fresh.outer {p q H : Hp} {a : AV} {sz : Nat} {css : List (List AV)} (f : Fresh p q a sz css) (l : q.le H) (lo : p.lo = H.lo) : Fresh (restH H q) H a sz css :=
  ⟨restH_le _ _, rfl, f.row.mono l, fun b o len lo' ex z e => by
    obtain ⟨n1, n2, cs, n3, n4⟩ := f.new _ _ _ _ _ _ e
    exact ⟨rest_none (by rw [n3]; simp), by show H.lo ≤ b; rw [← lo]; exact n2, cs, l b cs n3, n4⟩⟩
theorem ints_all {h : Hp} {a : AV} {v : List Int} (r : IR h a v) {H : Hp} : All2 (Kn.int.K H) v (intC v) := by
  obtain ⟨css, r1, r2⟩ := r
  have := ints_css r2
  subst this
  exact r2.mono fun _ _ k => int_flat _ _ _ _ k
theorem IntP.outer {q H : Hp} {a : AV} {v : List Int} (p : IntP H.lo q a v) (l : q.le H) : Kn.int.Own (restH H q) H a v :=
  ⟨restH H q, intC v, Hp.le_refl _, rfl, p.2.1.outer l rfl, ints_all p.2.2.1⟩
theorem OpsP.outerE {q H : Hp} {a : AV} {l : List D.Op} (p : OpsP H.lo q a l) (hl : q.le H) : ∃ p' css qs, OwnE eOp 12 (restH H q) H a l p' css qs ∧ ∀ i, (qs i).le q := by
  obtain ⟨hlo, p0, css, qs, o⟩ := p
  have hp0 : p0.le q := o.fr.le
  have hd : Disj p0 (restH H q) := rest_disj' hp0
  refine ⟨(restH H q).add p0, css, qs, ⟨Hp.le_left _ _, o.lo, ⟨fun k c e => ?_, o.lo.symm, o.fr.row.mono hl, fun b of len lo ex z e => ?_⟩, o.len, fun i => Hp.le_trans (o.sub i) (Hp.le_right hd.symm), fun i => rest_disj' (Hp.le_trans (o.sub i) hp0), o.dd, fun i => (o.qlo i), fun i b e => o.own i b e, o.el⟩, fun i => Hp.le_trans (o.sub i) hp0⟩
  · rcases add_cases e with e | e
    · exact restH_le _ _ k c e
    · exact hl k c (hp0 k c e)
  · obtain ⟨n1, n2, cs, n3, n4⟩ := o.fr.new _ _ _ _ _ _ e
    exact ⟨addH_none (rest_none (by rw [n3]; simp)) n1, n2, cs, hl b cs n3, n4⟩
theorem OpsP.outer {q H : Hp} {a : AV} {l : List D.Op} (p : OpsP H.lo q a l) (hl : q.le H) : OpOwn (restH H q) H a l := by
  obtain ⟨p', css, qs, o, _⟩ := p.outerE hl
  exact ⟨p', css, qs, o⟩
section
variable {g h : Hp} {a b c d : AV} {v : List Int} {l m : List D.Op} {o p : D.Op} {Post : AV → Hp → Prop}
/-! ### what is asked of each -/
theorem c52 {q : Nat} (hd : d.sc = true) (hb : rdH h q 0 12 = some (opC p c)) (hc : c.sc = true) (k : Post (.b (twinO o p)) h) : wpC Try.prog 52 [.agg (opC o d), .p q 0] Post h := by
  refine call_sound (args := [opS o d, .vv (.p q 0)]) (cuts := []) ⟨opS_good hd, rfl, trivial⟩ ?_
  unfold opS
  rw [vc52]
  exact fun _ => onO.mk (a := (q, 0)) rfl (onO.mk hb (onL.op hc (c50 hd hc (onRet.b k))))
theorem c49 {q : Nat} (hd : d.sc = true) (hb : rdH h q 0 12 = some (opC p c)) (hc : c.sc = true) (k : Post (.b (twinO o p)) h) : wpC Try.prog 49 [.agg (opC o d), .p q 0] Post h := by
  refine call_sound (args := [opS o d, .vv (.p q 0)]) (cuts := []) ⟨opS_good hd, rfl, trivial⟩ ?_
  unfold opS
  rw [vc49]
  exact fun _ => onO.mk (a := (q, 0)) rfl (onO.mk hb (onL.op hc (c50 hd hc (onRet.b k))))
theorem c56 {q : Nat} (rd : IR h d o.deps) (hb : rdH h q 0 1 = some [a]) (ra : IR h a v) (hf : fitsO v o = true) (hv : v.length < 1000000) (k : Post (.b (readyV v o)) h) : wpC Try.prog 56 [.agg (opC o d), .p q 0] Post h := by
  refine call_sound (args := [opS o d, .vv (.p q 0)]) (cuts := []) ⟨opS_good rd.sc, rfl, trivial⟩ ?_
  unfold opS
  rw [vc56]
  exact fun _ => onO.mk (a := (q, 0)) rfl (onO.mk hb (onL.r1 ra.sc (c42 ra rd hf hv (onRet.b k))))
noncomputable def staleV (v : List Int) (o : D.Op) : Bool := decide (o.seq ≤ v.getD o.stamp.rep.toNat 0)
theorem c59 {q : Nat} (rd : IR h d o.deps) (hb : rdH h q 0 1 = some [a]) (ra : IR h a v) (hf : fitsO v o = true) (hv : v.length < 1000000) (k : Post (.b (staleV v o)) h) : wpC Try.prog 59 [.agg (opC o d), .p q 0] Post h := by
  refine call_sound (args := [opS o d, .vv (.p q 0)]) (cuts := []) ⟨opS_good rd.sc, rfl, trivial⟩ ?_
  unfold opS
  rw [vc59]
  obtain ⟨r, hr, hlt, s1, s2, hdl, _⟩ := fits_rep hf
  obtain ⟨x, hx⟩ := get_lt (l := v) (k := r) hlt
  unfold staleV at k
  rw [hr, Int.toNat_natCast, getD_some hx] at k
  rw [hr]
  exact fun _ => onO.mk (a := (q, 0)) rfl (onO.mk hb (onL.r1 ra.sc (int0 ra hx k)))
/-! ### an element taken out -/
theorem slV_two {b o len cap sz i j m : Nat} {ex : Bool} (h1 : i ≤ j) (h2 : j ≤ m) (h3 : m ≤ cap) : ∃ r, slV (.sl b o len cap ex sz) (some (.ofNat i)) (some (.ofNat j)) (some (.ofNat m)) sz = some r := by
  refine ⟨.sl b (cond (Nat.beq m i) o (o + i * sz)) (j - i) (m - i) true sz, ?_⟩
  show (cond (Nat.beq sz sz) (cond true (cond (Nat.ble i j && Nat.ble j m && Nat.ble m cap) _ none) none) none : Option AV) = _
  rw [Nat.beq_refl, cond_true, cond_true, Nat.ble_eq_true_of_le h1, Nat.ble_eq_true_of_le h2, Nat.ble_eq_true_of_le h3]
  rfl
theorem slV_lohi {b o len cap sz i j : Nat} {ex : Bool} (h1 : i ≤ j) (h3 : j ≤ cap) : slV (.sl b o len cap ex sz) (some (.ofNat i)) (some (.ofNat j)) none sz = some (.sl b (cond (Nat.beq cap i) o (o + i * sz)) (j - i) (cap - i) ex sz) := by
  show (cond (Nat.beq sz sz) (cond (Nat.ble i j && Nat.ble j cap) _ none) none : Option AV) = _
  rw [Nat.beq_refl, cond_true, Nat.ble_eq_true_of_le h1, Nat.ble_eq_true_of_le h3]; rfl
theorem del_cells {c T Z : List AV} {o p r z : Nat} (hT : T.length = r) (hl : o + p + r + z ≤ c.length) (hZ : Z.length = z) : sub? (splice (splice c (o + p) T) (o + p + r) Z) o (p + r) = some ((c.drop o).take p ++ T) := by
  have e : splice (splice c (o + p) T) (o + p + r) Z = c.take (o + p) ++ (T ++ (Z ++ c.drop (o + p + r + z))) := by
    unfold splice
    have e1 : (c.take (o + p) ++ (T ++ c.drop (o + p + T.length))).take (o + p + r) = c.take (o + p) ++ T := by
      rw [← List.append_assoc, List.take_left' (by simp; omega)]
    have e2 : (c.take (o + p) ++ (T ++ c.drop (o + p + T.length))).drop (o + p + r + Z.length) = c.drop (o + p + r + z) := by
      rw [← List.append_assoc, List.drop_append, List.drop_eq_nil_of_le (by simp; omega), List.nil_append, List.drop_drop]
      congr 1
      simp; omega
    rw [e1, e2, List.append_assoc]
  rw [e]
  unfold sub?
  rw [Nat.ble_eq_true_of_le (by simp; omega), cond_true]
  congr 1
  rw [List.drop_append_of_le_length (by simp; omega), List.drop_take]
  rw [show o + p - o = p by omega, ← List.append_assoc, List.take_left' (by simp; omega)]
theorem c57 {css : List (List AV)} (f : Fresh g h a 12 css) (hb : css.length < 1000000) (hsc : css.flatten.all AV.sc = true) {i : Nat} (hi : i < css.length) (k : ∀ r h', Fresh g h' r 12 (css.take i ++ css.drop (i + 1)) → Post r h') : wpC Try.prog 57 [a, .i .i64 (i : Int), .i .i64 ((i + 1 : Nat) : Int)] Post h := by
  refine call_sound (args := [.vv a, .ii .i64 i, .ii .i64 ((i + 1 : Nat) : Int)]) (cuts := []) ⟨f.row.sc, trivial, trivial, trivial⟩ ?_
  rw [vc57]
  have hrow := f.row
  have hcc := hrow.1
  have r := hrow.2
  cases a <;> first | exact r.elim | (have r : css = [] := r; rw [r] at hi; cases hi; done) | skip
  rename_i b of len lo ex z
  obtain ⟨r1, r2, r3, r4⟩ := r
  subst r1; subst r2
  obtain ⟨n1, n2, cs, n3, n4⟩ := f.new _ _ _ _ _ _ rfl
  have r5 : sub? cs of (css.length * 12) = some css.flatten := by
    rcases r4 with e | e
    · subst e; cases hi
    · unfold rdH at e; rw [n3] at e; exact e
  obtain ⟨hle, hfl⟩ := sub_some r5
  have hloz : css.length * 12 ≤ lo * 12 := Nat.mul_le_mul_right _ r3
  have hlow : h.lo ≤ b := by rw [f.lo]; exact n2
  obtain ⟨w, hw⟩ := slV_two (b := b) (o := of) (len := css.length) (cap := lo) (sz := 12) (i := i) (j := i + 1) (m := css.length) (ex := ex) (by omega) (by omega) r3
  refine onO.mk f.row.len (onO.mk hw (onB.dec (fun e => by omega) (fun _ => onO.mk f.row.len (onO.mk (slV_hi (by omega)) (onO.mk (slV_lo (by omega) r3) ?_)))))
  have hne : Nat.beq lo (i + 1) = true → css.length = i + 1 := fun e => by have := beq_eq' e; omega
  -- what stands behind
  have htl : css.flatten.drop ((i + 1) * 12) = (css.drop (i + 1)).flatten := flat_dp hcc
  have hhd : css.flatten.take (i * 12) = (css.take i).flatten := flat_tk hcc
  have hfll : css.flatten.length = css.length * 12 := flat_len hcc
  have hres : ∀ c ∈ css.take i ++ css.drop (i + 1), c.length = 12 := fun c hc => by
    rcases List.mem_append.1 hc with h | h
    · exact hcc c (List.mem_of_mem_take h)
    · exact hcc c (List.mem_of_mem_drop h)
  have hrl : (css.take i ++ css.drop (i + 1)).length = css.length - 1 := by simp; omega
  have hTl : (css.drop (i + 1)).flatten.length = (css.length - (i + 1)) * 12 := by rw [← htl, List.length_drop, hfll]; omega
  have fin : ∀ h1 : Hp, h1.g b = some (splice cs (of + i * 12) (css.drop (i + 1)).flatten) → g.le h1 → h1.lo = g.lo → onO (lenV (.sl b of (css.length - 1) lo ex 12)) fun p2 => onO (slV (.sl b of (css.length - 1) lo ex 12) (some (p2 : Int)) (some (css.length : Int)) none 12) fun a4 =>
      onO (clearV [.i .i64 0, .i .i64 0, .i .i64 0, .ns, .i .i64 0, .i .i64 0, .i .i64 0, .i .i64 0, .i .i64 0, .s [], .i .i64 0, .i .i64 0] a4) fun y0 => wpE y0 (fun x1 h2 => Post (.sl b of (css.length - 1) lo ex 12) h2) h1 := by
    intro h1 g1 gle glo
    refine onO.mk rfl (onO.mk (slV_lohi (i := css.length - 1) (j := css.length) (by omega) r3) ?_)
    rw [beq_ne (show lo ≠ css.length - 1 by omega), cond_false]
    refine onO.mk (a := Eff.w b (of + (css.length - 1) * 12) (.lit (zerosV [.i .i64 0, .i .i64 0, .i .i64 0, .ns, .i .i64 0, .i .i64 0, .i .i64 0, .i .i64 0, .i .i64 0, .s [], .i .i64 0, .i .i64 0] 1)) (some (.tup []))) ?_ ?_
    · show (cond (Nat.beq (css.length - (css.length - 1)) 0) _ (cond true (some (Eff.w b (of + (css.length - 1) * 12) (.lit (zerosV _ (css.length - (css.length - 1)))) (some (.tup [])))) none) : Option Eff) = _
      rw [beq_ne (show css.length - (css.length - 1) ≠ 0 by omega), cond_false, cond_true, show css.length - (css.length - 1) = 1 by omega]
    · have hZ : (zerosV [.i .i64 0, .i .i64 0, .i .i64 0, .ns, .i .i64 0, .i .i64 0, .i .i64 0, .i .i64 0, .i .i64 0, .s [], .i .i64 0, .i .i64 0] 1).length = 12 := rfl
      have eo : of + (css.length - 1) * 12 = of + i * 12 + (css.length - (i + 1)) * 12 := by rw [Nat.add_assoc, ← Nat.add_mul]; congr 2; omega
      have e12 : of + i * 12 + (css.length - (i + 1)) * 12 + 12 = of + css.length * 12 := by
        have : i * 12 + (css.length - (i + 1)) * 12 + 12 = css.length * 12 := by rw [← Nat.add_mul, ← Nat.succ_mul]; congr 1; omega
        omega
      refine wpE.w g1 (by rw [glo, ← f.lo]; exact hlow) rfl (by rw [splice_len _ _ _ (by rw [hTl]; omega), hZ, eo]; omega) rfl (k _ _ ⟨fun k c e => ?_, glo, ⟨hres, rfl, hrl.symm, by omega, .inr ?_⟩, fun b' o' len' lo' ex' z' e => ?_⟩)
      · by_cases hk : k = b
        · rw [hk, n1] at e; cases e
        · rw [Hp.put_ne _ _ hk]; exact gle k c e
      · unfold rdH
        rw [Hp.put_same, Option.bind_some, hrl, eo]
        have := del_cells (c := cs) (T := (css.drop (i + 1)).flatten) (Z := zerosV [.i .i64 0, .i .i64 0, .i .i64 0, .ns, .i .i64 0, .i .i64 0, .i .i64 0, .i .i64 0, .i .i64 0, .s [], .i .i64 0, .i .i64 0] 1) (o := of) (p := i * 12) (r := (css.length - (i + 1)) * 12) (z := 12) hTl (by omega) hZ
        rw [show (css.length - 1) * 12 = i * 12 + (css.length - (i + 1)) * 12 by rw [← Nat.add_mul]; congr 1; omega, this, List.flatten_append, ← hhd, hfl, List.take_take, Nat.min_eq_left (by omega)]
      · injection e with e1 e2 e3 e4 e5 e6
        subst e1; subst e2; subst e4
        exact ⟨n1, n2, _, Hp.put_same _ _ _, by rw [splice_len _ _ _ (by rw [splice_len _ _ _ (by rw [hTl]; omega), hZ, eo]; omega), splice_len _ _ _ (by rw [hTl]; omega)]; exact n4⟩
  by_cases h0 : css.length - (i + 1) = 0
  · refine onO.mk (a := (0, Src.lit [])) ?_ ⟨rfl, ?_⟩
    · show (cond (Nat.beq 12 12) (some (css.length - (i + 1), cond (Nat.beq (css.length - (i + 1)) 0) (Src.lit []) _)) none : Option (Nat × Src)) = _
      rw [h0]; rfl
    · have hT : (css.drop (i + 1)).flatten = [] := List.length_eq_zero_iff.1 (by rw [hTl, h0])
      have hsp : splice cs (of + i * 12) [] = cs := by
        unfold splice
        rw [List.nil_append, List.length_nil, Nat.add_zero, List.take_append_drop]
      refine wpE.app_0 (by omega) (by omega) ?_
      have hi1 : i = css.length - 1 := by omega
      refine onO.mk rfl ?_
      have := fin h (by rw [hT, hsp]; exact n3) f.le f.lo
      rw [hi1]; exact this
  · refine onO.mk (a := (css.length - (i + 1), Src.mem b (of + (i + 1) * 12) ((css.length - (i + 1)) * 12))) ?_ ⟨Nat.ble_eq_true_of_le (show (4 * (css.length - (i + 1)) + 4000) * 120 ≤ 17179869184 by omega), ?_⟩
    · show (cond (Nat.beq 12 12) (some (css.length - (i + 1), cond (Nat.beq (css.length - (i + 1)) 0) (Src.lit []) _)) none : Option (Nat × Src)) = _
      rw [beq_ne h0, cond_false]
      cases e : Nat.beq lo (i + 1) with
      | true => have := hne e; omega
      | false => rfl
    · have hsrc : srcH h (.mem b (of + (i + 1) * 12) ((css.length - (i + 1)) * 12)) = some (css.drop (i + 1)).flatten := by
        show rdH h b _ _ = _
        unfold rdH
        rw [n3, Option.bind_some]
        have e12 : (i + 1) * 12 + (css.length - (i + 1)) * 12 = css.length * 12 := by rw [← Nat.add_mul]; congr 1; omega
        unfold sub?
        rw [Nat.ble_eq_true_of_le (by omega), cond_true, ← htl, hfl, List.drop_take, List.drop_drop]
        congr 2
        omega
      have hss : (css.drop (i + 1)).flatten.all AV.sc = true := by
        rw [← htl]
        rw [List.all_eq_true] at hsc ⊢
        exact fun x hx => hsc x (List.mem_of_mem_drop hx)
      have e12 : i * 12 + (css.length - (i + 1)) * 12 + 12 = css.length * 12 := by rw [← Nat.add_mul, ← Nat.succ_mul]; congr 1; omega
      refine wpE.app_in n3 hlow hsrc hTl (by omega) (by omega) (by rw [hTl]; omega) hss (by omega) (onO.mk rfl ?_)
      rw [show i + (css.length - (i + 1)) = css.length - 1 by omega]
      exact fin _ (Hp.put_same _ _ _) (fun k c e => by
        by_cases hk : k = b
        · rw [hk, n1] at e; cases e
        · rw [Hp.put_ne _ _ hk]; exact f.le k c e) f.lo
end
/-- the parts of a row's elements, in what is seen -/
structure OpsE (G : Hp) (l : List D.Op) (css : List (List AV)) (qs : Nat → Hp) : Prop where
  len : css.length = l.length
  inG : ∀ i, (qs i).le G
  dd : ∀ i j, i ≠ j → Disj (qs i) (qs j)
  qlo : ∀ i, (qs i).lo = G.lo
  own : ∀ i b, (qs i).g b ≠ none → G.lo ≤ b
  el : ∀ i x c, l[i]? = some x → css[i]? = some c → eOp (qs i) x c
theorem le_restH {X H q : Hp} (l : X.le H) (d : Disj q X) : X.le (restH H q) := le_rest l d
theorem OpsP.openG {q H : Hp} {a : AV} {l : List D.Op} (p : OpsP H.lo q a l) (hl : q.le H) :
    ∃ (G : Hp) (css : List (List AV)) (qs : Nat → Hp), Fresh G H a 12 css ∧ OpsE G l css qs ∧ (∀ i, (qs i).le q) ∧ G.lo = H.lo ∧ ∀ X : Hp, X.le H → Disj q X → X.le G := by
  obtain ⟨hlo, p0, css, qs, o⟩ := p
  obtain ⟨qb, b1, b2, b3, b4, b5⟩ := o.fr.part
  have hp0 : p0.lo = H.lo := o.lo
  have hbq : qb.le q := b1
  rw [hp0] at b5
  have hin : ∀ i, (qs i).le (restH H qb) := fun i => le_restH (Hp.le_trans (o.sub i) (Hp.le_trans o.fr.le hl)) (b2.le_right (o.sub i))
  exact ⟨restH H qb, css, qs, b5.outer (Hp.le_trans hbq hl) rfl, ⟨o.len, hin, o.dd, fun i => o.qlo i, fun i b e => o.own i b e, o.el⟩, fun i => Hp.le_trans (o.sub i) o.fr.le, rfl, fun X x1 x2 => le_restH x1 (x2.le_left hbq)⟩
theorem OpsE.close {G H : Hp} {r : AV} {l : List D.Op} {css : List (List AV)} {qs : Nat → Hp} (e : OpsE G l css qs) (f : Fresh G H r 12 css) : ∃ Q : Hp, Q.le H ∧ OpsP H.lo Q r l ∧ ∀ X : Hp, X.le G → (∀ i, Disj (qs i) X) → Disj Q X := by
  have o : OwnE eOp 12 (G.res fun k => ∀ i, (qs i).g k = none) H r l G css qs :=
    ⟨Hp.res_le _ _, rfl, f, e.len, e.inG, fun i k c h => Hp.res_out fun hk => (by rw [hk i] at h; cases h), e.dd, e.qlo, e.own, e.el⟩
  obtain ⟨Q, q1, q2, q3, q4⟩ := OwnD.part ⟨G, css, qs, o⟩
  have hlo : H.lo = G.lo := f.lo
  refine ⟨Q, q1, ⟨q3.trans hlo.symm, by rw [hlo]; exact q4⟩, fun X x1 x2 => q2.le_right fun k c h => ?_⟩
  rw [Hp.res_in (fun i => (x2 i).symm k c h)]
  exact x1 k c h
theorem OpsE.mono {G G' : Hp} {l : List D.Op} {css : List (List AV)} {qs : Nat → Hp} (e : OpsE G l css qs) (le : ∀ i, (qs i).le G') (lo : G'.lo = G.lo) : OpsE G' l css qs :=
  ⟨e.len, le, e.dd, fun i => (e.qlo i).trans lo.symm, fun i b h => by rw [lo]; exact e.own i b h, e.el⟩
theorem get_del {α : Type} {l : List α} {i k : Nat} (hi : i < l.length) : (l.take i ++ l.drop (i + 1))[k]? = if k < i then l[k]? else l[k + 1]? := by
  by_cases h : k < i
  · rw [if_pos h, List.getElem?_append_left (by simp; omega), List.getElem?_take_of_lt h]
  · rw [if_neg h, List.getElem?_append_right (by simp; omega), List.getElem?_drop]
    congr 1
    simp; omega
theorem get_ins {α : Type} {l : List α} {i k : Nat} {x : α} (hi : i ≤ l.length) : (l.take i ++ x :: l.drop i)[k]? = if k < i then l[k]? else if k = i then some x else l[k - 1]? := by
  have ht : (l.take i).length = i := by simp; omega
  by_cases h : k < i
  · rw [if_pos h, List.getElem?_append_left (by omega), List.getElem?_take_of_lt h]
  · rw [if_neg h, List.getElem?_append_right (by omega), ht]
    by_cases h2 : k = i
    · rw [if_pos h2, h2, Nat.sub_self]; rfl
    · rw [if_neg h2, show k - i = (k - i - 1) + 1 by omega, List.getElem?_cons_succ, List.getElem?_drop]
      congr 1; omega
theorem OpsE.del {G : Hp} {l : List D.Op} {css : List (List AV)} {qs : Nat → Hp} (e : OpsE G l css qs) {i : Nat} (hi : i < l.length) : OpsE G (l.take i ++ l.drop (i + 1)) (css.take i ++ css.drop (i + 1)) (fun k => if k < i then qs k else qs (k + 1)) := by
  have hl := e.len
  refine ⟨by simp; omega, fun k => ?_, fun j k hjk => ?_, fun k => ?_, fun k => ?_, fun k x c h1 h2 => ?_⟩
  · by_cases h : k < i
    · simp only [if_pos h]; exact e.inG k
    · simp only [if_neg h]; exact e.inG _
  · by_cases h : j < i
    · by_cases h' : k < i
      · simp only [if_pos h, if_pos h']; exact e.dd _ _ hjk
      · simp only [if_pos h, if_neg h']; exact e.dd _ _ (by omega)
    · by_cases h' : k < i
      · simp only [if_neg h, if_pos h']; exact e.dd _ _ (by omega)
      · simp only [if_neg h, if_neg h']; exact e.dd _ _ (by omega)
  · by_cases h : k < i
    · simp only [if_pos h]; exact e.qlo k
    · simp only [if_neg h]; exact e.qlo _
  · by_cases h : k < i
    · simp only [if_pos h]; exact e.own k
    · simp only [if_neg h]; exact e.own _
  · rw [get_del hi] at h1
    rw [get_del (by omega)] at h2
    by_cases h : k < i
    · rw [if_pos h] at h1 h2; simp only [if_pos h]; exact e.el _ _ _ h1 h2
    · rw [if_neg h] at h1 h2; simp only [if_neg h]; exact e.el _ _ _ h1 h2
theorem OpsE.ins {G : Hp} {l : List D.Op} {css : List (List AV)} {qs : Nat → Hp} (e : OpsE G l css qs) {i : Nat} (hi : i ≤ l.length) {qd : Hp} {x : D.Op} {c : List AV} (d1 : qd.le G) (d2 : ∀ i, Disj (qs i) qd) (d3 : qd.lo = G.lo) (d4 : ∀ b, qd.g b ≠ none → G.lo ≤ b) (d5 : eOp qd x c) :
    OpsE G (l.take i ++ x :: l.drop i) (css.take i ++ c :: css.drop i) (fun k => if k < i then qs k else if k = i then qd else qs (k - 1)) := by
  have hl := e.len
  have cs : ∀ {P : Hp → Prop} (k : Nat), (∀ j, (k < i ∧ j = k ∨ i < k ∧ j = k - 1) → P (qs j)) → (k = i → P qd) → P (if k < i then qs k else if k = i then qd else qs (k - 1)) := fun {P} k p1 p2 => by
    by_cases h : k < i
    · rw [if_pos h]; exact p1 k (.inl ⟨h, rfl⟩)
    · by_cases h2 : k = i
      · rw [if_neg h, if_pos h2]; exact p2 h2
      · rw [if_neg h, if_neg h2]; exact p1 _ (.inr ⟨by omega, rfl⟩)
  refine ⟨by simp; omega, fun k => cs (P := fun q => q.le G) k (fun j _ => e.inG j) fun _ => d1, fun j k hjk => ?_, fun k => cs (P := fun q => q.lo = G.lo) k (fun j _ => e.qlo j) fun _ => d3, fun k => cs (P := fun q => ∀ b, q.g b ≠ none → G.lo ≤ b) k (fun j _ => e.own j) fun _ => d4, fun k y c' h1 h2 => ?_⟩
  · refine cs (P := fun q => Disj q (if k < i then qs k else if k = i then qd else qs (k - 1))) j (fun j' hj => ?_) (fun hj => ?_)
    · exact cs (P := fun q => Disj (qs j') q) k (fun k' hk => e.dd _ _ (by omega)) (fun _ => d2 j')
    · exact cs (P := fun q => Disj qd q) k (fun k' hk => (d2 k').symm) (fun hk => by omega)
  · rw [get_ins hi] at h1
    rw [get_ins (by omega)] at h2
    by_cases h : k < i
    · rw [if_pos h] at h1 h2; simp only [if_pos h]; exact e.el _ _ _ h1 h2
    · by_cases h3 : k = i
      · rw [if_neg h, if_pos h3] at h1 h2; simp only [if_neg h, if_pos h3]
        injection h1 with h1; injection h2 with h2
        subst h1; subst h2; exact d5
      · rw [if_neg h, if_neg h3] at h1 h2; simp only [if_neg h, if_neg h3]; exact e.el _ _ _ h1 h2
/-- an operation with its own row of what it depends on -/
theorem IntP.eOp {lo : Nat} {q h : Hp} {o : D.Op} {d d' : AV} (p : IntP lo q d o.deps) (kx : D.kOp.K h o (opC o d')) : eOp q o (opC o d) :=
  ⟨op_again kx p.2.2.1, d, rfl, by rw [p.1]; exact p.2.1⟩
theorem OpsP.nil (lo : Nat) : OpsP lo (Hp.none lo) .ns [] := ⟨rfl, OwnD.nil _⟩
theorem shr1n {n : Nat} (h : n < 18446744073709551616) : shO .shr .u64 (n : Int) 1 = some ((n / 2 : Nat) : Int) := by
  unfold shO
  show (match some (AV.i .u64 (Int.fdiv (n : Int) ((2 : Nat) : Int))) with | some (.i _ c) => some c | _ => none) = _
  show some (Int.fdiv (n : Int) ((2 : Nat) : Int)) = _
  rw [Int.fdiv_eq_ediv_of_nonneg _ (by omega)]
  rfl
theorem wri64n {n : Nat} (h : n < 9223372036854775808) : wrO .i64 (n : Int) = some (n : Int) := by
  unfold wrO; rw [wrap64 (by omega) (by omega)]
theorem Kn.Row.cutH {α : Type} {d : Kn α} {h : Hp} {a : AV} {l : List α} (r : d.Row h a l) {lo hi : Option Int} {i j sz : Nat} (hsz : d.sz = sz) (hlo : natO 0 lo = some i) (hhi : natO l.length hi = some j) (h1 : i ≤ j) (h2 : j ≤ l.length) :
    ∃ r', slV a lo hi none sz = some r' ∧ d.Row h r' ((l.drop i).take (j - i)) := by
  subst hsz
  obtain ⟨css, r1, r2⟩ := r
  have hl := r2.length
  obtain ⟨r', e1, e2⟩ := r1.slice (lo := lo) (hi := hi) hlo (by rw [← hl]; exact hhi) h1 (by omega) (fun _ => trivial)
  exact ⟨r', e1, _, e2, (r2.drop i).take (j - i)⟩
theorem Kn.Row.uptoH {α : Type} {d : Kn α} {h : Hp} {a : AV} {l : List α} (r : d.Row h a l) {j sz : Nat} (hsz : d.sz = sz) (h1 : j ≤ l.length) {K : AV → Prop} (k : ∀ r', d.Row h r' (l.take j) → K r') : onO (slV a none (some (j : Int)) none sz) K := by
  obtain ⟨r', e1, e2⟩ := r.cutH (lo := none) (hi := some (j : Int)) (i := 0) (j := j) hsz rfl rfl (Nat.zero_le _) h1
  exact onO.mk e1 (k r' (by simpa using e2))
theorem int0e {h : Hp} {a : AV} {l : List Int} (r : IR h a l) {n : Int} {k : Nat} (hn : n = k) {x : Int} (e : l[k]? = some x) {K : Int → Prop} (q : K x) : onO (idxV a n 1) fun r0 => onO (rdH h r0.1 r0.2 1) fun l0 => onL [Kd.int .i64] l0 K := by
  subst hn; exact int0 r e q
/-! ### plain -/
noncomputable def staleB (v : List Int) (o : D.Op) : Bool := decide (o.seq ≤ v.getD o.stamp.rep.toNat 0)
noncomputable def prevLt (l : List D.Op) (i : Nat) (o : D.Op) : Bool := if i = 0 then true else match l[i - 1]? with
  | some p => decide (cmpT p.stamp o.stamp < 0)
  | none => true
noncomputable def okH (v : List Int) (l : List D.Op) (i : Nat) (o : D.Op) : Bool := fitsO v o && (!staleB v o && (!readyV v o && (prevLt l i o && !(l.take i).any fun x => twinO x o)))
noncomputable def mayQ (v : List Int) (l : List D.Op) : Prop := l.length ≤ 16 ∧ ∀ i o, l[i]? = some o → okH v l i o = true
noncomputable def mayH (v : List Int) (l : List D.Op) : Bool := @decide (mayQ v l) (Classical.propDecidable _)
theorem mayH_true {v : List Int} {l : List D.Op} (h : mayQ v l) : mayH v l = true := @decide_eq_true _ (Classical.propDecidable _) h
theorem mayH_false {v : List Int} {l : List D.Op} (h : ¬ mayQ v l) : mayH v l = false := @decide_eq_false _ (Classical.propDecidable _) h
theorem mayH_of {v : List Int} {l : List D.Op} (h : mayH v l = true) : mayQ v l := @of_decide_eq_true _ (Classical.propDecidable _) h
theorem mayH_bad {v : List Int} {l : List D.Op} {i : Nat} {o : D.Op} (h : l[i]? = some o) (e : okH v l i o = false) : mayH v l = false := mayH_false fun q => by rw [q.2 i o h] at e; cases e
theorem idxO_any {pr : D.Op → Bool} : ∀ {l : List D.Op} {k : Nat}, decide (0 ≤ idxO pr l k) = l.any pr
  | [], k => rfl
  | o :: l, k => by
    show decide (0 ≤ if pr o = true then (k : Int) else idxO pr l (k + 1)) = (pr o || l.any pr)
    by_cases h : pr o = true
    · rw [if_pos h, h, Bool.true_or]; exact decide_eq_true (by omega)
    · rw [if_neg h, idxO_any (k := k + 1)]
      simp [h]
/-! ### boxes -/
theorem boxW {h : Hp} {p : Nat} {c new : List AV} {Post : Option AV → Hp → Prop} (hp : h.g p = some c) (hlo : h.lo ≤ p) (hl : c.length = new.length) (hs : new.all AV.sc = true) (k : ∀ h1, h1 = h.put p new → Post none h1) : wpE (.w p 0 (.lit new) none) Post h := by
  refine wpE.w hp hlo rfl (by omega) hs ?_
  have e : splice c 0 new = new := by
    unfold splice
    rw [List.take_zero, List.nil_append, List.drop_eq_nil_of_le (by omega), List.append_nil]
  rw [e]; exact k _ rfl
theorem rdBox {h : Hp} {p o n : Nat} {c r : List AV} (hp : h.g p = some c) (hs : sub? c o n = some r) : rdH h p o n = some r := by
  unfold rdH
  rw [hp]; exact hs
/-- some cells of an element -/
theorem opP {h h1 : Hp} {a : AV} {l : List D.Op} (r : OpRow h a l) (le : h.le h1) {k : Nat} {o : D.Op} (e : l[k]? = some o) {off n : Nat} {c : List AV} (hs : ∀ {d}, sub? (opC o d) off n = some c) {K : List AV → Prop} (q : K c) :
    onO (idxV a (k : Int) 12) fun r0 => onO (rdH h1 r0.1 (r0.2 + off) n) K := by
  obtain ⟨b, p, c', e1, e2, e3⟩ := r.idx (i := (k : Int)) (Int.natCast_nonneg k) (by simpa using e)
  obtain ⟨d, rfl, e4⟩ := op_cells e3
  exact onO.mk e1 (onO.mk (rdH_le le (rdH_sub e2 hs)) q)
section
variable {g h : Hp} {a b c d : AV} {v : List Int} {l m : List D.Op} {o p : D.Op} {Post : AV → Hp → Prop}
theorem opC_sc {o : D.Op} {d : AV} (hd : d.sc = true) : (opC o d).all AV.sc = true := by
  show (true && (true && (true && (d.sc && true)))) = true
  rw [hd]; rfl
theorem c30 (ra : IR h a v) (rb : OpRow h b l) (hv : v.length < 1000000) (hb : l.length < 1000000) (ho : ∀ o ∈ l, o.deps.length < 1000000) (k : ∀ h', h.le h' → h'.lo = h.lo → Post (.b (mayH v l)) h') : wpC Try.prog 30 [a, b] Post h := by
  refine call_sound (args := [.vv a, .vv b]) (cuts := [0]) ⟨ra.sc, rb.sc, trivial⟩ ?_
  rw [vc30]
  intro p0 hp hlo0
  have hlo : h.lo ≤ p0 := hlo0
  refine ⟨fun m n0 _ h' => ∃ i : Nat, n0 = i ∧ i ≤ l.length ∧ m = l.length - i ∧ (∀ j o, j < i → l[j]? = some o → okH v l j o = true) ∧ h.le h' ∧ h'.lo = h.lo ∧ ∃ c : List AV, c.length = 12 ∧ h'.g p0 = some c, ⟨l.length, 0, rfl, by omega, rfl, fun j o hj => by omega, Hp.le_put hp, rfl, _, rfl, Hp.put_same _ _ _⟩, ?_⟩
  rintro m h0 _ _ ⟨i, rfl, hi, rfl, hall, le0, lo0, c, hc, hcp⟩
  refine Dup.mk (onO.mk rb.len (onB.dec (fun e => ?_) (fun e => ?_)))
  · have : i = l.length := by omega
    subst this
    have k := k h0 le0 lo0
    by_cases h16 : l.length ≤ 16
    · rw [mayH_true ⟨h16, fun j o hj => hall j o (List.getElem?_eq_some_iff.1 hj).1 hj⟩] at k
      rw [decide_eq_true (by omega)]; exact k
    · rw [mayH_false fun q => h16 q.1] at k
      rw [decide_eq_false (by omega)]; exact k
  obtain ⟨o, hoi⟩ := get_lt (l := l) (k := i) (by omega)
  have hod := ho o (List.mem_of_getElem? hoi)
  refine opW rb le0 hoi fun d rd _ => boxW hcp (by rw [lo0]; exact hlo) hc (opC_sc rd.sc) fun h1 eh1 => ?_
  have eh1 : h1 = h0.put p0 (opC o d) := eh1
  have le1 : h.le h1 := fun j x e => by
    have hj : j ≠ p0 := fun e' => by rw [e', hp] at e; cases e
    rw [eh1, Hp.put_ne _ _ hj]; exact le0 j x e
  have g1 : h1.g p0 = some (opC o d) := by rw [eh1]; exact Hp.put_same _ _ _
  have lo1 : h1.lo = h.lo := by rw [eh1]; exact lo0
  have bad : ∀ {h'}, okH v l i o = false → h.le h' → h'.lo = h.lo → Post (.b false) h' := fun {h'} e l1 l2 => by
    have k := k h' l1 l2
    rw [mayH_bad hoi e] at k; exact k
  refine onO.mk (rdBox g1 rfl) (onL.op rd.sc (c31 (ra.mono le1) (rd.mono le1) hod (onRet.b (onB.not (fun e1 => bad (by unfold okH; rw [e1]; rfl) le1 lo1) (fun e1 => ?_)))))
  refine onO.mk (rdBox g1 (o := 2) (n := 1) rfl) (onL.i1 (onO.mk (rdBox g1 (o := 1) (n := 1) rfl) (onL.i1 ?_)))
  obtain ⟨r, hr, hlt, s1, s2, hdl, _⟩ := fits_rep e1
  obtain ⟨x, hx⟩ := get_lt (l := v) (k := r) hlt
  have hst : staleB v o = decide (o.seq ≤ x) := by unfold staleB; rw [hr, Int.toNat_natCast, getD_some hx]
  refine int0e (ra.mono le1) hr hx (onB.dec (fun e2 => bad (by unfold okH; rw [e1, hst, decide_eq_true e2]; rfl) le1 lo1) (fun e2 => ?_))
  refine onO.mk (rdBox g1 rfl) (onL.op rd.sc (c42 (ra.mono le1) (rd.mono le1) e1 hv (onRet.b (onB.mk (fun e3 => bad (by unfold okH; rw [e1, hst, decide_eq_false e2, e3]; rfl) le1 lo1) (fun e3 => ?_)))))
  have tail : ∀ {h4 : Hp}, prevLt l i o = true → h.le h4 → h4.lo = h.lo → h4.g p0 = some (opC o d) → onO (slV b none (some (i : Int)) none 12) fun a8 => wpC Try.prog 48 [a8, .f 49 [.p p0 0]] (fun a9 h5 => onRet [Sh.one Kd.bool] a9 fun c4 => onB (!c4) (onO (intO BinOp.add IntKind.i64 (i : Int) 1) fun n55 => ∃ p4, ltN p4 (l.length - i) ∧ ∃ i' : Nat, n55 = i' ∧ i' ≤ l.length ∧ p4 = l.length - i' ∧ (∀ j o, j < i' → l[j]? = some o → okH v l j o = true) ∧ h.le h5 ∧ h5.lo = h.lo ∧ ∃ c : List AV, c.length = 12 ∧ h5.g p0 = some c) (Post (.b false) h5)) h4 := by
    intro h4 e4 le4 lo4 g4
    refine (rb.mono le4).uptoH rfl hi fun r' br => c48 (f := fno (fn := 49)) (pr := fun x => twinO x o) br (by simp; omega) ok227 (fun x dx _ rdx Post' k' => c49 (o := x) (p := o) rdx.sc (rdBox g4 rfl) rd.sc k') (onRet.b ?_)
    rw [idxO_any]
    refine onB.not (fun e5 => ?_) (fun e5 => bad (by unfold okH; rw [e1, hst, decide_eq_false e2, e3, e4, e5]; rfl) le4 lo4)
    refine onO.mk (inc64 (by omega)) ⟨_, by show l.length - (i + 1) < l.length - i; omega, i + 1, rfl, by omega, rfl, fun j y hj hy => ?_, le4, lo4, _, rfl, g4⟩
    by_cases hji : j < i
    · exact hall j y hji hy
    · have : j = i := by omega
      subst this
      rw [hoi] at hy; injection hy with hy; subst hy
      unfold okH; rw [e1, hst, decide_eq_false e2, e3, e4, e5]; rfl
  refine onB.dec (fun e4 => ?_) (fun e4 => tail (by unfold prevLt; rw [if_pos (by omega)]) le1 lo1 g1)
  obtain ⟨y, hy⟩ := get_lt (l := l) (k := i - 1) (by omega)
  have hpl : prevLt l i o = decide (cmpT y.stamp o.stamp < 0) := by unfold prevLt; rw [if_neg (by omega), hy]
  refine onO.mk (sub64 (by omega) (by omega)) ?_
  have ei : ((i : Int) - 1) = ((i - 1 : Nat) : Int) := by omega
  rw [ei]
  refine opW rb le1 hy fun dy rdy _ => onO.mk (rdBox g1 rfl) (onL.op rd.sc (c47 (o := y) (p := o) rdy.sc rd.sc fun h4 le4 lo4 => onRet.b (onB.not (fun e5 => bad (by unfold okH; rw [e1, hst, decide_eq_false e2, e3, hpl, e5]; rfl) (Hp.le_trans le1 le4) (lo4.trans lo1)) (fun e5 => tail (by rw [hpl, e5]) (Hp.le_trans le1 le4) (lo4.trans lo1) (le4 _ _ g1)))))
end
/-- an element's cells as they are -/
noncomputable def kRaw : Kn (List AV) := ⟨12, fun _ x c => c = x ∧ x.length = 12 ∧ x.all AV.sc = true, fun _ k => k, fun k => by rw [k.1]; exact k.2.1, fun k => by rw [k.1]; exact k.2.2⟩
theorem kRaw_all {h : Hp} : ∀ {xs css : List (List AV)}, All2 (kRaw.K h) xs css → css = xs
  | [], _, .nil => rfl
  | _ :: _, _, .cons k t => by rw [k.1, kRaw_all t]
theorem kRaw_mk {h h' : Hp} : ∀ {l : List D.Op} {css : List (List AV)}, All2 (D.kOp.K h) l css → All2 (kRaw.K h') css css
  | [], _, .nil => .nil
  | _ :: _, _, .cons k t => .cons ⟨rfl, D.kOp.len k, D.kOp.sc k⟩ (kRaw_mk t)
section
variable {g h : Hp} {a b c d : AV} {v : List Int} {l m : List D.Op} {o p : D.Op} {Post : AV → Hp → Prop}
theorem c60 {css : List (List AV)} (ra : OpRow h a l) (rc : Raw h a 12 css) (ka : All2 (D.kOp.K h) l css) (hl : l.length < 1000000) (k : ∀ r h', Fresh h h' r 12 css → Post r h') : wpC Try.prog 60 [a] Post h := by
  refine call_sound (args := [.vv a]) (cuts := []) ⟨ra.sc, trivial⟩ ?_
  rw [vc60]
  have hlen := ka.length
  refine clone_body (d := kRaw) ⟨css, rc, kRaw_mk ka⟩ rfl (fun _ _ _ _ k => k) (by omega) (Nat.ble_eq_true_of_le (by show (4 * css.length + 4000) * 120 ≤ 17179869184; omega)) fun r h' o => ?_
  obtain ⟨p, css', p1, p2, f, f2⟩ := o
  have := kRaw_all f2
  subst this
  exact k r h' (f.mono p1 p2)
theorem c34 (ra : OpRow h a l) (hl : l.length < 1000000) (ho : ∀ o ∈ l, o.deps.length < 1000000) (k : ∀ r h' Q, h.le h' → h'.lo = h.lo → Q.le h' → Disj Q h → OpsP h'.lo Q r l → Post r h') : wpC Try.prog 34 [a] Post h := by
  refine call_sound (args := [.vv a]) (cuts := []) ⟨ra.sc, trivial⟩ ?_
  rw [vc34]
  obtain ⟨css, rc, ka⟩ := ra
  have hlen := ka.length
  refine c60 ⟨css, rc, ka⟩ rc ka hl fun r h0 f0 => onRet.r f0.row.sc (onO.mk f0.row.len ?_)
  refine ⟨fun m n0 h' => ∃ (i : Nat) (G : Hp) (css' : List (List AV)) (qs : Nat → Hp), n0 = i ∧ i ≤ l.length ∧ m = l.length - i ∧ Fresh G h' r 12 css' ∧ h.le G ∧ G.lo = h.lo ∧ css'.length = l.length ∧ (∀ j, (qs j).le G) ∧ (∀ j, Disj (qs j) h) ∧ (∀ j j', j ≠ j' → Disj (qs j) (qs j')) ∧ (∀ j, (qs j).lo = G.lo) ∧ (∀ j b, (qs j).g b ≠ none → G.lo ≤ b) ∧ (∀ j x c, j < i → l[j]? = some x → css'[j]? = some c → eOp (qs j) x c) ∧ (∀ j, i ≤ j → css'[j]? = css[j]?) ∧ ∀ j, i ≤ j → qs j = Hp.none h.lo,
    ⟨l.length, 0, h, css, fun _ => Hp.none h.lo, rfl, by omega, rfl, f0, Hp.le_refl _, rfl, hlen.symm ▸ rfl, fun _ => none_le _ _, fun _ k c e => (by cases e), fun _ _ _ k c e => (by cases e), fun _ => rfl, fun _ b e => absurd rfl e, fun j x c hj => by omega, fun _ _ => rfl, fun _ _ => rfl⟩, ?_⟩
  rintro m h1 _ ⟨i, G, css', qs, rfl, hi, rfl, f, hG, loG, hl', q1, q2, q3, q4, q5, q6, q7, q8⟩
  refine onB.dec (fun e => ?_) (fun e => ?_)
  · obtain ⟨x, hx⟩ := get_lt (l := l) (k := i) (by omega)
    obtain ⟨c, hc⟩ := get_lt (l := css) (k := i) (by omega)
    have hc' : css'[i]? = some c := by rw [q7 i (Nat.le_refl _)]; exact hc
    have kx := ka.get2 hx hc
    obtain ⟨d, rfl, rd⟩ := op_cells kx
    have hod := ho x (List.mem_of_getElem? hx)
    obtain ⟨b, of, e1, e2, e3⟩ := f.row.idx (i := (i : Int)) (Int.natCast_nonneg i) (by simpa using hc')
    refine onO.mk e1 (onO.mk e2 (onL.op rd.sc ?_))
    refine (f.call (Q := fun v p' => ∃ r', v = .agg (opC x r') ∧ Kn.int.Own G p' r' x.deps) (c54 (o := x) (rd.mono hG) hod fun r' h' ow => ⟨r', rfl, ow⟩)).mono ?_
    rintro v h2 ⟨p', f', hlo, r', rfl, ow⟩
    obtain ⟨qd, d1, d2, d3⟩ := IntP.of ow
    refine onRet.op ow.sc (f'.set hc' 0 (new := opC x r') (by simp [opC]) (opC_sc ow.sc) fun h3 f3 => ?_)
    have esp : splice (opC x d) 0 (opC x r') = opC x r' := rfl
    rw [esp] at f3
    have hGp : G.le p' := ow.le
    have cs : ∀ {P : Hp → Prop} (j : Nat), (j ≠ i → P (qs j)) → (j = i → P qd) → P (if j = i then qd else qs j) := fun {P} j a1 a2 => by
      by_cases h : j = i
      · rw [if_pos h]; exact a2 h
      · rw [if_neg h]; exact a1 h
    refine onO.mk (inc64 (by omega)) ⟨_, by show l.length - (i + 1) < l.length - i; omega, i + 1, p', _, fun j => if j = i then qd else qs j, rfl, by omega, rfl, f3, Hp.le_trans hG hGp, hlo.trans loG, by rw [List.length_set]; exact hl', fun j => cs (P := fun q => q.le p') j (fun _ => Hp.le_trans (q1 j) hGp) fun _ => d1, fun j => cs (P := fun q => Disj q h) j (fun _ => q2 j) fun _ => d2.le_right hG, fun j j' hjj => ?_, fun j => cs (P := fun q => q.lo = p'.lo) j (fun _ => (q4 j).trans hlo.symm) fun _ => d3.1.trans hlo.symm, fun j => cs (P := fun q => ∀ b, q.g b ≠ none → p'.lo ≤ b) j (fun _ b hb => by rw [hlo]; exact q5 j b hb) fun _ b hb => by rw [hlo]; exact d3.2.2.2 b hb, fun j y c' hj hy hc'' => ?_, fun j hj => ?_, fun j hj => ?_⟩
    · refine cs (P := fun q => Disj q (if j' = i then qd else qs j')) j (fun hj => ?_) fun hj => ?_
      · exact cs (P := fun q => Disj (qs j) q) j' (fun _ => q3 _ _ hjj) fun _ => (d2.le_right (q1 j)).symm
      · exact cs (P := fun q => Disj qd q) j' (fun _ => d2.le_right (q1 j')) fun hj' => by omega
    · by_cases hji : j = i
      · subst hji
        rw [hx] at hy; injection hy with hy; subst hy
        rw [List.getElem?_set_self (by omega)] at hc''
        injection hc'' with hc''; subst hc''
        simp only [if_pos rfl]
        exact d3.eOp kx
      · rw [List.getElem?_set_ne (by omega)] at hc''
        simp only [if_neg hji]
        exact q6 j y c' (by omega) hy hc''
    · rw [List.getElem?_set_ne (by omega)]; exact q7 j (by omega)
    · simp only [if_neg (show j ≠ i by omega)]; exact q8 j (by omega)
  · have : i = l.length := by omega
    subst this
    have ee : OpsE G l css' qs := ⟨hl', q1, q3, q4, q5, fun j x c hx hc => q6 j x c (List.getElem?_eq_some_iff.1 hx).1 hx hc⟩
    obtain ⟨Q, Q1, Q2, Q3⟩ := ee.close f
    exact k r h1 Q (Hp.le_trans hG f.le) (f.lo.trans loG) Q1 (Q3 h hG q2) Q2
end
/-! ### plain: stamps in order -/
noncomputable def ltS (a b : D.Stamp) : Prop := a.time < b.time ∨ a.time = b.time ∧ a.rep < b.rep
theorem cmpT_ltS {a b : D.Stamp} : cmpT a b < 0 ↔ ltS a b := by
  unfold cmpT ltS
  have neg : ∀ {x y : Int}, x < y → cmpN x y = -1 := fun h => if_pos h
  have pos : ∀ {x y : Int}, y < x → cmpN x y = 1 := fun {x y} h => by unfold cmpN; rw [if_neg (by omega), if_pos h]
  have zer : ∀ {x y : Int}, x = y → cmpN x y = 0 := fun {x y} h => by unfold cmpN; rw [if_neg (by omega), if_neg (by omega)]
  rcases Int.lt_trichotomy a.time b.time with h | h | h
  · rw [neg h, if_neg (by omega)]; omega
  · rw [zer h, if_pos rfl]
    rcases Int.lt_trichotomy a.rep b.rep with h' | h' | h'
    · rw [neg h']; omega
    · rw [zer h']; omega
    · rw [pos h']; omega
  · rw [pos h, if_neg (by omega)]; omega
noncomputable def cmpK (a b : D.Op) : Int := if cmpT a.stamp b.stamp < 0 then -1 else if cmpT b.stamp a.stamp < 0 then 1 else 0
noncomputable def Srt (l : List D.Op) : Prop := ∀ (i j : Nat) (x y : D.Op), i < j → l[i]? = some x → l[j]? = some y → ltS x.stamp y.stamp
noncomputable def SplitAt (l : List D.Op) (o : D.Op) (i : Nat) : Prop := i ≤ l.length ∧ (∀ (k : Nat) (y : D.Op), k < i → l[k]? = some y → ltS y.stamp o.stamp) ∧ ∀ (k : Nat) (y : D.Op), i ≤ k → l[k]? = some y → ¬ ltS y.stamp o.stamp
noncomputable def posH (o : D.Op) : List D.Op → Nat
  | [] => 0
  | x :: l => if cmpT x.stamp o.stamp < 0 then posH o l + 1 else 0
theorem split_pos {o : D.Op} : ∀ {l : List D.Op} {i : Nat}, SplitAt l o i → i = posH o l
  | [], i, h => by have := h.1; simp at this; rw [this]; rfl
  | x :: l, i, h => by
    unfold posH
    by_cases hx : cmpT x.stamp o.stamp < 0
    · rw [if_pos hx]
      cases i with
      | zero => exact absurd (cmpT_ltS.1 hx) (h.2.2 0 x (Nat.le_refl _) rfl)
      | succ i =>
        have : SplitAt l o i := ⟨by have := h.1; simp at this; omega, fun k y hk hy => h.2.1 (k + 1) y (by omega) (by simpa using hy), fun k y hk hy => h.2.2 (k + 1) y (by omega) (by simpa using hy)⟩
        rw [← split_pos this]
    · rw [if_neg hx]
      cases i with
      | zero => rfl
      | succ i => exact absurd (cmpT_ltS.2 (h.2.1 0 x (by omega) rfl)) hx
noncomputable def insH (l : List D.Op) (o : D.Op) : List D.Op := l.take (posH o l) ++ o :: l.drop (posH o l)
/-- is its stamp there? -/
noncomputable def hasS (l : List D.Op) (o : D.Op) : Bool := l.any fun x => decide (x.stamp = o.stamp)
noncomputable def foundO (o : D.Op) (l : List D.Op) (i : Nat) : Bool := match l[i]? with
  | some y => decide (cmpK y o = 0)
  | none => false
theorem stamp_same {a b : D.Stamp} (h1 : ¬ ltS a b) (h2 : ¬ ltS b a) : a = b := by
  unfold ltS at h1 h2
  cases a; cases b
  simp only at h1 h2
  rw [D.Stamp.mk.injEq]
  exact ⟨by omega, by omega⟩
theorem ltS_self {a : D.Stamp} : ¬ ltS a a := by unfold ltS; omega
theorem cmpK_zero {a b : D.Op} : cmpK a b = 0 ↔ a.stamp = b.stamp := by
  unfold cmpK
  constructor
  · intro h
    by_cases h1 : cmpT a.stamp b.stamp < 0
    · rw [if_pos h1] at h; omega
    · rw [if_neg h1] at h
      by_cases h2 : cmpT b.stamp a.stamp < 0
      · rw [if_pos h2] at h; omega
      · exact stamp_same (fun e => h1 (cmpT_ltS.2 e)) (fun e => h2 (cmpT_ltS.2 e))
  · intro h
    rw [h]
    have : ¬ cmpT b.stamp b.stamp < 0 := fun e => ltS_self (cmpT_ltS.1 e)
    rw [if_neg this, if_neg this]
theorem found_has {l : List D.Op} {o : D.Op} {i : Nat} (hs : Srt l) (h : SplitAt l o i) : foundO o l i = hasS l o := by
  unfold foundO hasS
  cases hi : l[i]? with
  | none =>
    symm
    rw [List.any_eq_false]
    intro x hx
    obtain ⟨k, hk⟩ := List.getElem?_of_mem hx
    have hk2 : k < i := by
      have := (List.getElem?_eq_some_iff.1 hk).1
      rw [List.getElem?_eq_none_iff] at hi
      omega
    have := h.2.1 k x hk2 hk
    intro e
    rw [of_decide_eq_true e] at this
    exact ltS_self this
  | some y =>
    show decide (cmpK y o = 0) = _
    by_cases e : cmpK y o = 0
    · rw [decide_eq_true e]
      symm
      exact List.any_eq_true.2 ⟨y, List.mem_of_getElem? hi, decide_eq_true (cmpK_zero.1 e)⟩
    · rw [decide_eq_false e]
      symm
      rw [List.any_eq_false]
      intro x hx e2
      have e2 := of_decide_eq_true e2
      obtain ⟨k, hk⟩ := List.getElem?_of_mem hx
      rcases Nat.lt_trichotomy k i with hki | hki | hki
      · have := h.2.1 k x hki hk
        rw [e2] at this; exact ltS_self this
      · subst hki; rw [hi] at hk; injection hk with hk; subst hk
        exact e (cmpK_zero.2 e2)
      · have := hs i k y x hki hi hk
        rw [e2] at this
        exact h.2.2 i y (Nat.le_refl _) hi this
theorem may_srt {v : List Int} {l : List D.Op} (h : mayQ v l) : Srt l := by
  have step : ∀ (i : Nat) (x y : D.Op), l[i]? = some x → l[i + 1]? = some y → ltS x.stamp y.stamp := fun i x y hx hy => by
    have := h.2 _ _ hy
    unfold okH at this
    simp only [Bool.and_eq_true] at this
    obtain ⟨_, _, _, k4, _⟩ := this
    unfold prevLt at k4
    rw [if_neg (by omega), Nat.add_sub_cancel, hx] at k4
    exact cmpT_ltS.1 (of_decide_eq_true k4)
  intro i j x y hij hx hy
  obtain ⟨n, rfl⟩ := Nat.exists_eq_add_of_lt hij
  induction n generalizing y with
  | zero => exact step i x y hx hy
  | succ n ih =>
    obtain ⟨z, hz⟩ := get_lt (l := l) (k := i + n + 1) (by have := (List.getElem?_eq_some_iff.1 hy).1; omega)
    have h1 := ih z (by omega) hz
    have h2 := step (i + n + 1) z y hz hy
    unfold ltS at *; omega
section
variable {g h : Hp} {a b c d : AV} {v : List Int} {l m : List D.Op} {o p : D.Op} {Post : AV → Hp → Prop}
theorem c71 (ha : a.sc = true) (hb : b.sc = true) (k : ∀ h', h.le h' → h'.lo = h.lo → Post (.i .i64 (cmpK o p)) h') : wpC Try.prog 71 [.agg (opC o a), .agg (opC p b)] Post h := by
  refine call_sound (args := [opS o a, opS p b]) (cuts := []) ⟨opS_good ha, opS_good hb, trivial⟩ ?_
  unfold opS
  rw [vc71]
  unfold cmpK at k
  refine fun _ _ => c47 (o := o) (p := p) ha hb fun h1 le1 lo1 => onRet.b (onB.dec (fun e => ?_) (fun e => c47 (o := p) (p := o) hb ha fun h2 le2 lo2 => onRet.b (onB.dec (fun e2 => ?_) (fun e2 => ?_))))
  · have k := k h1 le1 lo1
    rw [if_pos e] at k; exact k
  · have k := k h2 (Hp.le_trans le1 le2) (lo2.trans lo1)
    rw [if_neg e, if_pos e2] at k; exact k
  · have k := k h2 (Hp.le_trans le1 le2) (lo2.trans lo1)
    rw [if_neg e, if_neg e2] at k; exact k
theorem cmpK_neg {a b : D.Op} : cmpK a b < 0 ↔ ltS a.stamp b.stamp := by
  unfold cmpK
  rw [← cmpT_ltS]
  constructor
  · intro h
    by_cases e : cmpT a.stamp b.stamp < 0
    · exact e
    · rw [if_neg e] at h
      split at h <;> omega
  · intro h; rw [if_pos h]; omega
theorem c70 (r : OpRow h a l) (hd : d.sc = true) (hb : l.length < 1000000) (hs : Srt l) (k : ∀ (i : Nat) h', h.le h' → h'.lo = h.lo → SplitAt l o i → Post (.tup [.i .i64 (i : Int), .b (foundO o l i)]) h') : wpC Try.prog 70 [a, .agg (opC o d), .f 71 []] Post h := by
  refine call_sound (args := [.vv a, opS o d, .ff 71 []]) (cuts := []) ⟨r.sc, opS_good hd, trivial, trivial⟩ ?_
  unfold opS
  rw [vc70]
  intro _
  refine onO.mk r.len ⟨fun m n0 n1 h' => h.le h' ∧ h'.lo = h.lo ∧ ∃ i j : Nat, n0 = i ∧ n1 = j ∧ i ≤ j ∧ j ≤ l.length ∧ m = j - i ∧ (∀ (k : Nat) (y : D.Op), k < i → l[k]? = some y → ltS y.stamp o.stamp) ∧ ∀ (k : Nat) (y : D.Op), j ≤ k → l[k]? = some y → ¬ ltS y.stamp o.stamp, ⟨l.length, Hp.le_refl _, rfl, 0, l.length, rfl, rfl, by omega, by omega, rfl, fun k y hk => by omega, fun k y hk hy => by rw [List.getElem?_eq_none hk] at hy; cases hy⟩, ?_⟩
  rintro m h0 _ _ ⟨le0, lo0, i, j, rfl, rfl, hij, hj, rfl, h1, h2⟩
  refine onB.dec (fun e => ?_) (fun e => ?_)
  · have hlt : i < j := by omega
    refine onO.mk (add64 (by omega) (by omega)) ?_
    rw [← Int.natCast_add]
    refine onO.mk ((show wrO .u64 ((i + j : Nat) : Int) = some ((i + j : Nat) : Int) by rw [wru64]; congr 1; omega)) (onO.mk (shr1n (by omega)) (onO.mk (wri64n (by omega)) ?_))
    obtain ⟨x, hx⟩ := get_lt (l := l) (k := (i + j) / 2) (by omega)
    refine opW r le0 hx fun dx rdx _ => c71 (o := x) (p := o) rdx.sc hd fun h' le lo => onRet.i (onB.dec (fun e1 => ?_) (fun e1 => ?_))
    · have e1 := cmpK_neg.1 e1
      refine onO.mk (inc64 (by omega)) ⟨j - ((i + j) / 2 + 1), by show _ < _; omega, Hp.le_trans le0 le, lo.trans lo0, (i + j) / 2 + 1, j, rfl, rfl, by omega, hj, rfl, fun k y hk hy => ?_, h2⟩
      rcases Nat.lt_or_ge k ((i + j) / 2) with hk2 | hk2
      · have := hs k _ y x hk2 hy hx
        unfold ltS at *; omega
      · have : k = (i + j) / 2 := by omega
        subst this
        rw [hx] at hy; injection hy with hy; subst hy; exact e1
    · have e1 : ¬ ltS x.stamp o.stamp := fun q => e1 (cmpK_neg.2 q)
      refine ⟨(i + j) / 2 - i, by show _ < _; omega, Hp.le_trans le0 le, lo.trans lo0, i, (i + j) / 2, rfl, rfl, by omega, by omega, rfl, h1, fun k y hk hy => ?_⟩
      rcases Nat.lt_or_ge ((i + j) / 2) k with hk2 | hk2
      · have := hs _ k x y hk2 hx hy
        intro q; apply e1
        unfold ltS at *; omega
      · have : k = (i + j) / 2 := by omega
        subst this
        rw [hx] at hy; injection hy with hy; subst hy; exact e1
  · have : i = j := by omega
    subst this
    refine onB.dec (fun e2 => ?_) (fun e2 => ?_)
    · obtain ⟨x, hx⟩ := get_lt (l := l) (k := i) (by omega)
      refine opW r le0 hx fun dx rdx _ => c71 (o := x) (p := o) rdx.sc hd fun h' le lo => onRet.i ?_
      have k := k i h' (Hp.le_trans le0 le) (lo.trans lo0) ⟨hj, h1, h2⟩
      unfold foundO at k
      rw [hx] at k; exact k
    · have k := k i h0 le0 lo0 ⟨hj, h1, h2⟩
      unfold foundO at k
      rw [List.getElem?_eq_none (by omega)] at k; exact k
theorem OpsE.sc {G : Hp} {l : List D.Op} {css : List (List AV)} {qs : Nat → Hp} (e : OpsE G l css qs) : All2 (D.kOp.K G) l css :=
  All2.of_get e.len.symm fun i x c hx hc => D.kOp.mono (e.inG i) (e.el i x c hx hc).1
/-- keep -/
theorem c53 {q : Hp} (pq : OpsP h.lo q a l) (hq : q.le h) (rd : IR h d o.deps) (kx : D.kOp.K h o (opC o d)) (hd : o.deps.length < 1000000) (hb : l.length < 900000) (hs : Srt l)
    (k1 : (hasS l o = true ∨ l.length = 16) → ∀ h', h.le h' → h'.lo = h.lo → Post (.tup [.ns, .i .i64 5]) h')
    (k2 : ¬ (hasS l o = true ∨ l.length = 16) → ∀ r h' Q, (restH h q).le h' → h'.lo = h.lo → Q.le h' → Disj Q (restH h q) → OpsP h'.lo Q r (insH l o) → Post (.tup [r, .i .i64 0]) h') : wpC Try.prog 53 [a, .agg (opC o d)] Post h := by
  have ra : OpRow h a l := pq.row hq
  refine call_sound (args := [.vv a, opS o d]) (cuts := [7999999]) ⟨ra.sc, opS_good rd.sc, trivial⟩ ?_
  unfold opS
  rw [vc53]
  refine fun _ => c70 (o := o) ra rd.sc (by omega) hs fun i h0 le0 lo0 hi => onTup.ib ?_
  rw [found_has hs hi]
  refine onB.mk (fun e => ⟨fun a n h' => a = .ns ∧ n = 5 ∧ h' = h0, ⟨rfl, rfl, rfl⟩, ?_⟩) (fun e => onO.mk ra.len (onB.dec (fun e2 => ⟨fun a n h' => a = .ns ∧ n = 5 ∧ h' = h0, ⟨rfl, rfl, rfl⟩, ?_⟩) (fun e2 => ?_)))
  · rintro _ _ _ _ ⟨rfl, rfl, rfl⟩
    exact k1 (.inl e) _ le0 lo0
  · rintro _ _ _ _ ⟨rfl, rfl, rfl⟩
    exact k1 (.inr (by omega)) _ le0 lo0
  refine c54 (o := o) (rd.mono le0) hd fun d' h3 ow => onRet.op ow.sc fun p2 hp2 hlo2 => ?_
  have hlo2 : h3.lo ≤ p2 := hlo2
  obtain ⟨qd, d1, d2, d3⟩ := IntP.of ow
  have le3 : h.le h3 := Hp.le_trans le0 ow.le
  have lo3 : h3.lo = h.lo := ow.lo.trans lo0
  have leH : h3.le (h3.put p2 (opC o d')) := Hp.le_put hp2
  obtain ⟨G, css, qs, f, oe, oq, oG, oX⟩ := OpsP.openG (H := h3.put p2 (opC o d')) (q := q) (a := a) (l := l) (by show OpsP h3.lo q a l; rw [lo3]; exact pq) (Hp.le_trans hq (Hp.le_trans le3 leH))
  have hqd : Disj q qd := (d2.le_right (Hp.le_trans hq le0)).symm
  have dG : qd.le G := oX _ (Hp.le_trans d1 leH) hqd
  have hpos := split_pos hi
  have hcl := oe.len
  have ksc : (opC o d').all AV.sc = true := opC_sc ow.sc
  refine Fresh.ins (hk := hookI) (sz := 12) rfl (fun _ _ => rfl) (vn := 1) (css2 := [opC o d']) f ?_ hlo2 ?_ rfl (by omega) (fun c' hc' => by simp at hc'; rw [hc']; rfl) (Kn.all_sc oe.sc) (by simpa using ksc) (i := i) (by rw [hcl]; exact hi.1) (by rw [hcl]; omega) fun r h4 f4 => ?_
  · exact rdBox (Hp.put_same _ _ _) (by rw [List.flatten_cons, List.flatten_nil, List.append_nil]; rfl)
  · intro b of len lo ex z e1 e2
    obtain ⟨n1, n2, cs, n3, n4⟩ := f.new _ _ _ _ _ _ e1
    have r2 := pq.row hq
    -- the row's block is seen in q
    obtain ⟨hlo', p0, css0, qs0, o0⟩ := pq
    obtain ⟨m1, m2, cs0, m3, m4⟩ := o0.fr.new _ _ _ _ _ _ e1
    have := le3 b _ (hq b _ m3)
    rw [← e2, hp2] at this; cases this
  have kx' : eOp qd o (opC o d') := d3.eOp kx
  have loG : G.lo = h0.lo := oG.trans (show h3.lo = h0.lo from ow.lo)
  have oi := oe.ins (i := i) hi.1 (qd := qd) (x := o) (c := opC o d') dG (fun j => hqd.le_left (oq j)) (d3.1.trans loG.symm) (fun b hb => by rw [loG]; exact d3.2.2.2 b hb) kx'
  obtain ⟨Q, Q1, Q2, Q3⟩ := oi.close (r := r) (H := h4) f4
  have hR : (restH h q).le G := oX _ (Hp.le_trans (restH_le _ _) (Hp.le_trans le3 leH)) (rest_disj q h)
  have lo4 : h4.lo = h.lo := f4.lo.trans (loG.trans lo0)
  refine onRet.r f4.row.sc (k2 (fun e3 => ?_) r h4 Q (Hp.le_trans hR f4.le) lo4 Q1 (Q3 _ hR fun j => ?_) (by unfold insH; rw [← hpos]; exact Q2))
  · rcases e3 with e3 | e3
    · rw [e] at e3; cases e3
    · omega
  · by_cases hj : j < i
    · simp only [if_pos hj]; exact ((rest_disj q h).le_left (oq j))
    · by_cases hj2 : j = i
      · simp only [if_neg hj, if_pos hj2]; exact d2.le_right (Hp.le_trans (restH_le _ _) le0)
      · simp only [if_neg hj, if_neg hj2]; exact ((rest_disj q h).le_left (oq _))
end
noncomputable def setV (v : List Int) (o : D.Op) : List Int := v.set o.stamp.rep.toNat o.seq
noncomputable def nextH (v : List Int) (l : List D.Op) : Option Nat := if idxO (readyV v) l 0 < 0 then none else some (idxO (readyV v) l 0).toNat
noncomputable def delH (l : List D.Op) (i : Nat) : List D.Op := l.take i ++ l.drop (i + 1)
noncomputable def runH : Nat → List Int → List D.Op → D.Op → List D.Op → List Int × List D.Op × List D.Op
  | 0, v, l, o, t => (setV v o, l, t ++ [o])
  | n + 1, v, l, o, t => match nextH (setV v o) l with
    | none => (setV v o, l, t ++ [o])
    | some i => runH n (setV v o) (delH l i) (l.getD i o) (t ++ [o])
noncomputable def letH (v : List Int) (l : List D.Op) (o : D.Op) : Option (List Int × List D.Op × List D.Op) :=
  if (staleB v o || l.any fun x => twinO x o) = true then some (v, l, []) else
  if readyV v o = true then some (runH l.length v l o []) else
  if (hasS l o || decide (l.length = 16)) = true then none else some (v, insH l o, [])
theorem idxO_spec {pr : D.Op → Bool} : ∀ {l : List D.Op} {k : Nat}, (idxO pr l k = -1 ∧ ∀ x ∈ l, pr x = false) ∨ ∃ i x, idxO pr l k = ((k + i : Nat) : Int) ∧ l[i]? = some x ∧ pr x = true ∧ ∀ y ∈ l.take i, pr y = false
  | [], k => .inl ⟨rfl, fun x hx => by cases hx⟩
  | o :: l, k => by
    show (((if pr o = true then (k : Int) else idxO pr l (k + 1)) = -1 ∧ _) ∨ _)
    by_cases h : pr o = true
    · refine .inr ⟨0, o, ?_, rfl, h, fun y hy => by simp at hy⟩
      show (if pr o = true then (k : Int) else idxO pr l (k + 1)) = _
      rw [if_pos h]; rfl
    · rcases idxO_spec (pr := pr) (l := l) (k := k + 1) with ⟨e1, e2⟩ | ⟨i, x, e1, e2, e3, e4⟩
      · refine .inl ⟨by rw [if_neg h]; exact e1, fun x hx => ?_⟩
        rcases List.mem_cons.1 hx with rfl | hx
        · simpa using h
        · exact e2 x hx
      · refine .inr ⟨i + 1, x, ?_, by simpa using e2, e3, fun y hy => ?_⟩
        · show (if pr o = true then (k : Int) else idxO pr l (k + 1)) = _
          rw [if_neg h, e1]; congr 1; omega
        · rw [List.take_succ_cons] at hy
          rcases List.mem_cons.1 hy with rfl | hy
          · simpa using h
          · exact e4 y hy
theorem next_spec {v : List Int} {l : List D.Op} : (nextH v l = none ∧ idxO (readyV v) l 0 = -1 ∧ ∀ x ∈ l, readyV v x = false) ∨ ∃ i x, nextH v l = some i ∧ idxO (readyV v) l 0 = (i : Int) ∧ l[i]? = some x ∧ readyV v x = true ∧ ∀ y ∈ l.take i, readyV v y = false := by
  unfold nextH
  rcases idxO_spec (pr := readyV v) (l := l) (k := 0) with ⟨e1, e2⟩ | ⟨i, x, e1, e2, e3, e4⟩
  · exact .inl ⟨by rw [if_pos (by omega)], e1, e2⟩
  · rw [Nat.zero_add] at e1
    exact .inr ⟨i, x, by rw [if_neg (by omega), e1]; rfl, e1, e2, e3, e4⟩
theorem del_len {l : List D.Op} {i : Nat} (h : i < l.length) : (delH l i).length + 1 = l.length := by unfold delH; simp; omega
theorem run_none {v : List Int} {l t : List D.Op} {o : D.Op} (h : nextH (setV v o) l = none) : runH l.length v l o t = (setV v o, l, t ++ [o]) := by
  cases hl : l.length with
  | zero => rfl
  | succ n => unfold runH; rw [h]
theorem run_some {v : List Int} {l t : List D.Op} {o x : D.Op} {i : Nat} (h : nextH (setV v o) l = some i) (hx : l[i]? = some x) : runH l.length v l o t = runH (delH l i).length (setV v o) (delH l i) x (t ++ [o]) := by
  have hi := (List.getElem?_eq_some_iff.1 hx).1
  cases hl : l.length with
  | zero => omega
  | succ n =>
    have := del_len hi
    rw [show (delH l i).length = n by omega]
    show (match nextH (setV v o) l with | none => _ | some i => runH n (setV v o) (delH l i) (l.getD i o) (t ++ [o])) = _
    rw [h]
    show runH n (setV v o) (delH l i) (l.getD i o) (t ++ [o]) = _
    rw [List.getD_eq_getElem?_getD, hx]; rfl
/-! ### what may be -/
noncomputable def NoTw (l : List D.Op) : Prop := ∀ (i j : Nat) (x y : D.Op), i < j → l[i]? = some x → l[j]? = some y → twinO x y = false
structure MayR (v : List Int) (l : List D.Op) : Prop where
  len : l.length ≤ 16
  fit : ∀ x ∈ l, fitsO v x = true
  sta : ∀ x ∈ l, staleB v x = false
  rdy : ∀ x ∈ l, readyV v x = false
  srt : Srt l
  tw : NoTw l
theorem may_R {v : List Int} {l : List D.Op} (h : mayQ v l) : MayR v l := by
  have key : ∀ x ∈ l, ∃ i, l[i]? = some x ∧ okH v l i x = true := fun x hx => by
    obtain ⟨i, hi⟩ := List.getElem?_of_mem hx
    exact ⟨i, hi, h.2 i x hi⟩
  refine ⟨h.1, fun x hx => ?_, fun x hx => ?_, fun x hx => ?_, may_srt h, fun i j x y hij hx hy => ?_⟩
  · obtain ⟨i, _, hk⟩ := key x hx
    unfold okH at hk; simp only [Bool.and_eq_true] at hk; exact hk.1
  · obtain ⟨i, _, hk⟩ := key x hx
    unfold okH at hk; simp only [Bool.and_eq_true] at hk; simpa using hk.2.1
  · obtain ⟨i, _, hk⟩ := key x hx
    unfold okH at hk; simp only [Bool.and_eq_true] at hk; simpa using hk.2.2.1
  · have hk := h.2 j y hy
    unfold okH at hk; simp only [Bool.and_eq_true] at hk
    have hk := hk.2.2.2.2
    have hk : ((l.take j).any fun x => twinO x y) = false := by simpa using hk
    rw [List.any_eq_false] at hk
    have := hk x (List.mem_take_iff_getElem.2 ⟨i, by have := (List.getElem?_eq_some_iff.1 hx).1; omega, (List.getElem?_eq_some_iff.1 hx).2⟩)
    simpa using this
theorem R_may {v : List Int} {l : List D.Op} (h : MayR v l) : mayQ v l := by
  refine ⟨h.len, fun i o hi => ?_⟩
  have hm := List.mem_of_getElem? hi
  have hp : prevLt l i o = true := by
    unfold prevLt
    by_cases h0 : i = 0
    · rw [if_pos h0]
    · obtain ⟨y, hy⟩ := get_lt (l := l) (k := i - 1) (by have := (List.getElem?_eq_some_iff.1 hi).1; omega)
      rw [if_neg h0, hy]
      exact decide_eq_true (cmpT_ltS.2 (h.srt (i - 1) i y o (by omega) hy hi))
  have ht : ((l.take i).any fun x => twinO x o) = false := by
    rw [List.any_eq_false]
    intro x hx
    obtain ⟨k, hk, hx⟩ := List.mem_take_iff_getElem.1 hx
    have := h.tw k i x o (by omega) (List.getElem?_eq_some_iff.2 ⟨by omega, hx⟩) hi
    rw [this]; simp
  unfold okH
  rw [h.fit o hm, h.sta o hm, h.rdy o hm, hp, ht]; rfl
theorem twin_sym {a b : D.Op} : twinO a b = twinO b a := by
  unfold twinO
  rw [show decide (a.stamp.rep = b.stamp.rep) = decide (b.stamp.rep = a.stamp.rep) by rw [decide_eq_decide]; omega, show decide (a.seq = b.seq) = decide (b.seq = a.seq) by rw [decide_eq_decide]; omega]
theorem getD_set {v : List Int} {i k : Nat} {x : Int} (hi : i < v.length) : (v.set i x).getD k 0 = if k = i then x else v.getD k 0 := by
  rw [List.getD_eq_getElem?_getD, List.getD_eq_getElem?_getD]
  by_cases h : k = i
  · subst h; rw [if_pos rfl, List.getElem?_set_self hi]; rfl
  · rw [if_neg h, List.getElem?_set_ne (by omega)]
theorem fits_set {v : List Int} {o x : D.Op} : fitsO (setV v o) x = fitsO v x := by unfold fitsO setV; rw [List.length_set]
/-- while operations are taken -/
structure InvH (v : List Int) (l : List D.Op) (o : D.Op) : Prop where
  len : l.length ≤ 16
  fit : ∀ x ∈ l, fitsO v x = true
  fo : fitsO v o = true
  sta : ∀ x ∈ l, staleB v x = false
  ro : readyV v o = true
  to : ∀ x ∈ l, twinO x o = false
  srt : Srt l
  tw : NoTw l
theorem del_mem {l : List D.Op} {i : Nat} {x : D.Op} (h : x ∈ delH l i) : x ∈ l := by
  unfold delH at h
  rcases List.mem_append.1 h with h | h
  · exact List.mem_of_mem_take h
  · exact List.mem_of_mem_drop h
theorem del_get {l : List D.Op} {i : Nat} (hi : i < l.length) {k : Nat} {x : D.Op} (h : (delH l i)[k]? = some x) : ∃ k', l[k']? = some x ∧ k' ≠ i ∧ (k < i ∧ k' = k ∨ i ≤ k ∧ k' = k + 1) := by
  unfold delH at h
  rw [get_del hi] at h
  by_cases e : k < i
  · rw [if_pos e] at h; exact ⟨k, h, by omega, .inl ⟨e, rfl⟩⟩
  · rw [if_neg e] at h; exact ⟨k + 1, h, by omega, .inr ⟨by omega, rfl⟩⟩
theorem sta_set {v : List Int} {l : List D.Op} {o : D.Op} (i : InvH v l o) : ∀ x ∈ l, staleB (setV v o) x = false := by
  intro x hx
  obtain ⟨r, hr, hlt, _⟩ := fits_rep i.fo
  obtain ⟨r', hr', _⟩ := fits_rep (i.fit x hx)
  have h1 := i.sta x hx
  have h2 := i.ro
  have h3 := i.to x hx
  unfold staleB at h1 ⊢
  unfold setV
  unfold readyV at h2
  unfold twinO at h3
  rw [Bool.and_eq_true, decide_eq_true_eq] at h2
  have h1 := of_decide_eq_false h1
  apply decide_eq_false
  rw [getD_set (by rw [hr]; simpa using hlt)]
  by_cases e : x.stamp.rep.toNat = o.stamp.rep.toNat
  · rw [if_pos e]
    rw [e] at h1
    have e2 : x.stamp.rep = o.stamp.rep := by omega
    rw [decide_eq_true e2, Bool.true_and] at h3
    have := of_decide_eq_false h3
    omega
  · rw [if_neg e]; exact h1
theorem inv_next {v : List Int} {l : List D.Op} {o x : D.Op} {k : Nat} (i : InvH v l o) (hx : l[k]? = some x) (hr : readyV (setV v o) x = true) : InvH (setV v o) (delH l k) x := by
  have hk := (List.getElem?_eq_some_iff.1 hx).1
  have hl := del_len hk
  refine ⟨by have := i.len; omega, fun y hy => by rw [fits_set]; exact i.fit y (del_mem hy), by rw [fits_set]; exact i.fit x (List.mem_of_getElem? hx), fun y hy => sta_set i y (del_mem hy), hr, fun y hy => ?_, fun a b y z hab hy hz => ?_, fun a b y z hab hy hz => ?_⟩
  · obtain ⟨j, hj⟩ := List.getElem?_of_mem hy
    obtain ⟨j', h1, h2, _⟩ := del_get hk hj
    rcases Nat.lt_or_ge j' k with h | h
    · exact i.tw j' k y x h h1 hx
    · rw [twin_sym]; exact i.tw k j' x y (by omega) hx h1
  · obtain ⟨a', h1, h2, h3⟩ := del_get hk hy
    obtain ⟨b', h4, h5, h6⟩ := del_get hk hz
    exact i.srt a' b' y z (by omega) h1 h4
  · obtain ⟨a', h1, h2, h3⟩ := del_get hk hy
    obtain ⟨b', h4, h5, h6⟩ := del_get hk hz
    exact i.tw a' b' y z (by omega) h1 h4
theorem inv_done {v : List Int} {l : List D.Op} {o : D.Op} (i : InvH v l o) (h : ∀ x ∈ l, readyV (setV v o) x = false) : MayR (setV v o) l :=
  ⟨i.len, fun x hx => by rw [fits_set]; exact i.fit x hx, sta_set i, h, i.srt, i.tw⟩
theorem inv_first {v : List Int} {l : List D.Op} {o : D.Op} (m : MayR v l) (hf : fitsO v o = true) (ht : (l.any fun x => twinO x o) = false) (hr : readyV v o = true) : InvH v l o :=
  ⟨m.len, m.fit, hf, m.sta, hr, fun x hx => by rw [List.any_eq_false] at ht; simpa using ht x hx, m.srt, m.tw⟩
theorem run_may : ∀ (n : Nat) {v : List Int} {l t : List D.Op} {o : D.Op}, l.length = n → InvH v l o → MayR (runH n v l o t).1 (runH n v l o t).2.1 := by
  intro n
  induction n with
  | zero =>
    intro v l t o hn i
    have : l = [] := List.length_eq_zero_iff.1 hn
    subst this
    exact inv_done i fun x hx => by cases hx
  | succ n ih =>
    intro v l t o hn i
    rcases next_spec (v := setV v o) (l := l) with ⟨h1, h2, h3⟩ | ⟨k, x, h1, h2, h3, h4, h5⟩
    · rw [← hn, run_none h1]; exact inv_done i h3
    · have hd := del_len (List.getElem?_eq_some_iff.1 h3).1
      rw [← hn, run_some h1 h3, show (delH l k).length = n by omega]
      exact ih (by omega) (inv_next i h3 h4)
theorem srt_ins {l : List D.Op} {o : D.Op} {i : Nat} (hs : Srt l) (h : SplitAt l o i) (hn : hasS l o = false) : Srt (l.take i ++ o :: l.drop i) := by
  have ne : ∀ y ∈ l, y.stamp ≠ o.stamp := fun y hy e => by
    unfold hasS at hn
    rw [List.any_eq_false] at hn
    exact hn y hy (decide_eq_true e)
  have gt : ∀ (k : Nat) (y : D.Op), i ≤ k → l[k]? = some y → ltS o.stamp y.stamp := fun k y hk hy => by
    have h1 := h.2.2 k y hk hy
    have h2 := ne y (List.mem_of_getElem? hy)
    by_cases h3 : ltS o.stamp y.stamp
    · exact h3
    · exact absurd (stamp_same h1 h3) h2
  intro a b x y hab hx hy
  rw [get_ins h.1] at hx hy
  by_cases ha : a < i
  · rw [if_pos ha] at hx
    by_cases hb : b < i
    · rw [if_pos hb] at hy; exact hs a b x y hab hx hy
    · by_cases hb2 : b = i
      · rw [if_neg hb, if_pos hb2] at hy; injection hy with hy; subst hy; exact h.2.1 a x ha hx
      · rw [if_neg hb, if_neg hb2] at hy; exact hs a (b - 1) x y (by omega) hx hy
  · by_cases ha2 : a = i
    · rw [if_neg ha, if_pos ha2] at hx; injection hx with hx; subst hx
      rw [if_neg (by omega), if_neg (by omega)] at hy
      exact gt (b - 1) y (by omega) hy
    · rw [if_neg ha, if_neg ha2] at hx
      rw [if_neg (by omega), if_neg (by omega)] at hy
      exact hs (a - 1) (b - 1) x y (by omega) hx hy
theorem pos_split {o : D.Op} : ∀ {l : List D.Op}, Srt l → SplitAt l o (posH o l)
  | [], _ => ⟨Nat.le_refl _, fun k y _ h => by simp at h, fun k y _ h => by simp at h⟩
  | x :: l, hs => by
    have hs' : Srt l := fun i j a b hij ha hb => hs (i + 1) (j + 1) a b (by omega) (by simpa using ha) (by simpa using hb)
    have ih := pos_split (o := o) hs'
    unfold posH
    by_cases hx : cmpT x.stamp o.stamp < 0
    · rw [if_pos hx]
      refine ⟨by have := ih.1; simp; omega, fun k y hk hy => ?_, fun k y hk hy => ?_⟩
      · cases k with
        | zero => simp at hy; subst hy; exact cmpT_ltS.1 hx
        | succ k => exact ih.2.1 k y (by omega) (by simpa using hy)
      · cases k with
        | zero => omega
        | succ k => exact ih.2.2 k y (by omega) (by simpa using hy)
    · rw [if_neg hx]
      refine ⟨Nat.zero_le _, fun k y hk => by omega, fun k y _ hy => ?_⟩
      cases k with
      | zero => simp at hy; subst hy; exact fun e => hx (cmpT_ltS.2 e)
      | succ k =>
        have h1 := hs 0 (k + 1) x y (by omega) rfl hy
        intro e
        exact hx (cmpT_ltS.2 (by unfold ltS at *; omega))
theorem let_may {v w : List Int} {l s t : List D.Op} {o : D.Op} (m : MayR v l) (hf : fitsO v o = true) (h : letH v l o = some (w, s, t)) : MayR w s := by
  unfold letH at h
  by_cases h1 : (staleB v o || l.any fun x => twinO x o) = true
  · rw [if_pos h1] at h; injection h with h; injection h with e1 h; injection h with e2 h
    subst e1; subst e2; exact m
  · rw [if_neg h1] at h
    have h1 : (staleB v o || l.any fun x => twinO x o) = false := by simpa using h1
    rw [Bool.or_eq_false_iff] at h1
    by_cases h2 : readyV v o = true
    · rw [if_pos h2] at h; injection h with h
      have := run_may l.length (t := []) rfl (inv_first m hf h1.2 h2)
      rw [h] at this; exact this
    · rw [if_neg h2] at h
      by_cases h3 : (hasS l o || decide (l.length = 16)) = true
      · rw [if_pos h3] at h; cases h
      · rw [if_neg h3] at h; injection h with h; injection h with e1 h; injection h with e2 h
        subst e1; subst e2
        have h3 : (hasS l o || decide (l.length = 16)) = false := by simpa using h3
        rw [Bool.or_eq_false_iff] at h3
        have hp := pos_split (o := o) m.srt
        have hlen := m.len
        have hne := of_decide_eq_false h3.2
        have mem : ∀ x, x ∈ insH l o → x = o ∨ x ∈ l := fun x hx => by
          unfold insH at hx
          rcases List.mem_append.1 hx with hx | hx
          · exact .inr (List.mem_of_mem_take hx)
          · rcases List.mem_cons.1 hx with hx | hx
            · exact .inl hx
            · exact .inr (List.mem_of_mem_drop hx)
        have hall : ∀ {P : D.Op → Prop}, P o → (∀ x ∈ l, P x) → ∀ x ∈ insH l o, P x := fun {P} a b x hx => by
          rcases mem x hx with rfl | hx
          · exact a
          · exact b x hx
        refine ⟨?_, hall hf m.fit, hall h1.1 m.sta, hall (by simpa using h2) m.rdy, srt_ins m.srt hp h3.1, ?_⟩
        · have := hp.1
          unfold insH
          simp; omega
        · intro a b x y hab hx hy
          have ht := h1.2
          rw [List.any_eq_false] at ht
          have ht : ∀ x ∈ l, twinO x o = false := fun x hx => by simpa using ht x hx
          unfold insH at hx hy
          rw [get_ins hp.1] at hx hy
          by_cases ha : a < posH o l
          · rw [if_pos ha] at hx
            by_cases hb : b < posH o l
            · rw [if_pos hb] at hy; exact m.tw a b x y hab hx hy
            · by_cases hb2 : b = posH o l
              · rw [if_neg hb, if_pos hb2] at hy; injection hy with hy; subst hy; exact ht x (List.mem_of_getElem? hx)
              · rw [if_neg hb, if_neg hb2] at hy; exact m.tw a (b - 1) x y (by omega) hx hy
          · by_cases ha2 : a = posH o l
            · rw [if_neg ha, if_pos ha2] at hx; injection hx with hx; subst hx
              rw [if_neg (by omega), if_neg (by omega)] at hy
              rw [twin_sym]; exact ht y (List.mem_of_getElem? hy)
            · rw [if_neg ha, if_neg ha2] at hx
              rw [if_neg (by omega), if_neg (by omega)] at hy
              exact m.tw (a - 1) (b - 1) x y (by omega) hx hy
theorem one_le {h : Hp} {p lo : Nat} {c : List AV} (e : h.g p = some c) : (Hp.one p c lo).le h := fun k x hk => by
  have hk : (if k = p then some c else none) = some x := hk
  by_cases h : k = p
  · rw [if_pos h] at hk; rw [h, e]; exact hk
  · rw [if_neg h] at hk; cases hk
theorem disj_one {q : Hp} {p lo : Nat} {c : List AV} (e : q.g p = none) : Disj q (Hp.one p c lo) := fun k x hk => by
  show (if k = p then some c else none) = none
  exact if_neg fun h => by rw [h, e] at hk; cases hk
theorem one_none {q : Hp} {p lo : Nat} {c : List AV} (d : Disj q (Hp.one p c lo)) : q.g p = none := by
  cases h : q.g p with
  | none => rfl
  | some x =>
    have := d p x h
    have : (if p = p then some c else none) = none := this
    rw [if_pos rfl] at this; cases this
theorem le_putN {q h : Hp} {p : Nat} {c : List AV} (l : q.le h) (e : q.g p = none) : q.le (h.put p c) := fun k x hk => by
  have : k ≠ p := fun h => by rw [h, e] at hk; cases hk
  rw [Hp.put_ne _ _ this]; exact l k x hk
theorem eop_cells {q : Hp} {x : D.Op} {c : List AV} (e : eOp q x c) : ∃ d, c = opC x d ∧ IR q d x.deps ∧ D.kOp.K q x (opC x d) := by
  obtain ⟨d, rfl, r⟩ := op_cells e.1
  exact ⟨d, rfl, r, e.1⟩
/-- while operations are taken: what is seen -/
structure LW (g : Hp) (lo p0 p1 : Nat) (a a6 a9 d : AV) (v : List Int) (l t : List D.Op) (o : D.Op) (qv qh qt qo h : Hp) : Prop where
  gl : g.le h
  hlo : h.lo = lo
  b0 : g.g p0 = some [a]
  b1 : h.g p1 = some (opC o d)
  l1 : lo ≤ p1
  pv : IntP lo qv a v
  ph : OpsP lo qh a6 l
  pt : OpsP lo qt a9 t
  lv : qv.le h
  lh : qh.le h
  lt : qt.le h
  lq : qo.le h
  dvg : Disj qv g
  dhg : Disj qh g
  dtg : Disj qt g
  dvh : Disj qv qh
  dvt : Disj qv qt
  dht : Disj qh qt
  dvo : Disj qv qo
  dho : Disj qh qo
  dto : Disj qt qo
  rd : IR qo d o.deps
  n1g : g.g p1 = none
  n1v : qv.g p1 = none
  n1h : qh.g p1 = none
  n1t : qt.g p1 = none
  n1o : qo.g p1 = none
  kx : ∃ h', D.kOp.K h' o (opC o d)
section
variable {g h : Hp} {a b c d : AV} {v : List Int} {l m : List D.Op} {o p : D.Op} {Post : AV → Hp → Prop}
theorem setV_len : (setV v o).length = v.length := by unfold setV; rw [List.length_set]
/-- one round: the vector written, the operation taken -/
theorem let_round {lo p0 p1 : Nat} {a6 a9 d : AV} {t : List D.Op} {qv qh qt qo : Hp} (w : LW g lo p0 p1 a a6 a9 d v l t o qv qh qt qo h) (i : InvH v l o) (hv : v.length ≤ 16) (ht : t.length < 900000)
    {K : AV → Hp → Prop} (k : ∀ a14 h7 qv' qt', LW g lo p0 p1 a a6 a14 d (setV v o) l (t ++ [o]) o qv' qh qt' qo h7 → K a14 h7) :
    onO (rdH h p0 0 1) fun l7 => onL [Kd.ref] l7 fun a10 => onO (rdH h p1 1 1) fun l8 => onL [Kd.int IntKind.i64] l8 fun n26 => onO (rdH h p1 2 1) fun l9 => onL [Kd.int IntKind.i64] l9 fun n27 =>
      onO (idxV a10 n26 1) fun r1 => wpE (Eff.w r1.fst r1.snd (Src.lit [AV.i IntKind.i64 n27]) none) (fun x0 h5 => onO (rdH h5 p1 0 12) fun l10 =>
        onL [Kd.int IntKind.i64, Kd.int IntKind.i64, Kd.int IntKind.i64, Kd.ref, Kd.int IntKind.i64, Kd.int IntKind.i64, Kd.int IntKind.i64, Kd.int IntKind.i64, Kd.int IntKind.i64, Kd.str, Kd.int IntKind.i64, Kd.int IntKind.i64] l10 fun n28 n29 n30 a11 n31 n32 n33 n34 n35 l11 n36 n37 =>
        wpC Try.prog 54 [AV.agg [AV.i IntKind.i64 n28, AV.i IntKind.i64 n29, AV.i IntKind.i64 n30, a11, AV.i IntKind.i64 n31, AV.i IntKind.i64 n32, AV.i IntKind.i64 n33, AV.i IntKind.i64 n34, AV.i IntKind.i64 n35, AV.s l11, AV.i IntKind.i64 n36, AV.i IntKind.i64 n37]]
          (fun a12 h6 => onRet [Sh.agg [Kd.int IntKind.i64, Kd.int IntKind.i64, Kd.int IntKind.i64, Kd.ref, Kd.int IntKind.i64, Kd.int IntKind.i64, Kd.int IntKind.i64, Kd.int IntKind.i64, Kd.int IntKind.i64, Kd.str, Kd.int IntKind.i64, Kd.int IntKind.i64]] a12 fun n38 n39 n40 a13 n41 n42 n43 n44 n45 l12 n46 n47 =>
            ∀ (p4 : Nat), wpE (Eff.app a9 1 (Src.lit [AV.i IntKind.i64 n38, AV.i IntKind.i64 n39, AV.i IntKind.i64 n40, a13, AV.i IntKind.i64 n41, AV.i IntKind.i64 n42, AV.i IntKind.i64 n43, AV.i IntKind.i64 n44, AV.i IntKind.i64 n45, AV.s l12, AV.i IntKind.i64 n46, AV.i IntKind.i64 n47]) 12) (fun x1 h7 => onO x1 fun a14 => K a14 h7) h6) h5) h := by
  obtain ⟨r, hr, hlt, s1, s2, hdl, _⟩ := fits_rep i.fo
  have ob1 : (Hp.one p1 (opC o d) lo).le h := one_le w.b1
  refine onO.mk (rdBox (w.gl _ _ w.b0) rfl) (onL.r1 (w.pv.row w.lv).sc (onO.mk (rdBox w.b1 (o := 1) (n := 1) rfl) (onL.i1 (onO.mk (rdBox w.b1 (o := 2) (n := 1) rfl) (onL.i1 ?_)))))
  have o0 : Kn.int.Own (restH h qv) h a v := by
    have := IntP.outer (H := h) (q := qv) (a := a) (v := v) (by rw [w.hlo]; exact w.pv) w.lv
    exact this
  have hset := o0.set1 (sz := 1) rfl int_flat (i := r) (x := o.seq) (c := [.i .i64 o.seq]) hlt ⟨rfl, by omega, by omega⟩ (Post := fun v' h5 => v' = none ∧ Kn.int.Own (restH h qv) h5 a (v.set r o.seq)) fun h' o' => ⟨rfl, o'⟩
  obtain ⟨rr, hrr, hw⟩ := onO_some hset
  refine onO.mk (by rw [hr]; exact hrr) (wpE.mono hw ?_)
  rintro x0 h5 ⟨_, o5⟩
  have esv : v.set r o.seq = setV v o := by unfold setV; rw [hr]; rfl
  rw [esv] at o5
  obtain ⟨qv', v1, v2, v3⟩ := IntP.of o5
  have v3 : IntP lo qv' a (setV v o) := by rw [← w.hlo]; exact v3
  have lo5 : h5.lo = lo := o5.lo.trans w.hlo
  have R5 : (restH h qv).le h5 := o5.le
  have rG := le_restH w.gl w.dvg
  have rB := le_restH ob1 (disj_one (lo := lo) (c := opC o d) w.n1v)
  have rh := le_restH w.lh w.dvh
  have rt := le_restH w.lt w.dvt
  have ro := le_restH w.lq w.dvo
  have b15 : h5.g p1 = some (opC o d) := R5 _ _ (rB _ _ (if_pos rfl))
  have hod : o.deps.length < 1000000 := by rw [hdl]; omega
  refine onO.mk (rdBox b15 rfl) (onL.op w.rd.sc (c54 (o := o) (w.rd.mono (Hp.le_trans ro R5)) hod fun d6 h6 o6 => onRet.op o6.sc fun _ => ?_))
  obtain ⟨qd, d1, d2, d3⟩ := IntP.of o6
  have lo6 : h6.lo = lo := o6.lo.trans lo5
  obtain ⟨G, css, qs, f, oe, oq, oG, oX⟩ := OpsP.openG (H := h6) (q := qt) (a := a9) (l := t) (by rw [lo6]; exact w.pt) (Hp.le_trans (Hp.le_trans rt R5) o6.le)
  have hcl := oe.len
  refine f.app (n := 1) (css2 := [opC o d6]) (src := .lit (opC o d6)) (by simp [srcH]) (fun c' hc' => by simp at hc'; rw [hc']; rfl) rfl (by simpa using opC_sc o6.sc) (by omega) fun r7 h7 f7 => onO.mk rfl ?_
  have tX : ∀ {X : Hp}, X.le h5 → Disj qt X → X.le G := fun l1 dj => oX _ (Hp.le_trans l1 o6.le) dj
  have dtd : Disj qt qd := (d2.le_right (Hp.le_trans rt R5)).symm
  obtain ⟨h', kx⟩ := w.kx
  have oi := oe.ins (i := t.length) (Nat.le_refl _) (qd := qd) (x := o) (c := opC o d6) (oX _ d1 dtd) (fun j => dtd.le_left (oq j)) (d3.1.trans (lo5.trans (oG.trans lo6).symm)) (fun b hb => by rw [oG, lo6, ← lo5]; exact d3.2.2.2 b hb) (d3.eOp kx)
  have et : t.take t.length ++ o :: t.drop t.length = t ++ [o] := by simp
  have ec : css.take t.length ++ opC o d6 :: css.drop t.length = css ++ [opC o d6] := by rw [← hcl]; simp
  rw [et, ec] at oi
  obtain ⟨qt', t1, t2, t3⟩ := oi.close f7
  have lo7 : h7.lo = lo := f7.lo.trans (oG.trans lo6)
  have dX : ∀ {X : Hp}, X.le h5 → Disj qt X → X.le h7 ∧ Disj qt' X := fun {X} l1 dj => ⟨Hp.le_trans (tX l1 dj) f7.le, t3 X (tX l1 dj) fun j => by
    by_cases hj : j < t.length
    · simp only [if_pos hj]; exact dj.le_left (oq j)
    · by_cases hj2 : j = t.length
      · simp only [if_neg hj, if_pos hj2]; exact d2.le_right l1
      · simp only [if_neg hj, if_neg hj2]; exact dj.le_left (oq _)⟩
  have dtv : Disj qt qv' := (v2.le_right rt).symm
  obtain ⟨x1, x2⟩ := dX (Hp.le_trans rG R5) w.dtg
  obtain ⟨y1, y2⟩ := dX (Hp.le_trans rB R5) (disj_one w.n1t)
  obtain ⟨z1, z2⟩ := dX v1 dtv
  obtain ⟨u1, u2⟩ := dX (Hp.le_trans rh R5) w.dht.symm
  obtain ⟨w1, w2⟩ := dX (Hp.le_trans ro R5) w.dto
  refine k r7 h7 qv' qt' ⟨x1, lo7, w.b0, y1 _ _ (if_pos rfl), w.l1, v3, w.ph, by rw [← lo7]; exact t2, z1, u1, t1, w1, v2.le_right rG, w.dhg, x2, v2.le_right rh, z2.symm, u2.symm, v2.le_right ro, w.dho, w2, w.rd, w.n1g, one_none (v2.le_right rB), w.n1h, one_none y2, w.n1o, ⟨h', kx⟩⟩
/-- the next one, out of what is held -/
theorem let_next {lo p0 p1 : Nat} {a6 a9 d : AV} {t : List D.Op} {qv qh qt qo : Hp} (w : LW g lo p0 p1 a a6 a9 d v l t o qv qh qt qo h) {i : Nat} {x : D.Op} (hx : l[i]? = some x) (hb : l.length < 1000000)
    {K : AV → Hp → Prop} (k : ∀ a18 dx h10 qh' qo', LW g lo p0 p1 a a18 a9 dx v (delH l i) t x qv qh' qt qo' h10 → K a18 h10) :
    onO (idxV a6 (i : Int) 12) fun r2 => onO (rdH h r2.fst r2.snd 12) fun l13 =>
      onL [Kd.int IntKind.i64, Kd.int IntKind.i64, Kd.int IntKind.i64, Kd.ref, Kd.int IntKind.i64, Kd.int IntKind.i64, Kd.int IntKind.i64, Kd.int IntKind.i64, Kd.int IntKind.i64, Kd.str, Kd.int IntKind.i64, Kd.int IntKind.i64] l13 fun n49 n50 n51 a16 n52 n53 n54 n55 n56 l14 n57 n58 =>
      wpE (Eff.w p1 0 (Src.lit [AV.i IntKind.i64 n49, AV.i IntKind.i64 n50, AV.i IntKind.i64 n51, a16, AV.i IntKind.i64 n52, AV.i IntKind.i64 n53, AV.i IntKind.i64 n54, AV.i IntKind.i64 n55, AV.i IntKind.i64 n56, AV.s l14, AV.i IntKind.i64 n57, AV.i IntKind.i64 n58]) none)
        (fun x2 h9 => onO (intO BinOp.add IntKind.i64 (i : Int) 1) fun n59 => wpC Try.prog 57 [a6, AV.i IntKind.i64 (i : Int), AV.i IntKind.i64 n59] (fun a17 h10 => onRet [Sh.one Kd.ref] a17 fun a18 => K a18 h10) h9) h := by
  have hi := (List.getElem?_eq_some_iff.1 hx).1
  obtain ⟨G, css, qs, f, oe, oq, oG, oX⟩ := OpsP.openG (H := h) (q := qh) (a := a6) (l := l) (by rw [w.hlo]; exact w.ph) w.lh
  have hcl := oe.len
  obtain ⟨c, hc⟩ := get_lt (l := css) (k := i) (by omega)
  obtain ⟨dx, rfl, rdx, kx⟩ := eop_cells (oe.el i x c hx hc)
  obtain ⟨bb, of, e1, e2, e3⟩ := f.row.idx (i := (i : Int)) (Int.natCast_nonneg i) (by simpa using hc)
  refine onO.mk e1 (onO.mk e2 (onL.op rdx.sc ?_))
  have ob1 : (Hp.one p1 (opC o d) lo).le h := one_le w.b1
  have GB := oX _ ob1 (disj_one w.n1h)
  have gp1 : G.g p1 = some (opC o d) := GB _ _ (if_pos rfl)
  refine boxW w.b1 (by rw [w.hlo]; exact w.l1) rfl (opC_sc rdx.sc) fun h9 eh9 => ?_
  have eh9 : h9 = h.put p1 (opC x dx) := eh9
  have f9 : Fresh (G.put p1 (opC x dx)) h9 a6 12 css := by rw [eh9]; exact f.putg gp1 _
  refine onO.mk (inc64 (by omega)) (c57 f9 (by omega) (Kn.all_sc oe.sc) (by omega) fun r h10 f10 => onRet.r f10.row.sc ?_)
  have hq1 : ∀ j, (qs j).g p1 = none := fun j => le_none (oq j) w.n1h
  have oe' : OpsE (G.put p1 (opC x dx)) l css qs := oe.mono (fun j => le_putN (oe.inG j) (hq1 j)) rfl
  obtain ⟨qh', t1, t2, t3⟩ := (oe'.del hi).close f10
  have lo10 : h10.lo = lo := f10.lo.trans (oG.trans w.hlo)
  have dX : ∀ {X : Hp}, X.le (G.put p1 (opC x dx)) → (∀ j, j ≠ i → Disj (qs j) X) → X.le h10 ∧ Disj qh' X := fun {X} l1 dj => ⟨Hp.le_trans l1 f10.le, t3 X l1 fun j => by
    by_cases hj : j < i
    · simp only [if_pos hj]; exact dj j (by omega)
    · simp only [if_neg hj]; exact dj (j + 1) (by omega)⟩
  have aX : ∀ {X : Hp}, X.le h → Disj qh X → X.g p1 = none → X.le h10 ∧ Disj qh' X := fun {X} l1 dj n1 => dX (le_putN (oX _ l1 dj) n1) fun j _ => dj.le_left (oq j)
  obtain ⟨x1, x2⟩ := aX w.gl w.dhg w.n1g
  obtain ⟨y1, y2⟩ := aX w.lv w.dvh.symm w.n1v
  obtain ⟨z1, z2⟩ := aX w.lt w.dht w.n1t
  obtain ⟨u1, u2⟩ := dX (X := Hp.one p1 (opC x dx) lo) (one_le (Hp.put_same _ _ _)) fun j _ => disj_one (hq1 j)
  obtain ⟨w1, w2⟩ := dX (X := qs i) (le_putN (oe.inG i) (hq1 i)) fun j hj => oe.dd j i hj
  exact k r dx h10 qh' (qs i) ⟨x1, lo10, w.b0, u1 _ _ (if_pos rfl), w.l1, w.pv, by rw [← lo10]; exact t2, w.pt, y1, t1, z1, w1, w.dvg, x2, w.dtg, y2.symm, w.dvt, z2, w.dvh.le_right (oq i), w2, w.dht.symm.le_right (oq i), rdx, w.n1g, w.n1v, one_none u2, w.n1t, hq1 i, ⟨_, kx⟩⟩
end
/-- what comes back: three rows apart from one another and from what was seen -/
structure Out3 (g h' : Hp) (r1 r2 r3 : AV) (w : List Int) (s t : List D.Op) (q1 q2 q3 : Hp) : Prop where
  le : g.le h'
  lo : h'.lo = g.lo
  p1 : IntP h'.lo q1 r1 w
  p2 : OpsP h'.lo q2 r2 s
  p3 : OpsP h'.lo q3 r3 t
  l1 : q1.le h'
  l2 : q2.le h'
  l3 : q3.le h'
  d1 : Disj q1 g
  d2 : Disj q2 g
  d3 : Disj q3 g
  d12 : Disj q1 q2
  d13 : Disj q1 q3
  d23 : Disj q2 q3
theorem Out3.mono {g g' h' : Hp} {r1 r2 r3 : AV} {w : List Int} {s t : List D.Op} {q1 q2 q3 : Hp} (x : Out3 g h' r1 r2 r3 w s t q1 q2 q3) (le : g'.le g) (lo : g'.lo = g.lo) : Out3 g' h' r1 r2 r3 w s t q1 q2 q3 :=
  ⟨Hp.le_trans le x.le, x.lo.trans lo.symm, x.p1, x.p2, x.p3, x.l1, x.l2, x.l3, x.d1.le_right le, x.d2.le_right le, x.d3.le_right le, x.d12, x.d13, x.d23⟩
theorem disj_none {q : Hp} {lo : Nat} : Disj q (Hp.none lo) := fun k c e => rfl
theorem none_disj {q : Hp} {lo : Nat} : Disj (Hp.none lo) q := fun k c e => by cases e
section
variable {g h : Hp} {a b c d : AV} {v : List Int} {l m : List D.Op} {o p : D.Op} {Post : AV → Hp → Prop}
theorem c32 {qv qh : Hp} (pv : IntP h.lo qv a v) (ph : OpsP h.lo qh b l) (lv : qv.le h) (lh : qh.le h) (gl : g.le h) (glo : h.lo = g.lo) (dvh : Disj qv qh) (dvg : Disj qv g) (dhg : Disj qh g) (rd : IR g d o.deps) (kx : D.kOp.K g o (opC o d))
    (mr : MayR v l) (hf : fitsO v o = true) (hv : v.length ≤ 16)
    (k1 : letH v l o = none → ∀ h', g.le h' → h'.lo = g.lo → Post (.tup [.ns, .ns, .ns, .i .i64 5]) h')
    (k2 : ∀ w s t, letH v l o = some (w, s, t) → ∀ r1 r2 r3 h' q1 q2 q3, Out3 g h' r1 r2 r3 w s t q1 q2 q3 → Post (.tup [r1, r2, r3, .i .i64 0]) h') :
    wpC Try.prog 32 [a, b, .agg (opC o d)] Post h := by
  have rdh : IR h d o.deps := rd.mono gl
  refine call_sound (args := [.vv a, .vv b, opS o d]) (cuts := [0, 5000024]) ⟨(pv.row lv).sc, (ph.row lh).sc, opS_good rd.sc, trivial⟩ ?_
  unfold opS
  rw [vc32]
  intro p0 p1 hp1 hl1
  have hl1 : h.lo ≤ p1 := hl1
  obtain ⟨r, hr, hlt, s1, s2, hdl, _⟩ := fits_rep hf
  obtain ⟨x, hx⟩ := get_lt (l := v) (k := r) hlt
  have hst : staleB v o = decide (o.seq ≤ x) := by unfold staleB; rw [hr, Int.toNat_natCast, getD_some hx]
  have hlen := mr.len
  have hod : o.deps.length < 1000000 := by rw [hdl]; omega
  have L1 : h.le (h.put p1 (opC o d)) := Hp.le_put hp1
  have G1 : (h.put p1 (opC o d)).g p1 = some (opC o d) := Hp.put_same _ _ _
  refine ⟨fun c h' => h' = h.put p1 (opC o d) ∧ c = (staleB v o || l.any fun x => twinO x o), ?_, ?_⟩
  · refine onO.mk (rdBox G1 (o := 1) (n := 1) rfl) (onL.i1 (int0e (pv.row (Hp.le_trans lv L1)) hr hx (onO.mk (rdBox G1 (o := 2) (n := 1) rfl) (onL.i1 (onB.dec (fun e => ⟨rfl, by rw [hst, decide_eq_true e]; rfl⟩) (fun e => ?_))))))
    refine c48 (f := fno (fn := 52)) (pr := fun x => twinO x o) (ph.row (Hp.le_trans lh L1)) (by omega) ok229 (fun x dx _ rdx Post' k' => c52 (o := x) (p := o) rdx.sc (rdBox G1 rfl) rd.sc k') (onRet.b ⟨rfl, ?_⟩)
    rw [idxO_any, hst, decide_eq_false e]; rfl
  rintro h1 c1 ⟨eh1, hc1⟩
  have L1 : h.le h1 := by rw [eh1]; exact L1
  have G1 : h1.g p1 = some (opC o d) := by rw [eh1]; exact G1
  have lo1 : h1.lo = h.lo := by rw [eh1]; rfl
  clear eh1
  refine onB.mk (fun e => ?_) (fun e => ?_)
  · refine k2 v l [] (by unfold letH; rw [if_pos (by rw [← hc1]; exact e)]) a b .ns h1 qv qh (Hp.none h1.lo) ⟨Hp.le_trans gl L1, lo1.trans glo, by rw [lo1]; exact pv, by rw [lo1]; exact ph, OpsP.nil _, Hp.le_trans lv L1, Hp.le_trans lh L1, none_le _ _, dvg, dhg, none_disj, dvh, disj_none, disj_none⟩
  rw [e] at hc1
  have hn1 : ¬ (staleB v o || l.any fun x => twinO x o) = true := by rw [← hc1]; simp
  have htw : (l.any fun x => twinO x o) = false := by
    have := hc1.symm
    rw [Bool.or_eq_false_iff] at this; exact this.2
  have n1 : ∀ {X : Hp}, X.le h → X.g p1 = none := fun l => le_none l hp1
  refine onO.mk (rdBox G1 rfl) (onL.op rd.sc (c42 (pv.row (Hp.le_trans lv L1)) (rdh.mono L1) hf (by omega) (onRet.b (onB.not (fun e2 => ?_) (fun e2 => ?_)))))
  · -- held
    have hR : ∀ {X : Hp}, X.le h → Disj qh X → X.le (restH h1 qh) := fun l dj => le_restH (Hp.le_trans l L1) dj
    refine onO.mk (rdBox G1 rfl) (onL.op rd.sc (c53 (q := qh) (by rw [lo1]; exact ph) (Hp.le_trans lh L1) (rdh.mono L1) (D.kOp.mono (Hp.le_trans gl L1) kx) hod (by omega) mr.srt (fun e3 h3 le3 lo3 => ?_) (fun e3 r3 h3 Q le3 lo3 Q1 Q2 Q3 => ?_)))
    · refine onTup.ri rfl (onB.pos rfl (k1 ?_ h3 (Hp.le_trans gl (Hp.le_trans L1 le3)) (lo3.trans (lo1.trans glo))))
      unfold letH
      rw [if_neg hn1, if_neg (by rw [e2]; simp), if_pos (by rw [Bool.or_eq_true, decide_eq_true_eq]; exact e3)]
    · refine onTup.ri (Q3.row Q1).sc (onB.neg rfl (k2 v (insH l o) [] ?_ a r3 .ns h3 qv Q (Hp.none h3.lo) ⟨Hp.le_trans (hR gl dhg) le3, lo3.trans (lo1.trans glo), by rw [lo3, lo1]; exact pv, Q3, OpsP.nil _, Hp.le_trans (hR lv dvh.symm) le3, Q1, none_le _ _, dvg, Q2.le_right (hR gl dhg), none_disj, (Q2.le_right (hR lv dvh.symm)).symm, disj_none, disj_none⟩))
      unfold letH
      rw [if_neg hn1, if_neg (by rw [e2]; simp), if_neg (by rw [Bool.or_eq_true, decide_eq_true_eq]; exact e3)]
  · -- taken
    intro hp0 hl0
    have hp0g : g.g p0 = none := le_none gl (le_none L1 hp0)
    have Lg : g.le (g.put p0 [a]) := Hp.le_put hp0g
    have hne : p1 ≠ p0 := fun e => by rw [e, hp0] at G1; cases G1
    have L2 : h1.le (h1.put p0 [a]) := Hp.le_put hp0
    have dP : ∀ {q : Hp}, q.le h → Disj q g → Disj q (g.put p0 [a]) := fun {q} l dj k c e => by
      have : k ≠ p0 := fun e' => by
        have := le_none l (le_none L1 hp0)
        rw [e', this] at e; cases e
      rw [Hp.put_ne _ _ this]; exact dj k c e
    have GL : (g.put p0 [a]).le (h1.put p0 [a]) := fun k c e => by
      by_cases hk : k = p0
      · subst hk; rw [Hp.put_same] at e ⊢; exact e
      · rw [Hp.put_ne _ _ hk] at e ⊢; exact L1 _ _ (gl _ _ e)
    have inv0 := inv_first mr hf htw e2
    have hlet : letH v l o = some (runH l.length v l o []) := by unfold letH; rw [if_neg hn1, if_pos e2]
    refine ⟨fun m _ a6 a7 a8 a9 _ h' => ∃ v' l' o' t' d' qv' qh' qt' qo', m = l'.length ∧ v'.length = v.length ∧ t'.length + l'.length ≤ 100 ∧ InvH v' l' o' ∧ runH l.length v l o [] = runH l'.length v' l' o' t' ∧ LW (g.put p0 [a]) h.lo p0 p1 a a6 a9 d' v' l' t' o' qv' qh' qt' qo' h',
      ⟨l.length, v, l, o, [], d, qv, qh, Hp.none h.lo, g, rfl, rfl, by simp; omega, inv0, rfl,
        ⟨GL, lo1, Hp.put_same _ _ _, by rw [Hp.put_ne _ _ hne]; exact G1, hl1, pv, ph, OpsP.nil _, Hp.le_trans lv (Hp.le_trans L1 L2), Hp.le_trans lh (Hp.le_trans L1 L2), none_le _ _, Hp.le_trans gl (Hp.le_trans L1 L2), dP lv dvg, dP lh dhg, none_disj, dvh, disj_none, disj_none, dvg, dhg, none_disj, rd, by rw [Hp.put_ne _ _ hne]; exact n1 gl, n1 lv, n1 lh, rfl, n1 gl, ⟨g, kx⟩⟩⟩, ?_⟩
    rintro m h4 _ a6 _ a7 _ a8 _ a9 _ _ ⟨v', l', o', t', d', qv', qh', qt', qo', rfl, hv', ht', inv, hrun, w⟩
    refine Dup.mk (let_round w inv (by omega) (by omega) fun a14 h7 qv2 qt2 w2 => ?_)
    have hl16 := inv.len
    have rv2 : IR h7 a (setV v' o') := w2.pv.row w2.lv
    have b07 : rdH h7 p0 0 1 = some [a] := rdBox (w2.gl _ _ w2.b0) rfl
    refine c55 (f := fno (fn := 56)) (pr := readyV (setV v' o')) (w2.ph.row w2.lh) (by omega) ok233 (fun x dx hx rdx Post' k' => c56 (o := x) rdx b07 rv2 (by rw [fits_set]; exact inv.fit x hx) (by rw [setV_len]; omega) k') (onRet.i ?_)
    rcases next_spec (v := setV v' o') (l := l') with ⟨e1, e3, e4⟩ | ⟨i, x, e1, e3, e4, e5, e6⟩
    · rw [e3]
      refine onB.neg rfl ?_
      have hsc : idxO (staleV (setV v' o')) l' 0 = -1 := by
        rcases idxO_spec (pr := staleV (setV v' o')) (l := l') (k := 0) with ⟨f1, _⟩ | ⟨i, x, f1, f2, f3, _⟩
        · exact f1
        · have := sta_set inv x (List.mem_of_getElem? f2)
          unfold staleV at f3
          unfold staleB at this
          rw [f3] at this; cases this
      refine call_sound (args := [.vv a6, .vv (.f (fno (fn := 59)) [.p p0 0])]) (cuts := []) ⟨(w2.ph.row w2.lh).sc, rfl, trivial⟩ ?_
      rw [vc58]
      refine c55 (f := fno (fn := 59)) (pr := staleV (setV v' o')) (w2.ph.row w2.lh) (by omega) ok236 (fun x dx hx rdx Post' k' => c59 (o := x) rdx b07 rv2 (by rw [fits_set]; exact inv.fit x hx) (by rw [setV_len]; omega) k') (onRet.i ?_)
      rw [hsc]
      refine onB.pos rfl (onRet.r (w2.ph.row w2.lh).sc (onO.mk b07 (onL.r1 rv2.sc ?_)))
      have lo7 : h7.lo = h.lo := w2.hlo
      exact k2 _ _ _ (by rw [hlet, hrun, run_none e1]) a a6 a14 h7 qv2 qh' qt2 ⟨Hp.le_trans Lg w2.gl, lo7.trans glo, by rw [lo7]; exact w2.pv, by rw [lo7]; exact w2.ph, by rw [lo7]; exact w2.pt, w2.lv, w2.lh, w2.lt, w2.dvg.le_right Lg, w2.dhg.le_right Lg, w2.dtg.le_right Lg, w2.dvh, w2.dvt, w2.dht⟩
    · rw [e3]
      refine onB.pos (decide_eq_true (by omega)) ?_
      have hi := (List.getElem?_eq_some_iff.1 e4).1
      have hdl' := del_len hi
      exact let_next w2 e4 (by omega) fun a18 dx h10 qh3 qo3 w3 => ⟨(delH l' i).length, by show _ < _; omega, _, _, _, _, _, _, _, _, _, rfl, by rw [setV_len]; exact hv', by simp; omega, inv_next inv e4 e5, by rw [hrun, run_some e1 e4], w3⟩
/-- Take -/
theorem c9 (ra : IR h a v) (rb : OpRow h b l) (rd : IR h d o.deps) (kx : D.kOp.K h o (opC o d)) (hv : v.length < 1000000) (hb : l.length < 1000000) (ho : ∀ o ∈ l, o.deps.length < 1000000) (hd : o.deps.length < 1000000)
    (k0 : (vecV v && (mayH v l && fitsO v o)) = false → ∀ h', h.le h' → h'.lo = h.lo → Post (.tup [.ns, .ns, .ns, .i .i64 1]) h')
    (k1 : (vecV v && (mayH v l && fitsO v o)) = true → letH v l o = none → ∀ h', h.le h' → h'.lo = h.lo → Post (.tup [.ns, .ns, .ns, .i .i64 5]) h')
    (k2 : (vecV v && (mayH v l && fitsO v o)) = true → ∀ w s t, letH v l o = some (w, s, t) → ∀ r1 r2 r3 h' q1 q2 q3, Out3 h h' r1 r2 r3 w s t q1 q2 q3 → Post (.tup [r1, r2, r3, .i .i64 0]) h') :
    wpC Try.prog 9 [a, b, .agg (opC o d)] Post h := by
  refine call_sound (args := [.vv a, .vv b, opS o d]) (cuts := []) ⟨ra.sc, rb.sc, opS_good rd.sc, trivial⟩ ?_
  unfold opS
  rw [vc9]
  refine fun _ => c29 ra hv (onRet.b (onB.not (fun e => k0 (by rw [e]; rfl) h (Hp.le_refl _) rfl) (fun e => c30 ra rb hv hb ho fun h1 le1 lo1 => onRet.b (onB.not (fun e1 => k0 (by rw [e, e1]; rfl) h1 le1 lo1) (fun e1 => ?_)))))
  refine c31 (ra.mono le1) (rd.mono le1) hd (onRet.b (onB.not (fun e2 => k0 (by rw [e, e1, e2]; rfl) h1 le1 lo1) (fun e2 => ?_)))
  have hall : (vecV v && (mayH v l && fitsO v o)) = true := by rw [e, e1, e2]; rfl
  have hv16 : v.length ≤ 16 := by
    unfold vecV at e
    simp only [Bool.and_eq_true, decide_eq_true_eq] at e
    exact e.2.2
  refine c33 (ra.mono le1) hv fun a4 h3 o4 => onRet.r o4.sc ?_
  obtain ⟨qv, v1, v2, v3⟩ := IntP.of o4
  have le3 : h.le h3 := Hp.le_trans le1 o4.le
  have lo3 : h3.lo = h.lo := o4.lo.trans lo1
  refine c34 (rb.mono le3) hb ho fun r h4 Q le4 lo4 Q1 Q2 Q3 => onRet.r (Q3.row Q1).sc ?_
  refine c32 (g := h) (qv := qv) (qh := Q) (by rw [lo4, o4.lo]; exact v3) Q3 (Hp.le_trans v1 le4) Q1 (Hp.le_trans le3 le4) (lo4.trans lo3) (Q2.le_right v1).symm (v2.le_right le1) (Q2.le_right le3) rd kx (may_R (mayH_of e1)) e2 hv16 (fun e3 h5 le5 lo5 => onTup.rrri rfl rfl rfl (k1 hall e3 h5 le5 lo5)) (fun w s t e3 r1 r2 r3 h5 q1 q2 q3 x => onTup.rrri (x.p1.row x.l1).sc (x.p2.row x.l2).sc (x.p3.row x.l3).sc (k2 hall w s t e3 r1 r2 r3 h5 q1 q2 q3 x))
end
section
variable {g h : Hp} {a b c d : AV} {v : List Int} {l m : List D.Op} {o p : D.Op} {Post : AV → Hp → Prop}
/-- the vector written, in a part of its own -/
theorem IntP.setv {qv B : Hp} (pv : IntP h.lo qv a v) (lv : qv.le h) (i : Nat) (x : Int) (hi : i < v.length) (hx : In64 x) {n : Int} (hn : n = i) {Post : Option AV → Hp → Prop} (k : ∀ h' qv', IntP h'.lo qv' a (v.set i x) → h'.lo = h.lo → (restH h qv).le h' → qv'.le h' → Disj qv' (restH h qv) → Post none h') :
    onO (idxV a n 1) fun r => wpE (.w r.1 r.2 (.lit [.i .i64 x]) none) Post h := by
  subst hn
  refine (pv.outer lv).set1 (sz := 1) rfl int_flat hi ⟨rfl, hx⟩ fun h' o' => ?_
  obtain ⟨q', v1, v2, v3⟩ := IntP.of o'
  have lo' : h'.lo = h.lo := o'.lo
  exact k h' q' (by rw [lo']; exact v3) lo' o'.le v1 v2
/-- the document's copy of what is seen, while it takes -/
structure RW (g B qv h : Hp) (a1 a18 a19 : AV) (v : List Int) (l t : List D.Op) (css : List (List AV)) : Prop where
  gB : g.le B
  glo : B.lo = g.lo
  Blo : B.lo = h.lo
  pv : IntP h.lo qv a1 v
  dj : Disj qv B
  rl : OpRow B a19 l
  f : Fresh (qv.add B) h a18 12 css
  kt : All2 (D.kOp.K B) t css
theorem RW.leB {B qv : Hp} {a1 a18 a19 : AV} {t : List D.Op} {css : List (List AV)} (w : RW g B qv h a1 a18 a19 v l t css) : B.le h := Hp.le_trans (Hp.le_right w.dj) w.f.le
theorem RW.leV {B qv : Hp} {a1 a18 a19 : AV} {t : List D.Op} {css : List (List AV)} (w : RW g B qv h a1 a18 a19 v l t css) : qv.le h := Hp.le_trans (Hp.le_left _ _) w.f.le
/-- another part of the same, beside the row of what is taken -/
theorem fresh_move {G G' h h' : Hp} {sz : Nat} {css : List (List AV)} (f : Fresh G h a sz css) (l : G'.le h') (lo : h'.lo = G'.lo) (lo2 : G'.lo = G.lo) (hb : ∀ b o len lo ex z, a = .sl b o len lo ex z → G'.g b = none ∧ h'.g b = h.g b) : Fresh G' h' a sz css := by
  refine ⟨l, lo, ⟨f.row.1, ?_⟩, fun b o len lo' ex z e => ?_⟩
  · have r := f.row.2
    cases a <;> first | exact r | skip
    obtain ⟨r1, r2, r3, r4⟩ := r
    refine ⟨r1, r2, r3, r4.imp id fun e => ?_⟩
    unfold rdH at e ⊢
    rw [(hb _ _ _ _ _ _ rfl).2]; exact e
  · obtain ⟨n1, n2, cs, n3, n4⟩ := f.new _ _ _ _ _ _ e
    obtain ⟨m1, m2⟩ := hb _ _ _ _ _ _ e
    exact ⟨m1, by rw [lo2]; exact n2, cs, by rw [m2]; exact n3, n4⟩
theorem add_none2 {p g : Hp} {k : Nat} (e : (p.add g).g k = none) : p.g k = none ∧ g.g k = none := by
  have e : (match p.g k with | some c => some c | none => g.g k) = none := e
  cases h : p.g k with
  | none => rw [h] at e; exact ⟨rfl, e⟩
  | some x => rw [h] at e; cases e
theorem RW.setv {B qv : Hp} {a1 a18 a19 : AV} {t : List D.Op} {css : List (List AV)} (w : RW g B qv h a1 a18 a19 v l t css) {i : Nat} {x : Int} (hi : i < v.length) (hx : In64 x) {n : Int} (hn : n = i) {Post : Option AV → Hp → Prop} (k : ∀ h' qv', RW g B qv' h' a1 a18 a19 (v.set i x) l t css → Post none h') :
    onO (idxV a1 n 1) fun r => wpE (.w r.1 r.2 (.lit [.i .i64 x]) none) Post h := by
  refine w.pv.setv (B := B) w.leV i x hi hx hn fun h' qv' p lo' l1 l2 d => k h' qv' ?_
  have rB : B.le (restH h qv) := le_restH w.leB w.dj
  have dB : Disj qv' B := d.le_right rB
  refine ⟨w.gB, w.glo, w.Blo.trans lo'.symm, p, dB, w.rl, ?_, w.kt⟩
  have le' : (qv'.add B).le h' := fun k c e => by
    rcases add_cases e with e | e
    · exact l2 k c e
    · exact l1 k c (rB k c e)
  refine fresh_move w.f le' (by show h'.lo = B.lo; rw [lo', w.Blo]) rfl fun b of len lo ex z e => ?_
  obtain ⟨n1, n2, cs, n3, n4⟩ := w.f.new _ _ _ _ _ _ e
  obtain ⟨m1, m2⟩ := add_none2 n1
  have hr : (restH h qv).g b = some cs := by
    show (match qv.g b with | some _ => none | none => h.g b) = some cs
    rw [m1]; exact n3
  exact ⟨addH_none (d.symm b cs hr) m2, by rw [l1 b cs hr, n3]⟩
/-- one taken -/
theorem RW.take {B qv : Hp} {a1 a18 a19 : AV} {t : List D.Op} {css : List (List AV)} (w : RW g B qv h a1 a18 a19 v l t css) {x : D.Op} {dx : AV} (kx : D.kOp.K B x (opC x dx)) (ht : t.length < 900000) {Post : Option AV → Hp → Prop} (k : ∀ r h' css', RW g B qv h' a1 r a19 v l (t ++ [x]) css' → Post (some r) h') :
    wpE (.app a18 1 (.lit (opC x dx)) 12) Post h := by
  have hl := w.kt.length
  refine w.f.app (n := 1) (css2 := [opC x dx]) (src := .lit (opC x dx)) (by simp [srcH]) (fun c' hc' => by simp at hc'; rw [hc']; rfl) rfl (by simpa using D.kOp.sc kx) (by omega) fun r h' f' => k r h' _ ⟨w.gB, w.glo, w.Blo.trans (by rw [w.f.lo, f'.lo]), by rw [show h'.lo = h.lo by rw [w.f.lo, f'.lo]]; exact w.pv, w.dj, w.rl, f', w.kt.append (.cons kx .nil)⟩
end
theorem let_len {v w : List Int} {l s t : List D.Op} {o : D.Op} (h : letH v l o = some (w, s, t)) (ht : l.length ≤ 16) : w.length = v.length ∧ t.length ≤ 100 ∧ ∀ x ∈ t, x = o ∨ x ∈ l := by
  have run : ∀ (n : Nat) {v : List Int} {l t : List D.Op} {o : D.Op}, (runH n v l o t).1.length = v.length ∧ (runH n v l o t).2.2.length ≤ t.length + n + 1 ∧ ∀ x ∈ (runH n v l o t).2.2, x ∈ t ∨ x = o ∨ x ∈ l := by
    intro n
    induction n with
    | zero =>
      intro v l t o
      refine ⟨setV_len, by show (t ++ [o]).length ≤ _; simp, fun x hx => ?_⟩
      have hx : x ∈ t ++ [o] := hx
      rcases List.mem_append.1 hx with hx | hx
      · exact .inl hx
      · simp at hx; exact .inr (.inl hx)
    | succ n ih =>
      intro v l t o
      have base : (setV v o).length = v.length ∧ (t ++ [o]).length ≤ t.length + (n + 1) + 1 ∧ ∀ x ∈ t ++ [o], x ∈ t ∨ x = o ∨ x ∈ l := ⟨setV_len, by rw [List.length_append]; simp, fun x hx => by
        rcases List.mem_append.1 hx with hx | hx
        · exact .inl hx
        · simp at hx; exact .inr (.inl hx)⟩
      rcases next_spec (v := setV v o) (l := l) with ⟨h1, _, _⟩ | ⟨k, x, h1, _, h3, _⟩
      · have e : runH (n + 1) v l o t = (setV v o, l, t ++ [o]) := by
          show (match nextH (setV v o) l with | none => _ | some i => _) = _
          rw [h1]
        rw [e]; exact base
      · have e : runH (n + 1) v l o t = runH n (setV v o) (delH l k) (l.getD k o) (t ++ [o]) := by
          show (match nextH (setV v o) l with | none => _ | some i => runH n (setV v o) (delH l i) (l.getD i o) (t ++ [o])) = _
          rw [h1]
        rw [e]
        have hg : l.getD k o = x := by rw [List.getD_eq_getElem?_getD, h3]; rfl
        rw [hg]
        obtain ⟨i1, i2, i3⟩ := ih (v := setV v o) (l := delH l k) (t := t ++ [o]) (o := x)
        refine ⟨i1.trans setV_len, by simp at i2 ⊢; omega, fun y hy => ?_⟩
        rcases i3 y hy with hy | hy | hy
        · exact base.2.2 y hy
        · exact .inr (.inr (by rw [hy]; exact List.mem_of_getElem? h3))
        · exact .inr (.inr (del_mem hy))
  unfold letH at h
  split at h
  · injection h with h; injection h with e1 h; injection h with e2 e3
    subst e1; subst e3; exact ⟨rfl, by simp, fun x hx => by cases hx⟩
  · split at h
    · injection h with h
      have := run l.length (v := v) (l := l) (t := []) (o := o)
      rw [h] at this
      exact ⟨this.1, by have := this.2.1; simp at this; omega, fun x hx => by
        rcases this.2.2 x hx with hx | hx
        · cases hx
        · exact hx⟩
    · split at h
      · cases h
      · injection h with h; injection h with e1 h; injection h with e2 e3
        subst e1; subst e3; exact ⟨rfl, by simp, fun x hx => by cases hx⟩
theorem run_vec : ∀ (n : Nat) {v : List Int} {l t : List D.Op} {o : D.Op}, vecV v = true → fitsO v o = true → (∀ x ∈ l, fitsO v x = true) → vecV (runH n v l o t).1 = true := by
  have step : ∀ {v : List Int} {o : D.Op}, vecV v = true → fitsO v o = true → vecV (setV v o) = true := by
    intro v o hv hf
    obtain ⟨r, hr, hlt, s1, s2, _⟩ := fits_rep hf
    unfold vecV at hv ⊢
    simp only [Bool.and_eq_true, decide_eq_true_eq] at hv ⊢
    rw [setV_len]
    refine ⟨?_, hv.2⟩
    rw [List.all_eq_true] at hv ⊢
    intro x hx
    unfold setV at hx
    rcases List.mem_or_eq_of_mem_set hx with hx | hx
    · exact hv.1 x hx
    · subst hx
      unfold numV
      simp only [Bool.and_eq_true, decide_eq_true_eq]
      omega
  intro n
  induction n with
  | zero => intro v l t o hv hf _; exact step hv hf
  | succ n ih =>
    intro v l t o hv hf hl
    rcases next_spec (v := setV v o) (l := l) with ⟨h1, _, _⟩ | ⟨k, x, h1, _, h3, _⟩
    · have e : runH (n + 1) v l o t = (setV v o, l, t ++ [o]) := by
        show (match nextH (setV v o) l with | none => _ | some i => _) = _
        rw [h1]
      rw [e]; exact step hv hf
    · have e : runH (n + 1) v l o t = runH n (setV v o) (delH l k) (l.getD k o) (t ++ [o]) := by
        show (match nextH (setV v o) l with | none => _ | some i => runH n (setV v o) (delH l i) (l.getD i o) (t ++ [o])) = _
        rw [h1]
      have hg : l.getD k o = x := by rw [List.getD_eq_getElem?_getD, h3]; rfl
      rw [e, hg]
      exact ih (step hv hf) (by rw [fits_set]; exact hl x (List.mem_of_getElem? h3)) fun y hy => by rw [fits_set]; exact hl y (del_mem hy)
noncomputable def cntR (l : List D.Op) (r : Nat) : Nat := l.countP fun x => decide (x.stamp.rep = (r : Int))
structure Causal (n : Nat) (all : List D.Op) : Prop where
  n1 : 1 ≤ n
  n4 : n ≤ 4
  len : all.length ≤ 16
  el : ∀ (k : Nat) (o : D.Op), all[k]? = some o → ∃ (r : Nat) (deps : List Int), r < n ∧ o = ⟨⟨(k : Int) + 1, r⟩, (cntR (all.take k) r : Int) + 1, deps, 1, ⟨(k : Int) + 1, r⟩, ⟨0, 0⟩, [107], 0, 0⟩ ∧ deps.length = n ∧ (∀ (j : Nat) (x : Int), deps[j]? = some x → 0 ≤ x ∧ x ≤ (cntR (all.take k) j : Int)) ∧ deps[r]? = some (cntR (all.take k) r : Int)
theorem cnt_le {l : List D.Op} {r : Nat} : cntR l r ≤ l.length := List.countP_le_length
theorem cnt_succ {l : List D.Op} {k : Nat} {o : D.Op} (h : l[k]? = some o) {r : Nat} : cntR (l.take (k + 1)) r = cntR (l.take k) r + if o.stamp.rep = (r : Int) then 1 else 0 := by
  unfold cntR
  rw [take_succ' h, List.countP_append, List.countP_singleton]
  by_cases e : o.stamp.rep = (r : Int)
  · rw [if_pos e, if_pos (decide_eq_true e)]
  · rw [if_neg e, if_neg (by rw [decide_eq_false e]; simp)]
theorem cnt_mono {l : List D.Op} {r : Nat} : ∀ {j k : Nat}, j ≤ k → cntR (l.take j) r ≤ cntR (l.take k) r := by
  intro j k h
  obtain ⟨m, rfl⟩ := Nat.exists_eq_add_of_le h
  induction m with
  | zero => exact Nat.le_refl _
  | succ m ih =>
    refine Nat.le_trans (ih (by omega)) ?_
    rw [← Nat.add_assoc]
    cases hx : l[j + m]? with
    | none => rw [List.take_of_length_le (by rw [List.getElem?_eq_none_iff] at hx; omega), List.take_of_length_le (by rw [List.getElem?_eq_none_iff] at hx; omega)]; exact Nat.le_refl _
    | some o => rw [cnt_succ hx]; omega
section
variable {n : Nat} {all held : List D.Op} {v w : List Int} {o : D.Op}
theorem Causal.idx (c : Causal n all) {x : D.Op} (hx : x ∈ all) : ∃ k : Nat, all[k]? = some x ∧ x.stamp.time = (k : Int) + 1 := by
  obtain ⟨k, hk⟩ := List.getElem?_of_mem hx
  obtain ⟨r, deps, _, e, _⟩ := c.el k x hk
  exact ⟨k, hk, by rw [e]⟩
theorem Causal.same (c : Causal n all) {x y : D.Op} (hx : x ∈ all) (hy : y ∈ all) (h : x.stamp.time = y.stamp.time) : x = y := by
  obtain ⟨k, h1, h2⟩ := c.idx hx
  obtain ⟨j, h3, h4⟩ := c.idx hy
  have : k = j := by omega
  subst this
  rw [h1] at h3; injection h3
theorem Causal.twin (c : Causal n all) {x y : D.Op} (hx : x ∈ all) (hy : y ∈ all) (h : twinO x y = true) : x = y := by
  obtain ⟨k, h1, _⟩ := c.idx hx
  obtain ⟨j, h3, _⟩ := c.idx hy
  obtain ⟨r, d, hr, e, _⟩ := c.el k x h1
  obtain ⟨r', d', hr', e', _⟩ := c.el j y h3
  unfold twinO at h
  rw [Bool.and_eq_true, decide_eq_true_eq, decide_eq_true_eq] at h
  have er : r = r' := by have := h.1; rw [e, e'] at this; simp at this; omega
  subst er
  have es : cntR (all.take k) r = cntR (all.take j) r := by have := h.2; rw [e, e'] at this; simp at this; omega
  have key : ∀ {a b : Nat} {z : D.Op}, a < b → all[a]? = some z → z.stamp.rep = (r : Int) → cntR (all.take a) r < cntR (all.take b) r := fun {a b z} hab hz hzr => by
    have := cnt_mono (l := all) (r := r) (show a + 1 ≤ b by omega)
    rw [cnt_succ hz, if_pos hzr] at this
    omega
  rcases Nat.lt_trichotomy k j with q | q | q
  · have := key q h1 (by rw [e]); omega
  · subst q; rw [h1] at h3; injection h3
  · have := key q h3 (by rw [e']); omega
theorem Causal.may (c : Causal n all) {x : D.Op} (hx : x ∈ all) (hv : v.length = n) : fitsO v x = true := by
  obtain ⟨k, h1, _⟩ := c.idx hx
  obtain ⟨r, d, hr, e, hd, hj, hr2⟩ := c.el k x h1
  have hn := c.n4
  have hn1 := c.n1
  have hlen := c.len
  have hk := (List.getElem?_eq_some_iff.1 h1).1
  have hc := fun j => Nat.le_trans (cnt_mono (l := all) (r := j) (show k ≤ all.length by omega)) (by rw [List.take_length]; exact cnt_le)
  have hs : isS ⟨(k : Int) + 1, (r : Int)⟩ = true := by
    unfold isS
    simp only [Bool.and_eq_true, decide_eq_true_eq]
    omega
  have hvec : vecV d = true := by
    unfold vecV
    simp only [Bool.and_eq_true, decide_eq_true_eq, List.all_eq_true]
    refine ⟨fun x hx => ?_, by omega, by omega⟩
    obtain ⟨j, hj'⟩ := List.getElem?_of_mem hx
    obtain ⟨q1, q2⟩ := hj j x hj'
    have := hc j
    unfold numV
    simp only [Bool.and_eq_true, decide_eq_true_eq]
    have q2 : x ≤ (cntR (all.take k) j : Int) := q2
    omega
  unfold fitsO
  rw [Bool.and_eq_true, decide_eq_true_eq]
  refine ⟨?_, by rw [e]; show d.length = _; omega⟩
  rw [e]
  unfold mayO
  simp only [hs, hvec, Bool.true_and, Bool.and_eq_true]
  refine ⟨?_, ?_⟩
  · unfold seqV
    show (match d[(r : Int).toNat]? with | some x => _ | none => _) = true
    rw [Int.toNat_natCast, hr2]
    have := hc r
    simp
    omega
  · show (placeV ⟨0, 0⟩ && (keyV [107] && (decide ((0 : Int) = 0) && decide ((0 : Int) = 0)))) = true
    decide
/-- the vector goes up -/
noncomputable def leV (v w : List Int) : Prop := v.length = w.length ∧ ∀ (k : Nat), v.getD k 0 ≤ w.getD k 0
theorem leV.refl : leV v v := ⟨rfl, fun _ => Int.le_refl _⟩
theorem leV.trans {u v w : List Int} (a : leV u v) (b : leV v w) : leV u w := ⟨a.1.trans b.1, fun k => Int.le_trans (a.2 k) (b.2 k)⟩
theorem ready_seq (h : readyV v o = true) : v.getD o.stamp.rep.toNat 0 = o.seq - 1 := by
  unfold readyV at h
  rw [Bool.and_eq_true, decide_eq_true_eq] at h
  exact h.1
theorem set_le (hf : fitsO v o = true) (h : readyV v o = true) : leV v (setV v o) ∧ (setV v o).getD o.stamp.rep.toNat 0 = o.seq := by
  obtain ⟨r, hr, hlt, _⟩ := fits_rep hf
  have hs := ready_seq h
  rw [hr, Int.toNat_natCast] at hs ⊢
  unfold setV
  rw [hr, Int.toNat_natCast]
  refine ⟨⟨by rw [List.length_set], fun k => ?_⟩, ?_⟩
  · rw [getD_set hlt]
    by_cases e : k = r
    · rw [if_pos e, e, hs]; omega
    · rw [if_neg e]; exact Int.le_refl _
  · rw [getD_set hlt, if_pos rfl]
/-- what is taken one behind the other -/
noncomputable def Chain : List Int → List D.Op → List Int → Prop
  | v, [], w => v = w
  | v, x :: t, w => fitsO v x = true ∧ readyV v x = true ∧ Chain (setV v x) t w
theorem Chain.le : ∀ {t : List D.Op} {v w : List Int}, Chain v t w → leV v w
  | [], _, _, h => by have h : _ = _ := h; rw [h]; exact leV.refl
  | x :: t, v, w, h => (set_le h.1 h.2.1).1.trans (Chain.le h.2.2)
theorem run_chain : ∀ (m : Nat) {v : List Int} {l t : List D.Op} {o : D.Op}, l.length = m → InvH v l o → ∃ t', (runH m v l o t).2.2 = t ++ o :: t' ∧ Chain (setV v o) t' (runH m v l o t).1 ∧ (∀ x ∈ t', x ∈ l) ∧ ∀ x ∈ (runH m v l o t).2.1, x ∈ l := by
  intro m
  induction m with
  | zero =>
    intro v l t o hm i
    exact ⟨[], rfl, rfl, fun x hx => (by cases hx), fun x hx => hx⟩
  | succ m ih =>
    intro v l t o hm i
    rcases next_spec (v := setV v o) (l := l) with ⟨h1, _, _⟩ | ⟨k, x, h1, _, h3, h4, _⟩
    · rw [← hm, run_none h1]
      exact ⟨[], rfl, rfl, fun x hx => (by cases hx), fun x hx => hx⟩
    · have hd := del_len (List.getElem?_eq_some_iff.1 h3).1
      rw [← hm, run_some h1 h3, show (delH l k).length = m by omega]
      have i2 := inv_next i h3 h4
      obtain ⟨t', e1, e2, e3, e4⟩ := ih (t := t ++ [o]) (by omega) i2
      exact ⟨x :: t', by rw [e1]; simp, ⟨i2.fo, i2.ro, e2⟩, fun y hy => by
        rcases List.mem_cons.1 hy with rfl | hy
        · exact List.mem_of_getElem? h3
        · exact del_mem (e3 y hy), fun y hy => del_mem (e4 y hy)⟩
/-- what is held, and the vector -/
structure Sit (n : Nat) (all held : List D.Op) (v : List Int) : Prop where
  vl : v.length = n
  vv : vecV v = true
  mr : MayR v held
  sub : ∀ x ∈ held, x ∈ all
  up : ∀ j, j < n → v.getD j 0 ≤ (cntR all j : Int)
  pos : ∀ j, 0 ≤ v.getD j 0
theorem Causal.seq_up (c : Causal n all) {x : D.Op} (hx : x ∈ all) : ∃ r : Nat, x.stamp.rep = r ∧ r < n ∧ x.seq ≤ (cntR all r : Int) := by
  obtain ⟨k, h1, _⟩ := c.idx hx
  obtain ⟨r, d, hr, e, _⟩ := c.el k x h1
  refine ⟨r, by rw [e], hr, ?_⟩
  have hk := (List.getElem?_eq_some_iff.1 h1).1
  have := cnt_mono (l := all) (r := r) (show k + 1 ≤ all.length by omega)
  rw [List.take_length, cnt_succ h1, if_pos (by rw [e])] at this
  rw [e]
  show (cntR (all.take k) r : Int) + 1 ≤ _
  omega
theorem chain_up (c : Causal n all) : ∀ {t : List D.Op} {v w : List Int}, v.length = n → Chain v t w → (∀ x ∈ t, x ∈ all) → (∀ j, j < n → v.getD j 0 ≤ (cntR all j : Int)) → ∀ j, j < n → w.getD j 0 ≤ (cntR all j : Int)
  | [], v, w, _, h, _, hu => by have h : _ = _ := h; rw [← h]; exact hu
  | x :: t, v, w, hv, h, hs, hu => chain_up c (by rw [setV_len]; exact hv) h.2.2 (fun y hy => hs y (by simp [hy])) fun j hj => by
    obtain ⟨r, hr, hrn, hq⟩ := c.seq_up (hs x (by simp))
    unfold setV
    rw [hr, Int.toNat_natCast, getD_set (by omega)]
    by_cases e : j = r
    · rw [if_pos e, e]; exact hq
    · rw [if_neg e]; exact hu j hj
/-- there is room -/
theorem Causal.room (c : Causal n all) (s : Sit n all held v) (ho : o ∈ all) (hn : (held.any fun x => twinO x o) = false) : hasS held o = false ∧ held.length ≠ 16 := by
  rw [List.any_eq_false] at hn
  have hne : ∀ x ∈ held, x.stamp.time ≠ o.stamp.time := fun x hx e => by
    have := c.same (s.sub x hx) ho e
    subst this
    have := hn x hx
    unfold twinO at this
    simp at this
  refine ⟨?_, fun h16 => ?_⟩
  · unfold hasS
    rw [List.any_eq_false]
    intro x hx e
    have e := of_decide_eq_true e
    exact hne x hx (by rw [e])
  · have tm : ∀ x ∈ all, 1 ≤ x.stamp.time ∧ x.stamp.time ≤ 16 := fun x hx => by
      obtain ⟨k, hk, e⟩ := c.idx hx
      have := (List.getElem?_eq_some_iff.1 hk).1
      have := c.len
      omega
    have hto := tm o ho
    have key : ∀ (i : Nat) (x : D.Op), held[i]? = some x → (i : Int) + 1 ≤ x.stamp.time ∧ (o.stamp.time < x.stamp.time → (i : Int) + 2 ≤ x.stamp.time) := by
      intro i
      induction i with
      | zero =>
        intro x hx
        have := tm x (s.sub x (List.mem_of_getElem? hx))
        exact ⟨by omega, fun h => by omega⟩
      | succ i ih =>
        intro x hx
        obtain ⟨y, hy⟩ := get_lt (l := held) (k := i) (by have := (List.getElem?_eq_some_iff.1 hx).1; omega)
        obtain ⟨q1, q2⟩ := ih y hy
        have hl := s.mr.srt i (i + 1) y x (by omega) hy hx
        have hxa := s.sub x (List.mem_of_getElem? hx)
        have hya := s.sub y (List.mem_of_getElem? hy)
        have hlt : y.stamp.time < x.stamp.time := by
          rcases hl with h | ⟨h, h'⟩
          · exact h
          · have := c.same hya hxa h
            subst this; omega
        have hyo := hne y (List.mem_of_getElem? hy)
        refine ⟨by omega, fun h => ?_⟩
        by_cases e : o.stamp.time < y.stamp.time
        · have := q2 e; omega
        · omega
    obtain ⟨z, hz⟩ := get_lt (l := held) (k := 15) (by omega)
    have h1 := key 15 z hz
    have h2 := tm z (s.sub z (List.mem_of_getElem? hz))
    have h3 := hne z (List.mem_of_getElem? hz)
    by_cases e : o.stamp.time < z.stamp.time
    · have := h1.2 e; omega
    · omega
/-- one comes -/
theorem sit_next (c : Causal n all) (s : Sit n all held v) (ho : o ∈ all) : ∃ w l t, letH v held o = some (w, l, t) ∧ Sit n all l w ∧ Chain v t w ∧ ∀ x ∈ t, x ∈ all := by
  have hfo : fitsO v o = true := c.may ho s.vl
  unfold letH
  by_cases h1 : (staleB v o || held.any fun x => twinO x o) = true
  · rw [if_pos h1]; exact ⟨v, held, [], rfl, s, rfl, fun x hx => by cases hx⟩
  rw [if_neg h1]
  have h1 : (staleB v o || held.any fun x => twinO x o) = false := by simpa using h1
  obtain ⟨h1, ht⟩ := Bool.or_eq_false_iff.1 h1
  by_cases h2 : readyV v o = true
  · rw [if_pos h2]
    have inv := inv_first s.mr hfo ht h2
    obtain ⟨t', e1, e2, e3, e4⟩ := run_chain held.length (t := []) rfl inv
    have hch : Chain v (runH held.length v held o []).2.2 (runH held.length v held o []).1 := by
      rw [e1]; exact ⟨hfo, h2, e2⟩
    have hal : ∀ x ∈ (runH held.length v held o []).2.2, x ∈ all := fun x hx => by
      rw [e1] at hx
      rcases List.mem_cons.1 hx with rfl | hx
      · exact ho
      · exact s.sub x (e3 x hx)
    have hle := hch.le
    refine ⟨_, _, _, rfl, ⟨hle.1 ▸ s.vl, run_vec _ s.vv hfo s.mr.fit, run_may _ rfl inv, fun x hx => s.sub x (e4 x hx), chain_up c s.vl hch hal s.up, fun j => Int.le_trans (s.pos j) (hle.2 j)⟩, hch, hal⟩
  · rw [if_neg h2]
    obtain ⟨r1, r2⟩ := c.room s ho ht
    have h3 : ¬ (hasS held o || decide (held.length = 16)) = true := by rw [r1, decide_eq_false r2]; simp
    rw [if_neg h3]
    refine ⟨v, insH held o, [], rfl, ⟨s.vl, s.vv, ?_, fun x hx => ?_, s.up, s.pos⟩, rfl, fun x hx => by cases hx⟩
    · exact let_may (o := o) (t := []) s.mr hfo (by unfold letH; rw [if_neg (by rw [h1, ht]; simp), if_neg h2, if_neg h3])
    · unfold insH at hx
      rcases List.mem_append.1 hx with hx | hx
      · exact s.sub x (List.mem_of_mem_take hx)
      · rcases List.mem_cons.1 hx with rfl | hx
        · exact ho
        · exact s.sub x (List.mem_of_mem_drop hx)
/-- so many of all are taken -/
noncomputable def Took (all : List D.Op) (v : List Int) (k : Nat) : Prop := ∀ (i : Nat) (x : D.Op), i < k → all[i]? = some x → x.seq ≤ v.getD x.stamp.rep.toNat 0
theorem Took.mono {k : Nat} (t : Took all v k) (h : leV v w) : Took all w k := fun i x hi hx => Int.le_trans (t i x hi hx) (h.2 _)
theorem took_cnt (c : Causal n all) : ∀ {k : Nat}, Took all v k → (∀ j, 0 ≤ v.getD j 0) → k ≤ all.length → ∀ j, (cntR (all.take k) j : Int) ≤ v.getD j 0
  | 0, _, hp, _, j => by have := hp j; show ((0 : Nat) : Int) ≤ _; exact this
  | k + 1, t, hp, hk, j => by
    have ih := took_cnt c (k := k) (fun i x hi hx => t i x (by omega) hx) hp (by omega) j
    obtain ⟨x, hx⟩ := get_lt (l := all) (k := k) (by omega)
    rw [cnt_succ hx]
    by_cases e : x.stamp.rep = (j : Int)
    · rw [if_pos e]
      have h1 := t k x (by omega) hx
      obtain ⟨r, d, hr, ex, _⟩ := c.el k x hx
      have er : r = j := by rw [ex] at e; simp at e; omega
      subst er
      rw [e, Int.toNat_natCast] at h1
      rw [ex] at h1
      have h1 : (cntR (all.take k) r : Int) + 1 ≤ v.getD r 0 := h1
      omega
    · rw [if_neg e]; exact ih
theorem took_next {k : Nat} {l t : List D.Op} (c : Causal n all) (s : Sit n all held v) (ho : all[k]? = some o) (tk : Took all v k) (h : letH v held o = some (w, l, t)) (hc : Chain v t w) : Took all w (k + 1) := by
  have hle := hc.le
  have hk := (List.getElem?_eq_some_iff.1 ho).1
  have hm := List.mem_of_getElem? ho
  have hfo : fitsO v o = true := c.may hm s.vl
  have tw := tk.mono hle
  have fin : o.seq ≤ w.getD o.stamp.rep.toNat 0 → Took all w (k + 1) := fun q i x hi hx => by
    by_cases e : i = k
    · subst e; rw [ho] at hx; injection hx with hx; subst hx; exact q
    · exact tw i x (by omega) hx
  apply fin
  obtain ⟨r, d, hr, ex, hd, hj, hr2⟩ := c.el k o ho
  have hcn := took_cnt c tk s.pos (by omega)
  have hrr : o.stamp.rep = (r : Int) := by rw [ex]
  have hq : o.seq = (cntR (all.take k) r : Int) + 1 := by rw [ex]
  have rdy : ¬ o.seq ≤ v.getD r 0 → readyV v o = true := fun q => by
    unfold readyV
    have h1 := hcn r
    rw [Bool.and_eq_true, decide_eq_true_eq, hrr, Int.toNat_natCast]
    refine ⟨by omega, decide_eq_true fun j _ => ?_⟩
    have hdd : o.deps = d := by rw [ex]
    rw [hdd]
    cases hx : d[j]? with
    | none => rw [List.getD_eq_getElem?_getD, hx]; exact s.pos j
    | some x => rw [getD_some hx]; exact Int.le_trans (hj j x hx).2 (hcn j)
  by_cases q : o.seq ≤ v.getD r 0
  · have := hle.2 r
    rw [hrr, Int.toNat_natCast]; omega
  have hrd := rdy q
  have hst : staleB v o = false := by
    unfold staleB
    rw [hrr, Int.toNat_natCast]
    exact decide_eq_false q
  have htw : (held.any fun x => twinO x o) = false := by
    rw [List.any_eq_false]
    intro x hx e
    have := c.twin (s.sub x hx) hm e
    subst this
    have := s.mr.rdy x hx
    rw [hrd] at this; cases this
  have hl : letH v held o = some (runH held.length v held o []) := by
    unfold letH
    rw [if_neg (by rw [hst, htw]; simp), if_pos hrd]
  rw [hl] at h
  injection h with h
  obtain ⟨t', e1, e2, _⟩ := run_chain held.length (t := []) rfl (inv_first s.mr hfo htw hrd)
  rw [h] at e2
  have h1 := (set_le hfo hrd).2
  have h2 : _ ≤ w.getD o.stamp.rep.toNat 0 := (Chain.le e2).2 o.stamp.rep.toNat
  omega
/-- all together -/
noncomputable def sumI : List Int → Int
  | [] => 0
  | x :: l => x + sumI l
theorem sum_set : ∀ {v : List Int} {i : Nat} {x : Int}, v[i]? = some x → sumI (v.set i (x + 1)) = sumI v + 1
  | [], i, x, h => by simp at h
  | y :: v, 0, x, h => by
    simp at h; subst h
    show y + 1 + sumI v = y + sumI v + 1
    omega
  | y :: v, i + 1, x, h => by
    have := sum_set (v := v) (i := i) (by simpa using h)
    show y + sumI (v.set i (x + 1)) = y + sumI v + 1
    omega
theorem sum_zero : ∀ {m : Nat}, sumI (List.replicate m 0) = 0
  | 0 => rfl
  | m + 1 => by rw [List.replicate_succ]; show 0 + sumI _ = 0; rw [sum_zero]; rfl
theorem sum_all (c : Causal n all) : ∀ {k : Nat}, k ≤ all.length → sumI ((List.range n).map fun j => (cntR (all.take k) j : Int)) = k
  | 0, _ => by
    have : ((List.range n).map fun j => (cntR (all.take 0) j : Int)) = List.replicate n 0 := by
      apply List.ext_getElem
      · simp
      · intro i h1 h2
        simp [cntR]
    rw [this, sum_zero]; rfl
  | k + 1, hk => by
    obtain ⟨x, hx⟩ := get_lt (l := all) (k := k) (by omega)
    obtain ⟨r, d, hr, ex, _⟩ := c.el k x hx
    have e : ((List.range n).map fun j => (cntR (all.take (k + 1)) j : Int)) = ((List.range n).map fun j => (cntR (all.take k) j : Int)).set r ((cntR (all.take k) r : Int) + 1) := by
      apply List.ext_getElem
      · simp
      · intro i h1 h2
        rw [List.getElem_set]
        simp only [List.getElem_map, List.getElem_range]
        rw [cnt_succ hx]
        have hxr : x.stamp.rep = (r : Int) := by rw [ex]
        by_cases e : r = i
        · subst e; rw [if_pos hxr, if_pos rfl]; rfl
        · rw [if_neg (by rw [hxr]; omega), if_neg e]; rfl
    rw [e, sum_set (by simp [hr]), sum_all c (by omega)]
    rfl
theorem all_done (c : Causal n all) (s : Sit n all held v) (t : Took all v all.length) : held = [] ∧ sumI v = all.length := by
  have hc := took_cnt c t s.pos (Nat.le_refl _)
  rw [List.take_length] at hc
  constructor
  · cases hh : held with
    | nil => rfl
    | cons x l =>
      have hx : x ∈ held := by rw [hh]; simp
      obtain ⟨r, hr, _, hq⟩ := c.seq_up (s.sub x hx)
      have := s.mr.sta x hx
      unfold staleB at this
      rw [hr, Int.toNat_natCast] at this
      have := of_decide_eq_false this
      have := hc r
      omega
  · have e : v = (List.range n).map fun j => (cntR (all.take all.length) j : Int) := by
      apply List.ext_getElem
      · simp [s.vl]
      · intro i h1 h2
        have hi : i < n := by rw [← s.vl]; exact h1
        have a1 := hc i
        have a2 := s.up i hi
        have a3 : v.getD i 0 = v[i] := by rw [List.getD_eq_getElem?_getD, List.getElem?_eq_getElem h1]; rfl
        simp only [List.getElem_map, List.getElem_range, List.take_length]
        omega
    conv => lhs; rw [e]
    exact sum_all c (Nat.le_refl _)
end
/- arras/arraslaw14.Issued -/
theorem vc7 (a0 : Int) (a1 : AV) (a2 : AV) (a3 : AV) (b : Int) (h : Hp) (Post : AV → Hp → Prop) : vcCall Try.prog [19000039] 7 [(SV.ag [(SV.ii .i64 a0), (SV.vv a1), (SV.vv a2), (SV.vv a3)]), (SV.ii .i64 b)] h Post = (
  ∀ (p0 : Nat),
  wpC Try.prog 8 [AV.i IntKind.i64 a0, AV.i IntKind.i64 4]
    (fun a0 h0 =>
      onRet [Sh.one (Kd.int IntKind.i64)] a0 fun n0 =>
        onO (intO BinOp.add IntKind.i64 1 n0) fun n1 =>
          onO (natI n1) fun p1 =>
            onO (natI n1) fun p2 =>
              onC (p1.ble p2 && (p2 * 24).ble (OfNat.ofNat 1073741824) && p2.blt 1073741824)
                (∀ (p3 : Nat),
                  h0.g p3 = none →
                    h0.lo.le p3 →
                      ∃ I0 : Nat → Int → Hp → Prop,
                        (∃ p4, I0 p4 0 (h0.put p3 (zerosV [AV.ns] p2))) ∧
                          ∀ (p5 : Nat) (h1 : Hp) (n2 : Int),
                            I0 p5 n2 h1 →
                              onB (decide (n2 < n1))
                                (onO (natI n1) fun p6 =>
                                  onO (natI n1) fun p7 =>
                                    onC (p6.ble p7 && (p7 * 8).ble (OfNat.ofNat 1073741824) && p7.blt 1073741824)
                                      (∀ (p8 : Nat),
                                        h1.g p8 = none →
                                          h1.lo.le p8 →
                                            onO (idxV (AV.sl p3 0 p1 p2 true 1) n2 1) fun r0 =>
                                              wpE (Eff.w r0.fst r0.snd (Src.lit [AV.sl p8 0 p6 p7 true 1]) none)
                                                (fun x0 h2 => onO (intO BinOp.add IntKind.i64 n2 1) fun n3 => ∃ p9, ltN p9 p5 ∧ I0 p9 n3 h2) (h1.put p8 (zerosV [AV.i IntKind.i64 0] p7))))
                                (∃ I1 : Nat → AV → Int → Hp → Prop,
                                  (∃ p10, I1 p10 AV.ns 0 h1) ∧
                                    ∀ (p11 : Nat) (h3 : Hp) (a1_1 : AV),
                                      a1_1.sc = true →
                                        ∀ (n4 : Int),
                                          I1 p11 a1_1 n4 h3 →
                                            ∃ I2 : Bool → Hp → Prop,
                                              (onO (lenV a1) fun p12 => onB (decide (n4 < ↑p12)) (I2 (decide (n4 < b)) h3) (I2 false h3)) ∧
                                                ∀ (h4 : Hp) (c0 : Bool),
                                                  I2 c0 h4 →
                                                    onB c0
                                                      (onO (idxV a1 n4 1) fun r1 =>
                                                        onO (rdH h4 r1.fst r1.snd 1) fun l0 =>
                                                          onL [Kd.int IntKind.i64] l0 fun n5 =>
                                                            wpC Try.prog 8 [AV.i IntKind.i64 n5, AV.i IntKind.i64 n1]
                                                              (fun a2_1 h5 =>
                                                                onRet [Sh.one (Kd.int IntKind.i64)] a2_1 fun n6 =>
                                                                  onO (lenV a2) fun p13 =>
                                                                    onB (decide (n4 < ↑p13))
                                                                      (onO (idxV a2 n4 1) fun r2 =>
                                                                        onO (rdH h5 r2.fst r2.snd 1) fun l1 =>
                                                                          onL [Kd.int IntKind.i64] l1 fun n7 =>
                                                                            wpC Try.prog 8 [AV.i IntKind.i64 n7, AV.i IntKind.i64 n1]
                                                                              (fun a3 h6 =>
                                                                                onRet [Sh.one (Kd.int IntKind.i64)] a3 fun n8 =>
                                                                                  ∃ I3 : Nat → Int → Hp → Prop,
                                                                                    (∃ p14, I3 p14 0 h6) ∧
                                                                                      ∀ (p15 : Nat) (h7 : Hp) (n9 : Int),
                                                                                        I3 p15 n9 h7 →
                                                                                          onB (decide (n9 < n1))
                                                                                            (onO (idxV (AV.sl p3 0 p1 p2 true 1) n6 1) fun r3 =>
                                                                                              onO (rdH h7 r3.fst r3.snd 1) fun l2 =>
                                                                                                onL [Kd.ref] l2 fun a4 =>
                                                                                                  onO (idxV (AV.sl p3 0 p1 p2 true 1) n6 1) fun r4 =>
                                                                                                    onO (rdH h7 r4.fst r4.snd 1) fun l3 =>
                                                                                                      onL [Kd.ref] l3 fun a5 =>
                                                                                                        onO (idxV a5 n9 1) fun r5 =>
                                                                                                          onO (rdH h7 r5.fst r5.snd 1) fun l4 =>
                                                                                                            onL [Kd.int IntKind.i64] l4 fun n10 =>
                                                                                                              onO (idxV (AV.sl p3 0 p1 p2 true 1) n8 1) fun r6 =>
                                                                                                                onO (rdH h7 r6.fst r6.snd 1) fun l5 =>
                                                                                                                  onL [Kd.ref] l5 fun a6 =>
                                                                                                                    onO (idxV a6 n9 1) fun r7 =>
                                                                                                                      onO (rdH h7 r7.fst r7.snd 1) fun l6 =>
                                                                                                                        onL [Kd.int IntKind.i64] l6 fun n11 =>
                                                                                                                          onO (idxV a4 n9 1) fun r8 =>
                                                                                                                            wpE (Eff.w r8.fst r8.snd (Src.lit [AV.i IntKind.i64 (max n10 n11)]) none)
                                                                                                                              (fun x1 h8 =>
                                                                                                                                onO (intO BinOp.add IntKind.i64 n9 1) fun n12 =>
                                                                                                                                  ∃ p16, ltN p16 p15 ∧ I3 p16 n12 h8)
                                                                                                                              h7)
                                                                                            (onO (intO BinOp.add IntKind.i64 n4 1) fun n13 =>
                                                                                              onO (idxV (AV.sl p3 0 p1 p2 true 1) n6 1) fun r9 =>
                                                                                                onO (rdH h7 r9.fst r9.snd 1) fun l7 =>
                                                                                                  onL [Kd.ref] l7 fun a7 =>
                                                                                                    onO (idxV a7 n6 1) fun r10 =>
                                                                                                      onO (rdH h7 r10.fst r10.snd 1) fun l8 =>
                                                                                                        onL [Kd.int IntKind.i64] l8 fun n14 =>
                                                                                                          onO (intO BinOp.add IntKind.i64 n14 1) fun n15 =>
                                                                                                            onO (idxV (AV.sl p3 0 p1 p2 true 1) n6 1) fun r11 =>
                                                                                                              onO (rdH h7 r11.fst r11.snd 1) fun l9 =>
                                                                                                                onL [Kd.ref] l9 fun a8 =>
                                                                                                                  wpC Try.prog 19 [a8]
                                                                                                                    (fun a9 h9 =>
                                                                                                                      onRet [Sh.one Kd.ref] a9 fun a10 =>
                                                                                                                        sameH h7 h9 r10.fst r10.snd 1 ∧
                                                                                                                          sameH h7 h9 r9.fst r9.snd 1 ∧
                                                                                                                            onO (intO BinOp.add IntKind.i64 n4 1) fun n16 =>
                                                                                                                              ∀ (p17 : Nat),
                                                                                                                                onO (idxV (AV.sl p3 0 p1 p2 true 1) n6 1) fun r12 =>
                                                                                                                                  onO (rdH h9 r12.fst r12.snd 1) fun l10 =>
                                                                                                                                    onL [Kd.ref] l10 fun a11 =>
                                                                                                                                      onO (idxV a11 n6 1) fun r13 =>
                                                                                                                                        onO (rdH h9 r13.fst r13.snd 1) fun l11 =>
                                                                                                                                          onL [Kd.int IntKind.i64] l11 fun n17 =>
                                                                                                                                            onO (intO BinOp.add IntKind.i64 n17 1) fun n18 =>
                                                                                                                                              onO (idxV a11 n6 1) fun r14 =>
                                                                                                                                                wpE
                                                                                                                                                  (Eff.w r14.fst r14.snd
                                                                                                                                                    (Src.lit [AV.i IntKind.i64 n18]) none)
                                                                                                                                                  (fun x2 h10 =>
                                                                                                                                                    ∀ (p18 : Nat),
                                                                                                                                                      wpE
                                                                                                                                                        (Eff.app a1_1 1
                                                                                                                                                          (Src.lit
                                                                                                                                                            [AV.i IntKind.i64 n13, AV.i IntKind.i64 n6,
                                                                                                                                                              AV.i IntKind.i64 n15, a10,
                                                                                                                                                              AV.i IntKind.i64 1, AV.i IntKind.i64 n16,
                                                                                                                                                              AV.i IntKind.i64 n6, AV.i IntKind.i64 0,
                                                                                                                                                              AV.i IntKind.i64 0, AV.s [107],
                                                                                                                                                              AV.i IntKind.i64 0, AV.i IntKind.i64 0])
                                                                                                                                                          12)
                                                                                                                                                        (fun x3 h11 =>
                                                                                                                                                          onO x3 fun a12 =>
                                                                                                                                                            onO (intO BinOp.add IntKind.i64 n4 1)
                                                                                                                                                              fun n19 =>
                                                                                                                                                              ∃ p19, ltN p19 p11 ∧ I1 p19 a12 n19 h11)
                                                                                                                                                        h10)
                                                                                                                                                  h9)
                                                                                                                    h7))
                                                                              h5)
                                                                      (onO (intO BinOp.add IntKind.i64 n4 1) fun n20 =>
                                                                        onO (idxV (AV.sl p3 0 p1 p2 true 1) n6 1) fun r15 =>
                                                                          onO (rdH h5 r15.fst r15.snd 1) fun l12 =>
                                                                            onL [Kd.ref] l12 fun a13 =>
                                                                              onO (idxV a13 n6 1) fun r16 =>
                                                                                onO (rdH h5 r16.fst r16.snd 1) fun l13 =>
                                                                                  onL [Kd.int IntKind.i64] l13 fun n21 =>
                                                                                    onO (intO BinOp.add IntKind.i64 n21 1) fun n22 =>
                                                                                      onO (idxV (AV.sl p3 0 p1 p2 true 1) n6 1) fun r17 =>
                                                                                        onO (rdH h5 r17.fst r17.snd 1) fun l14 =>
                                                                                          onL [Kd.ref] l14 fun a14 =>
                                                                                            wpC Try.prog 19 [a14]
                                                                                              (fun a15 h12 =>
                                                                                                onRet [Sh.one Kd.ref] a15 fun a16 =>
                                                                                                  sameH h5 h12 r16.fst r16.snd 1 ∧
                                                                                                    sameH h5 h12 r15.fst r15.snd 1 ∧
                                                                                                      onO (intO BinOp.add IntKind.i64 n4 1) fun n23 =>
                                                                                                        ∀ (p20 : Nat),
                                                                                                          onO (idxV (AV.sl p3 0 p1 p2 true 1) n6 1) fun r18 =>
                                                                                                            onO (rdH h12 r18.fst r18.snd 1) fun l15 =>
                                                                                                              onL [Kd.ref] l15 fun a17 =>
                                                                                                                onO (idxV a17 n6 1) fun r19 =>
                                                                                                                  onO (rdH h12 r19.fst r19.snd 1) fun l16 =>
                                                                                                                    onL [Kd.int IntKind.i64] l16 fun n24 =>
                                                                                                                      onO (intO BinOp.add IntKind.i64 n24 1) fun n25 =>
                                                                                                                        onO (idxV a17 n6 1) fun r20 =>
                                                                                                                          wpE (Eff.w r20.fst r20.snd (Src.lit [AV.i IntKind.i64 n25]) none)
                                                                                                                            (fun x4 h13 =>
                                                                                                                              ∀ (p21 : Nat),
                                                                                                                                wpE
                                                                                                                                  (Eff.app a1_1 1
                                                                                                                                    (Src.lit
                                                                                                                                      [AV.i IntKind.i64 n20, AV.i IntKind.i64 n6, AV.i IntKind.i64 n22,
                                                                                                                                        a16, AV.i IntKind.i64 1, AV.i IntKind.i64 n23,
                                                                                                                                        AV.i IntKind.i64 n6, AV.i IntKind.i64 0, AV.i IntKind.i64 0,
                                                                                                                                        AV.s [107], AV.i IntKind.i64 0, AV.i IntKind.i64 0])
                                                                                                                                    12)
                                                                                                                                  (fun x5 h14 =>
                                                                                                                                    onO x5 fun a18 =>
                                                                                                                                      onO (intO BinOp.add IntKind.i64 n4 1) fun n26 =>
                                                                                                                                        ∃ p22, ltN p22 p11 ∧ I1 p22 a18 n26 h14)
                                                                                                                                  h13)
                                                                                                                            h12)
                                                                                              h5))
                                                              h4)
                                                      (Post a1_1 h4))))
    h) := by kernel_rfl
/- arras/arraslaw14.HoldOrders -/
theorem vc3 (a0 : Int) (a1 : AV) (a2 : AV) (a3 : AV) (h : Hp) (Post : AV → Hp → Prop) : vcCall Try.prog [23000057,
 26999999,
 39000120] 3 [(SV.ag [(SV.ii .i64 a0), (SV.vv a1), (SV.vv a2), (SV.vv a3)])] h Post = (
  ∀ (p0 : Nat),
  onO (lenV a1) fun p1 =>
    onO (lenV a2) fun p2 =>
      onO (intO BinOp.add IntKind.i64 ↑p1 ↑p2) fun n0 =>
        onO (lenV a3) fun p3 =>
          onO (intO BinOp.add IntKind.i64 n0 ↑p3) fun n1 =>
            onB (decide (2000 < n1)) (Post (AV.b true) h)
              (wpC Try.prog 7 [AV.agg [AV.i IntKind.i64 a0, a1, a2, a3], AV.i IntKind.i64 16]
                (fun a0_1 h0 =>
                  onRet [Sh.one Kd.ref] a0_1 fun a1 =>
                    wpC Try.prog 8 [AV.i IntKind.i64 a0, AV.i IntKind.i64 4]
                      (fun a2 h1 =>
                        onRet [Sh.one (Kd.int IntKind.i64)] a2 fun n2 =>
                          onO (intO BinOp.add IntKind.i64 1 n2) fun n3 =>
                            onO (natI n3) fun p4 =>
                              onO (natI n3) fun p5 =>
                                onC (p4.ble p5 && (p5 * 8).ble (OfNat.ofNat 1073741824) && p5.blt 1073741824)
                                  (∀ (p6 : Nat),
                                    h1.g p6 = none →
                                      h1.lo.le p6 →
                                        ∃ I0 : Nat → AV → Bool → AV → Int → Hp → Prop,
                                          (∃ p7, I0 p7 AV.ns false AV.ns 0 (h1.put p6 (zerosV [AV.i IntKind.i64 0] p5))) ∧
                                            ∀ (p8 : Nat) (h2 : Hp) (a3_1 : AV),
                                              a3_1.sc = true →
                                                ∀ (c0 : Bool) (a4 : AV),
                                                  a4.sc = true →
                                                    ∀ (n4 : Int),
                                                      I0 p8 a3_1 c0 a4 n4 h2 →
                                                        onO (lenV a1) fun p9 =>
                                                          onO (intO BinOp.mul IntKind.i64 3 ↑p9) fun n5 =>
                                                            onB (decide (n4 < n5))
                                                              (onO (lenV a1) fun p10 =>
                                                                onO (intO BinOp.rem IntKind.i64 n4 ↑p10) fun n6 =>
                                                                  ∃ I1 : Bool → Hp → Prop,
                                                                    (onO (lenV a3) fun p11 =>
                                                                        onB (decide (n4 < ↑p11)) (onO (lenV a1) fun p12 => onO (intO BinOp.mul IntKind.i64 2 ↑p12) fun n7 => I1 (decide (n4 < n7)) h2)
                                                                          (I1 false h2)) ∧
                                                                      ∀ (h3 : Hp) (c1 : Bool),
                                                                        I1 c1 h3 →
                                                                          ∃ I2 : Int → Hp → Prop,
                                                                            onB c1
                                                                                (onO (idxV a3 n4 1) fun r0 =>
                                                                                  onO (rdH h3 r0.fst r0.snd 1) fun l0 =>
                                                                                    onL [Kd.int IntKind.i64] l0 fun n8 =>
                                                                                      onO (lenV a1) fun p13 =>
                                                                                        wpC Try.prog 8 [AV.i IntKind.i64 n8, AV.i IntKind.i64 ↑p13]
                                                                                          (fun a5 h4 => onRet [Sh.one (Kd.int IntKind.i64)] a5 fun n9 => I2 n9 h4) h3)
                                                                                (I2 n6 h3) ∧
                                                                              ∀ (h5 : Hp) (n10 : Int),
                                                                                I2 n10 h5 →
                                                                                  onO (idxV a1 n10 12) fun r1 =>
                                                                                    onO (rdH h5 r1.fst r1.snd 12) fun l1 =>
                                                                                      onL
                                                                                        [Kd.int IntKind.i64, Kd.int IntKind.i64, Kd.int IntKind.i64, Kd.ref, Kd.int IntKind.i64, Kd.int IntKind.i64,
                                                                                          Kd.int IntKind.i64, Kd.int IntKind.i64, Kd.int IntKind.i64, Kd.str, Kd.int IntKind.i64, Kd.int IntKind.i64]
                                                                                        l1 fun n11 n12 n13 a6 n14 n15 n16 n17 n18 l2 n19 n20 =>
                                                                                        wpC Try.prog 9
                                                                                          [AV.sl p6 0 p4 p5 true 1, a4,
                                                                                            AV.agg
                                                                                              [AV.i IntKind.i64 n11, AV.i IntKind.i64 n12, AV.i IntKind.i64 n13, a6, AV.i IntKind.i64 n14,
                                                                                                AV.i IntKind.i64 n15, AV.i IntKind.i64 n16, AV.i IntKind.i64 n17, AV.i IntKind.i64 n18, AV.s l2,
                                                                                                AV.i IntKind.i64 n19, AV.i IntKind.i64 n20]]
                                                                                          (fun a7 h6 =>
                                                                                            onTup [Sh.one Kd.ref, Sh.one Kd.ref, Sh.one Kd.ref, Sh.one (Kd.int IntKind.i64)] a7 fun a8 a9 a10 n21 =>
                                                                                              wpC Try.prog 10 [AV.i IntKind.i64 n21]
                                                                                                (fun a11 h7 =>
                                                                                                  onRet [Sh.one (Kd.int IntKind.i64)] a11 fun n22 =>
                                                                                                    onB (!decide (n22 = 0)) (Post (AV.b false) h7)
                                                                                                      (∃ I3 : Nat → Bool → AV → Int → Hp → Prop,
                                                                                                        (∃ p14, I3 p14 c0 a3_1 0 h7) ∧
                                                                                                          ∀ (p15 : Nat) (h8 : Hp) (c2 : Bool) (a12 : AV),
                                                                                                            a12.sc = true →
                                                                                                              ∀ (n23 : Int),
                                                                                                                I3 p15 c2 a12 n23 h8 →
                                                                                                                  onO (lenV a10) fun p16 =>
                                                                                                                    onB (decide (n23 < ↑p16))
                                                                                                                      (∃ I4 : Bool → Hp → Prop,
                                                                                                                        (onO (idxV a10 n23 12) fun r2 =>
                                                                                                                            onO (rdH h8 r2.fst r2.snd 12) fun l3 =>
                                                                                                                              onL
                                                                                                                                [Kd.int IntKind.i64, Kd.int IntKind.i64, Kd.int IntKind.i64, Kd.ref,
                                                                                                                                  Kd.int IntKind.i64, Kd.int IntKind.i64, Kd.int IntKind.i64,
                                                                                                                                  Kd.int IntKind.i64, Kd.int IntKind.i64, Kd.str, Kd.int IntKind.i64,
                                                                                                                                  Kd.int IntKind.i64]
                                                                                                                                l3 fun n24 n25 n26 a13 n27 n28 n29 n30 n31 l4 n32 n33 =>
                                                                                                                                wpC Try.prog 11
                                                                                                                                  [AV.agg
                                                                                                                                      [AV.i IntKind.i64 n24, AV.i IntKind.i64 n25, AV.i IntKind.i64 n26,
                                                                                                                                        a13, AV.i IntKind.i64 n27, AV.i IntKind.i64 n28,
                                                                                                                                        AV.i IntKind.i64 n29, AV.i IntKind.i64 n30,
                                                                                                                                        AV.i IntKind.i64 n31, AV.s l4, AV.i IntKind.i64 n32,
                                                                                                                                        AV.i IntKind.i64 n33]]
                                                                                                                                  (fun a14 h9 =>
                                                                                                                                    onRet [Sh.one Kd.bool] a14 fun c3 =>
                                                                                                                                      onB (!c3) (I4 true h9)
                                                                                                                                        (onO (idxV a10 n23 12) fun r3 =>
                                                                                                                                          onO (rdH h9 r3.fst (r3.snd + 0 + 1) 1) fun l5 =>
                                                                                                                                            onL [Kd.int IntKind.i64] l5 fun n34 =>
                                                                                                                                              onO (idxV (AV.sl p6 0 p4 p5 true 1) n34 1) fun r4 =>
                                                                                                                                                onO (rdH h9 r4.fst r4.snd 1) fun l6 =>
                                                                                                                                                  onL [Kd.int IntKind.i64] l6 fun n35 =>
                                                                                                                                                    onO (idxV a10 n23 12) fun r5 =>
                                                                                                                                                      onO (rdH h9 r5.fst (r5.snd + 2) 1) fun l7 =>
                                                                                                                                                        onL [Kd.int IntKind.i64] l7 fun n36 =>
                                                                                                                                                          onO (intO BinOp.sub IntKind.i64 n36 1)
                                                                                                                                                            fun n37 =>
                                                                                                                                                            onB (!decide (n35 = n37)) (I4 true h9)
                                                                                                                                                              (onO (idxV a10 n23 12) fun r6 =>
                                                                                                                                                                onO (rdH h9 r6.fst (r6.snd + 3) 1)
                                                                                                                                                                  fun l8 =>
                                                                                                                                                                  onL [Kd.ref] l8 fun a15 =>
                                                                                                                                                                    wpC Try.prog 12
                                                                                                                                                                      [AV.sl p6 0 p4 p5 true 1, a15]
                                                                                                                                                                      (fun a16 h10 =>
                                                                                                                                                                        onRet [Sh.one Kd.bool] a16
                                                                                                                                                                          fun c4 => I4 (!c4) h10)
                                                                                                                                                                      h9)))
                                                                                                                                  h8) ∧
                                                                                                                          ∀ (h11 : Hp) (c5 : Bool),
                                                                                                                            I4 c5 h11 →
                                                                                                                              onB c5 (Post (AV.b false) h11)
                                                                                                                                (onO (idxV a10 n23 12) fun r7 =>
                                                                                                                                  onO (rdH h11 r7.fst (r7.snd + 0 + 1) 1) fun l9 =>
                                                                                                                                    onL [Kd.int IntKind.i64] l9 fun n38 =>
                                                                                                                                      onO (idxV (AV.sl p6 0 p4 p5 true 1) n38 1) fun r8 =>
                                                                                                                                        onO (rdH h11 r8.fst r8.snd 1) fun l10 =>
                                                                                                                                          onL [Kd.int IntKind.i64] l10 fun n39 =>
                                                                                                                                            onO (intO BinOp.add IntKind.i64 n39 1) fun n40 =>
                                                                                                                                              onO (idxV (AV.sl p6 0 p4 p5 true 1) n38 1) fun r9 =>
                                                                                                                                                wpE
                                                                                                                                                  (Eff.w r9.fst r9.snd (Src.lit [AV.i IntKind.i64 n40])
                                                                                                                                                    none)
                                                                                                                                                  (fun x0 h12 =>
                                                                                                                                                    onO (idxV a10 n23 12) fun r10 =>
                                                                                                                                                      onO (rdH h12 r10.fst r10.snd 12) fun l11 =>
                                                                                                                                                        onL
                                                                                                                                                          [Kd.int IntKind.i64, Kd.int IntKind.i64,
                                                                                                                                                            Kd.int IntKind.i64, Kd.ref,
                                                                                                                                                            Kd.int IntKind.i64, Kd.int IntKind.i64,
                                                                                                                                                            Kd.int IntKind.i64, Kd.int IntKind.i64,
                                                                                                                                                            Kd.int IntKind.i64, Kd.str,
                                                                                                                                                            Kd.int IntKind.i64, Kd.int IntKind.i64]
                                                                                                                                                          l11
                                                                                                                                                          fun n41 n42 n43 a17 n44 n45 n46 n47 n48 l12
                                                                                                                                                            n49 n50 =>
                                                                                                                                                          ∀ (p17 : Nat),
                                                                                                                                                            wpE
                                                                                                                                                              (Eff.app a12 1
                                                                                                                                                                (Src.lit
                                                                                                                                                                  [AV.i IntKind.i64 n41,
                                                                                                                                                                    AV.i IntKind.i64 n42,
                                                                                                                                                                    AV.i IntKind.i64 n43, a17,
                                                                                                                                                                    AV.i IntKind.i64 n44,
                                                                                                                                                                    AV.i IntKind.i64 n45,
                                                                                                                                                                    AV.i IntKind.i64 n46,
                                                                                                                                                                    AV.i IntKind.i64 n47,
                                                                                                                                                                    AV.i IntKind.i64 n48, AV.s l12,
                                                                                                                                                                    AV.i IntKind.i64 n49,
                                                                                                                                                                    AV.i IntKind.i64 n50])
                                                                                                                                                                12)
                                                                                                                                                              (fun x1 h13 =>
                                                                                                                                                                onO x1 fun a18 =>
                                                                                                                                                                  onO (intO BinOp.add IntKind.i64 n23 1)
                                                                                                                                                                    fun n51 =>
                                                                                                                                                                    ∃ p18,
                                                                                                                                                                      ltN p18 p15 ∧
                                                                                                                                                                        I3 p18 c2 a18 n51 h13)
                                                                                                                                                              h12)
                                                                                                                                                  h11))
                                                                                                                      (wpC Try.prog 13 [AV.sl p6 0 p4 p5 true 1, a8]
                                                                                                                        (fun a19 h14 =>
                                                                                                                          onRet [Sh.one Kd.bool] a19 fun c6 =>
                                                                                                                            onB (!c6) (Post (AV.b false) h14)
                                                                                                                              (onO (intO BinOp.add IntKind.i64 n4 1) fun n52 =>
                                                                                                                                ∃ p19, ltN p19 p8 ∧ I0 p19 a12 c2 a9 n52 h14))
                                                                                                                        h8)))
                                                                                                h6)
                                                                                          h5)
                                                              (onO (lenV a4) fun p20 =>
                                                                onB (decide ((↑p20 : Int) = 0))
                                                                  (onO (lenV a3_1) fun p21 =>
                                                                    onO (lenV a1) fun p22 =>
                                                                      onB (decide ((↑p21 : Int) = ↑p22)) (wpC Try.prog 14 [] (fun a20 h15 => onRet [Sh.one Kd.bool] a20 fun c7 => Post (AV.b c7) h15) h2)
                                                                        (Post (AV.b false) h2))
                                                                  (Post (AV.b false) h2))))
                      h0)
                h)) := by kernel_rfl
noncomputable def withinI (a b : Int) : Int := a % 18446744073709551616 % b
theorem within_lt {a b : Int} (h : 0 < b) : 0 ≤ withinI a b ∧ withinI a b < b := ⟨Int.emod_nonneg _ (by omega), Int.emod_lt_of_pos _ h⟩
/-! ### cells -/
theorem idx_sl {b o len lo sz i : Nat} {ex : Bool} (h : i < len) : idxV (.sl b o len lo ex sz) (i : Int) sz = some (b, o + i * sz) := by
  show (cond (Nat.blt i len) (some (b, o + i * sz)) none : Option (Nat × Nat)) = _
  rw [blt_of h]; rfl
theorem rd1 {h : Hp} {b i : Nat} {cs : List AV} {c : AV} (e : h.g b = some cs) (hc : cs[i]? = some c) : rdH h b (0 + i * 1) 1 = some [c] := by
  obtain ⟨hi, rfl⟩ := List.getElem?_eq_some_iff.1 hc
  unfold rdH
  rw [e, Option.bind_some, sub_mk (by omega), Nat.zero_add, Nat.mul_one, List.drop_eq_getElem_cons hi]
  rfl
theorem splice1 {cs : List AV} {i : Nat} {x : AV} (h : i < cs.length) : splice cs (0 + i * 1) [x] = cs.set i x := by
  unfold splice
  rw [Nat.zero_add, Nat.mul_one, List.set_eq_take_append_cons_drop, if_pos h]
  simp
noncomputable def cellsI (v : List Int) : List AV := v.map fun x => .i .i64 x
theorem cells_row {h : Hp} {b n : Nat} {ex : Bool} {v : List Int} (e : h.g b = some (cellsI v)) (hn : v.length = n) (hr : ∀ x ∈ v, In64 x) : IR h (.sl b 0 n n ex 1) v := by
  refine ⟨intC v, ⟨fun c hc => ?_, rfl, by simp [intC, hn], Nat.le_refl _, .inr ?_⟩, ?_⟩
  · simp [intC] at hc
    obtain ⟨x, _, rfl⟩ := hc; rfl
  · have fl : ∀ (v : List Int), (intC v).flatten = cellsI v := by
      intro v
      induction v with
      | nil => rfl
      | cons x v ih => show [AV.i .i64 x] ++ (intC v).flatten = _; rw [ih]; rfl
    rw [fl]
    show rdH h b 0 ((intC v).length * 1) = _
    unfold rdH
    rw [e, Option.bind_some, sub_mk (by simp [intC, cellsI]), List.drop_zero, List.take_of_length_le (by simp [intC, cellsI])]
  · clear e hn
    induction v with
    | nil => exact .nil
    | cons x v ih => exact .cons ⟨rfl, hr x (by simp)⟩ (ih fun y hy => hr y (by simp [hy]))
/-! ### plain: who has heard what -/
noncomputable def CE (n : Nat) (all : List D.Op) : Prop := ∀ (k : Nat) (o : D.Op), all[k]? = some o → ∃ (r : Nat) (deps : List Int), r < n ∧ o = ⟨⟨(k : Int) + 1, r⟩, (cntR (all.take k) r : Int) + 1, deps, 1, ⟨(k : Int) + 1, r⟩, ⟨0, 0⟩, [107], 0, 0⟩ ∧ deps.length = n ∧ (∀ (j : Nat) (x : Int), deps[j]? = some x → 0 ≤ x ∧ x ≤ (cntR (all.take k) j : Int)) ∧ deps[r]? = some (cntR (all.take k) r : Int)
/-- what one has heard -/
noncomputable def MI (n : Nat) (all : List D.Op) (r : Nat) (v : List Int) : Prop := v.length = n ∧ (∀ (j : Nat) (x : Int), v[j]? = some x → 0 ≤ x ∧ x ≤ (cntR all j : Int)) ∧ v[r]? = some (cntR all r : Int)
theorem MI.in64 {n r : Nat} {all : List D.Op} {v : List Int} (m : MI n all r v) (hl : all.length ≤ 1000) : ∀ x ∈ v, In64 x := fun x hx => by
  obtain ⟨j, hj⟩ := List.getElem?_of_mem hx
  obtain ⟨h1, h2⟩ := m.2.1 j x hj
  have := cnt_le (l := all) (r := j)
  exact ⟨by omega, by omega⟩
theorem MI.hear {n r s k : Nat} {all : List D.Op} {v u : List Int} {x y : Int} (m : MI n all r v) (m2 : MI n all s u) (hx : v[k]? = some x) (hy : u[k]? = some y) : MI n all r (v.set k (max x y)) := by
  obtain ⟨h1, h2⟩ := m.2.1 k x hx
  obtain ⟨h3, h4⟩ := m2.2.1 k y hy
  have hk := (List.getElem?_eq_some_iff.1 hx).1
  refine ⟨by rw [List.length_set]; exact m.1, fun j z hz => ?_, ?_⟩
  · by_cases e : k = j
    · subst e
      rw [List.getElem?_set_self hk] at hz
      injection hz with hz
      omega
    · rw [List.getElem?_set_ne e] at hz; exact m.2.1 j z hz
  · by_cases e : k = r
    · subst e
      have := m.2.2
      rw [hx] at this; injection this with this
      rw [List.getElem?_set_self hk]
      congr 1; omega
    · rw [List.getElem?_set_ne e]; exact m.2.2
theorem cnt_snoc {all : List D.Op} {o : D.Op} {j : Nat} : cntR (all ++ [o]) j = cntR all j + if o.stamp.rep = (j : Int) then 1 else 0 := by
  unfold cntR
  rw [List.countP_append, List.countP_singleton]
  by_cases e : o.stamp.rep = (j : Int)
  · rw [if_pos e, if_pos (decide_eq_true e)]
  · rw [if_neg e, if_neg (by rw [decide_eq_false e]; simp)]
noncomputable def newO (i r : Nat) (all : List D.Op) (v : List Int) : D.Op := ⟨⟨(i : Int) + 1, r⟩, (cntR all r : Int) + 1, v, 1, ⟨(i : Int) + 1, r⟩, ⟨0, 0⟩, [107], 0, 0⟩
theorem CE.snoc {n r : Nat} {all : List D.Op} {v : List Int} (c : CE n all) (hr : r < n) (m : MI n all r v) : CE n (all ++ [newO all.length r all v]) := by
  intro k o hk
  by_cases e : k < all.length
  · rw [List.getElem?_append_left e] at hk
    have := c k o hk
    rw [List.take_append_of_le_length (by omega)]; exact this
  · have hk2 := (List.getElem?_eq_some_iff.1 hk).1
    simp at hk2
    have : k = all.length := by omega
    subst this
    rw [List.getElem?_append_right (by omega), Nat.sub_self] at hk
    simp at hk; subst hk
    rw [List.take_append_of_le_length (by omega), List.take_length]
    exact ⟨r, v, hr, rfl, m.1, m.2.1, m.2.2⟩
theorem MI.own {n r : Nat} {all : List D.Op} {v : List Int} (hr : r < n) (m : MI n all r v) : MI n (all ++ [newO all.length r all v]) r (v.set r ((cntR all r : Int) + 1)) := by
  have hv := (List.getElem?_eq_some_iff.1 m.2.2).1
  refine ⟨by rw [List.length_set]; exact m.1, fun j z hz => ?_, ?_⟩
  · rw [cnt_snoc]
    by_cases e : r = j
    · subst e
      rw [List.getElem?_set_self hv] at hz
      injection hz with hz
      rw [if_pos (show (newO all.length r all v).stamp.rep = (r : Int) from rfl)]; omega
    · rw [List.getElem?_set_ne e] at hz
      have := m.2.1 j z hz
      omega
  · rw [List.getElem?_set_self hv, cnt_snoc, if_pos (show (newO all.length r all v).stamp.rep = (r : Int) from rfl)]; rfl
theorem MI.other {n r r' i : Nat} {all : List D.Op} {v u : List Int} (hr : r' ≠ r) (m : MI n all r' u) : MI n (all ++ [newO i r all v]) r' u := by
  refine ⟨m.1, fun j z hz => ?_, ?_⟩
  · rw [cnt_snoc]
    have := m.2.1 j z hz
    omega
  · rw [cnt_snoc, if_neg (by show ¬ ((r : Int) = (r' : Int)); omega)]; exact m.2.2
/-- what a call added, and what was seen of the base -/
noncomputable def moreH (h h' B : Hp) : Hp := h'.res fun k => h.g k = none ∨ B.g k ≠ none
theorem more_le {h h' B : Hp} : (moreH h h' B).le h' := Hp.res_le _ _
theorem more_base {h h' B : Hp} (b : B.le h) (l : h.le h') : B.le (moreH h h' B) := fun k c e => by
  unfold moreH
  rw [Hp.res_in (.inr (by rw [e]; simp))]; exact l _ _ (b _ _ e)
theorem more_new {h h' B X : Hp} (l : X.le h') (d : Disj X h) : X.le (moreH h h' B) := fun k c e => by
  unfold moreH
  rw [Hp.res_in (.inl (d k c e))]; exact l _ _ e
theorem more_disj {h h' B q : Hp} (l : q.le h) (d : Disj q B) : Disj q (moreH h h' B) := fun k c e => by
  unfold moreH
  rw [Hp.res_out]
  rintro (h1 | h1)
  · rw [l k c e] at h1; cases h1
  · exact h1 (d k c e)
theorem more_none {h h' B : Hp} {k : Nat} (h1 : h.g k ≠ none) (h2 : B.g k = none) : (moreH h h' B).g k = none := by
  unfold moreH
  rw [Hp.res_out]
  rintro (h3 | h3)
  · exact h1 h3
  · exact h3 h2
structure IW (g : Hp) (n p3 : Nat) (p : Nat → Nat) (M : Nat → List Int) (a6 : AV) (all : List D.Op) (B qa h : Hp) (css : List (List AV)) : Prop where
  gB : g.le B
  glo : B.lo = g.lo
  Blo : B.lo = h.lo
  Bh : B.le h
  out : B.g p3 = some ((List.range n).map fun j => .sl (p j) 0 n n true 1)
  mx : ∀ j, j < n → h.g (p j) = some (cellsI (M j))
  ml : ∀ j, j < n → (M j).length = n
  plo : ∀ j, j < n → h.lo ≤ p j
  pB : ∀ j, j < n → B.g (p j) = none
  pa : ∀ j, j < n → qa.g (p j) = none
  inj : ∀ i j, i < n → j < n → p i = p j → i = j
  qlo : qa.lo = h.lo
  qf : Fresh (Hp.none h.lo) qa a6 12 css
  qh : qa.le h
  qB : Disj qa B
  kt : All2 (D.kOp.K B) all css
section
variable {g h B qa : Hp} {n p3 : Nat} {p : Nat → Nat} {M : Nat → List Int} {a6 : AV} {all : List D.Op} {css : List (List AV)} {Post : AV → Hp → Prop}
theorem IW.ref (w : IW g n p3 p M a6 all B qa h css) {r : Nat} (hr : r < n) {K : AV → Prop} (k : K (.sl (p r) 0 n n true 1)) : onO (idxV (.sl p3 0 n n true 1) (r : Int) 1) fun r3 => onO (rdH h r3.1 r3.2 1) fun l2 => onL [Kd.ref] l2 K :=
  onO.mk (idx_sl hr) (onO.mk (rd1 (w.Bh _ _ w.out) (c := .sl (p r) 0 n n true 1) (by simp [hr])) (onL.r1 rfl k))
theorem IW.row (w : IW g n p3 p M a6 all B qa h css) {r : Nat} (hr : r < n) (hm : MI n all r (M r)) (hl : all.length ≤ 1000) : IR h (.sl (p r) 0 n n true 1) (M r) := cells_row (w.mx r hr) (w.ml r hr) (hm.in64 hl)
theorem IW.num (w : IW g n p3 p M a6 all B qa h css) {r k : Nat} (hr : r < n) {x : Int} (hx : (M r)[k]? = some x) {K : Int → Prop} (q : K x) : onO (idxV (.sl (p r) 0 n n true 1) (k : Int) 1) fun r3 => onO (rdH h r3.1 r3.2 1) fun l2 => onL [Kd.int IntKind.i64] l2 K := by
  have hk := (List.getElem?_eq_some_iff.1 hx).1
  rw [w.ml r hr] at hk
  exact onO.mk (idx_sl hk) (onO.mk (rd1 (w.mx r hr) (c := .i .i64 x) (by unfold cellsI; simp [hx])) (onL.i1 q))
/-- a number of the matrix written -/
theorem IW.put (w : IW g n p3 p M a6 all B qa h css) {r k : Nat} (hr : r < n) {x y : Int} (hx : (M r)[k]? = some x) {all' : List D.Op} {Q : Option AV → Hp → Prop}
    (k2 : ∀ h', h' = h.put (p r) (cellsI ((M r).set k y)) → Q none h') : onO (idxV (.sl (p r) 0 n n true 1) (k : Int) 1) fun r3 => wpE (.w r3.1 r3.2 (.lit [.i .i64 y]) none) Q h := by
  have hk := (List.getElem?_eq_some_iff.1 hx).1
  have hk2 := hk
  rw [w.ml r hr] at hk
  refine onO.mk (idx_sl hk) (wpE.w (w.mx r hr) (w.plo r hr) rfl (by simp [cellsI]; omega) rfl (k2 _ ?_))
  rw [splice1 (by simpa [cellsI] using hk2)]
  unfold cellsI
  rw [List.map_set]
theorem IW.putW (w : IW g n p3 p M a6 all B qa h css) {r : Nat} (hr : r < n) {v : List Int} (hm : v.length = n) : IW g n p3 p (fun j => if j = r then v else M j) a6 all B qa (h.put (p r) (cellsI v)) css :=
  ⟨w.gB, w.glo, w.Blo, le_putN w.Bh (w.pB r hr), w.out, fun j hj => by
    by_cases e : j = r
    · subst e; simp only [if_pos rfl]; exact Hp.put_same _ _ _
    · simp only [if_neg e]; rw [Hp.put_ne _ _ (fun e' => e (w.inj _ _ hj hr e'))]; exact w.mx j hj, fun j hj => by
    by_cases e : j = r
    · subst e; simp only [if_pos rfl]; exact hm
    · simp only [if_neg e]; exact w.ml j hj, w.plo, w.pB, w.pa, w.inj, w.qlo, w.qf, le_putN w.qh (w.pa r hr), w.qB, w.kt⟩
theorem IW.more (w : IW g n p3 p M a6 all B qa h css) {h' : Hp} (le : h.le h') (lo : h'.lo = h.lo) : IW g n p3 p M a6 all (moreH h h' B) qa h' css :=
  have bb := more_base w.Bh le
  ⟨Hp.le_trans w.gB bb, lo.trans (w.Blo.symm.trans w.glo), rfl, more_le, bb _ _ w.out, fun j hj => le _ _ (w.mx j hj), w.ml, fun j hj => by rw [lo]; exact w.plo j hj, fun j hj => more_none (by rw [w.mx j hj]; simp) (w.pB j hj), w.pa, w.inj, w.qlo.trans lo.symm, by rw [lo]; exact w.qf, Hp.le_trans w.qh le, more_disj w.qh w.qB, w.kt.mono fun _ _ q => D.kOp.mono bb q⟩
/-- one more issued -/
theorem IW.app (w : IW g n p3 p M a6 all B qa h css) {o : D.Op} {d : AV} (ko : D.kOp.K B o (opC o d)) (hl : all.length ≤ 1000) {Q : Option AV → Hp → Prop}
    (k : ∀ r h' qa' css', IW g n p3 p M r (all ++ [o]) B qa' h' css' → Q (some r) h') : wpE (.app a6 1 (.lit (opC o d)) 12) Q h := by
  have hcl := w.kt.length
  have f := w.qf.outer (H := h) w.qh rfl
  refine f.app (n := 1) (css2 := [opC o d]) (src := .lit (opC o d)) (by simp [srcH]) (fun c' hc' => by simp at hc'; rw [hc']; rfl) rfl (by simpa using D.kOp.sc ko) (by omega) fun r h' f' => ?_
  obtain ⟨qa', q1, q2, q3, q4, q5⟩ := f'.part
  have lo' : h'.lo = h.lo := f'.lo
  have bR : B.le (restH h qa) := le_restH w.Bh w.qB
  have pR : ∀ j, j < n → (restH h qa).g (p j) = some (cellsI (M j)) := fun j hj => by
    show (match qa.g (p j) with | some _ => none | none => h.g (p j)) = _
    rw [w.pa j hj]; exact w.mx j hj
  exact k r h' qa' _ ⟨w.gB, w.glo, w.Blo.trans lo'.symm, Hp.le_trans bR f'.le, w.out, fun j hj => f'.le _ _ (pR j hj), w.ml, fun j hj => by rw [lo']; exact w.plo j hj, w.pB, fun j hj => q2.symm _ _ (pR j hj), w.inj, q3.trans lo'.symm, by rw [lo']; exact q5, q1, q2.le_right bR, w.kt.append (.cons ko .nil)⟩
end
section
variable {g h : Hp} {a b c d : AV} {v : List Int} {l m : List D.Op} {o p : D.Op} {Post : AV → Hp → Prop}
theorem c51w {a b : Int} (h0 : 0 < b) (h1 : b < 9223372036854775808) (k : Post (.i .i64 (withinI a b)) h) : wpC Try.prog 8 [.i .i64 a, .i .i64 b] Post h := by
  refine call_sound (args := [.ii .i64 a, .ii .i64 b]) (cuts := []) ⟨trivial, trivial, trivial⟩ ?_
  rw [vc8]
  have e : b % 18446744073709551616 = b := by omega
  have h2 := Int.emod_nonneg a (show (18446744073709551616 : Int) ≠ 0 by omega)
  refine onO.mk (wru64 _) (onO.mk (wru64 _) ?_)
  rw [e]
  have h3 : (a % 18446744073709551616).tmod b = (a % 18446744073709551616) % b := Int.tmod_eq_emod_of_nonneg h2
  obtain ⟨h4, h5⟩ := within_lt (a := a) h0
  refine onO.mk (rem64 (by omega)) ?_
  rw [h3]
  exact onO.mk (wr64 (by unfold withinI at h4; omega) (by unfold withinI at h5; omega)) k
end
theorem zeros_one {x : AV} : ∀ {n : Nat}, zerosV [x] n = List.replicate n x
  | 0 => rfl
  | n + 1 => by
    show [x] ++ zerosV [x] n = _
    rw [zeros_one, List.replicate_succ]; rfl
theorem cells_zero {n : Nat} : List.replicate n (AV.i .i64 0) = cellsI (List.replicate n 0) := by unfold cellsI; rw [List.map_replicate]
theorem MI.zero {n r : Nat} (hr : r < n) : MI n [] r (List.replicate n 0) := by
  refine ⟨by simp, fun j x hx => ?_, ?_⟩
  · rw [List.getElem?_replicate] at hx
    split at hx
    · injection hx with hx; subst hx; exact ⟨Int.le_refl _, Int.le_refl _⟩
    · cases hx
  · rw [List.getElem?_replicate, if_pos hr]; rfl
section
variable {g h B qa : Hp} {n p3 : Nat} {p : Nat → Nat} {M : Nat → List Int} {a6 : AV} {all : List D.Op} {css : List (List AV)} {Post : AV → Hp → Prop}
theorem newO_k {i r : Nat} {v : List Int} {h : Hp} {d : AV} (rd : IR h d v) (hi : i < 1000) (hr : r < 1000) (hl : all.length ≤ 1000) (hv : v.length ≤ 1000) : D.kOp.K h (newO i r all v) (opC (newO i r all v) d) := by
  have := cnt_le (l := all) (r := r)
  have z : In64 0 := ⟨by omega, by omega⟩
  exact op_mk (o := newO i r all v) ⟨by show _ ≤ (i : Int) + 1; omega, by show (i : Int) + 1 < _; omega⟩ ⟨by show _ ≤ (r : Int); omega, by show (r : Int) < _; omega⟩ ⟨by show _ ≤ (cntR all r : Int) + 1; omega, by show (cntR all r : Int) + 1 < _; omega⟩ rd (by show v.length * 8 ≤ _; omega) ⟨by show _ ≤ (1 : Int); omega, by show (1 : Int) < _; omega⟩ ⟨by show _ ≤ (i : Int) + 1; omega, by show (i : Int) + 1 < _; omega⟩ ⟨by show _ ≤ (r : Int); omega, by show (r : Int) < _; omega⟩ z z (by show 1 ≤ _; omega) (fun x hx => by have hx : x ∈ [107] := hx; simp at hx; omega) z z
theorem issue {i r : Nat} (w : IW g n p3 p M a6 all B qa h css) (hr : r < n) (hn : n ≤ 4) (hm : ∀ j, j < n → MI n all j (M j)) (hl : all.length = i) (hi : i < 16) {K : AV → Hp → Prop}
    (k : ∀ r7 h' M' B' qa' css', IW g n p3 p M' r7 (all ++ [newO i r all (M r)]) B' qa' h' css' → h'.lo = h.lo → (∀ j, j < n → MI n (all ++ [newO i r all (M r)]) j (M' j)) → K r7 h') :
    onO (intO BinOp.add IntKind.i64 (i : Int) 1) fun n13 => onO (idxV (AV.sl p3 0 n n true 1) (r : Int) 1) fun r9 => onO (rdH h r9.fst r9.snd 1) fun l7 => onL [Kd.ref] l7 fun a7 => onO (idxV a7 (r : Int) 1) fun r10 => onO (rdH h r10.fst r10.snd 1) fun l8 => onL [Kd.int IntKind.i64] l8 fun n14 => onO (intO BinOp.add IntKind.i64 n14 1) fun n15 =>
      onO (idxV (AV.sl p3 0 n n true 1) (r : Int) 1) fun r11 => onO (rdH h r11.fst r11.snd 1) fun l9 => onL [Kd.ref] l9 fun a8 => wpC Try.prog 19 [a8] (fun a9 h9 => onRet [Sh.one Kd.ref] a9 fun a10 => sameH h h9 r10.fst r10.snd 1 ∧ sameH h h9 r9.fst r9.snd 1 ∧ onO (intO BinOp.add IntKind.i64 (i : Int) 1) fun n16 => ∀ (p17 : Nat),
        onO (idxV (AV.sl p3 0 n n true 1) (r : Int) 1) fun r12 => onO (rdH h9 r12.fst r12.snd 1) fun l10 => onL [Kd.ref] l10 fun a11 => onO (idxV a11 (r : Int) 1) fun r13 => onO (rdH h9 r13.fst r13.snd 1) fun l11 => onL [Kd.int IntKind.i64] l11 fun n17 => onO (intO BinOp.add IntKind.i64 n17 1) fun n18 => onO (idxV a11 (r : Int) 1) fun r14 =>
          wpE (Eff.w r14.fst r14.snd (Src.lit [AV.i IntKind.i64 n18]) none) (fun x2 h10 => ∀ (p18 : Nat), wpE (Eff.app a6 1 (Src.lit [AV.i IntKind.i64 n13, AV.i IntKind.i64 (r : Int), AV.i IntKind.i64 n15, a10, AV.i IntKind.i64 1, AV.i IntKind.i64 n16, AV.i IntKind.i64 (r : Int), AV.i IntKind.i64 0, AV.i IntKind.i64 0, AV.s [107], AV.i IntKind.i64 0, AV.i IntKind.i64 0]) 12) (fun x3 h11 => onO x3 fun a12 => K a12 h11) h10) h9) h := by
  have mr := hm r hr
  have hc := cnt_le (l := all) (r := r)
  have ei : ((i : Int) + 1) < 9223372036854775808 := by omega
  have o1 : p3 = p3 := rfl
  have rr1 : ∀ {H : Hp}, B.le H → rdH H p3 (0 + r * 1) 1 = some [.sl (p r) 0 n n true 1] := fun {H} le => rd1 (le _ _ w.out) (by simp [hr])
  have hx : (M r)[r]? = some (cntR all r : Int) := mr.2.2
  have rr2 : rdH h (p r) (0 + r * 1) 1 = some [.i .i64 (cntR all r : Int)] := rd1 (w.mx r hr) (by unfold cellsI; simp [hx])
  refine onO.mk (add64 (by omega) ei) (onO.mk (idx_sl hr) (onO.mk (rr1 w.Bh) (onL.r1 rfl (onO.mk (idx_sl hr) (onO.mk rr2 (onL.i1 (onO.mk (add64 (by omega) (by omega)) (onO.mk (idx_sl hr) (onO.mk (rr1 w.Bh) (onL.r1 rfl ?_))))))))))
  refine c19 (w.row hr mr (by omega)) (by rw [mr.1]; omega) fun d h9 o9 => onRet.r o9.sc ⟨onO.mk rr2 (rdH_le o9.le rr2), onO.mk (rr1 w.Bh) (rdH_le o9.le (rr1 w.Bh)), ?_⟩
  have w9 := w.more o9.le o9.lo
  obtain ⟨qd, d1, d2, d3⟩ := IntP.of o9
  have rdB : IR (moreH h h9 B) d (M r) := d3.row (more_new d1 d2)
  refine onO.mk (add64 (by omega) ei) fun _ => ?_
  have rr3 : rdH h9 (p r) (0 + r * 1) 1 = some [.i .i64 (cntR all r : Int)] := rdH_le o9.le rr2
  refine onO.mk (idx_sl hr) (onO.mk (rr1 (Hp.le_trans w.Bh o9.le)) (onL.r1 rfl (onO.mk (idx_sl hr) (onO.mk rr3 (onL.i1 (onO.mk (add64 (by omega) (by omega)) ?_))))))
  refine w9.put (all' := all) hr hx fun h10 eh10 => fun _ => ?_
  have w10 := w9.putW (v := (M r).set r ((cntR all r : Int) + 1)) hr (by rw [List.length_set]; exact mr.1)
  rw [← eh10] at w10
  refine w10.app (o := newO i r all (M r)) (newO_k rdB (by omega) (by omega) (by omega) (by rw [mr.1]; omega)) (by omega) fun r7 h' qa' css' w11 => onO.mk rfl (k r7 h' _ _ qa' css' w11 ?_ fun j hj => ?_)
  · exact w11.Blo.symm.trans (show h9.lo = h.lo from o9.lo)
  · by_cases e : j = r
    · subst e
      simp only [if_pos rfl]
      rw [← hl]
      exact MI.own hj mr
    · simp only [if_neg e]
      exact (hm j hj).other e
end
section
variable {g h : Hp} {a1 a2 a3 : AV} {who hears order : List Int} {Post : AV → Hp → Prop}
theorem issued {a0 : Int} (r1 : IR h a1 who) (r2 : IR h a2 hears) (r3 : a3.sc = true) (b1 : who.length < 1000000) (b2 : hears.length < 1000000) (k : ∀ r h' all, h.le h' → h'.lo = h.lo → OpRow h' r all → Causal (1 + withinI a0 4).toNat all → Post r h') :
    wpC Try.prog 7 [.agg [.i .i64 a0, a1, a2, a3], .i .i64 16] Post h := by
  refine call_sound (args := [.ag [.ii .i64 a0, .vv a1, .vv a2, .vv a3], .ii .i64 16]) (cuts := [19000039]) ⟨⟨trivial, r1.sc, r2.sc, r3, trivial⟩, trivial, trivial⟩ ?_
  rw [vc7]
  obtain ⟨w1, w2⟩ := within_lt (a := a0) (b := 4) (by omega)
  refine fun _ => c51w (by omega) (by omega) (onRet.i (onO.mk (add64 (by omega) (by omega)) ?_))
  obtain ⟨n, hn⟩ : ∃ n : Nat, 1 + withinI a0 4 = n := ⟨(1 + withinI a0 4).toNat, by omega⟩
  rw [hn] at k ⊢
  rw [Int.toNat_natCast] at k
  have n1 : 1 ≤ n := by omega
  have n4 : n ≤ 4 := by omega
  have cond24 : ∀ z, z ≤ 24 → (Nat.ble n n && (n * z).ble (OfNat.ofNat 1073741824) && n.blt 1073741824) = true := fun z hz => by
    rw [Nat.ble_eq_true_of_le (Nat.le_refl n), Nat.ble_eq_true_of_le (show n * z ≤ 1073741824 from Nat.le_trans (Nat.mul_le_mul n4 hz) (by omega)), blt_of (show n < 1073741824 by omega)]; rfl
  refine onO.mk natI_of (onO.mk natI_of (onC.mk (cond24 24 (by omega)) fun p3 hp3 hlo3 => ?_))
  have hlo3 : h.lo ≤ p3 := hlo3
  refine ⟨fun m n2 h' => ∃ (i : Nat) (p : Nat → Nat), n2 = i ∧ i ≤ n ∧ m = n - i ∧ h.le h' ∧ h'.lo = h.lo ∧ h'.g p3 = some ((List.range i).map (fun j => AV.sl (p j) 0 n n true 1) ++ List.replicate (n - i) .ns) ∧ (∀ j, j < i → h'.g (p j) = some (cellsI (List.replicate n 0)) ∧ h.lo ≤ p j ∧ h.g (p j) = none ∧ p j ≠ p3) ∧ (∀ j k, j < i → k < i → p j = p k → j = k),
    ⟨n, 0, fun _ => 0, rfl, by omega, rfl, Hp.le_put hp3, rfl, by rw [Hp.put_same, zeros_one]; simp, fun j hj => by omega, fun j k hj => by omega⟩, ?_⟩
  rintro m h1 _ ⟨i, p, rfl, hi, rfl, le1, lo1, hout, hrows, hinj⟩
  refine onB.dec (fun e => ?_) (fun e => ?_)
  · refine onO.mk natI_of (onO.mk natI_of (onC.mk (cond24 8 (by omega)) fun p8 hp8 hlo8 => ?_))
    have hlo8 : h1.lo ≤ p8 := hlo8
    have hne : p3 ≠ p8 := fun e => by rw [e, hp8] at hout; cases hout
    have hout2 : (h1.put p8 (zerosV [AV.i .i64 0] n)).g p3 = some ((List.range i).map (fun j => AV.sl (p j) 0 n n true 1) ++ List.replicate (n - i) .ns) := by rw [Hp.put_ne _ _ hne]; exact hout
    refine onO.mk (idx_sl (by omega)) (wpE.w hout2 (by show h1.lo ≤ p3; omega) rfl (by simp; omega) rfl (onO.mk (inc64 (by omega)) ⟨_, by show n - (i + 1) < n - i; omega, i + 1, fun j => if j = i then p8 else p j, rfl, by omega, rfl, ?_, lo1, ?_, ?_, ?_⟩))
    · have : h.le (h1.put p8 (zerosV [AV.i .i64 0] n)) := Hp.le_trans le1 (Hp.le_put hp8)
      exact le_putN this hp3
    · rw [Hp.put_same, splice1 (by simp; omega)]
      congr 1
      rw [List.set_append_right _ _ (by simp), List.length_map, List.length_range, Nat.sub_self, show n - i = (n - (i + 1)) + 1 by omega, List.replicate_succ, List.set_cons_zero, List.range_succ, List.map_append]
      have e1 : (List.range i).map (fun j => AV.sl (if j = i then p8 else p j) 0 n n true 1) = (List.range i).map (fun j => AV.sl (p j) 0 n n true 1) := List.map_congr_left fun j hj => by rw [if_neg (by have := List.mem_range.1 hj; omega)]
      rw [e1]
      simp
    · intro j hj
      by_cases e2 : j = i
      · simp only [if_pos e2]
        refine ⟨by rw [Hp.put_ne _ _ (Ne.symm hne), Hp.put_same, zeros_one, cells_zero], by omega, le_none le1 hp8, Ne.symm hne⟩
      · simp only [if_neg e2]
        obtain ⟨q1, q2, q3, q4⟩ := hrows j (by omega)
        have : p j ≠ p8 := fun e => by rw [e, hp8] at q1; cases q1
        exact ⟨by rw [Hp.put_ne _ _ q4, Hp.put_ne _ _ this]; exact q1, q2, q3, q4⟩
    · intro j k hj hk hjk
      by_cases e2 : j = i
      · by_cases e3 : k = i
        · omega
        · simp only [if_pos e2, if_neg e3] at hjk
          have := (hrows k (by omega)).1
          rw [← hjk, hp8] at this; cases this
      · by_cases e3 : k = i
        · simp only [if_neg e2, if_pos e3] at hjk
          have := (hrows j (by omega)).1
          rw [hjk, hp8] at this; cases this
        · simp only [if_neg e2, if_neg e3] at hjk
          exact hinj j k (by omega) (by omega) hjk
  · have : i = n := by omega
    subst this
    rw [Nat.sub_self] at hout
    have hout : h1.g p3 = some ((List.range i).map fun j => AV.sl (p j) 0 i i true 1) := by rw [hout]; simp
    have w0 : IW h i p3 p (fun _ => List.replicate i 0) .ns [] (h.put p3 ((List.range i).map fun j => AV.sl (p j) 0 i i true 1)) (Hp.none h1.lo) h1 [] :=
      ⟨Hp.le_put hp3, rfl, lo1.symm, fun q c e => by
        by_cases hq : q = p3
        · subst hq; rw [Hp.put_same] at e; rw [hout]; exact e
        · rw [Hp.put_ne _ _ hq] at e; exact le1 _ _ e, Hp.put_same _ _ _, fun j hj => (hrows j hj).1, fun j hj => by simp, fun j hj => by rw [lo1]; exact (hrows j hj).2.1, fun j hj => by rw [Hp.put_ne _ _ (hrows j hj).2.2.2]; exact (hrows j hj).2.2.1, fun j hj => rfl, hinj, rfl, Fresh.nil _ _, none_le _ _, none_disj, .nil⟩
    refine ⟨fun m a6 n4 h' => ∃ (t : Nat) (M : Nat → List Int) (all : List D.Op) (B qa : Hp) (css : List (List AV)), n4 = t ∧ t ≤ 16 ∧ m = 20 - t ∧ all.length = t ∧ h'.lo = h.lo ∧ CE i all ∧ (∀ j, j < i → MI i all j (M j)) ∧ IW h i p3 p M a6 all B qa h' css,
      ⟨20, 0, _, [], _, _, [], rfl, by omega, rfl, rfl, lo1, fun k o hk => by simp at hk, fun j hj => MI.zero hj, w0⟩, ?_⟩
    clear w0 hout hrows hi e
    rintro m h3 a6 _ _ ⟨t, M, all, B, qa, css, rfl, ht, rfl, hall, lo3, ce, hm, w⟩
    have L3 : h.le h3 := Hp.le_trans w.gB w.Bh
    refine ⟨fun c h' => h3 = h' ∧ (c = true → t < who.length ∧ t < 16), onO.mk (r1.mono L3).len (onB.dec (fun e1 => ⟨rfl, fun e2 => ⟨by omega, by have := of_decide_eq_true e2; omega⟩⟩) (fun e1 => ⟨rfl, fun e2 => by cases e2⟩)), ?_⟩
    rintro _ c0 ⟨rfl, hc0⟩
    refine onB.mk (fun e1 => ?_) (fun e1 => k a6 h3 all L3 lo3 ⟨css, w.qf.row.mono w.qh, w.kt.mono fun _ _ q => D.kOp.mono w.Bh q⟩ ⟨n1, n4, by omega, ce⟩)
    obtain ⟨e2, e3⟩ := hc0 e1
    obtain ⟨x, hx⟩ := get_lt (l := who) (k := t) e2
    obtain ⟨q1, q2⟩ := within_lt (a := x) (b := (i : Int)) (by omega)
    refine int0 (r1.mono L3) hx (c51w (by omega) (by omega) (onRet.i ?_))
    obtain ⟨r, hr⟩ : ∃ r : Nat, withinI x i = r := ⟨(withinI x i).toNat, by omega⟩
    rw [hr]
    have hri : r < i := by omega
    have tail : ∀ {h7 : Hp} {M : Nat → List Int}, h7.lo = h.lo → (∀ j, j < i → MI i all j (M j)) → IW h i p3 p M a6 all B qa h7 css → ∀ r7 h' M' B' qa' css', IW h i p3 p M' r7 (all ++ [newO t r all (M r)]) B' qa' h' css' → h'.lo = h7.lo → (∀ j, j < i → MI i (all ++ [newO t r all (M r)]) j (M' j)) → onO (intO BinOp.add IntKind.i64 (t : Int) 1) fun n19 => ∃ p19, ltN p19 (20 - t) ∧ ∃ (t : Nat) (M : Nat → List Int) (all : List D.Op) (B qa : Hp) (css : List (List AV)), n19 = t ∧ t ≤ 16 ∧ p19 = 20 - t ∧ all.length = t ∧ h'.lo = h.lo ∧ CE i all ∧ (∀ j, j < i → MI i all j (M j)) ∧ IW h i p3 p M r7 all B qa h' css :=
      fun {h7 M} lo7 hm7 w7 r7 h' M' B' qa' css' w8 lo8 hm8 => onO.mk (inc64 (by omega)) ⟨_, by show 20 - (t + 1) < 20 - t; omega, t + 1, M', _, B', qa', css', rfl, by omega, rfl, by simp; omega, lo8.trans lo7, by rw [← hall]; exact ce.snoc hri (hm7 r hri), hm8, w8⟩
    refine onO.mk (r2.mono L3).len (onB.dec (fun e4 => ?_) (fun e4 => issue w hri n4 hm hall e3 (tail lo3 hm w)))
    obtain ⟨y, hy⟩ := get_lt (l := hears) (k := t) (by omega)
    obtain ⟨q3, q4⟩ := within_lt (a := y) (b := (i : Int)) (by omega)
    refine int0 (r2.mono L3) hy (c51w (by omega) (by omega) (onRet.i ?_))
    obtain ⟨s, hs⟩ : ∃ s : Nat, withinI y i = s := ⟨(withinI y i).toNat, by omega⟩
    rw [hs]
    have hsi : s < i := by omega
    refine ⟨fun m n9 h' => ∃ (u : Nat) (M : Nat → List Int), n9 = u ∧ u ≤ i ∧ m = i - u ∧ h'.lo = h.lo ∧ (∀ j, j < i → MI i all j (M j)) ∧ IW h i p3 p M a6 all B qa h' css, ⟨i, 0, M, rfl, by omega, rfl, lo3, hm, w⟩, ?_⟩
    rintro m h7 _ ⟨u, M2, rfl, hu, rfl, lo7, hm7, w7⟩
    refine onB.dec (fun e5 => ?_) (fun e5 => issue w7 hri n4 hm7 hall e3 (tail lo7 hm7 w7))
    obtain ⟨x1, hx1⟩ := get_lt (l := M2 r) (k := u) (by rw [w7.ml r hri]; omega)
    obtain ⟨x2, hx2⟩ := get_lt (l := M2 s) (k := u) (by rw [w7.ml s hsi]; omega)
    refine w7.ref hri (w7.ref hri (w7.num hri hx1 (w7.ref hsi (w7.num hsi hx2 (w7.put (all' := all) hri hx1 fun h8 eh8 => onO.mk (inc64 (by omega)) ⟨_, by show i - (u + 1) < i - u; omega, u + 1, fun j => if j = r then (M2 r).set u (max x1 x2) else M2 j, rfl, by omega, rfl, by rw [eh8]; exact lo7, fun j hj => ?_, by rw [eh8]; exact w7.putW hri (by rw [List.length_set]; exact w7.ml r hri)⟩)))))
    by_cases ej : j = r
    · subst ej; simp only [if_pos rfl]; exact (hm7 j hj).hear (hm7 s hsi) hx1 hx2
    · simp only [if_neg ej]; exact hm7 j hj
end
structure D.Story where
  reps : Int
  who : List Int
  hears : List Int
  order : List Int
deriving DecidableEq
noncomputable def D.kStory : Kn D.Story := Kn.iso (Kn.pair Kn.int (Kn.pair (Kn.slice Kn.int 8) (Kn.pair (Kn.slice Kn.int 8) (Kn.slice Kn.int 8)))) fun s => (s.reps, s.who, s.hears, s.order)
theorem D.oStory : Opens Try.prog 24 D.kStory := opens_struct (P := Try.prog) (t := 24) Try.underlying24 (by kernel_rfl) (by kernel_rfl) (opens_cons (opens_int (P := Try.prog) Try.underlying3) (opens_cons (opens_slice (P := Try.prog) 8 Try.underlying22 (by kernel_rfl) (by decide) (by kernel_rfl) (opens_int (P := Try.prog) Try.underlying3)) (opens_cons (opens_slice (P := Try.prog) 8 Try.underlying22 (by kernel_rfl) (by decide) (by kernel_rfl) (opens_int (P := Try.prog) Try.underlying3)) (opens_one (opens_slice (P := Try.prog) 8 Try.underlying22 (by kernel_rfl) (by decide) (by kernel_rfl) (opens_int (P := Try.prog) Try.underlying3)))))) _ (fun a => ⟨a.1, a.2.1, a.2.2.1, a.2.2.2⟩) fun _ => rfl
theorem D.kStory_open {h : Hp} {s : D.Story} {cs : List AV} (k : D.kStory.K h s cs) : ∃ a0 a1 a2, cs = [.i .i64 s.reps, a0, a1, a2] ∧ (Kn.int.Row h a0 s.who ∧ s.who.length * 8 ≤ 140737488351232) ∧ (Kn.int.Row h a1 s.hears ∧ s.hears.length * 8 ≤ 140737488351232) ∧ (Kn.int.Row h a2 s.order ∧ s.order.length * 8 ≤ 140737488351232) := by
  obtain ⟨c0, r0, e0, q0, c1, r1, e1, q1, c2, r2, e2, q2, q3⟩ := k
  obtain ⟨z0, f0⟩ := q0
  obtain ⟨b1, z1, f1⟩ := q1
  obtain ⟨b2, z2, f2⟩ := q2
  obtain ⟨b3, z3, f3⟩ := q3
  refine ⟨b1, b2, b3, ?_, f1, f2, f3⟩
  rw [e0, z0, e1, z1, e2, z2, z3]; rfl
theorem rem64n {a b : Nat} (hb : 0 < b) (ha : a < 1000000) : intO .rem .i64 (a : Int) (b : Int) = some ((a % b : Nat) : Int) := by
  have : eqI (b : Int) 0 = false := by
    cases b with
    | zero => omega
    | succ n => rfl
  have e : (a : Int).tmod b = ((a % b : Nat) : Int) := by rw [Int.tmod_eq_emod_of_nonneg (by omega)]; rfl
  unfold intO intA
  simp only [this, cond_false]
  first
    | rw [e]
    | (rw [e, wrap64 (by omega) (by have := Nat.mod_lt a hb; omega)])
section
variable {g h : Hp} {a b c d : AV} {v w : List Int} {l m t : List D.Op} {o p : D.Op} {css : List (List AV)} {Post : AV → Hp → Prop}
theorem intC_flat : ∀ (v : List Int), (intC v).flatten = cellsI v
  | [] => rfl
  | x :: v => by show [AV.i .i64 x] ++ (intC v).flatten = _; rw [intC_flat v]; rfl
theorem opRef {h1 : Hp} (r : OpRow h a l) (le : h.le h1) {k : Nat} (e : l[k]? = some o) {K : AV → Prop} (q : ∀ d, IR h d o.deps → K d) : onO (idxV a (k : Int) 12) fun r0 => onO (rdH h1 r0.1 (r0.2 + 3) 1) fun l0 => onL [Kd.ref] l0 K := by
  obtain ⟨b, p, c, e1, e2, e3⟩ := r.idx (i := (k : Int)) (Int.natCast_nonneg k) (by simpa using e)
  obtain ⟨d, rfl, e4⟩ := op_cells e3
  exact onO.mk e1 (onO.mk (rdH_le le (rdH_sub e2 (o' := 3) (n' := 1) (r := [d]) rfl)) (onL.r1 e4.sc (q d e4)))
theorem RW.more {B qv : Hp} {a1 a18 a19 : AV} (x : RW g B qv h a1 a18 a19 v l t css) {h' : Hp} (le : h.le h') (lo : h'.lo = h.lo) {r : AV} {l' : List D.Op} (rl : OpRow (moreH h h' B) r l') : RW g (moreH h h' B) qv h' a1 a18 r v l' t css := by
  have bb := more_base x.leB le
  have dv := more_disj (h' := h') x.leV x.dj
  refine ⟨Hp.le_trans x.gB bb, lo.trans (x.Blo.symm.trans x.glo), rfl, by rw [lo]; exact x.pv, dv, rl, ?_, x.kt.mono fun _ _ q => D.kOp.mono bb q⟩
  have le' : (qv.add (moreH h h' B)).le h' := fun k c e => by
    rcases add_cases e with e | e
    · exact le _ _ (x.leV _ _ e)
    · exact more_le _ _ e
  refine fresh_move x.f le' rfl (by show h'.lo = B.lo; rw [lo, x.Blo]) fun b of len lo ex z e => ?_
  obtain ⟨n1, n2, cs, n3, n4⟩ := x.f.new _ _ _ _ _ _ e
  obtain ⟨m1, m2⟩ := add_none2 n1
  exact ⟨addH_none m1 (more_none (by rw [n3]; simp) m2), by rw [le _ _ n3, n3]⟩
theorem chain_nil (h : Chain v [] w) : v = w := h
theorem chain_cons {x : D.Op} (h : Chain v (x :: t) w) : fitsO v x = true ∧ readyV v x = true ∧ Chain (setV v x) t w := h
theorem zero_sit {n : Nat} {all : List D.Op} (c : Causal n all) : Sit n all [] (List.replicate n 0) := by
  have h1 := c.n1
  have h4 := c.n4
  have g0 : ∀ j, (List.replicate n (0 : Int)).getD j 0 = 0 := fun j => by
    rw [List.getD_eq_getElem?_getD, List.getElem?_replicate]
    split <;> rfl
  refine ⟨by simp, ?_, ⟨by simp, fun x hx => (by cases hx), fun x hx => (by cases hx), fun x hx => (by cases hx), fun i j x y _ hx => (by simp at hx), fun i j x y _ hx => (by simp at hx)⟩, fun x hx => (by cases hx), fun j hj => by rw [g0]; omega, fun j => by rw [g0]; omega⟩
  unfold vecV
  simp only [Bool.and_eq_true, decide_eq_true_eq, List.all_eq_true, List.length_replicate]
  refine ⟨fun x hx => ?_, h1, by omega⟩
  rw [(List.mem_replicate.1 hx).2]; decide
theorem D.lawHoldOrders {x : D.Story} {cells : List AV} (kx : D.kStory.K h x cells) : wpC Try.prog 3 [.agg cells] (fun v _ => v = .b true) h := by
  obtain ⟨a1, a2, a3, rfl, ⟨r1, b1⟩, ⟨r2, b2⟩, ⟨r3, b3⟩⟩ := D.kStory_open kx
  refine call_sound (args := [.ag [.ii .i64 x.reps, .vv a1, .vv a2, .vv a3]]) (cuts := [23000057, 26999999, 39000120]) ⟨⟨trivial, r1.sc, r2.sc, r3.sc, trivial⟩, trivial⟩ ?_
  rw [vc3]
  refine fun _ => onO.mk r1.len (onO.mk r2.len (onO.mk (add64 (by omega) (by omega)) (onO.mk r3.len (onO.mk (add64 (by omega) (by omega)) (onB.dec (fun _ => rfl) (fun e0 => ?_))))))
  refine issued r1 r2 r3.sc (by omega) (by omega) fun ra h0 all le0 lo0 rall ca => onRet.r rall.sc ?_
  obtain ⟨w1, w2⟩ := within_lt (a := x.reps) (b := 4) (by omega)
  refine c51w (by omega) (by omega) (onRet.i (onO.mk (add64 (by omega) (by omega)) ?_))
  obtain ⟨n, hn⟩ : ∃ n : Nat, 1 + withinI x.reps 4 = n := ⟨(1 + withinI x.reps 4).toNat, by omega⟩
  rw [hn] at ca ⊢
  rw [Int.toNat_natCast] at ca
  have n1 := ca.n1
  have n4 := ca.n4
  have hN := ca.len
  refine onO.mk natI_of (onO.mk natI_of (onC.mk ?_ fun p6 hp6 hlo6 => ?_))
  · rw [Nat.ble_eq_true_of_le (Nat.le_refl n), Nat.ble_eq_true_of_le (show n * 8 ≤ 1073741824 by omega), blt_of (show n < 1073741824 by omega)]; rfl
  have hlo6 : h0.lo ≤ p6 := hlo6
  have ez : zerosV [AV.i .i64 0] n = cellsI (List.replicate n 0) := by rw [zeros_one, cells_zero]
  have rz : IR (h0.put p6 (cellsI (List.replicate n 0))) (.sl p6 0 n n true 1) (List.replicate n 0) := cells_row (Hp.put_same _ _ _) (by simp) fun x hx => by rw [(List.mem_replicate.1 hx).2]; exact ⟨by omega, by omega⟩
  have ov : Kn.int.Own h0 (h0.put p6 (cellsI (List.replicate n 0))) (.sl p6 0 n n true 1) (List.replicate n 0) :=
    ⟨h0, intC (List.replicate n 0), Hp.le_refl _, rfl, Fresh.put (css := intC (List.replicate n 0)) (sz := 1) (len := n) (Hp.le_refl _) rfl hp6 hlo6 true (fun c hc => by simp [intC] at hc; obtain ⟨_, rfl⟩ := hc; rfl) (by simp [intC]) (intC_flat _).symm, ints_all rz⟩
  rw [ez]
  obtain ⟨qv, v1, v2, v3⟩ := IntP.of ov
  have lv : h0.le (h0.put p6 (cellsI (List.replicate n 0))) := Hp.le_put hp6
  have sit0 := zero_sit ca
  have rw0 : RW h0 h0 qv (h0.put p6 (cellsI (List.replicate n 0))) (.sl p6 0 n n true 1) .ns .ns (List.replicate n 0) [] [] [] :=
    ⟨Hp.le_refl _, rfl, rfl, v3, v2, nsO, ⟨fun k c e => by
      rcases add_cases e with e | e
      · exact v1 k c e
      · exact lv k c e, rfl, ⟨fun c hc => (by cases hc), rfl⟩, fun _ _ _ _ _ _ e => (by cases e)⟩, .nil⟩
  refine ⟨fun m a18 _ a19 n4 h' => ∃ (B qv : Hp) (css : List (List AV)) (v : List Int) (held done : List D.Op) (i : Nat), n4 = i ∧ i ≤ 3 * all.length ∧ m = 3 * all.length - i ∧ Sit n all held v ∧ sumI v = done.length ∧ Took all v (i - 2 * all.length) ∧ done.length ≤ 100 * i ∧ RW h0 B qv h' (.sl p6 0 n n true 1) a18 a19 v held done css,
    ⟨_, h0, qv, [], _, [], [], 0, rfl, Nat.zero_le _, rfl, sit0, by rw [sum_zero]; rfl, fun i x hi => by omega, Nat.zero_le _, rw0⟩, ?_⟩
  clear rw0 sit0 lv v1 v2 v3 ov rz ez
  rintro m h2 a18 _ _ a19 _ _ ⟨B, qv, css, v, held, done, i, rfl, hi, rfl, sit, hsum, tk, hdl, w⟩
  have L2 : h0.le h2 := Hp.le_trans w.gB w.leB
  have rall2 := rall.mono L2
  have mul : ∀ z : Nat, z ≤ 3 → intO .mul .i64 (z : Int) (all.length : Int) = some ((z * all.length : Nat) : Int) := fun z hz => by
    have : z * all.length ≤ 3 * 16 := Nat.mul_le_mul hz hN
    have e : (z : Int) * (all.length : Int) = ((z * all.length : Nat) : Int) := by rw [Int.natCast_mul]
    rw [mul64 (by rw [e]; omega) (by rw [e]; omega), e]
  refine onO.mk rall2.len (onO.mk (mul 3 (by omega)) (onB.dec (fun e => ?_) (fun e => ?_)))
  rotate_left
  · have ei : i = 3 * all.length := by omega
    rw [ei, show 3 * all.length - 2 * all.length = all.length by omega] at tk
    obtain ⟨d1, d2⟩ := all_done ca sit tk
    subst d1
    have hcl := w.kt.length
    have hl : lenV a18 = some done.length := by rw [hcl]; exact w.f.row.len
    refine onO.mk w.rl.len (onB.pos rfl (onO.mk hl (onO.mk rall2.len (onB.pos (decide_eq_true (by omega)) (c14 fun h' => onRet.b rfl)))))
  have hN1 : 0 < all.length := by omega
  refine onO.mk rall2.len (onO.mk (rem64n hN1 (by omega)) ?_)
  refine ⟨fun c h' => h2 = h' ∧ (c = true → i < x.order.length ∧ i < 2 * all.length), onO.mk (r3.mono (Hp.le_trans le0 L2)).len (onB.dec (fun e1 => onO.mk rall2.len (onO.mk (mul 2 (by omega)) ⟨rfl, fun e2 => ⟨by omega, by have := of_decide_eq_true e2; omega⟩⟩)) (fun e1 => ⟨rfl, fun e2 => by cases e2⟩)), ?_⟩
  rintro _ c1 ⟨rfl, hc1⟩
  refine ⟨fun z h' => h2 = h' ∧ ∃ k : Nat, z = k ∧ k < all.length ∧ (2 * all.length ≤ i → k = i - 2 * all.length), onB.mk (fun e1 => ?_) (fun e1 => ⟨rfl, i % all.length, rfl, Nat.mod_lt _ hN1, fun e2 => ?_⟩), ?_⟩
  · obtain ⟨e2, e3⟩ := hc1 e1
    obtain ⟨y, hy⟩ := get_lt (l := x.order) (k := i) e2
    obtain ⟨q1, q2⟩ := within_lt (a := y) (b := (all.length : Int)) (by omega)
    exact int0 (r3.mono (Hp.le_trans le0 L2)) hy (onO.mk rall2.len (c51w (by omega) (by omega) (onRet.i ⟨rfl, (withinI y all.length).toNat, by omega, by omega, fun e4 => by omega⟩)))
  · have e3 : i = 2 * all.length + (i - 2 * all.length) := by omega
    rw [e3, Nat.mul_comm, Nat.mul_add_mod, Nat.mod_eq_of_lt (by omega)]
    omega
  rintro _ _ ⟨rfl, k, rfl, hk, hkl⟩
  obtain ⟨o, ho⟩ := get_lt (l := all) (k := k) hk
  have hom := List.mem_of_getElem? ho
  obtain ⟨w', l', t, e1, sit', hch, hta⟩ := sit_next ca sit hom
  have hfo : fitsO v o = true := ca.may hom sit.vl
  have hcond : (vecV v && (mayH v held && fitsO v o)) = true := by rw [sit.vv, mayH_true (R_may sit.mr), hfo]; rfl
  have hdep : ∀ y ∈ all, y.deps.length = n := fun y hy => by
    obtain ⟨_, _, _, _, _, e, _⟩ := fits_rep (ca.may hy sit.vl)
    rw [e, sit.vl]
  have hhl := sit.mr.len
  refine opW rall L2 ho fun d rd0 kx0 => ?_
  refine c9 (w.pv.row w.leV) (w.rl.mono w.leB) (rd0.mono L2) (D.kOp.mono L2 kx0) (by rw [sit.vl]; omega) (by omega) (fun y hy => by rw [hdep y (sit.sub y hy)]; omega) (by rw [hdep o hom]; omega) (fun e => by rw [hcond] at e; cases e) (fun _ e => by rw [e1] at e; cases e) (fun _ w2 s2 t2 e2 b1 b2 b3 h6 q1 q2 q3 X => ?_)
  rw [e1] at e2
  injection e2 with e2; injection e2 with ea e2; injection e2 with eb ec
  subst ea; subst eb; subst ec
  refine onTup.rrri (X.p1.row X.l1).sc (X.p2.row X.l2).sc (X.p3.row X.l3).sc (c10 (onRet.i (onB.neg rfl ?_)))
  have M1 := more_new (B := B) X.l1 X.d1
  have M2 := more_new (B := B) X.l2 X.d2
  have M3 := more_new (B := B) X.l3 X.d3
  have w6 := w.more X.le X.lo (X.p2.row M2)
  have R1 := X.p1.row M1
  have R3 := X.p3.row M3
  obtain ⟨_, htl, _⟩ := let_len e1 sit.mr.len
  refine ⟨fun m _ a12 n23 h' => ∃ (B' qv' : Hp) (css' : List (List AV)) (v' : List Int) (u : Nat), n23 = u ∧ u ≤ t.length ∧ m = t.length - u ∧ Chain v' (t.drop u) w' ∧ v'.length = n ∧ sumI v' = (done ++ t.take u).length ∧ (moreH h2 h6 B).le B' ∧ RW h0 B' qv' h' (.sl p6 0 n n true 1) a12 b2 v' l' (done ++ t.take u) css',
    ⟨_, _, qv, css, v, 0, rfl, Nat.zero_le _, rfl, hch, sit.vl, by simpa using hsum, Hp.le_refl _, by simpa using w6⟩, ?_⟩
  clear w6
  rintro m h8 _ a12 _ _ ⟨B', qv', css', v', u, rfl, hu, rfl, hch', hvl', hsum', LB, w8⟩
  have R1' := R1.mono LB
  have R3' := R3.mono LB
  refine onO.mk (R3'.mono w8.leB).len (onB.dec (fun e => ?_) (fun e => ?_))
  rotate_left
  · have : u = t.length := by omega
    subst this
    rw [List.drop_length] at hch'
    have := chain_nil hch'
    subst this
    rw [List.take_length] at hsum' w8
    refine c13 (w8.pv.row w8.leV) (R1'.mono w8.leB) (by omega) (onRet.b (onB.neg (by rw [decide_eq_true rfl]; rfl) (onO.mk (inc64 (by omega)) ⟨_, by show 3 * all.length - (i + 1) < 3 * all.length - i; omega, B', qv', css', v', l', done ++ t, i + 1, rfl, by omega, rfl, sit', hsum', ?_, by simp; omega, w8⟩)))
    by_cases e2 : 2 * all.length ≤ i
    · rw [show i + 1 - 2 * all.length = (i - 2 * all.length) + 1 by omega]
      have hk2 := hkl e2
      rw [hk2] at ho
      exact took_next ca sit ho tk e1 hch
    · intro j y hj; omega
  obtain ⟨y, hy⟩ := get_lt (l := t) (k := u) (by omega)
  have hym := hta y (List.mem_of_getElem? hy)
  rw [drop_of hy] at hch'
  obtain ⟨f1, f2, f3⟩ := chain_cons hch'
  obtain ⟨r, hr, hrl, s1, s2, hd, hmay⟩ := fits_rep f1
  obtain ⟨z, hz⟩ := get_lt (l := v') (k := r) hrl
  have hzs := ready_seq f2
  rw [hr, Int.toNat_natCast, getD_some hz] at hzs
  have hdl' : y.deps.length < 1000000 := by rw [hdep y hym]; omega
  have rv := w8.pv.row w8.leV
  refine ⟨fun c h' => h8 = h' ∧ c = false, ?_, ?_⟩
  · refine opW R3' w8.leB hy fun dy rdy _ => c11 (o := y) (rdy.mono w8.leB) hdl' (onRet.b (onB.neg (by rw [hmay]; rfl) ?_))
    refine opP R3' w8.leB hy (off := 1) (n := 1) (c := [.i .i64 y.stamp.rep]) rfl (onL.i1 (int0e rv hr hz (opP R3' w8.leB hy (off := 2) (n := 1) (c := [.i .i64 y.seq]) rfl (onL.i1 (onO.mk (sub64 (by omega) (by omega)) (onB.neg (by rw [decide_eq_true hzs]; rfl) (opRef R3' w8.leB hy fun dy rdy => ?_)))))))
    refine c12 rv (rdy.mono w8.leB) (by rw [hdep y hym]; omega) hdl' (onRet.b ⟨rfl, ?_⟩)
    unfold readyV at f2
    rw [Bool.and_eq_true] at f2
    rw [f2.2]; rfl
  rintro _ _ ⟨rfl, rfl⟩
  refine onB.neg rfl (opP R3' w8.leB hy (off := 1) (n := 1) (c := [.i .i64 y.stamp.rep]) rfl (onL.i1 (int0e rv hr hz (onO.mk (add64 (by omega) (by omega)) ?_))))
  refine w8.setv (i := r) (x := z + 1) hrl ⟨by omega, by omega⟩ hr fun h12 qv3 w12 => ?_
  have eset : v'.set r (z + 1) = setV v' y := by
    unfold setV
    rw [hr, Int.toNat_natCast]
    congr 1; omega
  rw [eset] at w12
  refine opW R3' w12.leB hy fun dy rdy ky => fun _ => w12.take ky (by simp; omega) fun r7 h13 css7 w13 => onO.mk rfl (onO.mk (inc64 (by omega)) ⟨_, by show t.length - (u + 1) < t.length - u; omega, B', qv3, css7, setV v' y, u + 1, rfl, by omega, rfl, f3, by rw [setV_len]; exact hvl', ?_, LB, by rw [take_succ' hy, ← List.append_assoc]; exact w13⟩)
  rw [← eset, sum_set hz, hsum', take_succ' hy]
  simp; omega
end
end Go.Proofs.YtecjbmibngfpmaaAn
