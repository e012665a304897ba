/- What the functions that the law reaches come to, down to the law itself. -/
import Derived.Test.YthnhdgcaolgdnaaCnStoreOrderp1
import Derived.Test.YthnhdgcaolgdnaaProg
set_option linter.unusedVariables false
set_option linter.unusedSimpArgs false
set_option maxRecDepth 100000
namespace Go.Proofs.YthnhdgcaolgdnaaAn
open Go
section
variable {h : Hp} {Post : AV → Hp → Prop}
theorem InvC.size {E : Dk} {L : Lg} {r : Recs} {N : Nat} {C : Recs → Prop} (i : InvC E L r N C) : L.size ≤ 2097152 ∧ L.pos ≤ 2097152 ∧ L.l.length ≤ 2097152 ∧ L.l = r := by
  have h1 := i.lg
  have h2 := i.ok.2
  have h3 := layR_len8 i.ok
  have h4 : ∀ l : Recs, l.length ≤ sizeL l := fun l => by
    induction l with
    | nil => exact Nat.le_refl _
    | cons s l ih => rw [sizeL_cons, List.length_cons]; omega
  have h5 := h4 r
  refine ⟨by rw [h1]; exact h2, by rw [h1]; exact h3, by rw [h1]; show r.length ≤ _; omega, by rw [h1]⟩
theorem syncL_few {E : Dk} {L : Lg} {N : Nat} (w : Few E N) : Few (syncL E L).2.1 N := by
  unfold syncL
  split
  · exact w
  · exact syncR_few w
theorem appL_few {E : Dk} {L : Lg} {x : List Nat} {N : Nat} (w : Few E N) : Few (appL E L x).2.1 (N + 1) := by
  unfold appL
  split
  · exact w.mono (by omega)
  · split
    · exact w.mono (by omega)
    · split
      · exact w.mono (by omega)
      · split
        · exact writeR_few w
        · exact writeR_few w
theorem loadR_few {E : Dk} {N : Nat} (w : Few E N) : Few (loadR E).2.1 (N + 1) := by
  unfold loadR
  split
  · exact sync2_few w
  · exact w.mono (by omega)
end
theorem len_sizeL : ∀ l : Recs, l.length ≤ sizeL l
  | [] => Nat.le_refl _
  | s :: l => by rw [sizeL_cons, List.length_cons]; have := len_sizeL l; omega
section
variable {g h : Hp} {a b : AV} {l m : List Nat} {Post : AV → Hp → Prop}
theorem nums_in {o : D.Op} (h : mayO o = true) (hk : Bytes8 o.key) {d : AV} {h0 : Hp} (r : IR h0 d o.deps) : D.kOp.K h0 o (opC o d) := by
  obtain ⟨s1, s2, s3, s4, s5⟩ := mayO_nums h
  obtain ⟨x, hx, hs⟩ := (op_parts h hk).seq
  have hx2 := s2 x (List.mem_of_getElem? hx)
  have i : ∀ n : Int, -1 ≤ n → n ≤ 1099511627777 → In64 n := fun n h1 h2 => ⟨by omega, by omega⟩
  rcases s5 with ⟨k1, k2, k3, k4, k5, k6⟩ | ⟨k1, k2, k3, k4⟩
  · exact op_mk (i _ (by omega) (by omega)) (i _ (by omega) (by omega)) (i _ (by omega) (by omega)) r (by omega) (i _ (by omega) (by omega)) (i _ (by omega) (by omega)) (i _ (by omega) (by omega)) (i _ (by omega) (by omega)) (i _ (by omega) (by omega)) (by omega) hk (i _ (by omega) (by omega)) (i _ (by omega) (by omega))
  · have hp : o.parent.time = 0 ∧ o.parent.rep = 0 := by rw [k3]; exact ⟨rfl, rfl⟩
    exact op_mk (i _ (by omega) (by omega)) (i _ (by omega) (by omega)) (i _ (by omega) (by omega)) r (by omega) (i _ (by omega) (by omega)) (i _ (by omega) (by omega)) (i _ (by omega) (by omega)) (i _ (by omega) (by omega)) (i _ (by omega) (by omega)) (by rw [k4]; simp) hk (i _ (by omega) (by omega)) (i _ (by omega) (by omega))
end
/-- what reading leaves: a frame of its own, or none -/
structure FrmOwn (g h : Hp) (a b : AV) (v : List Int) (l : List D.Op) : Prop where
  le : g.le h
  lo : h.lo = g.lo
  vec : (Kn.int.Own g h a v ∧ b = .ns ∧ l = []) ∨ (a = .ns ∧ v = [] ∧ OpOwn g h b l)
theorem FrmOwn.ra {g h : Hp} {a b : AV} {v : List Int} {l : List D.Op} (o : FrmOwn g h a b v l) : IR h a v := by
  rcases o.vec with ⟨h1, _, _⟩ | ⟨h1, h2, _⟩
  · exact h1.row
  · rw [h1, h2]; exact nsI
theorem FrmOwn.nil {g h : Hp} (le : g.le h) (lo : h.lo = g.lo) : FrmOwn g h .ns .ns [] [] := ⟨le, lo, .inl ⟨(Kn.Own.nil _ h).mono le lo, rfl, rfl⟩⟩
theorem OpOwn.take {g h : Hp} {a : AV} {l : List D.Op} (o : OpOwn g h a l) {q : List Nat} {r : AV} (br : BR g r q) (hb : q.length < 31000000) (hq : Bytes8 q) (hl : l.length < 100) {Post : AV → Hp → Prop}
    (k1 : (takeO q).2.2 ≠ 0 → ∀ d h', d.sc = true → OpOwn g h' a l → Post (.tup [.agg (opC (takeO q).1 d), .i .i64 ((takeO q).2.1 : Nat), .i .i64 (takeO q).2.2]) h')
    (k2 : (takeO q).2.2 = 0 → ∀ d h', d.sc = true → (∀ (Q : Option AV → Hp → Prop), (∀ r' h2, OpOwn g h2 r' (l ++ [(takeO q).1]) → Q (some r') h2) → wpE (.app a 1 (.lit (opC (takeO q).1 d)) 12) Q h') → Post (.tup [.agg (opC (takeO q).1 d), .i .i64 ((takeO q).2.1 : Nat), .i .i64 (takeO q).2.2]) h') : wpC Try.prog 26 [r] Post h := by
  obtain ⟨p, css, qs, oe⟩ := o
  refine (oe.fr.call (Q := fun w p' => ∃ d, w = .tup [.agg (opC (takeO q).1 d), .i .i64 ((takeO q).2.1 : Nat), .i .i64 (takeO q).2.2] ∧ Kn.int.Own p p' d (takeO q).1.deps) (c29o (br.mono oe.le) hb fun d h' o => ⟨d, rfl, o⟩)).mono ?_
  rintro w h1 ⟨p', fr, hlo, d, rfl, ow⟩
  by_cases e : (takeO q).2.2 = 0
  · obtain ⟨w1, w2, w3, w4⟩ := takeO_was hq e
    exact k2 e _ _ ow.sc fun Q kq => OpOwn.snoc oe fr hlo (nums_in w1 w4 ow.row) ow (by omega) kq
  · refine k1 e _ _ ow.sc ⟨p', css, qs, Hp.le_trans oe.le ow.le, hlo.trans oe.lo, fr, oe.len, fun i => Hp.le_trans (oe.sub i) ow.le, oe.dj, oe.dd, oe.qlo, oe.own, oe.el⟩
/- slices.Clone[[]arras/api.Op,arras/api.Op] -/
theorem vc30 (a : AV) (h : Hp) (Post : AV → Hp → Prop) : vcCall Try.prog [] 30 [(SV.vv a)] h Post = (
  onO (nilSl a) fun cc0 =>
  onB cc0 (Post AV.ns h)
    (∀ (p0 : Nat),
      h.g p0 = none →
        h.lo.le p0 →
          onO (srcV 12 a) fun r0 =>
            onC (((4 * r0.fst + 4000) * 120).ble (OfNat.ofNat 17179869184)) (wpE (Eff.app (AV.sl p0 0 0 0 true 12) r0.fst r0.snd 12) (fun x0 h0 => onO x0 fun a0 => Post a0 h0) (h.put p0 [])))) := by kernel_rfl
theorem addH_none {p g : Hp} {k : Nat} (h1 : p.g k = none) (h2 : g.g k = none) : (p.add g).g k = none := by
  show (match p.g k with | some c => some c | none => g.g k) = none
  rw [h1]; exact h2
/-- operations in a part of their own -/
def OpsP (lo : Nat) (q : Hp) (a : AV) (l : List D.Op) : Prop := q.lo = lo ∧ OpOwn (Hp.none lo) q a l
theorem OpsP.row {lo : Nat} {q H : Hp} {a : AV} {v : List D.Op} (p : OpsP lo q a v) (l : q.le H) : OpRow H a v := by
  have r : OpRow q a v := OpOwn.kn p.2 |>.row
  exact r.mono l
theorem OpsP.of {g H : Hp} {a : AV} {l : List D.Op} (o : OpOwn g H a l) : ∃ q, q.le H ∧ Disj q g ∧ OpsP g.lo q a l := by
  obtain ⟨q, q1, q2, q3, q4⟩ := o.part
  exact ⟨q, q1, q2, q3, q4⟩
/-- operations that are new -/
def NewOps (h h' : Hp) (r : AV) (l : List D.Op) : Prop := h.le h' ∧ h'.lo = h.lo ∧ ∃ q, q.le h' ∧ Disj q h ∧ OpsP h.lo q r l
theorem NewOps.of {h h' : Hp} {r : AV} {l : List D.Op} (o : OpOwn h h' r l) : NewOps h h' r l := ⟨o.kn.le, o.kn.lo, OpsP.of o⟩
theorem NewOps.row {h h' : Hp} {r : AV} {l : List D.Op} (o : NewOps h h' r l) : OpRow h' r l := by
  obtain ⟨_, _, q, q1, _, q3⟩ := o
  exact q3.row q1
theorem NewOps.sc {h h' : Hp} {r : AV} {l : List D.Op} (o : NewOps h h' r l) : r.sc = true := o.row.sc
theorem NewOps.frozen {h h' F : Hp} {r : AV} {l : List D.Op} (o : NewOps h h' r l) : OpRow (moreH h h' F) r l := by
  obtain ⟨_, _, q, q1, q2, q3⟩ := o
  exact q3.row (more_new q1 q2)
theorem op_key {h : Hp} {o : D.Op} {c : List AV} (k : D.kOp.K h o c) : Bytes8 o.key := by
  obtain ⟨d0, e, f1, f2, f3, f4, f5, f6, f7, f8, f9, f10, f11, f12⟩ := D.kOp_open k
  exact f10.2
theorem op_keys {h : Hp} {a : AV} {l : List D.Op} (r : OpRow h a l) : ∀ o ∈ l, Bytes8 o.key := fun o ho => by
  obtain ⟨j, hj⟩ := List.getElem?_of_mem ho
  obtain ⟨b, p, c, e1, e2, e3⟩ := r.idx (i := (j : Int)) (x := o) (Int.natCast_nonneg j) (by simpa using hj)
  exact op_key e3
theorem may_opk {o : D.Op} (h : mayO o = true) : opOk o := by
  have := (mayO_nums h).len
  show o.deps.length < 32000000; omega
theorem takeO_in' {l : List Nat} (hl : Bytes8 l) (h : (takeO l).2.2 = 0) {d : AV} {h0 : Hp} (r : IR h0 d (takeO l).1.deps) : D.kOp.K h0 (takeO l).1 (opC (takeO l).1 d) := by
  obtain ⟨w1, w2, w3, w4⟩ := takeO_was hl h
  exact nums_in w1 w4 r
section
variable {h : Hp} {a b : AV} {l : List D.Op} {o : D.Op} {Post : AV → Hp → Prop}
theorem c30 {css : List (List AV)} (rc : Raw h a 12 css) (ka : All2 (D.kOp.K h) l css) (hl : l.length < 31000000) (k : ∀ r h', Fresh h h' r 12 css → Post r h') : wpC Try.prog 30 [a] Post h := by
  have ra : OpRow h a l := ⟨css, rc, ka⟩
  refine call_sound (args := [.vv a]) (cuts := []) ⟨ra.sc, trivial⟩ ?_
  rw [vc30]
  have hlen := ka.length
  refine clone_body (d := kRw 12) ⟨css, rc, kRw_mk (d := D.kOp) ka⟩ rfl kRw_flat (by omega) (Nat.ble_eq_true_of_le (by show (4 * css.length + 4000) * 120 ≤ 17179869184; omega)) fun r h' o => ?_
  obtain ⟨p, css', p1, p2, f, f2⟩ := o
  have := kRw_all f2
  subst this
  exact k r h' (f.mono p1 p2)
/-- all of it taken over -/
theorem c20 (ra : OpRow h a l) (hl : l.length < 31000000) (ho : ∀ o ∈ l, opOk o) (k : ∀ r h', NewOps h h' r l → Post r h') : wpC Try.prog 20 [a] Post h := by
  refine call_sound (args := [.vv a]) (cuts := []) ⟨ra.sc, trivial⟩ ?_
  rw [vc20]
  obtain ⟨css, rc, ka⟩ := ra
  have hlen := ka.length
  refine c30 rc ka hl fun r h0 f0 => onRet.r f0.row.sc (onO.mk f0.row.len ?_)
  refine ⟨fun m n0 h' => ∃ (i : Nat) (G : Hp) (css' : List (List AV)) (qs : Nat → Hp), n0 = i ∧ i ≤ l.length ∧ m = l.length - i ∧ Fresh G h' r 12 css' ∧ h.le G ∧ G.lo = h.lo ∧ css'.length = l.length ∧ (∀ j, (qs j).le G) ∧ (∀ j, Disj (qs j) h) ∧ (∀ j j', j ≠ j' → Disj (qs j) (qs j')) ∧ (∀ j, (qs j).lo = G.lo) ∧ (∀ j b, (qs j).g b ≠ none → G.lo ≤ b) ∧ (∀ j x c, j < i → l[j]? = some x → css'[j]? = some c → eOp (qs j) x c) ∧ (∀ j, i ≤ j → css'[j]? = css[j]?) ∧ ∀ j, i ≤ j → qs j = Hp.none h.lo,
    ⟨l.length, 0, h, css, fun _ => Hp.none h.lo, rfl, by omega, rfl, f0, Hp.le_refl _, rfl, hlen.symm ▸ rfl, fun _ => none_le _ _, fun _ k c e => (by cases e), fun _ _ _ k c e => (by cases e), fun _ => rfl, fun _ b e => absurd rfl e, fun j x c hj => by omega, fun _ _ => rfl, fun _ _ => rfl⟩, ?_⟩
  rintro m h1 _ ⟨i, G, css', qs, rfl, hi, rfl, f, hG, loG, hl', q1, q2, q3, q4, q5, q6, q7, q8⟩
  refine onB.dec (fun e => ?_) (fun e => ?_)
  · obtain ⟨x, hx⟩ := get_lt (l := l) (k := i) (by omega)
    obtain ⟨c, hc⟩ := get_lt (l := css) (k := i) (by omega)
    have hc' : css'[i]? = some c := by rw [q7 i (Nat.le_refl _)]; exact hc
    have kx := ka.get2 hx hc
    obtain ⟨d, rfl, rd⟩ := op_cells kx
    have hod := ho x (List.mem_of_getElem? hx)
    obtain ⟨b, of, e1, e2, e3⟩ := f.row.idx (i := (i : Int)) (Int.natCast_nonneg i) (by simpa using hc')
    refine onO.mk e1 (onO.mk e2 (onL.op rd.sc ?_))
    refine (f.call (Q := fun v p' => ∃ r', v = .agg (opC x r') ∧ Kn.int.Own G p' r' x.deps) (c31 (o := x) (rd.mono hG) hod fun r' h' ow => ⟨r', rfl, ow⟩)).mono ?_
    rintro v h2 ⟨p', f', hlo, r', rfl, ow⟩
    obtain ⟨qd, d1, d2, d3, d4, d5, d6⟩ := ow.part
    have kk : eOp qd x (opC x r') := ⟨op_again kx d6, r', rfl, by rw [d3]; exact d5⟩
    refine onRet.op ow.sc (f'.set hc' 0 (new := opC x r') (by simp [opC]) (D.kOp.sc kk.1) fun h3 f3 => ?_)
    have esp : splice (opC x d) 0 (opC x r') = opC x r' := rfl
    rw [esp] at f3
    have hGp : G.le p' := ow.le
    have cs : ∀ {P : Hp → Prop} (j : Nat), (j ≠ i → P (qs j)) → (j = i → P qd) → P (if j = i then qd else qs j) := fun {P} j a1 a2 => by
      by_cases h : j = i
      · rw [if_pos h]; exact a2 h
      · rw [if_neg h]; exact a1 h
    refine onO.mk (inc64 (by omega)) ⟨_, by show l.length - (i + 1) < l.length - i; omega, i + 1, p', _, fun j => if j = i then qd else qs j, rfl, by omega, rfl, f3, Hp.le_trans hG hGp, hlo.trans loG, by rw [List.length_set]; exact hl', fun j => cs (P := fun q => q.le p') j (fun _ => Hp.le_trans (q1 j) hGp) fun _ => d1, fun j => cs (P := fun q => Disj q h) j (fun _ => q2 j) fun _ => d2.le_right hG, fun j j' hjj => ?_, fun j => cs (P := fun q => q.lo = p'.lo) j (fun _ => (q4 j).trans hlo.symm) fun _ => d3.trans hlo.symm, fun j => cs (P := fun q => ∀ b, q.g b ≠ none → p'.lo ≤ b) j (fun _ b hb => by rw [hlo]; exact q5 j b hb) fun _ b hb => by rw [hlo]; exact d4 b hb, fun j y c' hj hy hc'' => ?_, fun j hj => ?_, fun j hj => ?_⟩
    · refine cs (P := fun q => Disj q (if j' = i then qd else qs j')) j (fun hj => ?_) fun hj => ?_
      · exact cs (P := fun q => Disj (qs j) q) j' (fun _ => q3 _ _ hjj) fun _ => (d2.le_right (q1 j)).symm
      · exact cs (P := fun q => Disj qd q) j' (fun _ => d2.le_right (q1 j')) fun hj' => by omega
    · by_cases hji : j = i
      · subst hji
        rw [hx] at hy; injection hy with hy; subst hy
        rw [List.getElem?_set_self (by omega)] at hc''
        injection hc'' with hc''; subst hc''
        simp only [if_pos rfl]
        exact kk
      · rw [List.getElem?_set_ne (by omega)] at hc''
        simp only [if_neg hji]
        exact q6 j y c' (by omega) hy hc''
    · rw [List.getElem?_set_ne (by omega)]; exact q7 j (by omega)
    · simp only [if_neg (show j ≠ i by omega)]; exact q8 j (by omega)
  · have : i = l.length := by omega
    subst this
    have o : OwnE eOp 12 (G.res fun k => ∀ i, (qs i).g k = none) h1 r l G css' qs :=
      ⟨Hp.res_le _ _, rfl, f, hl', q1, fun i k c h => Hp.res_out fun hk => (by rw [hk i] at h; cases h), q3, q4, q5, fun j x c hx hc => q6 j x c (List.getElem?_eq_some_iff.1 hx).1 hx hc⟩
    obtain ⟨q, z1, z2, z3⟩ := OpsP.of ⟨G, css', qs, o⟩
    refine k r h1 ⟨Hp.le_trans hG f.le, f.lo.trans loG, q, z1, z2.le_right fun k c e => ?_, by rw [← loG]; exact z3⟩
    rw [Hp.res_in fun i => (q2 i).symm k c e]
    exact hG k c e
theorem c6 {x : Int} (k : Post (.i .i64 x) h) : wpC Try.prog 6 [.i .i64 x] Post h := by
  refine call_sound (args := [.ii .i64 x]) (cuts := []) ⟨trivial, trivial⟩ ?_
  rw [vc6]; exact k
end
structure StP where
  l : List D.Op
  size : Nat
  dead : Bool
def stC (q : Nat) (v : AV) (S : StP) : List AV := [.p q 0, v, .i .i64 (S.size : Nat), .b S.dead]
structure StM (lo : Nat) (F : Hp) (Q : Nat → Hp) (w q dp : Nat) (r : AV) (a : Nat → AV) (v : AV) (E : Dk) (L : Lg) (S : StP) : Prop where
  lg : LgM lo F Q q dp r a E L
  box : Q 12 = Hp.one w (stC q v S) lo
  wlo : lo ≤ w
  ops : RowP D.kOp F lo (Q 13) v S.l
  ok : ∀ o ∈ S.l, mayO o = true
theorem LgM.same {lo q dp : Nat} {F : Hp} {Q Q' : Nat → Hp} {a : Nat → AV} {r : AV} {E : Dk} {L : Lg} (m : LgM lo F Q q dp r a E L) (e : ∀ j, j < 12 → Q' j = Q j) : LgM lo F Q' q dp r a E L :=
  ⟨by rw [e 10 (by omega)]; exact m.box, m.qlo, by rw [e 11 (by omega)]; exact m.row, m.dk.same fun j _ _ => e j (by omega), m.file⟩
section
variable {lo w q dp : Nat} {F F' h h' : Hp} {Q Q' : Nat → Hp} {a a' : Nat → AV} {r r' v v' b : AV} {E E' : Dk} {L L' : Lg} {S S' : StP} {Post : AV → Hp → Prop} {l : List D.Op}
theorem StM.fmono (m : StM lo F Q w q dp r a v E L S) (f : F.le F') : StM lo F' Q w q dp r a v E L S := ⟨m.lg.fmono f, m.box, m.wlo, m.ops.mono f, m.ok⟩
theorem StM.log (m : StM lo F Q w q dp r a v E L S) (f : F.le F') (m' : LgM lo F' Q' q dp r' a' E' L') (u : Upd 0 12 Q Q') : StM lo F' Q' w q dp r' a' v E' L' S :=
  ⟨m', by rw [u 12 (by omega)]; exact m.box, m.wlo, by rw [u 13 (by omega)]; exact m.ops.mono f, m.ok⟩
theorem StM.same (m : StM lo F Q w q dp r a v E L S) (e : ∀ j, j < 14 → Q' j = Q j) : StM lo F Q' w q dp r a v E L S :=
  ⟨m.lg.same fun j hj => e j (by omega), by rw [e 12 (by omega)]; exact m.box, m.wlo, by rw [e 13 (by omega)]; exact m.ops, m.ok⟩
theorem st_word (s : Sep lo F Q h) (e : Q 12 = Hp.one w (stC q v S) lo) : rdH h w (0 + 0) 1 = some [.p q 0] ∧ rdH h w (0 + 1) 1 = some [v] ∧ rdH h w (0 + 2) 1 = some [.i .i64 (S.size : Nat)] ∧ rdH h w (0 + 3) 1 = some [.b S.dead] :=
  ⟨rdBox (s.box e) rfl, rdBox (s.box e) rfl, rdBox (s.box e) rfl, rdBox (s.box e) rfl⟩
theorem st_put (s : Sep lo F Q h) (e : Q 12 = Hp.one w (stC q v S) lo) (wlo : lo ≤ w) {i : Nat} {x : AV} (hx : x.sc = true) {c : List AV} (hc : splice (stC q v S) (0 + i) [x] = c) (hi : i < 4) {Post : Option AV → Hp → Prop}
    (k : ∀ h', Sep lo F (updQ Q 12 (Hp.one w c lo)) h' → Post none h') : wpE (.w w (0 + i) (.lit [x]) none) Post h := by
  refine wpE.w (s.box e) (by rw [s.hlo]; exact wlo) (new := [x]) rfl (by show _ + 1 ≤ 4; omega) (by simp [hx]) (k _ ?_)
  rw [hc]; exact s.put e _
theorem drop_cons {α : Type} {l : List α} {j : Nat} {x : α} (h : l[j]? = some x) : l.drop j = x :: l.drop (j + 1) := by
  obtain ⟨h1, h2⟩ := List.getElem?_eq_some_iff.1 h
  rw [List.drop_eq_getElem_cons h1, h2]
theorem src_up {h h' : Hp} (l : h.le h') {s : Src} {c : List AV} (e : srcH h s = some c) : srcH h' s = some c := by
  cases s with
  | lit l => exact e
  | mem b o n => exact rdH_le l e
theorem bytes_enc : ∀ (n : Nat), Bytes8 (enc n) := by
  intro n
  induction n using Nat.strongRecOn with
  | ind n ih =>
    by_cases h : n < 128
    · rw [enc_small h]; intro x hx; simp at hx; omega
    · rw [enc_big (by omega)]
      intro x hx
      rcases List.mem_cons.1 hx with rfl | hx
      · omega
      · exact ih (n / 128) (by omega) x hx
theorem Bytes8.append {a b : List Nat} (ha : Bytes8 a) (hb : Bytes8 b) : Bytes8 (a ++ b) := fun x hx => (List.mem_append.1 hx).elim (ha x) (hb x)
theorem bytes_encs : ∀ (v : List Int), Bytes8 (encs v)
  | [] => fun x hx => by simp [encs] at hx
  | x :: v => by rw [encs_cons]; exact (bytes_enc _).append (bytes_encs v)
theorem bytes_opE {o : D.Op} (hk : Bytes8 o.key) : Bytes8 (opE o) := by
  unfold opE
  refine ((((bytes_enc _).append (bytes_enc _)).append ((bytes_enc _).append (bytes_encs _))).append (bytes_enc _)).append ((bytes_enc _).append (bytes_enc _)) |>.append ?_
  split
  · exact ((bytes_enc _).append (bytes_enc _)).append ((bytes_enc _).append hk)
  · exact (bytes_enc _).append (bytes_enc _)
/-- what is one of a store's records -/
def recO (b : List Nat) : Prop := (takeO b).2.2 = 0 ∧ (takeO b).2.1 = b.length
instance (b : List Nat) : Decidable (recO b) := inferInstanceAs (Decidable (_ ∧ _))
def readS (S : StP) (b : List Nat) : StP := ⟨S.l ++ [(takeO b).1], S.size + b.length + 16, S.dead⟩
/-- ways that keep all but some parts -/
def Kp (n m : Nat) (Q Q' : Nat → Hp) : Prop := ∀ j, j < n ∨ m ≤ j → Q' j = Q j
theorem c17 {b : List Nat} (s : Sep lo F Q h) (m : StM lo F Q w q dp r a v E L S) (hb : b.length ≤ 30000000) (h8 : Bytes8 b) (hl : S.l.length < 31000000) (hs : S.size < 4611686018427387904)
    (k1 : ¬ recO b → ∀ F' h', F.le F' → Sep lo F' Q h' → Post (.b false) h')
    (k2 : recO b → ∀ F' v' Q' h', F.le F' → Sep lo F' Q' h' → StM lo F' Q' w q dp r a v' E L (readS S b) → Kp 12 14 Q Q' → Post (.b true) h') : wpC Try.prog 17 [.p w 0, .s b] Post h := by
  refine call_sound (args := [.vv (.p w 0), .ss b]) (cuts := []) ⟨rfl, trivial, trivial⟩ ?_
  rw [vc17]
  intro p0 hp hlo
  have s0 := s.grow (Hp.le_put hp) rfl (h' := h.put p0 (bytesV b))
  have br : BR (h.put p0 (bytesV b)) (.sl p0 0 b.length b.length false 1) b := by
    have ob : Kn.byte.Own h (h.put p0 (bytesV b)) (.sl p0 0 b.length b.length false 1) b :=
      ⟨h, b.map fun y => [.i .u8 (.ofNat y)], Hp.le_refl _, rfl, Fresh.put (Hp.le_refl _) rfl hp hlo (css := b.map fun y => [.i .u8 (.ofNat y)]) (sz := 1) (len := b.length) false (fun c hc => by
        obtain ⟨y, _, rfl⟩ := List.mem_map.1 hc; rfl) (by simp) (ofU8_flat b), bytes_all h8⟩
    exact ob.row
  refine c29o br (by omega) fun d h1 o1 => onTup.opii o1.sc fun _ => ?_
  have s1 := s0.frz o1.le o1.lo
  have f1 := s0.fgrow o1.le
  refine onB.ndec (fun e => k1 (fun e2 => e e2.1) _ h1 f1 s1) fun e => onB.ndec (fun e2 => k1 (fun e3 => e2 (by rw [e3.2])) _ h1 f1 s1) fun e2 => ?_
  have hr : recO b := ⟨e, by omega⟩
  have m1 := m.fmono f1
  obtain ⟨y0, y1, y2, y3⟩ := st_word s1 m1.box
  have hx := takeO_in' h8 e (o1.frozen int_flat (F := F))
  refine onO.mk rfl (onO.mk y1 (onL.r1 m1.ops.sc fun _ => ?_))
  refine s1.app1 (i := 13) m1.ops (sz := 12) rfl hx (by omega) fun v2 h2 q13 s2 p2 => onO.mk rfl (onO.mk rfl ?_)
  have e12 : updQ Q 13 q13 12 = Hp.one w (stC q v S) lo := by rw [updQ_ne (by omega)]; exact m1.box
  obtain ⟨z0, z1, z2, z3⟩ := st_word s2 e12
  refine onO.mk z2 (onL.i1 ⟨onO.mk y2 z2, ?_⟩)
  refine onO.mk (a := ((S.size + b.length : Nat) : Int)) (add64 (by omega) (by omega)) (onO.mk (a := ((S.size + b.length + 16 : Nat) : Int)) (add64 (by omega) (by omega)) ?_)
  refine onO.mk rfl (st_put s2 e12 m.wlo (i := 1) p2.sc (c := stC q v2 S) rfl (by omega) fun h3 s3 => onO.mk rfl (st_put s3 updQ_same m.wlo (i := 2) rfl (c := stC q v2 (readS S b)) rfl (by omega) fun h4 s4 => ?_))
  refine k2 hr _ v2 _ h4 f1 s4 ⟨m1.lg.same fun j hj => by rw [updQ_ne (by omega), updQ_ne (by omega), updQ_ne (by omega)], updQ_same, m.wlo, by rw [updQ_ne (by omega), updQ_ne (by omega), updQ_same]; exact p2, fun o ho => ?_⟩ fun j hj => by rw [updQ_ne (by omega), updQ_ne (by omega), updQ_ne (by omega)]
  rcases List.mem_append.1 ho with ho | ho
  · exact m.ok o ho
  · simp at ho; subst ho; exact (takeO_was h8 e).1
/-- operations that are seen as long as a part is kept -/
def VwO (lo : Nat) (F : Hp) (Q : Nat → Hp) (b : AV) (l : List D.Op) : Prop := ∀ F' Q' h', F.le F' → Sep lo F' Q' h' → Q' 14 = Q 14 → OpRow h' b l
theorem VwO.frz (row : OpRow F b l) : VwO lo F Q b l := fun _ _ _ f s _ => (row.mono f).mono s.fle
theorem VwO.part (p : OpsP lo (Q 14) b l) : VwO lo F Q b l := fun _ _ _ _ s e => p.row (by rw [← e]; exact s.le 14)
/-- more operations appended, their data frozen -/
theorem Sep.appN {m : List D.Op} (s : Sep lo F Q h) {i : Nat} (rp : RowP D.kOp F lo (Q i) v l) (row : OpRow F b m) (hl : l.length < 10000000) (hm : m.length < 20000) {Post : Option AV → Hp → Prop}
    (k : ∀ a' h' q', Sep lo F (updQ Q i q') h' → RowP D.kOp F lo q' a' (l ++ m) → Post (some a') h') : onO (srcV 12 b) fun r0 => onC (((4 * r0.1 + 4000) * 120).ble (OfNat.ofNat 17179869184)) (wpE (.app v r0.1 r0.2 12) Post h) := by
  obtain ⟨css, rr, kk⟩ := row
  have hcl := kk.length
  obtain ⟨src, t1, t2⟩ := rr.src
  refine onO.mk (a := (css.length, src)) t1 (onC.mk (Nat.ble_eq_true_of_le (by show (4 * css.length + 4000) * 120 ≤ 17179869184; omega)) ?_)
  obtain ⟨ocs, p13, k13⟩ := rp
  have ol := k13.length
  refine (s.own kRw_flat p13).app (sz := 12) rfl kRw_flat (kRw_mk (d := D.kOp) kk) (src_up s.fle t2) rfl (by omega) fun v5 h5 o5 => ?_
  obtain ⟨q13, s5, p5⟩ := s.back kRw_flat o5
  exact k v5 h5 q13 s5 ⟨_, p5, k13.append kk⟩
/-- the operations' records -/
def recsO (l : List D.Op) : Recs := l.map opE
theorem recs_len {l : List D.Op} (h : ∀ o ∈ l, mayO o = true) : sizeL (recsO l) ≤ 416 * l.length := by
  have := sizeL_le (k := 400) (l := recsO l) fun x hx => by
    obtain ⟨o, ho, rfl⟩ := List.mem_map.1 hx
    exact opE_len (h o ho)
  rw [show (recsO l).length = l.length from List.length_map _] at this
  omega
theorem c18 (s : Sep lo F Q h) (vw : VwO lo F Q b l) (hl : l.length < 30000000) (ho : ∀ o ∈ l, opOk o)
    (k1 : (∃ o ∈ l, mayO o = false) → ∀ Q' h', Sep lo F Q' h' → Kp 15 16 Q Q' → Post (.tup [.ns, .i .i64 0, .i .i64 1]) h')
    (k2 : (∀ o ∈ l, mayO o = true) → ∀ r Q' h', Sep lo F Q' h' → PK Kn.str lo (Q' 15) r (recsO l) → Kp 15 16 Q Q' → Post (.tup [r, .i .i64 (sizeL (recsO l) : Nat), .i .i64 0]) h') : wpC Try.prog 18 [b] Post h := by
  have row := vw F Q h (Hp.le_refl _) s rfl
  refine call_sound (args := [.vv b]) (cuts := []) ⟨row.sc, trivial⟩ ?_
  rw [vc18]
  have hk := op_keys row
  refine onO.mk row.len ⟨fun m n0 r n1 i h' => ∃ (j : Nat) (Q' : Nat → Hp), i = j ∧ j ≤ l.length ∧ m = l.length - j ∧ Sep lo F Q' h' ∧ Kp 15 16 Q Q' ∧ (∀ o ∈ l.take j, mayO o = true) ∧ PK Kn.str lo (Q' 15) r (recsO (l.take j)) ∧ n1 = (sizeL (recsO (l.take j)) : Nat),
    ⟨_, 0, _, rfl, by omega, rfl, s.drop 15, fun j hj => updQ_ne (by omega), fun o h => (by cases h), by rw [updQ_same]; exact PK.nil _ _, rfl⟩, ?_⟩
  rintro m h0 n0 r _ _ _ ⟨j, Q', rfl, hj, rfl, s', u', hm, p', rfl⟩
  refine onB.dec (fun e => ?_) (fun e => ?_)
  · obtain ⟨x, hx⟩ := get_lt (l := l) (k := j) (by omega)
    have hmx := List.mem_of_getElem? hx
    refine opW (vw F Q' h0 (Hp.le_refl _) s' (u' 14 (by omega))) (Hp.le_refl _) hx fun d rd kx => fun _ => c27 rd (ho x hmx) (hk x hmx) (fun em => onTup.ri rfl (onB.pos rfl (k1 ⟨x, hmx, em⟩ Q' h0 s' u'))) fun em r2 h2 o2 => onTup.ri o2.sc (onB.neg rfl ?_)
    obtain ⟨b1, o1, n1, e1⟩ := strAt_row o2.row
    have s2 := s'.grow o2.le o2.lo
    have hm2 : ∀ o ∈ l.take (j + 1), mayO o = true := fun o ho => by
      rw [take_succ' hx] at ho
      rcases List.mem_append.1 ho with h | h
      · exact hm o h
      · simp at h; subst h; exact em
    have hsz := recs_len hm
    have hlx := opE_len em
    have htl : (l.take j).length = j := by simp; omega
    have hrec : recsO (l.take (j + 1)) = recsO (l.take j) ++ [opE x] := by unfold recsO; rw [take_succ' hx, List.map_append]; rfl
    refine onO.mk e1 fun _ => (s2.own str_flat p').app1 (x := opE x) (sz := 1) rfl str_flat ⟨rfl, by omega, bytes_opE (hk x hmx)⟩ (by unfold recsO; rw [List.length_map]; omega) fun r3 h3 o3 => onO.mk rfl ?_
    obtain ⟨q15, s3, p3⟩ := s2.back str_flat o3
    refine onO.mk o2.row.len (onO.mk (a := ((sizeL (recsO (l.take j)) + (opE x).length : Nat) : Int)) (add64 (by omega) (by omega)) (onO.mk (a := ((sizeL (recsO (l.take j)) + (opE x).length + 16 : Nat) : Int)) (add64 (by omega) (by omega)) (onO.mk (inc64 (by omega)) ⟨_, by show l.length - (j + 1) < l.length - j; omega, j + 1, _, rfl, by omega, rfl, s3, fun i hi => by rw [updQ_ne (by omega)]; exact u' i hi, hm2, by rw [updQ_same, hrec]; exact p3, ?_⟩)))
    rw [hrec, sizeL_app]
    simp [sizeL]; omega
  · have : j = l.length := by omega
    subst this
    rw [List.take_length] at *
    exact k2 hm r Q' h0 s' p' u'
def FitL (L : Lg) : Prop := L.size ≤ 2097152 ∧ L.pos ≤ 2097152 + L.size ∧ L.l.length ≤ L.size
theorem appL_fit {x : List Nat} (f : FitL L) : FitL (appL E L x).2.2 := by
  obtain ⟨f1, f2, f3⟩ := f
  unfold appL
  split
  · exact ⟨f1, f2, f3⟩
  · split
    · exact ⟨f1, f2, f3⟩
    · split
      · exact ⟨f1, f2, f3⟩
      · split
        · exact ⟨by show L.size + _ + _ ≤ _; omega, by show L.pos + _ + _ ≤ 2097152 + (L.size + _ + _); omega, by show (L.l ++ [x]).length ≤ L.size + _ + _; simp; omega⟩
        · exact ⟨f1, f2, f3⟩
def writeS : Dk → Lg → Recs → Int × Dk × Lg
  | E, L, [] => syncL E L
  | E, L, x :: t => if (appL E L x).1 = 0 then writeS (appL E L x).2.1 (appL E L x).2.2 t else appL E L x
theorem c19 {l : Recs} {N : Nat} (s : Sep lo F Q h) (m : StM lo F Q w q dp r a v E L S) (row : PK Kn.str lo (Q 15) b l) (hb : Few E N) (hN : N + l.length < 30000000) (hf : FitL L)
    (k : ∀ F' r' a' Q' h', F.le F' → Sep lo F' Q' h' → StM lo F' Q' w q dp r' a' v (writeS E L l).2.1 (writeS E L l).2.2 S → Upd 0 12 Q Q' → Post (.i .i64 (writeS E L l).1) h') : wpC Try.prog 19 [.p w 0, b] Post h := by
  refine call_sound (args := [.vv (.p w 0), .vv b]) (cuts := []) ⟨rfl, row.sc, trivial⟩ ?_
  rw [vc19]
  have wr := s.row row
  refine onO.mk wr.len ⟨fun m n0 i h' => ∃ (j : Nat) (F' : Hp) (r' : AV) (a' : Nat → AV) (Q' : Nat → Hp) (E' : Dk) (L' : Lg), i = j ∧ j ≤ l.length ∧ m = l.length - j ∧ F.le F' ∧ Sep lo F' Q' h' ∧ StM lo F' Q' w q dp r' a' v E' L' S ∧ Upd 0 12 Q Q' ∧ Few E' (N + j) ∧ FitL L' ∧ writeS E L l = writeS E' L' (l.drop j),
    ⟨_, 0, F, r, a, Q, E, L, rfl, by omega, rfl, Hp.le_refl _, s, m, Upd.refl, hb, hf, rfl⟩, ?_⟩
  rintro m' h0 n0 _ ⟨j, F', r', a', Q', E', L', rfl, hj, rfl, f', s', m2, u', few, fit, hw⟩
  have row' : PK Kn.str lo (Q' 15) b l := by rw [u' 15 (by omega)]; exact row
  obtain ⟨y0, y1, y2, y3⟩ := st_word s' m2.box
  obtain ⟨g1, g2, g3⟩ := fit
  refine onB.dec (fun e => ?_) (fun e => ?_)
  · obtain ⟨x, hx⟩ := get_lt (l := l) (k := j) (by omega)
    have hd : l.drop j = x :: l.drop (j + 1) := drop_cons hx
    rw [hd] at hw
    refine str0 (s'.row row') hx fun q1 q2 => onO.mk rfl (onO.mk y0 (onL.r1 rfl ?_))
    refine c28 s' m2.lg (few.mono (by omega)) q2 q1 g1 (by omega) (by omega) fun F3 r3 a3 Q3 h3 f3 s3 m3 u3 => onRet.i ?_
    have hstep : writeS E' L' (x :: l.drop (j + 1)) = if (appL E' L' x).1 = 0 then writeS (appL E' L' x).2.1 (appL E' L' x).2.2 (l.drop (j + 1)) else appL E' L' x := rfl
    rw [hstep] at hw
    refine onB.ndec (fun e2 => ?_) fun e2 => ?_
    · rw [if_neg e2] at hw
      rw [hw] at k
      exact k F3 r3 a3 Q3 h3 (Hp.le_trans f' f3) s3 (m2.log f3 m3 u3) (u'.trans u3)
    · rw [if_pos e2] at hw
      exact onO.mk (inc64 (by omega)) ⟨_, by show l.length - (j + 1) < l.length - j; omega, j + 1, F3, r3, a3, Q3, _, _, rfl, by omega, rfl, Hp.le_trans f' f3, s3, m2.log f3 m3 u3, u'.trans u3, (appL_few few).mono (by omega), appL_fit ⟨g1, g2, g3⟩, hw⟩
  · have : j = l.length := by omega
    subst this
    rw [List.drop_length] at hw
    have hw : writeS E L l = syncL E' L' := hw
    rw [hw] at k
    refine onO.mk rfl (onO.mk y0 (onL.r1 rfl (c29 s' m2.lg (few.mono (by omega)) fun a3 Q3 h3 s3 m3 u3 => onRet.i (k F' r' a3 Q3 h3 f' s3 (m2.log (Hp.le_refl _) m3 (u3)) (u'.trans u3)))))
/-- operations appended: the answer, the disk, the log, the store -/
def appS (E : Dk) (L : Lg) (S : StP) (l : List D.Op) : Int × Dk × Lg × StP :=
  if S.dead = true then (10, E, L, S) else if (∃ o ∈ l, mayO o = false) then (1, E, L, S) else if 2097152 < S.size + sizeL (recsO l) then (5, E, L, S) else
  if (writeS E L (recsO l)).1 = 0 then (0, (writeS E L (recsO l)).2.1, (writeS E L (recsO l)).2.2, ⟨S.l ++ l, S.size + sizeL (recsO l), S.dead⟩)
  else ((writeS E L (recsO l)).1, (writeS E L (recsO l)).2.1, (writeS E L (recsO l)).2.2, { S with dead := true })
theorem c8 {N : Nat} (s : Sep lo F Q h) (m : StM lo F Q w q dp r a v E L S) (vw : VwO lo F Q b l) (hl : l.length < 20000) (ho : ∀ o ∈ l, opOk o) (hb : Few E N) (hN : N < 20000000) (hf : FitL L) (hsl : S.l.length < 10000000) (hss : S.size ≤ 4611686018427387)
    (k : ∀ F' r' a' v' Q' h', F.le F' → Sep lo F' Q' h' → StM lo F' Q' w q dp r' a' v' (appS E L S l).2.1 (appS E L S l).2.2.1 (appS E L S l).2.2.2 → Kp 0 16 Q Q' → Q' 14 = Q 14 → Post (.i .i64 (appS E L S l).1) h') : wpC Try.prog 8 [.p w 0, b] Post h := by
  refine call_sound (args := [.vv (.p w 0), .vv b]) (cuts := []) ⟨rfl, (vw F Q h (Hp.le_refl _) s rfl).sc, trivial⟩ ?_
  rw [vc8]
  unfold appS at k
  obtain ⟨y0, y1, y2, y3⟩ := st_word s m.box
  refine onO.mk rfl (onO.mk y3 (onL.b1 (onB.mk (fun e => ?_) fun e => ?_)))
  · rw [if_pos e] at k
    exact k F r a v Q h (Hp.le_refl _) s m (fun _ _ => rfl) rfl
  rw [if_neg (by rw [e]; simp)] at k
  refine c18 s vw (by omega) ho (fun ex Q1 h1 s1 u1 => onTup.rii rfl (onB.pos rfl ?_)) fun hm r1 Q1 h1 s1 p1 u1 => onTup.rii p1.sc (onB.neg rfl ?_)
  · rw [if_pos ex] at k
    exact k F r a v Q1 h1 (Hp.le_refl _) s1 (m.same fun j hj => u1 j (by omega)) (fun j hj => u1 j (by omega)) (u1 14 (by omega))
  rw [if_neg (by rintro ⟨o, ho, h⟩; rw [hm o ho] at h; cases h)] at k
  have m1 := m.same (Q' := Q1) fun j hj => u1 j (by omega)
  have hsz := recs_len hm
  obtain ⟨z0, z1, z2, z3⟩ := st_word s1 m1.box
  refine onO.mk rfl (onO.mk z2 (onL.i1 (onO.mk (a := (2097152 : Int) - (S.size : Nat)) (sub64 (by omega) (by omega)) (onB.dec (fun e2 => ?_) fun e2 => ?_))))
  · rw [if_pos (by omega)] at k
    exact k F r a v Q1 h1 (Hp.le_refl _) s1 m1 (fun j hj => u1 j (by omega)) (u1 14 (by omega))
  rw [if_neg (by omega)] at k
  refine c19 s1 m1 p1 hb (by unfold recsO; rw [List.length_map]; omega) hf fun F2 r2 a2 Q2 h2 f2 s2 m2 u2 => onRet.i ?_
  have u02 : ∀ j, j ≠ 15 → 12 ≤ j → Q2 j = Q j := fun j h1 h2 => by rw [u2 j (by omega), u1 j (by omega)]
  refine onB.ndec (fun e3 => ?_) fun e3 => ?_
  · rw [if_neg e3] at k
    refine onO.mk rfl (st_put s2 m2.box m.wlo (i := 3) rfl (c := stC q v { S with dead := true }) rfl (by omega) fun h3 s3 => ?_)
    exact k F2 r2 a2 v _ h3 f2 s3 ⟨m2.lg.same fun j hj => updQ_ne (by omega), updQ_same, m.wlo, by rw [updQ_ne (by omega)]; exact m2.ops, m.ok⟩ (fun j hj => by rw [updQ_ne (by omega)]; exact u02 j (by omega) (by omega)) (by rw [updQ_ne (by omega)]; exact u02 14 (by omega) (by omega))
  rw [if_pos e3] at k
  obtain ⟨x0, x1, x2, x3⟩ := st_word s2 m2.box
  refine onO.mk rfl (onO.mk x1 (onL.r1 m2.ops.sc ?_))
  refine c20 (vw F2 Q2 h2 f2 s2 (u02 14 (by omega) (by omega))) (by omega) ho fun r3 h3 o3 => onRet.r o3.sc ?_
  have s3 := s2.frz o3.1 o3.2.1
  have f3 := s2.fgrow o3.1
  have row3 : OpRow (moreH h2 h3 F2) r3 l := o3.frozen
  have m3 := m2.fmono f3
  obtain ⟨v0, v1, v2, v3⟩ := st_word s3 m3.box
  refine ⟨onO.mk x1 v1, s3.appN m3.ops row3 hsl hl fun v5 h5 q13 s5 p5 => onO.mk rfl (onO.mk rfl ?_)⟩
  have e12 : updQ Q2 13 q13 12 = Hp.one w (stC q v S) lo := by rw [updQ_ne (by omega)]; exact m3.box
  obtain ⟨w0, w1, w2, w3⟩ := st_word s5 e12
  refine onO.mk w2 (onL.i1 ⟨onO.mk v2 w2, onO.mk x2 v2, ?_⟩)
  refine onO.mk (a := ((S.size + sizeL (recsO l) : Nat) : Int)) (add64 (by omega) (by omega)) ?_
  refine onO.mk rfl (st_put s5 e12 m.wlo (i := 1) p5.sc (c := stC q v5 S) rfl (by omega) fun h6 s6 => onO.mk rfl (st_put s6 updQ_same m.wlo (i := 2) rfl (c := stC q v5 ⟨S.l ++ l, S.size + sizeL (recsO l), S.dead⟩) rfl (by omega) fun h7 s7 => ?_))
  have same : ∀ j, j ≠ 12 → j ≠ 13 → updQ (updQ (updQ Q2 13 q13) 12 (Hp.one w (stC q v5 S) lo)) 12 (Hp.one w (stC q v5 ⟨S.l ++ l, S.size + sizeL (recsO l), S.dead⟩) lo) j = Q2 j := fun j h1 h2 => by rw [updQ_ne h1, updQ_ne h1, updQ_ne h2]
  refine k _ r2 a2 v5 _ h7 (Hp.le_trans f2 f3) s7 ⟨m3.lg.same fun j hj => same j (by omega) (by omega), updQ_same, m.wlo, by rw [updQ_ne (by omega), updQ_ne (by omega), updQ_same]; exact p5, fun o ho => ?_⟩ (fun j hj => by rw [same j (by omega) (by omega)]; exact u02 j (by omega) (by omega)) (by rw [same 14 (by omega) (by omega)]; exact u02 14 (by omega) (by omega))
  rcases List.mem_append.1 ho with h | h
  · exact m.ok o h
  · exact hm o h
/-- what it holds, told -/
theorem c11 (s : Sep lo F Q h) (m : StM lo F Q w q dp r a v E L S) (hl : S.l.length < 30000000) (k : ∀ r' h', NewOps h h' r' S.l → Post r' h') : wpC Try.prog 11 [.p w 0] Post h := by
  refine call_sound (args := [.vv (.p w 0)]) (cuts := []) ⟨rfl, trivial⟩ ?_
  rw [vc11]
  obtain ⟨y0, y1, y2, y3⟩ := st_word s m.box
  exact onO.mk rfl (onO.mk y1 (onL.r1 m.ops.sc (c20 (s.rows m.ops) (by omega) (fun o ho => may_opk (m.ok o ho)) fun r2 h2 o2 => onRet.r o2.sc (k r2 h2 o2))))
end
theorem sizeL_lay : ∀ l : Recs, sizeL l ≤ 2 * (layR l).length
  | [] => Nat.zero_le _
  | s :: l => by
    have := sizeL_lay l
    rw [sizeL_cons, layR_cons, List.length_append, lay1_len]; omega
theorem load_recs {E : Dk} (ok : ∀ (n : Nat) f, E.f[n]? = some f → f.ok) : (∀ b ∈ (loadR E).2.2.l, b.length ≤ 4096) ∧ sizeL (loadR E).2.2.l ≤ 8388608 ∧ (loadR E).2.2.l.length ≤ 8388608 := by
  have key : (∀ b ∈ (loadR E).2.2.l, b.length ≤ 4096) ∧ sizeL (loadR E).2.2.l ≤ 8388608 := by
    unfold loadR
    split
    · have hbl : (bytesOf E).length ≤ 4194304 := fileD_len ok
      obtain ⟨s1, s2, s3⟩ := scan_len (bytesOf E)
      have hl : (logOf E).l = (scanL (bytesOf E)).1 := by
        show [] ++ (scanL ((bytesOf E).drop 0)).1 = _
        rw [List.drop_zero, List.nil_append]
      show (∀ b ∈ (logOf E).l, _) ∧ sizeL (logOf E).l ≤ _
      rw [hl]
      have := sizeL_lay (scanL (bytesOf E)).1
      exact ⟨s2, by omega⟩
    · exact ⟨fun b h => (by cases h), by show sizeL [] ≤ _; exact Nat.zero_le _⟩
  have := len_sizeL (loadR E).2.2.l
  exact ⟨key.1, key.2, by omega⟩
/-- the records' operations -/
def opsO (l : Recs) : List D.Op := l.map fun b => (takeO b).1
section
variable {lo w q dp : Nat} {F F' h h' : Hp} {Q Q' : Nat → Hp} {a a' : Nat → AV} {r r' v v' b : AV} {E E' : Dk} {L L' : Lg} {S S' : StP} {Post : AV → Hp → Prop} {l : List D.Op}
theorem c5 (s : Sep lo F Q h) (d : DkA lo F Q 0 dp a E) (hb : Few E 30000000)
    (k1 : (loadR E).1 ≠ 0 → ∀ F' a' Q' h', F.le F' → Sep lo F' Q' h' → DkA lo F' Q' 0 dp a' (loadR E).2.1 → Kp 0 14 Q Q' → Post (.tup [.np, .i .i64 (loadR E).1]) h')
    (k2 : (loadR E).1 = 0 → (∃ b ∈ (loadR E).2.2.l, ¬ recO b) → ∀ F' Q' h', F.le F' → Sep lo F' Q' h' → Post (.tup [.np, .i .i64 1]) h')
    (k3 : (loadR E).1 = 0 → (∀ b ∈ (loadR E).2.2.l, recO b) → ∀ w q F' r' a' v' Q' h', F.le F' → Sep lo F' Q' h' → StM lo F' Q' w q dp r' a' v' (loadR E).2.1 (loadR E).2.2 ⟨opsO (loadR E).2.2.l, sizeL (loadR E).2.2.l, false⟩ → Kp 0 14 Q Q' → Post (.tup [.p w 0, .i .i64 0]) h') : wpC Try.prog 5 [.p dp 0] Post h := by
  refine call_sound (args := [.vv (.p dp 0)]) (cuts := [0]) ⟨rfl, trivial⟩ ?_
  rw [vc5]
  obtain ⟨z1, z2, z3⟩ := load_recs d.ok
  refine c15 s d hb (fun e F2 a2 Q2 h2 f2 s2 d2 u2 => onTup.ri rfl (onB.pos (by simp [e]) (k1 e F2 a2 Q2 h2 f2 s2 d2 fun j hj => u2 j (by omega)))) fun e q F2 r2 a2 Q2 h2 f2 s2 m2 u2 => onTup.ri rfl (onB.neg rfl fun w => ?_)
  generalize hL : (loadR E).2.2 = L at *
  generalize hE : (loadR E).2.1 = E2 at *
  refine c16 s2 m2 (by omega) fun r3 h3 o3 => onRet.r o3.sc fun hw hwlo => ?_
  have s3 := s2.frz o3.le o3.lo
  have f3 := s2.fgrow o3.le
  have row3 : SR (moreH h2 h3 F2) r3 L.l := o3.frozen str_flat
  have f03 := Hp.le_trans f2 f3
  have s4 := (s3.drop 13).alloc 12 hw [.p q 0, .ns, .i .i64 0, .b false]
  have m4 : StM lo (moreH h2 h3 F2) (updQ (updQ Q2 13 (Hp.none lo)) 12 (Hp.one w [.p q 0, .ns, .i .i64 0, .b false] lo)) w q dp r2 a2 .ns E2 L ⟨[], 0, false⟩ :=
    ⟨(m2.fmono f3).same fun j hj => by rw [updQ_ne (by omega), updQ_ne (by omega)], updQ_same, by rw [← s3.hlo]; exact hwlo, by rw [updQ_ne (by omega), updQ_same]; exact RowP.nil, fun o ho => (by cases ho)⟩
  have u4 : Kp 0 14 Q (updQ (updQ Q2 13 (Hp.none lo)) 12 (Hp.one w [.p q 0, .ns, .i .i64 0, .b false] lo)) := fun j hj => by rw [updQ_ne (by omega), updQ_ne (by omega)]; exact u2 j (by omega)
  refine ⟨fun m x y n h' => ∃ (j : Nat) (F5 : Hp) (v5 : AV) (Q5 : Nat → Hp), y = .np ∧ n = 0 ∧ j ≤ L.l.length ∧ m = L.l.length - j ∧ F.le F5 ∧ Sep lo F5 Q5 h' ∧ SR F5 x (L.l.drop j) ∧ StM lo F5 Q5 w q dp r2 a2 v5 E2 L ⟨opsO (L.l.take j), sizeL (L.l.take j), false⟩ ∧ (∀ b ∈ L.l.take j, recO b) ∧ Kp 0 14 Q Q5,
    ⟨_, 0, _, .ns, _, rfl, rfl, by omega, rfl, f03, s4, row3, m4, fun b hb => (by cases hb), u4⟩, ?_⟩
  rintro m h5 x hx _ _ _ ⟨j, F5, v5, Q5, rfl, rfl, hj, rfl, f5, s5, row5, m5, hr, u5⟩
  refine Dup.mk (onO.mk (row5.mono s5.fle).len (onB.mk (fun e0 => ?_) fun e0 => ?_))
  · have e0 := of_decide_eq_true e0
    rw [List.length_drop] at e0
    have : j = L.l.length := by omega
    subst this
    rw [List.take_length] at m5 hr
    exact k3 e hr w q F5 r2 a2 v5 Q5 h5 f5 s5 m5 u5
  · have e0 := of_decide_eq_false e0
    rw [List.length_drop] at e0
    obtain ⟨y, hy⟩ := get_lt (l := L.l) (k := j) (by omega)
    have hmem := List.mem_of_getElem? hy
    have hy1 := z1 y hmem
    have htk := take_succ' hy
    have hd0 : (L.l.drop j)[0]? = some y := by rw [List.getElem?_drop, Nat.add_zero]; exact hy
    refine str0 (j := 0) (row5.mono s5.fle) hd0 fun q1 q2 => ?_
    have hsz : sizeL (L.l.take j) ≤ sizeL L.l := sizeL_take
    refine c17 s5 m5 (by omega) q2 (by show (opsO _).length < _; unfold opsO; rw [List.length_map, List.length_take]; omega) (by show sizeL _ < _; omega) (fun hn F6 h6 f6 s6 => onRet.b (onB.neg rfl (k2 e ⟨y, hmem, hn⟩ F6 Q5 h6 (Hp.le_trans f5 f6) s6))) fun hyr F6 v6 Q6 h6 f6 s6 m6 u6 => onRet.b (onB.pos rfl ?_)
    have row6 := row5.mono f6
    obtain ⟨r7, e7, row7⟩ := row6.sl rfl (sz := 1) (i := 1) (j := (L.l.drop j).length) (lo := some 1) (hi := none) (by rw [List.length_drop]; omega) (Nat.le_refl _) rfl rfl
    have hdd : ((L.l.drop j).drop 1).take ((L.l.drop j).length - 1) = L.l.drop (j + 1) := by
      rw [List.take_of_length_le (by rw [List.length_drop]; omega), List.drop_drop]
    rw [hdd] at row7
    refine onO.mk e7 ⟨_, by show L.l.length - (j + 1) < L.l.length - j; omega, j + 1, F6, v6, Q6, rfl, rfl, by omega, rfl, Hp.le_trans f5 f6, s6, row7, ?_, fun b hb => ?_, fun i hi => by rw [u6 i (by omega)]; exact u5 i hi⟩
    · have he : (⟨opsO (L.l.take (j + 1)), sizeL (L.l.take (j + 1)), false⟩ : StP) = readS ⟨opsO (L.l.take j), sizeL (L.l.take j), false⟩ y := by
        unfold readS
        rw [htk, sizeL_app]
        simp [opsO, sizeL, Nat.add_assoc]
      rw [he]; exact m6
    · rw [htk] at hb
      rcases List.mem_append.1 hb with h | h
      · exact hr b h
      · simp at h; subst h; exact hyr
end
/-- all of the log's file is kept -/
def Clean (E : Dk) (L : Lg) (r : Recs) : Prop := fileD E (L.file : Nat) = ⟨layR r, []⟩
section
variable {E : Dk} {L : Lg} {r : Recs} {N : Nat} {C : Recs → Prop} {l ops : List D.Op}
theorem open_newc (hC : C []) (ho : E.off = false) (hf : E.f = (dkOf []).f) : ((loadR E).1 = 0 ∧ InvC (loadR E).2.1 (loadR E).2.2 [] 0 C ∧ Clean (loadR E).2.1 (loadR E).2.2 [] ∧ (loadR E).2.1.armed = E.armed) ∨ ((loadR E).1 = 10 ∧ E.armed = true ∧ (loadR E).2.1.f.length = 3 ∧ AllC (loadR E).2.1 C) := by
  have hr : recOf [] [] [] = [] := by decide
  rcases loadR_cc (x0 := []) (x1 := []) (x2 := []) (N := 0) (C := C) ho hf with ⟨h1, h2, h3, h4, h5, h6⟩ | ⟨h1, h2, h3, h4⟩
  · left
    rw [hr] at h6
    have := h6 (by decide) ⟨fun s hs => (by cases hs), by decide⟩ (Nat.le_refl _) hC
    exact ⟨h1, this.1, this.2, h5⟩
  · right
    rw [hr] at h4
    exact ⟨h1, h2, h3, h4.mono fun y e => by rw [e]; exact hC⟩
theorem syncL_clean (i : InvC E L r N C) (h : (syncL E L).1 = 0) : Clean (syncL E L).2.1 (syncL E L).2.2 r := by
  have hdead : L.dead = false := by rw [i.lg]
  have hfl := i.file
  unfold syncL at h ⊢
  rw [if_neg (by rw [hdead]; simp)] at h ⊢
  rcases syncR_cases (D := E) (n := L.file) (by omega) i.off i.len with ⟨_, _, _, _, g5⟩ | ⟨g1, _, _⟩
  · show fileD (syncR E (L.file : Nat)).2 (L.file : Nat) = _
    rw [g5 _ (by omega), if_pos rfl, i.seen]
  · have h : (syncR E (L.file : Nat)).1 = 0 := h
    rw [g1] at h; cases h
theorem writeS_c : ∀ (xs : Recs) {r : Recs} {E : Dk} {L : Lg} {N : Nat} {C : Recs → Prop}, InvC E L r N C → (∀ x ∈ xs, x.length ≤ 4096 ∧ Bytes8 x) → sizeL r + sizeL xs ≤ 2097152 →
    ((writeS E L xs).1 = 0 ∧ InvC (writeS E L xs).2.1 (writeS E L xs).2.2 (r ++ xs) N (fun y => y = r ++ xs) ∧ Clean (writeS E L xs).2.1 (writeS E L xs).2.2 (r ++ xs) ∧ (writeS E L xs).2.1.armed = E.armed) ∨
    ((writeS E L xs).1 = 10 ∧ E.armed = true ∧ (writeS E L xs).2.1.f.length = 3 ∧ AllC (writeS E L xs).2.1 (fun y => C y ∨ ∃ k, k ≤ xs.length ∧ y = r ++ xs.take k))
  | [], r, E, L, N, C, i, _, _ => by
    have hs : writeS E L [] = syncL E L := rfl
    rw [hs, List.append_nil]
    rcases syncL_c (C' := fun y => y = r) i rfl with ⟨a1, a2, a3⟩ | ⟨a1, a2, a3⟩
    · exact .inl ⟨a1, a2, syncL_clean i a1, a3⟩
    · exact .inr ⟨a1, a2, a3.len, a3.all.mono fun y h => .inl h⟩
  | x :: xs, r, E, L, N, C, i, hx, hs => by
    have hstep : writeS E L (x :: xs) = if (appL E L x).1 = 0 then writeS (appL E L x).2.1 (appL E L x).2.2 xs else appL E L x := rfl
    rw [sizeL_cons] at hs
    obtain ⟨x1, x2⟩ := hx x (by simp)
    have happ : r ++ x :: xs = (r ++ [x]) ++ xs := by simp
    rcases appL_c (C' := fun y => C y ∨ y = r ++ [x]) i x1 x2 (by omega) (fun y h => .inl h) (.inr rfl) with ⟨a1, a2, a3⟩ | ⟨a1, a2, a3⟩
    · rw [if_pos a1] at hstep
      have hsz : sizeL (r ++ [x]) + sizeL xs ≤ 2097152 := by
        rw [sizeL_app]; simp [sizeL] at *; omega
      rw [hstep]
      rcases writeS_c xs a2 (fun y hy => hx y (by simp [hy])) hsz with ⟨b1, b2, b3, b4⟩ | ⟨b1, b2, b3, b4⟩
      · left
        rw [happ]
        exact ⟨b1, b2, b3, b4.trans a3⟩
      · right
        refine ⟨b1, by rw [← a3]; exact b2, b3, b4.mono fun y h => ?_⟩
        rcases h with (h | h) | ⟨k, k1, k2⟩
        · exact .inl h
        · exact .inr ⟨1, by simp, by rw [h]; rfl⟩
        · exact .inr ⟨k + 1, by simp; omega, by rw [k2]; simp⟩
    · rw [if_neg (by rw [a1]; omega)] at hstep
      rw [hstep]
      exact .inr ⟨a1, a2, a3.len, a3.all.mono fun y h => .inl h⟩
theorem writeS_few : ∀ (xs : Recs) {E : Dk} {L : Lg} {N : Nat}, Few E N → Few (writeS E L xs).2.1 (N + xs.length)
  | [], E, L, N, w => (syncL_few w).mono (by simp)
  | x :: xs, E, L, N, w => by
    have hstep : writeS E L (x :: xs) = if (appL E L x).1 = 0 then writeS (appL E L x).2.1 (appL E L x).2.2 xs else appL E L x := rfl
    rw [hstep]
    have w1 : Few (appL E L x).2.1 (N + 1) := appL_few w
    split
    · exact (writeS_few xs w1).mono (by simp; omega)
    · exact w1.mono (by simp)
theorem InvC.fit (i : InvC E L r N C) : FitL L := by
  obtain ⟨z1, z2, z3, z4⟩ := i.size
  have := len_sizeL r
  rw [i.lg]
  exact ⟨i.ok.2, by have := layR_len8 i.ok; show (layR r).length ≤ 2097152 + sizeL r; omega, this⟩
theorem recs_ok (h : ∀ o ∈ l, mayO o = true ∧ Bytes8 o.key) : ∀ x ∈ recsO l, x.length ≤ 4096 ∧ Bytes8 x := fun x hx => by
  obtain ⟨o, ho, rfl⟩ := List.mem_map.1 hx
  obtain ⟨h1, h2⟩ := h o ho
  have := opE_len h1
  exact ⟨by omega, bytes_opE h2⟩
theorem recs_app {a b : List D.Op} : recsO (a ++ b) = recsO a ++ recsO b := List.map_append
theorem ops_recs (h : ∀ o ∈ l, mayO o = true ∧ Bytes8 o.key) : opsO (recsO l) = l := by
  unfold opsO recsO
  rw [List.map_map]
  conv => rhs; rw [← List.map_id l]
  refine List.map_congr_left fun o ho => ?_
  have := takeO_put (h o ho).1 (h o ho).2 []
  rw [List.append_nil] at this
  show (takeO (opE o)).1 = o
  rw [this]
theorem recs_rec (h : ∀ o ∈ l, mayO o = true ∧ Bytes8 o.key) : ∀ b ∈ recsO l, recO b := fun x hx => by
  obtain ⟨o, ho, rfl⟩ := List.mem_map.1 hx
  have := takeO_put (h o ho).1 (h o ho).2 []
  rw [List.append_nil] at this
  unfold recO
  rw [this]; exact ⟨rfl, rfl⟩
theorem appS_c (i : InvC E L (recsO ops) N C) (hm : ∀ o ∈ l, mayO o = true ∧ Bytes8 o.key) (hs : sizeL (recsO ops) + sizeL (recsO l) ≤ 2097152) :
    (appS E L ⟨ops, sizeL (recsO ops), false⟩ l = (0, (writeS E L (recsO l)).2.1, (writeS E L (recsO l)).2.2, ⟨ops ++ l, sizeL (recsO (ops ++ l)), false⟩) ∧ InvC (writeS E L (recsO l)).2.1 (writeS E L (recsO l)).2.2 (recsO (ops ++ l)) N (fun y => y = recsO (ops ++ l)) ∧ Clean (writeS E L (recsO l)).2.1 (writeS E L (recsO l)).2.2 (recsO (ops ++ l)) ∧ (writeS E L (recsO l)).2.1.armed = E.armed) ∨
    (appS E L ⟨ops, sizeL (recsO ops), false⟩ l = (10, (writeS E L (recsO l)).2.1, (writeS E L (recsO l)).2.2, ⟨ops, sizeL (recsO ops), true⟩) ∧ E.armed = true ∧ (writeS E L (recsO l)).2.1.f.length = 3 ∧ AllC (writeS E L (recsO l)).2.1 (fun y => C y ∨ ∃ k, k ≤ l.length ∧ y = recsO (ops ++ l.take k))) := by
  unfold appS
  rw [if_neg (by simp), if_neg (by rintro ⟨o, ho, h⟩; rw [(hm o ho).1] at h; cases h), if_neg (by show ¬ 2097152 < sizeL (recsO ops) + _; omega)]
  rcases writeS_c (recsO l) i (recs_ok hm) hs with ⟨b1, b2, b3, b4⟩ | ⟨b1, b2, b3, b4⟩
  · left
    rw [if_pos b1, recs_app, sizeL_app]
    exact ⟨rfl, b2, b3, b4⟩
  · right
    rw [if_neg (by rw [b1]; omega), b1]
    refine ⟨rfl, b2, b3, b4.mono fun y h => h.imp id fun ⟨k, k1, k2⟩ => ⟨k, by unfold recsO at k1; rw [List.length_map] at k1; exact k1, ?_⟩⟩
    rw [k2, recs_app]
    unfold recsO
    rw [List.map_take]
end
section
variable {h : Hp} {Post : AV → Hp → Prop}
theorem put_more {F : Hp} {p : Nat} {c : List AV} (f : F.le h) (hp : h.g p = none) : (F.put p c).le (moreH h (h.put p c) F) := fun k x e => by
  by_cases ek : k = p
  · subst ek
    unfold moreH
    rw [Hp.res_in (.inl hp), Hp.put_same]
    rw [Hp.put_same] at e; exact e
  · rw [Hp.put_ne _ _ ek] at e
    exact more_base f (Hp.le_trans f (Hp.le_put hp)) k x e
theorem theO_ok : mayO theO = true ∧ Bytes8 theO.key := ⟨theO_may, fun x hx => by simp [theO] at hx; omega⟩
theorem one_op' {d : AV} {p : Nat} (rd : IR h d theO.deps) (hp : h.g p = none) : OpRow (h.put p (opC theO d)) (.sl p 0 1 1 true 12) [theO] := by
  have kx : D.kOp.K (h.put p (opC theO d)) theO (opC theO d) := nums_in theO_ok.1 theO_ok.2 (rd.mono (Hp.le_put hp))
  refine ⟨[opC theO d], ⟨fun c hc => by simp at hc; subst hc; rfl, rfl, rfl, Nat.le_refl _, .inr ?_⟩, .cons kx .nil⟩
  unfold rdH
  rw [Hp.put_same]; rfl
/-- an operation appended to a new one, and told -/
theorem c12 (k : ∀ h', Post (.b true) h') : wpC Try.prog 12 [] Post h := by
  refine call_sound (args := []) (cuts := []) trivial ?_
  rw [vc12]
  have s := Sep.start h
  refine c4 s fun dp a Q1 h1 s1 d1 u1 => onRet.r rfl ?_
  rcases open_newc (E := dkOf []) (C := fun y => y = []) rfl rfl rfl with ⟨e1, i1, _, ar1⟩ | ⟨_, e2, _⟩
  rotate_left
  · cases e2
  have few1 : Few (loadR (dkOf [])).2.1 1 := loadR_few few0
  have hl0 : (loadR (dkOf [])).2.2.l = [] := by rw [i1.lg]
  refine c5 s1 d1 few0 (fun e => absurd e1 e) (fun _ ⟨b, hb, _⟩ => by rw [hl0] at hb; cases hb) fun _ _ w q F2 r2 a2 v2 Q2 h2 f2 s2 m2 u2 => onTup.ri rfl (c6 (onRet.i (onB.neg rfl (onO.mk rfl (onB.neg rfl ?_)))))
  rw [hl0] at m2
  have m2 : StM h.lo F2 Q2 w q dp r2 a2 v2 (loadR (dkOf [])).2.1 (loadR (dkOf [])).2.2 ⟨[], sizeL (recsO []), false⟩ := m2
  have ar : (loadR (dkOf [])).2.1.armed = false := ar1
  generalize (loadR (dkOf [])).2.1 = E2 at *
  generalize (loadR (dkOf [])).2.2 = L2 at *
  refine c7 fun d h3 o3 => onRet.op (o := theO) o3.sc fun p0 hp0 hlo0 => ?_
  have s3 := s2.frz o3.le o3.lo
  have rd : IR (moreH h2 h3 F2) d theO.deps := o3.frozen int_flat
  have f3 := s2.fgrow o3.le
  have row4 := (one_op' (h := moreH h2 h3 F2) rd (le_none s3.fle hp0)).mono (put_more s3.fle hp0)
  have lp : h3.le (h3.put p0 (opC theO d)) := Hp.le_put hp0
  have s4 := s3.frz lp rfl
  have f4 := s3.fgrow lp
  have ho : ∀ o ∈ [theO], mayO o = true ∧ Bytes8 o.key := fun o ho => by simp at ho; subst ho; exact theO_ok
  have hsz : sizeL (recsO ([] : List D.Op)) + sizeL (recsO [theO]) ≤ 2097152 := by
    have := recs_len (l := [theO]) fun o h => (ho o h).1
    show 0 + _ ≤ _
    simp at this ⊢; omega
  refine c8 (l := [theO]) s4 ((m2.fmono f3).fmono f4) (VwO.frz row4) (by simp) (fun o h => may_opk (ho o h).1) few1 (by omega) i1.fit (by simp) (by show sizeL [] ≤ _; exact Nat.zero_le _) fun F5 r5 a5 v5 Q5 h5 f5 s5 m5 u5 _ => onRet.i (c6 (onRet.i ?_))
  rcases appS_c (l := [theO]) i1 ho hsz with ⟨e3, _⟩ | ⟨_, e3, _⟩
  rotate_left
  · rw [ar] at e3; cases e3
  rw [e3] at m5 ⊢
  refine onB.pos rfl (c11 s5 m5 (by simp) fun r6 h6 o6 => onRet.r o6.sc ?_)
  refine c7 fun d7 h7 o7 => onRet.op (o := theO) o7.sc fun p8 hp8 hlo8 => ?_
  refine c10 ((o6.row.mono o7.le).mono (Hp.le_put hp8)) (one_op' o7.row hp8) (by simp) (fun o h => may_opk (ho o (by simpa using h)).1) (onRet.b ?_)
  rw [decide_eq_true (by rfl)]
  exact k _
end
/-- what is behind a crash, when all of it was kept -/
theorem clean_pick {E : Dk} {L : Lg} {r : Recs} {N : Nat} {C : Recs → Prop} (i : InvC E L r N C) (c : Clean E L r) (ps : List Int) :
    ∃ x0 x1 x2, crashL E.f ps = [x0, x1, x2] ∧ (if mkOf x2 = 0 then x0 else x1) = layR r ∧ recOf x0 x1 x2 = r ∧ x2.length ≤ N := by
  obtain ⟨mk, k1, k2, k3⟩ := i.mark
  obtain ⟨x0, x1, x2, cr, t0, t1, t2⟩ := crash_three i.len ps
  rw [k1] at t2
  have hx2 := outs_nil t2
  subst hx2
  have hpick : (if mkOf x2 = 0 then x0 else x1) = layR r := by
    rw [k2]
    have hfl := i.file
    unfold Clean at c
    generalize L.file = fl at *
    match fl, hfl with
    | 0, _ => rw [c] at t0; rw [if_pos rfl]; exact outs_nil t0
    | 1, _ => rw [c] at t1; rw [if_neg (by omega)]; exact outs_nil t1
  exact ⟨x0, x1, x2, cr, hpick, by unfold recOf; rw [hpick, scan_all i.ok.1], k3⟩
/-- a part by another number -/
theorem Sep.move {lo : Nat} {F h : Hp} {Q : Nat → Hp} (s : Sep lo F Q h) {i j : Nat} (hij : i ≠ j) : Sep lo F (updQ (updQ Q j (Q i)) i (Hp.none lo)) h := by
  have key : ∀ m, m ≠ i → updQ (updQ Q j (Q i)) i (Hp.none lo) m = Q (if m = j then i else m) := fun m e => by
    rw [updQ_ne e]
    by_cases em : m = j
    · subst em; rw [updQ_same, if_pos rfl]
    · rw [updQ_ne em, if_neg em]
  refine ⟨s.hlo, s.fle, s.flo, fun m => ?_, fun m => ?_, fun m => ?_, fun m k e => ?_⟩
  · by_cases em : m = i
    · subst em; rw [updQ_same]; exact none_le _ _
    · rw [key m em]; exact s.le _
  · by_cases em : m = i
    · subst em; rw [updQ_same]; rfl
    · rw [key m em]; exact s.lo _
  · by_cases em : m = i
    · subst em; rw [updQ_same]; exact none_disj
    · rw [key m em]; exact s.df _
  · by_cases em : m = i
    · subst em; rw [updQ_same]; exact none_disj
    · by_cases ek : k = i
      · subst ek; rw [updQ_same]; exact disj_none
      · rw [key m em, key k ek]
        refine s.dd _ _ fun h => ?_
        by_cases e1 : m = j
        · by_cases e2 : k = j
          · exact e (e1.trans e2.symm)
          · rw [if_pos e1, if_neg e2] at h; exact ek h.symm
        · by_cases e2 : k = j
          · rw [if_neg e1, if_pos e2] at h; exact em h
          · rw [if_neg e1, if_neg e2] at h; exact e h
/-- a part frozen -/
theorem Sep.chill {lo : Nat} {F h : Hp} {Q : Nat → Hp} (s : Sep lo F Q h) (i : Nat) : Sep lo (F.add (Q i)) (updQ Q i (Hp.none lo)) h := by
  refine ⟨s.hlo, add_le s.fle (s.le i), s.lo i, fun m => ?_, fun m => ?_, fun m => ?_, fun m k e => ?_⟩
  · by_cases em : m = i
    · subst em; rw [updQ_same]; exact none_le _ _
    · rw [updQ_ne em]; exact s.le m
  · by_cases em : m = i
    · subst em; rw [updQ_same]; rfl
    · rw [updQ_ne em]; exact s.lo m
  · by_cases em : m = i
    · subst em; rw [updQ_same]; exact none_disj
    · rw [updQ_ne em]; exact fun k c e => addH_none (s.df m k c e) (s.dd m i em k c e)
  · by_cases em : m = i
    · subst em; rw [updQ_same]; exact none_disj
    · by_cases ek : k = i
      · subst ek; rw [updQ_same]; exact disj_none
      · rw [updQ_ne em, updQ_ne ek]; exact s.dd m k e
section
variable {lo w q dp : Nat} {F F' h h' : Hp} {Q Q' : Nat → Hp} {v : AV} {S : StP} {Post : AV → Hp → Prop}
theorem c137h (hb : h.g w = some (stC q v S)) (row : OpRow h v S.l) (hl : S.l.length < 30000000) (ok : ∀ o ∈ S.l, mayO o = true) (k : ∀ r' h', NewOps h h' r' S.l → Post r' h') : wpC Try.prog 11 [.p w 0] Post h := by
  refine call_sound (args := [.vv (.p w 0)]) (cuts := []) ⟨rfl, trivial⟩ ?_
  rw [vc11]
  have y1 : rdH h w (0 + 1) 1 = some [v] := rdBox hb rfl
  exact onO.mk rfl (onO.mk y1 (onL.r1 row.sc (c20 row (by omega) (fun o ho => may_opk (ok o ho)) fun r2 h2 o2 => onRet.r o2.sc (k r2 h2 o2))))
/-- appended, while the power is there -/
theorem c141ok {q dp N : Nat} {r b : AV} {a : Nat → AV} {E : Dk} {L : Lg} {ops l : List D.Op} (s : Sep lo F Q h) (m : StM lo F Q w q dp r a v E L ⟨ops, sizeL (recsO ops), false⟩) (inv : InvC E L (recsO ops) 0 (fun y => y = recsO ops)) (ar : E.armed = false) (few : Few E N)
    (vw : VwO lo F Q b l) (gok : ∀ o ∈ l, mayO o = true ∧ Bytes8 o.key) (ok : ∀ o ∈ ops, mayO o = true ∧ Bytes8 o.key) (h1 : ops.length ≤ 100) (h2 : l.length ≤ 100) (hN : N ≤ 1000)
    (k : ∀ F' r' a' v' Q' h' E' L', F.le F' → Sep lo F' Q' h' → StM lo F' Q' w q dp r' a' v' E' L' ⟨ops ++ l, sizeL (recsO (ops ++ l)), false⟩ → InvC E' L' (recsO (ops ++ l)) 0 (fun y => y = recsO (ops ++ l)) → Clean E' L' (recsO (ops ++ l)) → E'.armed = false → Few E' (N + l.length) → Kp 0 16 Q Q' → Post (.i .i64 0) h') : wpC Try.prog 8 [.p w 0, b] Post h := by
  have z1 := recs_len fun o ho => (ok o ho).1
  have z2 := recs_len fun o ho => (gok o ho).1
  refine c8 (l := l) s m vw (by omega) (fun o ho => may_opk (gok o ho).1) few (by omega) inv.fit (by show ops.length < _; omega) (by show sizeL (recsO ops) ≤ _; omega) fun F8 r8 a8 v8 Q8 h8 f8 s8 m8 u8 _ => ?_
  have wfew := writeS_few (recsO l) (L := L) few
  rw [show (recsO l).length = l.length from List.length_map _] at wfew
  rcases appS_c (l := l) inv gok (by omega) with ⟨ee, inv8, cln8, ar8⟩ | ⟨_, ee, _⟩
  rotate_left
  · rw [ar] at ee; cases ee
  rw [ee] at m8 ⊢
  exact k F8 r8 a8 v8 Q8 h8 _ _ f8 s8 m8 inv8 cln8 (by rw [ar8]; exact ar) wfew u8
/-- a store in whose disk nothing goes wrong -/
structure SoS (lo : Nat) (F0 F : Hp) (Q : Nat → Hp) (h : Hp) (dp w : Nat) (yv : AV) (ops all : List D.Op) (N : Nat) : Prop where
  fle : F0.le F
  s : Sep lo F Q h
  m : ∃ q rr a v E L, StM lo F Q w q dp rr a v E L ⟨ops, sizeL (recsO ops), false⟩ ∧ InvC E L (recsO ops) 0 (fun y => y = recsO ops) ∧ Clean E L (recsO ops) ∧ E.armed = false ∧ Few E N
  row : RowP D.kOp F lo (Q 16) yv all
/-- the operation of the i-th time -/
def theOi (i : Nat) : D.Op := { theO with stamp := ⟨i, 0⟩ }
theorem theOi_ok {i : Nat} (h : i ≤ 20) (h1 : 1 ≤ i) : mayO (theOi i) = true ∧ Bytes8 (theOi i).key := by
  refine ⟨?_, fun x hx => by simp [theOi, theO] at hx; omega⟩
  have : ∀ k : Fin 21, 1 ≤ k.val → mayO (theOi k.val) = true := by decide
  exact this ⟨i, by omega⟩ h1
/-- the first j of them -/
def theOs (j : Nat) : List D.Op := (List.range j).map fun i => theOi (i + 1)
theorem theOs_succ {j : Nat} : theOs (j + 1) = theOs j ++ [theOi (j + 1)] := by unfold theOs; rw [List.range_succ, List.map_append]; rfl
theorem theOs_len {j : Nat} : (theOs j).length = j := by unfold theOs; simp
theorem theOs_ok {j : Nat} (h : j ≤ 20) : ∀ o ∈ theOs j, mayO o = true ∧ Bytes8 o.key := fun o ho => by
  obtain ⟨i, hi, rfl⟩ := List.mem_map.1 ho
  rw [List.mem_range] at hi
  exact theOi_ok (by omega) (by omega)
end
end Go.Proofs.YthnhdgcaolgdnaaAn
