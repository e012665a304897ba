/- What the functions that the law reaches come to, down to the law itself. -/
import Derived.Test.YtecjbmibngfpmaaCnHoldTakesp1
import Derived.Test.YtecjbmibngfpmaaProg
import Derived.Lib.Overlaps
set_option linter.unusedVariables false
set_option linter.unusedSimpArgs false
set_option maxRecDepth 100000
namespace Go.Proofs.YtecjbmibngfpmaaAn
open Go
/-- what comes back: three rows apart from one another and from what was seen -/
structure Out3 (g h' : Hp) (r1 r2 r3 : AV) (w : List Int) (s t : List D.Op) (q1 q2 q3 : Hp) : Prop where
  le : g.le h'
  lo : h'.lo = g.lo
  p1 : IntP h'.lo q1 r1 w
  p2 : OpsP h'.lo q2 r2 s
  p3 : OpsP h'.lo q3 r3 t
  l1 : q1.le h'
  l2 : q2.le h'
  l3 : q3.le h'
  d1 : Disj q1 g
  d2 : Disj q2 g
  d3 : Disj q3 g
  d12 : Disj q1 q2
  d13 : Disj q1 q3
  d23 : Disj q2 q3
theorem Out3.mono {g g' h' : Hp} {r1 r2 r3 : AV} {w : List Int} {s t : List D.Op} {q1 q2 q3 : Hp} (x : Out3 g h' r1 r2 r3 w s t q1 q2 q3) (le : g'.le g) (lo : g'.lo = g.lo) : Out3 g' h' r1 r2 r3 w s t q1 q2 q3 :=
  ⟨Hp.le_trans le x.le, x.lo.trans lo.symm, x.p1, x.p2, x.p3, x.l1, x.l2, x.l3, x.d1.le_right le, x.d2.le_right le, x.d3.le_right le, x.d12, x.d13, x.d23⟩
theorem disj_none {q : Hp} {lo : Nat} : Disj q (Hp.none lo) := fun k c e => rfl
theorem none_disj {q : Hp} {lo : Nat} : Disj (Hp.none lo) q := fun k c e => by cases e
section
variable {g h : Hp} {a b c d : AV} {v : List Int} {l m : List D.Op} {o p : D.Op} {Post : AV → Hp → Prop}
theorem c32 {qv qh : Hp} (pv : IntP h.lo qv a v) (ph : OpsP h.lo qh b l) (lv : qv.le h) (lh : qh.le h) (gl : g.le h) (glo : h.lo = g.lo) (dvh : Disj qv qh) (dvg : Disj qv g) (dhg : Disj qh g) (rd : IR g d o.deps) (kx : D.kOp.K g o (opC o d))
    (mr : MayR v l) (hf : fitsO v o = true) (hv : v.length ≤ 16)
    (k1 : letH v l o = none → ∀ h', g.le h' → h'.lo = g.lo → Post (.tup [.ns, .ns, .ns, .i .i64 5]) h')
    (k2 : ∀ w s t, letH v l o = some (w, s, t) → ∀ r1 r2 r3 h' q1 q2 q3, Out3 g h' r1 r2 r3 w s t q1 q2 q3 → Post (.tup [r1, r2, r3, .i .i64 0]) h') :
    wpC Try.prog 32 [a, b, .agg (opC o d)] Post h := by
  have rdh : IR h d o.deps := rd.mono gl
  refine call_sound (args := [.vv a, .vv b, opS o d]) (cuts := [0, 5000024]) ⟨(pv.row lv).sc, (ph.row lh).sc, opS_good rd.sc, trivial⟩ ?_
  unfold opS
  rw [vc32]
  intro p0 p1 hp1 hl1
  have hl1 : h.lo ≤ p1 := hl1
  obtain ⟨r, hr, hlt, s1, s2, hdl, _⟩ := fits_rep hf
  obtain ⟨x, hx⟩ := get_lt (l := v) (k := r) hlt
  have hst : staleB v o = decide (o.seq ≤ x) := by unfold staleB; rw [hr, Int.toNat_natCast, getD_some hx]
  have hlen := mr.len
  have hod : o.deps.length < 1000000 := by rw [hdl]; omega
  have L1 : h.le (h.put p1 (opC o d)) := Hp.le_put hp1
  have G1 : (h.put p1 (opC o d)).g p1 = some (opC o d) := Hp.put_same _ _ _
  refine ⟨fun c h' => h' = h.put p1 (opC o d) ∧ c = (staleB v o || l.any fun x => twinO x o), ?_, ?_⟩
  · refine onO.mk (rdBox G1 (o := 1) (n := 1) rfl) (onL.i1 (int0e (pv.row (Hp.le_trans lv L1)) hr hx (onO.mk (rdBox G1 (o := 2) (n := 1) rfl) (onL.i1 (onB.dec (fun e => ⟨rfl, by rw [hst, decide_eq_true e]; rfl⟩) (fun e => ?_))))))
    refine c48 (f := fno (fn := 52)) (pr := fun x => twinO x o) (ph.row (Hp.le_trans lh L1)) (by omega) ok229 (fun x dx _ rdx Post' k' => c52 (o := x) (p := o) rdx.sc (rdBox G1 rfl) rd.sc k') (onRet.b ⟨rfl, ?_⟩)
    rw [idxO_any, hst, decide_eq_false e]; rfl
  rintro h1 c1 ⟨eh1, hc1⟩
  have L1 : h.le h1 := by rw [eh1]; exact L1
  have G1 : h1.g p1 = some (opC o d) := by rw [eh1]; exact G1
  have lo1 : h1.lo = h.lo := by rw [eh1]; rfl
  clear eh1
  refine onB.mk (fun e => ?_) (fun e => ?_)
  · refine k2 v l [] (by unfold letH; rw [if_pos (by rw [← hc1]; exact e)]) a b .ns h1 qv qh (Hp.none h1.lo) ⟨Hp.le_trans gl L1, lo1.trans glo, by rw [lo1]; exact pv, by rw [lo1]; exact ph, OpsP.nil _, Hp.le_trans lv L1, Hp.le_trans lh L1, none_le _ _, dvg, dhg, none_disj, dvh, disj_none, disj_none⟩
  rw [e] at hc1
  have hn1 : ¬ (staleB v o || l.any fun x => twinO x o) = true := by rw [← hc1]; simp
  have htw : (l.any fun x => twinO x o) = false := by
    have := hc1.symm
    rw [Bool.or_eq_false_iff] at this; exact this.2
  have n1 : ∀ {X : Hp}, X.le h → X.g p1 = none := fun l => le_none l hp1
  refine onO.mk (rdBox G1 rfl) (onL.op rd.sc (c42 (pv.row (Hp.le_trans lv L1)) (rdh.mono L1) hf (by omega) (onRet.b (onB.not (fun e2 => ?_) (fun e2 => ?_)))))
  · -- held
    have hR : ∀ {X : Hp}, X.le h → Disj qh X → X.le (restH h1 qh) := fun l dj => le_restH (Hp.le_trans l L1) dj
    refine onO.mk (rdBox G1 rfl) (onL.op rd.sc (c53 (q := qh) (by rw [lo1]; exact ph) (Hp.le_trans lh L1) (rdh.mono L1) (D.kOp.mono (Hp.le_trans gl L1) kx) hod (by omega) mr.srt (fun e3 h3 le3 lo3 => ?_) (fun e3 r3 h3 Q le3 lo3 Q1 Q2 Q3 => ?_)))
    · refine onTup.ri rfl (onB.pos rfl (k1 ?_ h3 (Hp.le_trans gl (Hp.le_trans L1 le3)) (lo3.trans (lo1.trans glo))))
      unfold letH
      rw [if_neg hn1, if_neg (by rw [e2]; simp), if_pos (by rw [Bool.or_eq_true, decide_eq_true_eq]; exact e3)]
    · refine onTup.ri (Q3.row Q1).sc (onB.neg rfl (k2 v (insH l o) [] ?_ a r3 .ns h3 qv Q (Hp.none h3.lo) ⟨Hp.le_trans (hR gl dhg) le3, lo3.trans (lo1.trans glo), by rw [lo3, lo1]; exact pv, Q3, OpsP.nil _, Hp.le_trans (hR lv dvh.symm) le3, Q1, none_le _ _, dvg, Q2.le_right (hR gl dhg), none_disj, (Q2.le_right (hR lv dvh.symm)).symm, disj_none, disj_none⟩))
      unfold letH
      rw [if_neg hn1, if_neg (by rw [e2]; simp), if_neg (by rw [Bool.or_eq_true, decide_eq_true_eq]; exact e3)]
  · -- taken
    intro hp0 hl0
    have hp0g : g.g p0 = none := le_none gl (le_none L1 hp0)
    have Lg : g.le (g.put p0 [a]) := Hp.le_put hp0g
    have hne : p1 ≠ p0 := fun e => by rw [e, hp0] at G1; cases G1
    have L2 : h1.le (h1.put p0 [a]) := Hp.le_put hp0
    have dP : ∀ {q : Hp}, q.le h → Disj q g → Disj q (g.put p0 [a]) := fun {q} l dj k c e => by
      have : k ≠ p0 := fun e' => by
        have := le_none l (le_none L1 hp0)
        rw [e', this] at e; cases e
      rw [Hp.put_ne _ _ this]; exact dj k c e
    have GL : (g.put p0 [a]).le (h1.put p0 [a]) := fun k c e => by
      by_cases hk : k = p0
      · subst hk; rw [Hp.put_same] at e ⊢; exact e
      · rw [Hp.put_ne _ _ hk] at e ⊢; exact L1 _ _ (gl _ _ e)
    have inv0 := inv_first mr hf htw e2
    have hlet : letH v l o = some (runH l.length v l o []) := by unfold letH; rw [if_neg hn1, if_pos e2]
    refine ⟨fun m _ a6 a7 a8 a9 _ h' => ∃ v' l' o' t' d' qv' qh' qt' qo', m = l'.length ∧ v'.length = v.length ∧ t'.length + l'.length ≤ 100 ∧ InvH v' l' o' ∧ runH l.length v l o [] = runH l'.length v' l' o' t' ∧ LW (g.put p0 [a]) h.lo p0 p1 a a6 a9 d' v' l' t' o' qv' qh' qt' qo' h',
      ⟨l.length, v, l, o, [], d, qv, qh, Hp.none h.lo, g, rfl, rfl, by simp; omega, inv0, rfl,
        ⟨GL, lo1, Hp.put_same _ _ _, by rw [Hp.put_ne _ _ hne]; exact G1, hl1, pv, ph, OpsP.nil _, Hp.le_trans lv (Hp.le_trans L1 L2), Hp.le_trans lh (Hp.le_trans L1 L2), none_le _ _, Hp.le_trans gl (Hp.le_trans L1 L2), dP lv dvg, dP lh dhg, none_disj, dvh, disj_none, disj_none, dvg, dhg, none_disj, rd, by rw [Hp.put_ne _ _ hne]; exact n1 gl, n1 lv, n1 lh, rfl, n1 gl, ⟨g, kx⟩⟩⟩, ?_⟩
    rintro m h4 _ a6 _ a7 _ a8 _ a9 _ _ ⟨v', l', o', t', d', qv', qh', qt', qo', rfl, hv', ht', inv, hrun, w⟩
    refine Dup.mk (let_round w inv (by omega) (by omega) fun a14 h7 qv2 qt2 w2 => ?_)
    have hl16 := inv.len
    have rv2 : IR h7 a (setV v' o') := w2.pv.row w2.lv
    have b07 : rdH h7 p0 0 1 = some [a] := rdBox (w2.gl _ _ w2.b0) rfl
    refine c55 (f := fno (fn := 56)) (pr := readyV (setV v' o')) (w2.ph.row w2.lh) (by omega) ok233 (fun x dx hx rdx Post' k' => c56 (o := x) rdx b07 rv2 (by rw [fits_set]; exact inv.fit x hx) (by rw [setV_len]; omega) k') (onRet.i ?_)
    rcases next_spec (v := setV v' o') (l := l') with ⟨e1, e3, e4⟩ | ⟨i, x, e1, e3, e4, e5, e6⟩
    · rw [e3]
      refine onB.neg rfl ?_
      have hsc : idxO (staleV (setV v' o')) l' 0 = -1 := by
        rcases idxO_spec (pr := staleV (setV v' o')) (l := l') (k := 0) with ⟨f1, _⟩ | ⟨i, x, f1, f2, f3, _⟩
        · exact f1
        · have := sta_set inv x (List.mem_of_getElem? f2)
          unfold staleV at f3
          unfold staleB at this
          rw [f3] at this; cases this
      refine call_sound (args := [.vv a6, .vv (.f (fno (fn := 59)) [.p p0 0])]) (cuts := []) ⟨(w2.ph.row w2.lh).sc, rfl, trivial⟩ ?_
      rw [vc58]
      refine c55 (f := fno (fn := 59)) (pr := staleV (setV v' o')) (w2.ph.row w2.lh) (by omega) ok236 (fun x dx hx rdx Post' k' => c59 (o := x) rdx b07 rv2 (by rw [fits_set]; exact inv.fit x hx) (by rw [setV_len]; omega) k') (onRet.i ?_)
      rw [hsc]
      refine onB.pos rfl (onRet.r (w2.ph.row w2.lh).sc (onO.mk b07 (onL.r1 rv2.sc ?_)))
      have lo7 : h7.lo = h.lo := w2.hlo
      exact k2 _ _ _ (by rw [hlet, hrun, run_none e1]) a a6 a14 h7 qv2 qh' qt2 ⟨Hp.le_trans Lg w2.gl, lo7.trans glo, by rw [lo7]; exact w2.pv, by rw [lo7]; exact w2.ph, by rw [lo7]; exact w2.pt, w2.lv, w2.lh, w2.lt, w2.dvg.le_right Lg, w2.dhg.le_right Lg, w2.dtg.le_right Lg, w2.dvh, w2.dvt, w2.dht⟩
    · rw [e3]
      refine onB.pos (decide_eq_true (by omega)) ?_
      have hi := (List.getElem?_eq_some_iff.1 e4).1
      have hdl' := del_len hi
      exact let_next w2 e4 (by omega) fun a18 dx h10 qh3 qo3 w3 => ⟨(delH l' i).length, by show _ < _; omega, _, _, _, _, _, _, _, _, _, rfl, by rw [setV_len]; exact hv', by simp; omega, inv_next inv e4 e5, by rw [hrun, run_some e1 e4], w3⟩
/-- Take -/
theorem c9 (ra : IR h a v) (rb : OpRow h b l) (rd : IR h d o.deps) (kx : D.kOp.K h o (opC o d)) (hv : v.length < 1000000) (hb : l.length < 1000000) (ho : ∀ o ∈ l, o.deps.length < 1000000) (hd : o.deps.length < 1000000)
    (k0 : (vecV v && (mayH v l && fitsO v o)) = false → ∀ h', h.le h' → h'.lo = h.lo → Post (.tup [.ns, .ns, .ns, .i .i64 1]) h')
    (k1 : (vecV v && (mayH v l && fitsO v o)) = true → letH v l o = none → ∀ h', h.le h' → h'.lo = h.lo → Post (.tup [.ns, .ns, .ns, .i .i64 5]) h')
    (k2 : (vecV v && (mayH v l && fitsO v o)) = true → ∀ w s t, letH v l o = some (w, s, t) → ∀ r1 r2 r3 h' q1 q2 q3, Out3 h h' r1 r2 r3 w s t q1 q2 q3 → Post (.tup [r1, r2, r3, .i .i64 0]) h') :
    wpC Try.prog 9 [a, b, .agg (opC o d)] Post h := by
  refine call_sound (args := [.vv a, .vv b, opS o d]) (cuts := []) ⟨ra.sc, rb.sc, opS_good rd.sc, trivial⟩ ?_
  unfold opS
  rw [vc9]
  refine fun _ => c29 ra hv (onRet.b (onB.not (fun e => k0 (by rw [e]; rfl) h (Hp.le_refl _) rfl) (fun e => c30 ra rb hv hb ho fun h1 le1 lo1 => onRet.b (onB.not (fun e1 => k0 (by rw [e, e1]; rfl) h1 le1 lo1) (fun e1 => ?_)))))
  refine c31 (ra.mono le1) (rd.mono le1) hd (onRet.b (onB.not (fun e2 => k0 (by rw [e, e1, e2]; rfl) h1 le1 lo1) (fun e2 => ?_)))
  have hall : (vecV v && (mayH v l && fitsO v o)) = true := by rw [e, e1, e2]; rfl
  have hv16 : v.length ≤ 16 := by
    unfold vecV at e
    simp only [Bool.and_eq_true, decide_eq_true_eq] at e
    exact e.2.2
  refine c33 (ra.mono le1) hv fun a4 h3 o4 => onRet.r o4.sc ?_
  obtain ⟨qv, v1, v2, v3⟩ := IntP.of o4
  have le3 : h.le h3 := Hp.le_trans le1 o4.le
  have lo3 : h3.lo = h.lo := o4.lo.trans lo1
  refine c34 (rb.mono le3) hb ho fun r h4 Q le4 lo4 Q1 Q2 Q3 => onRet.r (Q3.row Q1).sc ?_
  refine c32 (g := h) (qv := qv) (qh := Q) (by rw [lo4, o4.lo]; exact v3) Q3 (Hp.le_trans v1 le4) Q1 (Hp.le_trans le3 le4) (lo4.trans lo3) (Q2.le_right v1).symm (v2.le_right le1) (Q2.le_right le3) rd kx (may_R (mayH_of e1)) e2 hv16 (fun e3 h5 le5 lo5 => onTup.rrri rfl rfl rfl (k1 hall e3 h5 le5 lo5)) (fun w s t e3 r1 r2 r3 h5 q1 q2 q3 x => onTup.rrri (x.p1.row x.l1).sc (x.p2.row x.l2).sc (x.p3.row x.l3).sc (k2 hall w s t e3 r1 r2 r3 h5 q1 q2 q3 x))
end
/-- a call that sees a part alone; what it leaves stands apart from the rest -/
theorem wpC.partD {P : Program} {f : FuncId} {args : List AV} {Q : AV → Hp → Prop} {q h : Hp} (l : q.le h) (hl : q.lo = h.lo) (w : wpC P f args Q q) :
    wpC P f args (fun v h' => ∃ q', q'.le h' ∧ (restH h q).le h' ∧ Disj q' (restH h q) ∧ h'.lo = h.lo ∧ q'.lo = h.lo ∧ Q v q') h := by
  have w' := wpC.frame (g := restH h q) (p := q) hl (rest_disj q h) w
  rw [add_rest l hl.symm] at w'
  refine w'.mono fun v h' ⟨q', e, dj, hlo, k⟩ => ⟨q', ?_, ?_, dj, ?_, hlo, k⟩
  · rw [e]; exact Hp.le_left _ _
  · rw [e]; exact Hp.le_right dj
  · rw [e]; rfl
/-! ### plain -/
noncomputable def doneH (v : List Int) (l t : List D.Op) : List Int × List D.Op × List D.Op := match nextH v l with
  | none => (v, l, t)
  | some i => match l[i]? with
    | some x => runH (delH l i).length v (delH l i) x t
    | none => (v, l, t)
theorem run_done {v : List Int} {l t : List D.Op} {o : D.Op} : runH l.length v l o t = doneH (setV v o) l (t ++ [o]) := by
  unfold doneH
  rcases next_spec (v := setV v o) (l := l) with ⟨h1, _, _⟩ | ⟨k, x, h1, _, h3, _⟩
  · rw [run_none h1, h1]
  · rw [run_some h1 h3, h1]
    show _ = match l[k]? with | some x => runH (delH l k).length (setV v o) (delH l k) x (t ++ [o]) | none => _
    rw [h3]
theorem done_all {v : List Int} {l t : List D.Op} (h : ∀ x ∈ l, readyV v x = false) : doneH v l t = (v, l, t) := by
  unfold doneH
  rcases next_spec (v := v) (l := l) with ⟨h1, _, _⟩ | ⟨k, x, h1, _, h3, h4, _⟩
  · rw [h1]
  · rw [h x (List.mem_of_getElem? h3)] at h4; cases h4
theorem done_at {v : List Int} {l t : List D.Op} {i : Nat} {x : D.Op} (hx : l[i]? = some x) (hr : readyV v x = true) (hb : ∀ y ∈ l.take i, readyV v y = false) : doneH v l t = doneH (setV v x) (delH l i) (t ++ [x]) := by
  rw [← run_done]
  conv => lhs; unfold doneH
  rcases next_spec (v := v) (l := l) with ⟨h1, _, h3⟩ | ⟨k, y, h1, _, h3, h4, h5⟩
  · rw [h3 x (List.mem_of_getElem? hx)] at hr; cases hr
  · have : k = i := by
      rcases Nat.lt_trichotomy k i with e | e | e
      · have hk := List.getElem?_eq_some_iff.1 h3
        rw [hb y (List.mem_take_iff_getElem.2 ⟨k, by have := hk.1; omega, hk.2⟩)] at h4; cases h4
      · exact e
      · have hk := List.getElem?_eq_some_iff.1 hx
        rw [h5 x (List.mem_take_iff_getElem.2 ⟨i, by have := hk.1; omega, hk.2⟩)] at hr; cases hr
    subst this
    rw [h1]
    show (match l[k]? with | some x => runH (delH l k).length v (delH l k) x t | none => _) = _
    rw [hx]
section
variable {g h : Hp} {a b c d : AV} {v : List Int} {l m : List D.Op} {o p : D.Op} {Post : AV → Hp → Prop}
theorem app_ops {p h : Hp} {css1 : List (List AV)} {l1 l2 : List D.Op} (f : Fresh p h a 12 css1) (k1 : All2 (D.kOp.K p) l1 css1) (rb : OpRow p b l2) (hl : l1.length + l2.length < 1000000) (hl2 : l2.length < 900000)
    (k : ∀ r h2 css, Fresh p h2 r 12 css → All2 (D.kOp.K p) (l1 ++ l2) css → Post r h2) :
    onO (srcV 12 b) fun r0 => onC (((4 * r0.fst + 4000) * 120).ble (OfNat.ofNat 17179869184)) (wpE (Eff.app a r0.fst r0.snd 12) (fun x0 h2 => onO x0 fun a6 => Post a6 h2) h) := by
  obtain ⟨css2, r1, r2⟩ := rb
  obtain ⟨s, s1, s2⟩ := r1.src
  have hn := r2.length
  have hn1 := k1.length
  have s3 : srcH h s = some css2.flatten := by
    cases s with
    | lit l => exact s2
    | mem b o n => exact rdH_le f.le s2
  refine onO.mk s1 (onC.mk (Nat.ble_eq_true_of_le (by show (4 * css2.length + 4000) * 120 ≤ 17179869184; omega)) ?_)
  exact f.app (n := css2.length) (css2 := css2) s3 r1.1 rfl (Kn.all_sc r2) (by omega) fun r h2 f2 => onO.mk rfl (k r h2 _ f2 (k1.append r2))
theorem c45 {i : Nat} (ra : OpRow h a l) (hi : i < l.length) (hb : l.length < 100000) (ho : ∀ o ∈ l, o.deps.length < 1000000) (k : ∀ r h', h.le h' → h'.lo = h.lo → OpRow h' r (delH l i) → Post r h') : wpC Try.prog 45 [a, .i .i64 (i : Int)] Post h := by
  refine call_sound (args := [.vv a, .ii .i64 i]) (cuts := []) ⟨ra.sc, trivial, trivial⟩ ?_
  rw [vc45]
  refine ra.uptoH rfl (by omega) fun r' br => c20 br (by simp; omega) (fun x hx => ho x (List.mem_of_mem_take hx)) fun A h0 oA => onRet.r oA.sc (onO.mk (inc64 (by omega)) ?_)
  obtain ⟨p, css, p1, p2, f, f2⟩ := oA
  refine ra.fromH rfl (by omega) fun r2 br2 => ?_
  refine (f.call (Q := fun v p' => D.kOp.Own p p' v (l.drop (i + 1))) (c20 (br2.mono p1) (by simp; omega) (fun x hx => ho x (List.mem_of_mem_drop hx)) fun r' h' o => o)).mono ?_
  rintro B h1 ⟨p', f', hlo, oB⟩
  refine onRet.r oB.sc (app_ops f' (f2.mono fun _ _ q => D.kOp.mono oB.le q) oB.row (by simp; omega) (by simp; omega) fun r h2 css' f3 k3 => ?_)
  exact k r h2 (Hp.le_trans (Hp.le_trans p1 oB.le) f3.le) (f3.lo.trans (hlo.trans p2)) ⟨css', f3.row, k3.mono fun _ _ q => D.kOp.mono f3.le q⟩
/-- the vector written, in a part of its own -/
theorem IntP.setv {qv B : Hp} (pv : IntP h.lo qv a v) (lv : qv.le h) (i : Nat) (x : Int) (hi : i < v.length) (hx : In64 x) {n : Int} (hn : n = i) {Post : Option AV → Hp → Prop} (k : ∀ h' qv', IntP h'.lo qv' a (v.set i x) → h'.lo = h.lo → (restH h qv).le h' → qv'.le h' → Disj qv' (restH h qv) → Post none h') :
    onO (idxV a n 1) fun r => wpE (.w r.1 r.2 (.lit [.i .i64 x]) none) Post h := by
  subst hn
  refine (pv.outer lv).set1 (sz := 1) rfl int_flat hi ⟨rfl, hx⟩ fun h' o' => ?_
  obtain ⟨q', v1, v2, v3⟩ := IntP.of o'
  have lo' : h'.lo = h.lo := o'.lo
  exact k h' q' (by rw [lo']; exact v3) lo' o'.le v1 v2
/-- the document's copy of what is seen, while it takes -/
structure RW (g B qv h : Hp) (a1 a18 a19 : AV) (v : List Int) (l t : List D.Op) (css : List (List AV)) : Prop where
  gB : g.le B
  glo : B.lo = g.lo
  Blo : B.lo = h.lo
  pv : IntP h.lo qv a1 v
  dj : Disj qv B
  rl : OpRow B a19 l
  f : Fresh (qv.add B) h a18 12 css
  kt : All2 (D.kOp.K B) t css
theorem RW.leB {B qv : Hp} {a1 a18 a19 : AV} {t : List D.Op} {css : List (List AV)} (w : RW g B qv h a1 a18 a19 v l t css) : B.le h := Hp.le_trans (Hp.le_right w.dj) w.f.le
theorem RW.leV {B qv : Hp} {a1 a18 a19 : AV} {t : List D.Op} {css : List (List AV)} (w : RW g B qv h a1 a18 a19 v l t css) : qv.le h := Hp.le_trans (Hp.le_left _ _) w.f.le
/-- another part of the same, beside the row of what is taken -/
theorem fresh_move {G G' h h' : Hp} {sz : Nat} {css : List (List AV)} (f : Fresh G h a sz css) (l : G'.le h') (lo : h'.lo = G'.lo) (lo2 : G'.lo = G.lo) (hb : ∀ b o len lo ex z, a = .sl b o len lo ex z → G'.g b = none ∧ h'.g b = h.g b) : Fresh G' h' a sz css := by
  refine ⟨l, lo, ⟨f.row.1, ?_⟩, fun b o len lo' ex z e => ?_⟩
  · have r := f.row.2
    cases a <;> first | exact r | skip
    obtain ⟨r1, r2, r3, r4⟩ := r
    refine ⟨r1, r2, r3, r4.imp id fun e => ?_⟩
    unfold rdH at e ⊢
    rw [(hb _ _ _ _ _ _ rfl).2]; exact e
  · obtain ⟨n1, n2, cs, n3, n4⟩ := f.new _ _ _ _ _ _ e
    obtain ⟨m1, m2⟩ := hb _ _ _ _ _ _ e
    exact ⟨m1, by rw [lo2]; exact n2, cs, by rw [m2]; exact n3, n4⟩
theorem add_none2 {p g : Hp} {k : Nat} (e : (p.add g).g k = none) : p.g k = none ∧ g.g k = none := by
  have e : (match p.g k with | some c => some c | none => g.g k) = none := e
  cases h : p.g k with
  | none => rw [h] at e; exact ⟨rfl, e⟩
  | some x => rw [h] at e; cases e
theorem RW.setv {B qv : Hp} {a1 a18 a19 : AV} {t : List D.Op} {css : List (List AV)} (w : RW g B qv h a1 a18 a19 v l t css) {i : Nat} {x : Int} (hi : i < v.length) (hx : In64 x) {n : Int} (hn : n = i) {Post : Option AV → Hp → Prop} (k : ∀ h' qv', RW g B qv' h' a1 a18 a19 (v.set i x) l t css → Post none h') :
    onO (idxV a1 n 1) fun r => wpE (.w r.1 r.2 (.lit [.i .i64 x]) none) Post h := by
  refine w.pv.setv (B := B) w.leV i x hi hx hn fun h' qv' p lo' l1 l2 d => k h' qv' ?_
  have rB : B.le (restH h qv) := le_restH w.leB w.dj
  have dB : Disj qv' B := d.le_right rB
  refine ⟨w.gB, w.glo, w.Blo.trans lo'.symm, p, dB, w.rl, ?_, w.kt⟩
  have le' : (qv'.add B).le h' := fun k c e => by
    rcases add_cases e with e | e
    · exact l2 k c e
    · exact l1 k c (rB k c e)
  refine fresh_move w.f le' (by show h'.lo = B.lo; rw [lo', w.Blo]) rfl fun b of len lo ex z e => ?_
  obtain ⟨n1, n2, cs, n3, n4⟩ := w.f.new _ _ _ _ _ _ e
  obtain ⟨m1, m2⟩ := add_none2 n1
  have hr : (restH h qv).g b = some cs := by
    show (match qv.g b with | some _ => none | none => h.g b) = some cs
    rw [m1]; exact n3
  exact ⟨addH_none (d.symm b cs hr) m2, by rw [l1 b cs hr, n3]⟩
/-- a call that only adds -/
theorem RW.grow {B qv : Hp} {a1 a18 a19 : AV} {t : List D.Op} {css : List (List AV)} (w : RW g B qv h a1 a18 a19 v l t css) {f : FuncId} {args : List AV} {l' : List D.Op} (hw : wpC Try.prog f args (fun r B' => B.le B' ∧ OpRow B' r l') B) (k : ∀ r B' h', RW g B' qv h' a1 a18 r v l' t css → r.sc = true → Post r h') : wpC Try.prog f args Post h := by
  refine (wpC.partD w.leB w.Blo hw).mono ?_
  rintro r h' ⟨B', e1, e2, e3, e4, e5, e6, e7⟩
  have rv : qv.le (restH h B) := le_restH w.leV w.dj.symm
  have dv : Disj qv B' := (e3.le_right rv).symm
  refine k r B' h' ⟨Hp.le_trans w.gB e6, e5.trans (w.Blo.symm.trans w.glo), e5.trans e4.symm, by rw [e4]; exact w.pv, dv, e7, ?_, w.kt.mono fun _ _ q => D.kOp.mono e6 q⟩ e7.sc
  have le' : (qv.add B').le h' := fun k c e => by
    rcases add_cases e with e | e
    · exact e2 k c (rv k c e)
    · exact e1 k c e
  refine fresh_move w.f le' (by show h'.lo = B'.lo; rw [e4, e5]) (by show B'.lo = B.lo; rw [e5, w.Blo]) fun b of len lo ex z e => ?_
  obtain ⟨n1, n2, cs, n3, n4⟩ := w.f.new _ _ _ _ _ _ e
  obtain ⟨m1, m2⟩ := add_none2 n1
  have hr : (restH h B).g b = some cs := by
    show (match B.g b with | some _ => none | none => h.g b) = some cs
    rw [m2]; exact n3
  exact ⟨addH_none m1 (e3.symm b cs hr), by rw [e2 b cs hr, n3]⟩
/-- one taken -/
theorem RW.take {B qv : Hp} {a1 a18 a19 : AV} {t : List D.Op} {css : List (List AV)} (w : RW g B qv h a1 a18 a19 v l t css) {x : D.Op} {dx : AV} (kx : D.kOp.K B x (opC x dx)) (ht : t.length < 900000) {Post : Option AV → Hp → Prop} (k : ∀ r h' css', RW g B qv h' a1 r a19 v l (t ++ [x]) css' → Post (some r) h') :
    wpE (.app a18 1 (.lit (opC x dx)) 12) Post h := by
  have hl := w.kt.length
  refine w.f.app (n := 1) (css2 := [opC x dx]) (src := .lit (opC x dx)) (by simp [srcH]) (fun c' hc' => by simp at hc'; rw [hc']; rfl) rfl (by simpa using D.kOp.sc kx) (by omega) fun r h' f' => k r h' _ ⟨w.gB, w.glo, w.Blo.trans (by rw [w.f.lo, f'.lo]), by rw [show h'.lo = h.lo by rw [w.f.lo, f'.lo]]; exact w.pv, w.dj, w.rl, f', w.kt.append (.cons kx .nil)⟩
end
theorem split_next {l : List D.Op} {o y : D.Op} {i j : Nat} (hs : Srt l) (hy : l[i]? = some y) (h : SplitAt (l.take i) o j) : (ltS y.stamp o.stamp → SplitAt (l.take (i + 1)) o (i + 1)) ∧ (¬ ltS y.stamp o.stamp → SplitAt (l.take (i + 1)) o j) := by
  have hi := (List.getElem?_eq_some_iff.1 hy).1
  have hlen : (l.take i).length = i := by simp; omega
  have hlen1 : (l.take (i + 1)).length = i + 1 := by simp; omega
  refine ⟨fun hlt => ⟨by omega, fun k z hk hz => ?_, fun k z hk hz => ?_⟩, fun hlt => ⟨by have := h.1; omega, fun k z hk hz => ?_, fun k z hk hz => ?_⟩⟩
  · rw [List.getElem?_take_of_lt hk] at hz
    by_cases e : k = i
    · subst e; rw [hy] at hz; injection hz with hz; subst hz; exact hlt
    · have := hs k i z y (by omega) hz hy
      unfold ltS at *; omega
  · rw [List.getElem?_eq_none (by omega)] at hz; cases hz
  · have hj := h.1
    rw [List.getElem?_take_of_lt (by omega)] at hz
    exact h.2.1 k z hk (by rw [List.getElem?_take_of_lt (by omega)]; exact hz)
  · by_cases e : k < i + 1
    · rw [List.getElem?_take_of_lt e] at hz
      by_cases e2 : k = i
      · subst e2; rw [hy] at hz; injection hz with hz; subst hz; exact hlt
      · exact h.2.2 k z hk (by rw [List.getElem?_take_of_lt (by omega)]; exact hz)
    · rw [List.getElem?_eq_none (by omega)] at hz; cases hz
section
variable {g h : Hp} {a b c d : AV} {v : List Int} {l m : List D.Op} {o p : D.Op} {Post : AV → Hp → Prop}
theorem c26 (ra : IR h a v) (rb : OpRow h b l) (rd : IR h d o.deps) (kx : D.kOp.K h o (opC o d)) (mr : MayR v l) (hf : fitsO v o = true) (hv : v.length ≤ 16)
    (k0 : letH v l o = none → ∀ r1 r2 h', h.le h' → h'.lo = h.lo → r1.sc = true → r2.sc = true → Post (.tup [r1, r2, .ns, .i .i64 5]) h')
    (k1 : ∀ w s t, letH v l o = some (w, s, t) → ∀ r1 r2 r3 h', h.le h' → h'.lo = h.lo → IR h' r1 w → OpRow h' r2 s → OpRow h' r3 t → Post (.tup [r1, r2, r3, .i .i64 0]) h') :
    wpC Try.prog 26 [a, b, .agg (opC o d)] Post h := by
  refine call_sound (args := [.vv a, .vv b, opS o d]) (cuts := [15000045, 17000056, 29000080, 22999999]) ⟨ra.sc, rb.sc, opS_good rd.sc, trivial⟩ ?_
  unfold opS
  rw [vc26]
  obtain ⟨r, hr, hlt, s1, s2, hdl, _⟩ := fits_rep hf
  obtain ⟨x, hx⟩ := get_lt (l := v) (k := r) hlt
  have hst : staleB v o = decide (o.seq ≤ x) := by unfold staleB; rw [hr, Int.toNat_natCast, getD_some hx]
  have hlen := mr.len
  have hod : o.deps.length < 1000000 := by rw [hdl]; omega
  have hok : ∀ y ∈ l, y.deps.length < 1000000 := fun y hy => by
    obtain ⟨_, _, _, _, _, e, _⟩ := fits_rep (mr.fit y hy)
    rw [e]; omega
  refine fun _ => c19 ra (by omega) fun a1 h0 o0 => onRet.r o0.sc ?_
  obtain ⟨qv, v1, v2, v3⟩ := IntP.of o0
  refine (wpC.partD (q := h) o0.le o0.lo.symm (Q := fun r B => h.le B ∧ OpRow B r l) (c20 rb (by omega) hok fun r' h' o => ⟨o.le, o.row⟩)).mono ?_
  rintro a3 h1 ⟨B, b1, b2, b3, b4, b5, b6, b7⟩
  have qr : qv.le (restH h0 h) := le_restH v1 v2.symm
  have v1' : qv.le h1 := Hp.le_trans qr b2
  have dBv : Disj B qv := b3.le_right qr
  have lo1 : h1.lo = h.lo := b4.trans o0.lo
  have L1 : h.le h1 := Hp.le_trans b6 b1
  have rv : IR h1 a1 v := v3.row v1'
  have rb1 : OpRow h1 a3 l := b7.mono b1
  refine onRet.r b7.sc (int0e rv hr hx ?_)
  refine ⟨fun m c0 c1 n1 n2 h' => h1 = h' ∧ ∃ i j : Nat, n2 = i ∧ n1 = j ∧ i ≤ l.length ∧ m = l.length - i ∧ c0 = (staleB v o || (l.take i).any fun x => twinO x o) ∧ c1 = hasS (l.take i) o ∧ SplitAt (l.take i) o j,
    ⟨l.length, rfl, 0, 0, rfl, rfl, by omega, rfl, by rw [hst]; simp, rfl, Nat.zero_le _, fun k y hk => by omega, fun k y _ hy => by simp at hy⟩, ?_⟩
  rintro m _ _ _ _ _ ⟨rfl, i, j, rfl, rfl, hi, rfl, rfl, rfl, hsp⟩
  refine onO.mk rb1.len (onB.dec (fun e => ?_) (fun e => ?_))
  · obtain ⟨y, hy⟩ := get_lt (l := l) (k := i) (by omega)
    refine ⟨fun c _ h' => h1 = h' ∧ c = (staleB v o || (l.take (i + 1)).any fun x => twinO x o), ?_, ?_⟩
    · rw [take_succ' hy, List.any_append]
      refine onB.mk (fun e1 => ⟨rfl, by rw [← Bool.or_assoc, e1]; rfl⟩) (fun e1 => ?_)
      rw [← Bool.or_assoc, e1]
      refine opW rb1 (Hp.le_refl _) hy fun dy rdy _ => c44 (o := y) (p := o) rdy.sc rd.sc (onRet.b ⟨rfl, ?_⟩)
      simp
    rintro _ c3 _ ⟨rfl, hc3⟩
    refine ⟨fun c _ h' => h1 = h' ∧ c = hasS (l.take (i + 1)) o, ?_, ?_⟩
    · unfold hasS
      rw [take_succ' hy, List.any_append]
      refine onB.mk (fun e1 => ⟨rfl, by rw [e1]; rfl⟩) (fun e1 => ?_)
      rw [e1]
      refine opP rb1 (Hp.le_refl _) hy (off := 0) (n := 2) (c := [.i .i64 y.stamp.time, .i .i64 y.stamp.rep]) rfl (onL.i2 ⟨rfl, ?_⟩)
      rw [stamp_eq]; simp
    rintro _ c5 _ ⟨rfl, hc5⟩
    obtain ⟨sp1, sp2⟩ := split_next mr.srt hy hsp
    refine opP rb1 (Hp.le_refl _) hy (off := 0) (n := 2) (c := [.i .i64 y.stamp.time, .i .i64 y.stamp.rep]) rfl (onL.i2 (c43 (a := y.stamp) (b := o.stamp) (onRet.i ?_)))
    refine ⟨fun n h' => h1 = h' ∧ ∃ j' : Nat, n = j' ∧ SplitAt (l.take (i + 1)) o j', onB.dec (fun e1 => onO.mk (inc64 (by omega)) ⟨rfl, i + 1, rfl, sp1 (cmpT_ltS.1 e1)⟩) (fun e1 => ⟨rfl, j, rfl, sp2 fun q => e1 (cmpT_ltS.2 q)⟩), ?_⟩
    rintro _ _ ⟨rfl, j', rfl, hj'⟩
    exact onO.mk (inc64 (by omega)) ⟨_, by show l.length - (i + 1) < l.length - i; omega, rfl, i + 1, j', rfl, rfl, by omega, rfl, hc3, hc5, hj'⟩
  have ei : i = l.length := by omega
  rw [ei, List.take_length] at hsp ⊢
  have hpos := split_pos hsp
  refine onB.mk (fun e1 => k1 v l [] (by unfold letH; rw [if_pos e1]) a1 a3 .ns h1 L1 lo1 rv rb1 nsO) (fun e1 => ?_)
  have hn1 : ¬ (staleB v o || l.any fun x => twinO x o) = true := by rw [e1]; simp
  have htw := (Bool.or_eq_false_iff.1 e1).2
  refine c18 rv (rd.mono L1) hf (by omega) (onRet.b (onB.not (fun e2 => ?_) (fun e2 => ?_)))
  · refine ⟨fun c h' => h1 = h' ∧ c = (hasS l o || decide (l.length = 16)), onO.mk rb1.len (onB.dec (fun e3 => ⟨rfl, ?_⟩) (fun e3 => ⟨rfl, ?_⟩)), ?_⟩
    · rw [decide_eq_true (show l.length = 16 by omega), Bool.or_true]
    · rw [decide_eq_false (show ¬ l.length = 16 by omega), Bool.or_false]
    rintro _ c8 ⟨rfl, hc8⟩
    refine onB.mk (fun e3 => k0 (by unfold letH; rw [if_neg hn1, if_neg (by rw [e2]; simp), if_pos (by rw [← hc8]; exact e3)]) a1 a3 h1 L1 lo1 rv.sc rb1.sc) (fun e3 => ?_)
    have hlet : letH v l o = some (v, insH l o, []) := by unfold letH; rw [if_neg hn1, if_neg (by rw [e2]; simp), if_neg (by rw [← hc8, e3]; simp)]
    have hj := hsp.1
    refine rb1.uptoH rfl hj fun r' br => c20 br (by simp; omega) (fun y hy => hok y (List.mem_of_mem_take hy)) fun A h2 oA => onRet.r oA.sc ?_
    obtain ⟨p, css, p1, p2, f, f2⟩ := oA
    refine (f.call (Q := fun v p' => ∃ r', v = .agg (opC o r') ∧ Kn.int.Own p p' r' o.deps) (c23 (o := o) (rd.mono (Hp.le_trans L1 p1)) hod fun r' h' ow => ⟨r', rfl, ow⟩)).mono ?_
    rintro _ h3 ⟨p', f', hlo, r2, rfl, ow⟩
    have hcl := f2.length
    have ko : D.kOp.K p' o (opC o r2) := op_again kx ow.row
    refine onRet.op ow.sc fun _ => f'.app (n := 1) (css2 := [opC o r2]) (src := .lit (opC o r2)) (by simp [srcH]) (fun c' hc' => by simp at hc'; rw [hc']; rfl) rfl (by simpa using D.kOp.sc ko) (by rw [← hcl]; simp; omega) fun A2 h4 f4 => onO.mk rfl ?_
    have pp : p.le p' := ow.le
    refine (b7.mono (Hp.le_trans b1 (Hp.le_trans p1 pp))).fromH rfl hj fun a14 br14 => ?_
    refine app_ops f4 ((f2.mono fun _ _ q => D.kOp.mono pp q).append (.cons ko .nil)) br14 (by simp; omega) (by simp; omega) fun r5 h6 css' f6 k6 => ?_
    have L6 : h1.le h6 := Hp.le_trans (Hp.le_trans p1 pp) f6.le
    have lo6 : h6.lo = h.lo := f6.lo.trans (hlo.trans (p2.trans lo1))
    exact k1 v (insH l o) [] hlet a1 r5 .ns h6 (Hp.le_trans L1 L6) lo6 (rv.mono L6) ⟨css', f6.row, by unfold insH; rw [← hpos]; exact (by simpa using k6.mono fun _ _ q => D.kOp.mono f6.le q)⟩ nsO
  · refine (wpC.partD (q := B) b1 (b5.trans b4.symm) (Q := fun v B' => ∃ r', v = .agg (opC o r') ∧ Kn.int.Own B B' r' o.deps) (c23 (o := o) (rd.mono b6) hod fun r' h' ow => ⟨r', rfl, ow⟩)).mono ?_
    rintro _ h14 ⟨B2, e3, e4, e5, e6, e7, r2, rfl, ow⟩
    have qr2 : qv.le (restH h1 B) := le_restH v1' dBv
    have dB2 : Disj B2 qv := e5.le_right qr2
    have BB : B.le B2 := ow.le
    refine onRet.op ow.sc fun p7 => ?_
    have lo14 : h14.lo = h.lo := e6.trans lo1
    refine IntP.setv (B := B2) (qv := qv) (v := v) (by rw [lo14]; exact v3) (Hp.le_trans qr2 e4) r o.seq hlt ⟨by omega, by omega⟩ hr fun h15 qv' w1 w2 w3 w4 w5 => fun hp7 hlo7 => ?_
    have hlo7 : h15.lo ≤ p7 := hlo7
    have hlet : letH v l o = some (runH l.length v l o []) := by unfold letH; rw [if_neg hn1, if_pos e2]
    have rB2 : B2.le (restH h14 qv) := le_restH e3 dB2.symm
    have dv' : Disj qv' B2 := w5.le_right rB2
    have eset : v.set r o.seq = setV v o := by unfold setV; rw [hr]; rfl
    rw [eset] at w1
    have le15 : (qv'.add B2).le h15 := fun k c e => by
      rcases add_cases e with e | e
      · exact w4 k c e
      · exact w3 k c (rB2 k c e)
    have inv0 := inv_first mr hf htw e2
    have rw0 : RW h B2 qv' (h15.put p7 (opC o r2)) a1 (.sl p7 0 1 1 true 12) a3 (setV v o) l [o] [opC o r2] :=
      ⟨Hp.le_trans b6 BB, by rw [e7, lo1], by show B2.lo = h15.lo; rw [e7, w2, e6], w1, dv', b7.mono BB, Fresh.put (css := [opC o r2]) (sz := 12) (len := 1) le15 (by show h15.lo = B2.lo; rw [e7, w2, e6]) hp7 hlo7 true (fun c' hc' => by simp at hc'; rw [hc']; rfl) rfl (by simp), .cons (op_again kx ow.row) .nil⟩
    refine ⟨fun m a18 a19 n41 h' => ∃ (B qv : Hp) (css : List (List AV)) (v0 : List Int) (o0 : D.Op) (l' t' : List D.Op) (i : Nat), n41 = i ∧ i ≤ l'.length ∧ m = l'.length * 100 + (50 - i) ∧ v0.length = v.length ∧ t'.length + l'.length ≤ 100 ∧ InvH v0 l' o0 ∧ runH l.length v l o [] = doneH (setV v0 o0) l' t' ∧ (∀ y ∈ l'.take i, readyV (setV v0 o0) y = false) ∧ RW h B qv h' a1 a18 a19 (setV v0 o0) l' t' css,
      ⟨_, B2, qv', _, v, o, l, [o], 0, rfl, Nat.zero_le _, rfl, rfl, by simp; omega, inv0, run_done, fun y hy => by simp at hy, rw0⟩, ?_⟩
    clear rw0 dv' le15 rB2
    rintro m h16 a18 _ a19 _ _ ⟨B3, qv3, css, v0, o0, l', t', i, rfl, hi, rfl, hv0, ht', inv, hrun, hno, w⟩
    have hl16 := inv.len
    have rv3 := w.pv.row w.leV
    refine onO.mk w.rl.len (onB.dec (fun e => ?_) (fun e => ?_))
    · obtain ⟨y, hy⟩ := get_lt (l := l') (k := i) (by omega)
      have hfy := inv.fit y (List.mem_of_getElem? hy)
      obtain ⟨ry, hry, hlty, y1, y2, hdy, _⟩ := fits_rep hfy
      refine opW w.rl w.leB hy fun dy rdy _ => c18 rv3 (rdy.mono w.leB) (by rw [fits_set]; exact hfy) (by rw [setV_len]; omega) (onRet.b (onB.not (fun e3 => ?_) (fun e3 => ?_)))
      · refine onO.mk (inc64 (by omega)) ⟨_, by show l'.length * 100 + (50 - (i + 1)) < l'.length * 100 + (50 - i); omega, B3, qv3, css, v0, o0, l', t', i + 1, rfl, by omega, rfl, hv0, ht', inv, hrun, fun z hz => ?_, w⟩
        rw [take_succ' hy] at hz
        rcases List.mem_append.1 hz with hz | hz
        · exact hno z hz
        · simp at hz; subst hz; exact e3
      · have hil := (List.getElem?_eq_some_iff.1 hy).1
        have hdl2 := del_len hil
        refine opW w.rl w.leB hy fun dy2 rdy2 ky2 _ => w.take ky2 (by omega) fun r7 h18 css2 w2 => onO.mk rfl ?_
        refine opP w2.rl w2.leB hy (off := 1) (n := 1) (c := [.i .i64 y.stamp.rep]) rfl (onL.i1 (opP w2.rl w2.leB hy (off := 2) (n := 1) (c := [.i .i64 y.seq]) rfl (onL.i1 ?_)))
        refine w2.setv (i := ry) (x := y.seq) (by rw [setV_len]; omega) ⟨by omega, by omega⟩ hry fun h19 qv4 w3 => ?_
        have eset2 : (setV v0 o0).set ry y.seq = setV (setV v0 o0) y := by
          show _ = (setV v0 o0).set y.stamp.rep.toNat y.seq
          rw [hry]; rfl
        rw [eset2] at w3
        refine w3.grow (l' := delH l' i) (c45 w3.rl hil (by omega) (fun z hz => by obtain ⟨_, _, _, _, _, e, _⟩ := fits_rep (inv.fit z hz); rw [e]; omega) fun r8 h' le lo rr => ⟨le, rr⟩) fun r8 B5 h20 w4 sc8 => onRet.r sc8 ⟨_, by show (delH l' i).length * 100 + (50 - 0) < l'.length * 100 + (50 - i); omega, B5, qv4, css2, setV v0 o0, y, delH l' i, t' ++ [y], 0, rfl, Nat.zero_le _, rfl, by rw [setV_len]; exact hv0, by simp; omega, inv_next inv hy e3, by rw [hrun, done_at hy e3 hno], fun z hz => by simp at hz, w4⟩
    · have ei : i = l'.length := by omega
      rw [ei, List.take_length] at hno
      have hdone := done_all (t := t') hno
      rw [hdone] at hrun
      refine ⟨fun m a26 n65 h' => a19 = a26 ∧ h16 = h' ∧ ∃ i : Nat, n65 = i ∧ i ≤ l'.length ∧ m = l'.length - i, ⟨_, rfl, rfl, 0, rfl, Nat.zero_le _, rfl⟩, ?_⟩
      rintro m _ _ _ _ ⟨rfl, rfl, i2, rfl, hi2, rfl⟩
      refine onO.mk w.rl.len (onB.dec (fun e3 => ?_) (fun e3 => ?_))
      · obtain ⟨y, hy⟩ := get_lt (l := l') (k := i2) (by omega)
        have hym := List.mem_of_getElem? hy
        obtain ⟨ry, hry, hlty, y1, y2, hdy, _⟩ := fits_rep (inv.fit y hym)
        obtain ⟨z, hz⟩ := get_lt (l := setV v0 o0) (k := ry) (by rw [setV_len]; omega)
        have hsy := sta_set inv y hym
        unfold staleB at hsy
        rw [hry, Int.toNat_natCast, getD_some hz] at hsy
        have hsy := of_decide_eq_false hsy
        refine opP w.rl w.leB hy (off := 2) (n := 1) (c := [.i .i64 y.seq]) rfl (onL.i1 (opP w.rl w.leB hy (off := 1) (n := 1) (c := [.i .i64 y.stamp.rep]) rfl (onL.i1 (int0e rv3 hry hz (onB.neg (decide_eq_false hsy) (onO.mk (inc64 (by omega)) ⟨_, by show l'.length - (i2 + 1) < l'.length - i2; omega, rfl, rfl, i2 + 1, rfl, by omega, rfl⟩))))))
      · exact k1 _ _ _ (by rw [hlet, hrun]) a1 a19 a18 h16 (Hp.le_trans w.gB w.leB) (w.Blo.symm.trans w.glo) rv3 (w.rl.mono w.leB) ⟨css, w.f.row, w.kt.mono fun _ _ q => D.kOp.mono w.leB q⟩
end
theorem let_len {v w : List Int} {l s t : List D.Op} {o : D.Op} (h : letH v l o = some (w, s, t)) (ht : l.length ≤ 16) : w.length = v.length ∧ t.length ≤ 100 ∧ ∀ x ∈ t, x = o ∨ x ∈ l := by
  have run : ∀ (n : Nat) {v : List Int} {l t : List D.Op} {o : D.Op}, (runH n v l o t).1.length = v.length ∧ (runH n v l o t).2.2.length ≤ t.length + n + 1 ∧ ∀ x ∈ (runH n v l o t).2.2, x ∈ t ∨ x = o ∨ x ∈ l := by
    intro n
    induction n with
    | zero =>
      intro v l t o
      refine ⟨setV_len, by show (t ++ [o]).length ≤ _; simp, fun x hx => ?_⟩
      have hx : x ∈ t ++ [o] := hx
      rcases List.mem_append.1 hx with hx | hx
      · exact .inl hx
      · simp at hx; exact .inr (.inl hx)
    | succ n ih =>
      intro v l t o
      have base : (setV v o).length = v.length ∧ (t ++ [o]).length ≤ t.length + (n + 1) + 1 ∧ ∀ x ∈ t ++ [o], x ∈ t ∨ x = o ∨ x ∈ l := ⟨setV_len, by rw [List.length_append]; simp, fun x hx => by
        rcases List.mem_append.1 hx with hx | hx
        · exact .inl hx
        · simp at hx; exact .inr (.inl hx)⟩
      rcases next_spec (v := setV v o) (l := l) with ⟨h1, _, _⟩ | ⟨k, x, h1, _, h3, _⟩
      · have e : runH (n + 1) v l o t = (setV v o, l, t ++ [o]) := by
          show (match nextH (setV v o) l with | none => _ | some i => _) = _
          rw [h1]
        rw [e]; exact base
      · have e : runH (n + 1) v l o t = runH n (setV v o) (delH l k) (l.getD k o) (t ++ [o]) := by
          show (match nextH (setV v o) l with | none => _ | some i => runH n (setV v o) (delH l i) (l.getD i o) (t ++ [o])) = _
          rw [h1]
        rw [e]
        have hg : l.getD k o = x := by rw [List.getD_eq_getElem?_getD, h3]; rfl
        rw [hg]
        obtain ⟨i1, i2, i3⟩ := ih (v := setV v o) (l := delH l k) (t := t ++ [o]) (o := x)
        refine ⟨i1.trans setV_len, by simp at i2 ⊢; omega, fun y hy => ?_⟩
        rcases i3 y hy with hy | hy | hy
        · exact base.2.2 y hy
        · exact .inr (.inr (by rw [hy]; exact List.mem_of_getElem? h3))
        · exact .inr (.inr (del_mem hy))
  unfold letH at h
  split at h
  · injection h with h; injection h with e1 h; injection h with e2 e3
    subst e1; subst e3; exact ⟨rfl, by simp, fun x hx => by cases hx⟩
  · split at h
    · injection h with h
      have := run l.length (v := v) (l := l) (t := []) (o := o)
      rw [h] at this
      exact ⟨this.1, by have := this.2.1; simp at this; omega, fun x hx => by
        rcases this.2.2 x hx with hx | hx
        · cases hx
        · exact hx⟩
    · split at h
      · cases h
      · injection h with h; injection h with e1 h; injection h with e2 e3
        subst e1; subst e3; exact ⟨rfl, by simp, fun x hx => by cases hx⟩
theorem run_vec : ∀ (n : Nat) {v : List Int} {l t : List D.Op} {o : D.Op}, vecV v = true → fitsO v o = true → (∀ x ∈ l, fitsO v x = true) → vecV (runH n v l o t).1 = true := by
  have step : ∀ {v : List Int} {o : D.Op}, vecV v = true → fitsO v o = true → vecV (setV v o) = true := by
    intro v o hv hf
    obtain ⟨r, hr, hlt, s1, s2, _⟩ := fits_rep hf
    unfold vecV at hv ⊢
    simp only [Bool.and_eq_true, decide_eq_true_eq] at hv ⊢
    rw [setV_len]
    refine ⟨?_, hv.2⟩
    rw [List.all_eq_true] at hv ⊢
    intro x hx
    unfold setV at hx
    rcases List.mem_or_eq_of_mem_set hx with hx | hx
    · exact hv.1 x hx
    · subst hx
      unfold numV
      simp only [Bool.and_eq_true, decide_eq_true_eq]
      omega
  intro n
  induction n with
  | zero => intro v l t o hv hf _; exact step hv hf
  | succ n ih =>
    intro v l t o hv hf hl
    rcases next_spec (v := setV v o) (l := l) with ⟨h1, _, _⟩ | ⟨k, x, h1, _, h3, _⟩
    · have e : runH (n + 1) v l o t = (setV v o, l, t ++ [o]) := by
        show (match nextH (setV v o) l with | none => _ | some i => _) = _
        rw [h1]
      rw [e]; exact step hv hf
    · have e : runH (n + 1) v l o t = runH n (setV v o) (delH l k) (l.getD k o) (t ++ [o]) := by
        show (match nextH (setV v o) l with | none => _ | some i => runH n (setV v o) (delH l i) (l.getD i o) (t ++ [o])) = _
        rw [h1]
      have hg : l.getD k o = x := by rw [List.getD_eq_getElem?_getD, h3]; rfl
      rw [e, hg]
      exact ih (step hv hf) (by rw [fits_set]; exact hl x (List.mem_of_getElem? h3)) fun y hy => by rw [fits_set]; exact hl y (del_mem hy)
theorem let_vec {v w : List Int} {l s t : List D.Op} {o : D.Op} (h : letH v l o = some (w, s, t)) (hv : vecV v = true) (hf : fitsO v o = true) (hl : ∀ x ∈ l, fitsO v x = true) : vecV w = true := by
  unfold letH at h
  split at h
  · injection h with h; injection h with e1 h; subst e1; exact hv
  · split at h
    · injection h with h
      have := run_vec l.length (t := []) hv hf hl
      rw [h] at this; exact this
    · split at h
      · cases h
      · injection h with h; injection h with e1 h; subst e1; exact hv
section
variable {g h : Hp} {a b c d : AV} {v : List Int} {l m : List D.Op} {o p : D.Op} {Post : AV → Hp → Prop}
theorem c57g (k : ∀ h', h.le h' → h'.lo = h.lo → Post (.b true) h') : wpC Try.prog 14 [] Post h := by
  have w : wpC Try.prog 14 [] (fun v _ => v = .b true) (Hp.none h.lo) := c14 fun _ => rfl
  refine (wpC.part (h := h) (none_le _ _) rfl w).mono ?_
  rintro v h' ⟨q', _, le, lo, rfl⟩
  exact k h' (Hp.le_trans (le_rest (Hp.le_refl h) none_disj) le) lo
/-- a call on a part that may be written over -/
theorem spoil {f : FuncId} {q : Hp} (l : q.le h) (hl : q.lo = h.lo) (w : wpC Try.prog f [a] (fun v _ => v = .tup []) q) (k : ∀ h', (restH h q).le h' → h'.lo = h.lo → Post (.tup []) h') : wpC Try.prog f [a] Post h := by
  refine (wpC.part l hl w).mono ?_
  rintro v h' ⟨q', _, le, lo, rfl⟩
  exact k h' le lo
theorem c59' (ra : IR h a v) (rd : IR h d o.deps) (hv : v.length < 1000000) (hd : o.deps.length < 1000000) (k : ∀ (c6 : Bool) (n : Int), ((vecV v && fitsO v o) = false → c6 = false ∧ n = 1) → ((vecV v && fitsO v o) = true → c6 = readyV v o ∧ n = 0) → Post (.tup [.b c6, .i .i64 n]) h) : wpC Try.prog 16 [a, .agg (opC o d)] Post h :=
  c16 ra rd hv hd (fun e => k false 1 (fun _ => ⟨rfl, rfl⟩) fun e' => by rw [e] at e'; cases e') (fun e => k (readyV v o) 0 (fun e' => by rw [e] at e'; cases e') fun _ => ⟨rfl, rfl⟩)
theorem same_rows {K : Bool → Hp → Prop} {a2 b2 : AV} (r1 : IR h a v) (r2 : IR h b v) (r3 : OpRow h a2 l) (r4 : OpRow h b2 l) (h1 : v.length < 1000000) (h2 : l.length < 1000000) (h3 : ∀ o ∈ l, opOk o) {Q : Prop} {d1 d2 : AV} (rd1 : IR h d1 o.deps) (rd2 : IR h d2 o.deps) (ho : opOk o) (k : K false h) :
    wpC Try.prog 13 [a, b] (fun a28 h21 => onRet [Sh.one Kd.bool] a28 fun c11 => onB (!c11) (K true h21) (wpC Try.prog 24 [a2, b2] (fun a29 h22 => onRet [Sh.one Kd.bool] a29 fun c12 => onB (!c12) (K true h22) (wpC Try.prog 25 [.agg (opC o d1), .agg (opC o d2)] (fun a30 h23 => onRet [Sh.one Kd.bool] a30 fun c13 => K (!c13) h23) h22)) h21)) h :=
  c13 r1 r2 h1 (onRet.b (onB.neg (by rw [decide_eq_true rfl]; rfl) (c24 r3 r4 h2 h3 (onRet.b (onB.neg (by rw [decide_eq_true rfl]; rfl) (c25 (o := o) (p := o) rd1 rd2 ho (onRet.b (by rw [decide_eq_true rfl]; exact k))))))))
theorem holdEx (r0 : IR h a v) (r1 : OpRow h b l) (r2 : OpRow h c m) (h0 : v.length ≤ 140737488351232) (h1 : l.length ≤ 140737488351232) (h2 : m.length ≤ 140737488351232) (k : ∀ h', h.le h' → h'.lo = h.lo → Post (.b true) h') : wpC Try.prog 5 [.agg [a, b, c]] Post h := by
  refine call_sound (args := [.ag [.vv a, .vv b, .vv c]]) (cuts := [21000066, 25000009, 31000108, 39000139, 57000181, 67000197]) ⟨⟨r0.sc, r1.sc, r2.sc, trivial⟩, trivial⟩ ?_
  rw [vc5]
  refine fun _ => c15 r0 r1 r2 h0 h1 h2 (onRet.b (onB.pos rfl (k h (Hp.le_refl _) rfl))) fun b0 b1 b2 => onRet.b (onB.neg rfl ?_)
  refine c19 r0 (by omega) fun av hA oA => onRet.r oA.sc (c20 (r1.mono oA.le) (by omega) (fun o ho => by have := b1.2 o ho; show o.deps.length < 1000000; omega) fun ah hB oB => onRet.r oB.sc ?_)
  refine ⟨fun n _ a5 a6 n0 h' => ∃ (v : List Int) (l : List D.Op) (i : Nat), n0 = i ∧ i ≤ m.length ∧ n = m.length - i ∧ h.le h' ∧ h'.lo = h.lo ∧ IR h' a5 v ∧ OpRow h' a6 l ∧ v.length ≤ 5000 ∧ l.length ≤ 5000 ∧ ∀ o ∈ l, o.deps.length ≤ 5000,
    ⟨_, v, l, 0, rfl, Nat.zero_le _, rfl, Hp.le_trans oA.le oB.le, oB.lo.trans oA.lo, oA.row.mono oB.le, oB.row, b0, b1.1, b1.2⟩, ?_⟩
  clear b1 b0 oA oB hA hB av ah
  clear r0 r1 h0 h1
  rintro n h3 _ a5 _ a6 _ _ ⟨v, l, i, rfl, hi, rfl, L3, lo3, ra, rb, hv, hl, hod⟩
  have fin : wpC Try.prog 14 [] (fun a50 h41 => onRet [Sh.one Kd.bool] a50 fun c23 => Post (.b c23) h41) h3 := c57g fun h' le lo => onRet.b (k h' (Hp.le_trans L3 le) (lo.trans lo3))
  refine onO.mk r2.len (onB.dec (fun e => onB.dec (fun _ => ?_) (fun _ => fin)) (fun _ => fin))
  clear fin
  obtain ⟨o, hoi⟩ := get_lt (l := m) (k := i) (by omega)
  have hom := List.mem_of_getElem? hoi
  have hodl := b2.2 o hom
  refine opW r2 L3 hoi fun d rd0 kx0 _ => ?_
  have rd : IR h3 d o.deps := rd0.mono L3
  have kx : D.kOp.K h3 o (opC o d) := D.kOp.mono L3 kx0
  clear rd0 kx0
  have hod' : ∀ o ∈ l, o.deps.length < 1000000 := fun o ho => by have := hod o ho; omega
  refine c21 ra rb (by omega) (by omega) hod' fun h4 le4 lo4 => onRet.i (c10 (onRet.i ?_))
  have ra := ra.mono le4
  have rb := rb.mono le4
  have rd := rd.mono le4
  have kx := D.kOp.mono le4 kx
  have L4 := Hp.le_trans L3 le4
  have lo4 := lo4.trans lo3
  clear lo3 L3
  refine c22 ra rb (by omega) (by omega) hod' (onRet.b ?_)
  refine ⟨fun c h' => h4 = h' ∧ c = false, ?_, ?_⟩
  · cases vecV v && mayH v l <;> first | exact onB.neg rfl (onB.neg rfl ⟨rfl, rfl⟩) | exact onB.neg rfl (onB.pos rfl ⟨rfl, rfl⟩)
  rintro _ _ ⟨rfl, rfl⟩
  refine onB.neg rfl ⟨fun c h' => h4 = h' ∧ c = (vecV v && (mayH v l && fitsO v o)), onB.mk (fun e1 => c17 ra rd (by omega) (by omega) (onRet.b ⟨rfl, ?_⟩)) (fun e1 => ⟨rfl, by rw [← Bool.and_assoc, e1]; rfl⟩), ?_⟩
  · rw [Bool.and_eq_true] at e1
    rw [e1.1, e1.2]; rfl
  rintro _ c5 ⟨rfl, hc5⟩
  have main : ∀ (c6 : Bool) (n13 : Int), ((vecV v && fitsO v o) = false → c6 = false ∧ n13 = 1) → ((vecV v && fitsO v o) = true → c6 = readyV v o ∧ n13 = 0) → ∀ {R : Hp → Bool → Prop}, R h4 false → (wpC Try.prog 10 [AV.i IntKind.i64 n13] (fun a14 h12 => onRet [Sh.one (Kd.int IntKind.i64)] a14 fun n14 => onB (!(vecV v && fitsO v o) == decide (n14 = 0)) (R h12 true) (onB (!(vecV v && fitsO v o)) (wpC Try.prog 10 [AV.i IntKind.i64 n13] (fun a15 h13 => onRet [Sh.one (Kd.int IntKind.i64)] a15 fun n15 => onB (!decide (n15 = 1)) (R h13 true) (onB c6 (R h13 true) (onB (vecV v && fitsO v o) (wpC Try.prog 18 [a5, .agg (opC o d)] (fun a16 h14 => onRet [Sh.one Kd.bool] a16 fun c8 => R h14 (!c6 == c8)) h13) (R h13 false)))) h12) (onB (vecV v && fitsO v o) (wpC Try.prog 18 [a5, .agg (opC o d)] (fun a17 h15 => onRet [Sh.one Kd.bool] a17 fun c9 => R h15 (!c6 == c9)) h12) (R h12 false)))) h4) := by
    intro c6 n13 f1 f2 R hR
    refine c10 (onRet.i ?_)
    cases hF : vecV v && fitsO v o with
    | false =>
      obtain ⟨rfl, rfl⟩ := f1 hF
      exact onB.neg rfl (onB.pos rfl (c10 (onRet.i (onB.neg rfl (onB.neg rfl (onB.neg rfl hR))))))
    | true =>
      obtain ⟨rfl, rfl⟩ := f2 hF
      refine onB.neg rfl (onB.neg rfl (onB.pos rfl (c18 ra rd (Bool.and_eq_true _ _ ▸ hF).2 (by omega) (onRet.b ?_))))
      have : (!readyV v o == readyV v o) = false := by cases readyV v o <;> rfl
      rw [this]; exact hR
  refine c59' ra rd (by omega) (by omega) fun c6 n13 f1 f2 => onTup.bi (c17 ra rd (by omega) (by omega) (onRet.b ⟨fun c h' => h4 = h' ∧ c = false, main c6 n13 f1 f2 (R := fun h' c => h4 = h' ∧ c = false) ⟨rfl, rfl⟩, ?_⟩))
  clear main f1 f2
  rintro _ _ ⟨rfl, rfl⟩
  refine onB.neg rfl (c19 ra (by omega) fun iv h17 o17 => onRet.r o17.sc (c20 (rb.mono o17.le) (by omega) hod' fun ih h18 o18 => onRet.r o18.sc (c23 (o := o) (rd.mono (Hp.le_trans o17.le o18.le)) (by omega) fun io h19 o19 => onRet.op o19.sc fun _ => ?_)))
  have L19 : h4.le h19 := Hp.le_trans o17.le (Hp.le_trans o18.le o19.le)
  have lo19 : h19.lo = h.lo := o19.lo.trans (o18.lo.trans (o17.lo.trans lo4))
  have rI : IR h19 iv v := o17.row.mono (Hp.le_trans o18.le o19.le)
  have rH : OpRow h19 ih l := o18.row.mono o19.le
  have rO : IR h19 io o.deps := o19.row
  clear o17 o18 o19
  have ra := ra.mono L19
  have rb := rb.mono L19
  have rd := rd.mono L19
  have kx := D.kOp.mono L19 kx
  have L := Hp.le_trans L4 L19
  clear L4 lo4 L19
  have hoo : opOk o := by show o.deps.length < 1000000; omega
  refine c9 rI rH rO (op_again kx rO) (by omega) (by omega) hod' (by omega) (fun e1 h20 le20 lo20 => ?_) (fun e1 e2 h20 le20 lo20 => ?_) (fun e1 w s t e2 r1 r2' r3 h20 q1 q2 q3 X => ?_)
  · refine onTup.rrri rfl rfl rfl ⟨fun c h' => h20 = h' ∧ c = false, same_rows (K := fun c h' => h20 = h' ∧ c = false) (Q := True) (rI.mono le20) (ra.mono le20) (rH.mono le20) (rb.mono le20) (by omega) (by omega) hod' (rO.mono le20) (rd.mono le20) hoo ⟨rfl, rfl⟩, ?_⟩
    rintro _ _ ⟨rfl, rfl⟩
    refine onB.neg rfl (onB.pos (by rw [hc5, e1]; rfl) (c10 (onRet.i (onB.neg rfl (onO.mk (inc64 (by omega)) ⟨_, by show m.length - (i + 1) < m.length - i; omega, v, l, i + 1, rfl, by omega, rfl, Hp.le_trans L le20, lo20.trans lo19, ra.mono le20, rb.mono le20, hv, hl, hod⟩)))))
  · have e1' := e1
    rw [Bool.and_eq_true, Bool.and_eq_true] at e1'
    obtain ⟨e3, e4, e5⟩ := e1'
    have hv16 : v.length ≤ 16 := by
      unfold vecV at e3
      simp only [Bool.and_eq_true, decide_eq_true_eq] at e3
      exact e3.2.2
    refine onTup.rrri rfl rfl rfl ⟨fun c h' => h20 = h' ∧ c = false, same_rows (K := fun c h' => h20 = h' ∧ c = false) (Q := True) (rI.mono le20) (ra.mono le20) (rH.mono le20) (rb.mono le20) (by omega) (by omega) hod' (rO.mono le20) (rd.mono le20) hoo ⟨rfl, rfl⟩, ?_⟩
    rintro _ _ ⟨rfl, rfl⟩
    refine onB.neg rfl (onB.neg (by rw [hc5, e1]; rfl) (c26 (ra.mono le20) (rb.mono le20) (rd.mono le20) (D.kOp.mono le20 kx) (may_R (mayH_of e4)) e5 hv16 (fun _ r1 r2 h26 le26 lo26 s1 s2 => onTup.rrri s1 s2 rfl (c10 (onRet.i (onB.neg rfl (onB.pos rfl (onO.mk (inc64 (by omega)) ⟨_, by show m.length - (i + 1) < m.length - i; omega, v, l, i + 1, rfl, by omega, rfl, Hp.le_trans L (Hp.le_trans le20 le26), lo26.trans (lo20.trans lo19), ra.mono (Hp.le_trans le20 le26), rb.mono (Hp.le_trans le20 le26), hv, hl, hod⟩)))))) (fun w s t e' => by rw [e2] at e'; cases e')))
  · have e1' := e1
    rw [Bool.and_eq_true, Bool.and_eq_true] at e1'
    obtain ⟨e3, e4, e5⟩ := e1'
    have hv16 : v.length ≤ 16 := by
      unfold vecV at e3
      simp only [Bool.and_eq_true, decide_eq_true_eq] at e3
      exact e3.2.2
    have mr := may_R (mayH_of e4)
    have mr2 := let_may mr e5 e2
    obtain ⟨wl, tl, tm⟩ := let_len e2 mr.len
    have sdep : ∀ x ∈ s, x.deps.length ≤ 16 := fun x hx => by
      obtain ⟨_, _, _, _, _, e, _⟩ := fits_rep (mr2.fit x hx)
      omega
    have tdep : ∀ x ∈ t, x.deps.length ≤ 5000 := fun x hx => by
      rcases tm x hx with rfl | hx
      · exact hodl
      · exact hod x hx
    have sl := mr2.len
    have le20 := X.le
    have lo20 := X.lo
    refine onTup.rrri (X.p1.row X.l1).sc (X.p2.row X.l2).sc (X.p3.row X.l3).sc ⟨fun c h' => h20 = h' ∧ c = false, same_rows (K := fun c h' => h20 = h' ∧ c = false) (Q := True) (rI.mono le20) (ra.mono le20) (rH.mono le20) (rb.mono le20) (by omega) (by omega) hod' (rO.mono le20) (rd.mono le20) hoo ⟨rfl, rfl⟩, ?_⟩
    rintro _ _ ⟨rfl, rfl⟩
    refine onB.neg rfl (onB.neg (by rw [hc5, e1]; rfl) ?_)
    refine (wpC.partD (q := h19) le20 lo20.symm (Q := fun v C => ∃ r1 r2 r3, v = .tup [r1, r2, r3, .i .i64 0] ∧ h19.le C ∧ IR C r1 w ∧ OpRow C r2 s ∧ OpRow C r3 t) (c26 ra rb rd kx mr e5 hv16 (fun e' => by rw [e2] at e'; cases e') (fun w' s' t' e' r1 r2 r3 h' le lo a b c => by
      rw [e2] at e'; injection e' with e'; injection e' with ea e'; injection e' with eb ec
      subst ea; subst eb; subst ec
      exact ⟨r1, r2, r3, rfl, le, a, b, c⟩))).mono ?_
    rintro _ h26 ⟨C, c1, c2, c3, c4, c5', b1, b2', b3, rfl, c6', c7, c8, c9⟩
    have lo26 : h26.lo = h20.lo := c4
    have x1 : q1.le (restH h20 h19) := le_restH X.l1 X.d1.symm
    have x2 : q2.le (restH h20 h19) := le_restH X.l2 X.d2.symm
    have x3 : q3.le (restH h20 h19) := le_restH X.l3 X.d3.symm
    have d1C : Disj q1 C := (c3.le_right x1).symm
    have d2C : Disj q2 C := (c3.le_right x2).symm
    have d3C : Disj q3 C := (c3.le_right x3).symm
    have y1 := Hp.le_trans x1 c2
    have y2 := Hp.le_trans x2 c2
    have y3 := Hp.le_trans x3 c2
    refine onTup.rrri c7.sc c8.sc c9.sc (c10 (onRet.i (onB.neg rfl (onB.neg rfl ⟨fun c h' => h26 = h' ∧ c = false, ?_, ?_⟩))))
    · refine c13 (X.p1.row y1) (c7.mono c1) (by omega) (onRet.b (onB.neg (by rw [decide_eq_true rfl]; rfl) ?_))
      refine c24 (X.p2.row y2) (c8.mono c1) (by omega) (fun x hx => by have := sdep x hx; show x.deps.length < 1000000; omega) (onRet.b (onB.neg (by rw [decide_eq_true rfl]; rfl) ?_))
      refine c24 (X.p3.row y3) (c9.mono c1) (by omega) (fun x hx => by have := tdep x hx; show x.deps.length < 1000000; omega) (onRet.b (onB.neg (by rw [decide_eq_true rfl]; rfl) ?_))
      refine c22 (c7.mono c1) (c8.mono c1) (by omega) (by omega) (fun x hx => by have := sdep x hx; omega) (onRet.b ⟨rfl, ?_⟩)
      rw [let_vec e2 e3 e5 mr.fit, mayH_true (R_may mr2)]; rfl
    rintro _ _ ⟨rfl, rfl⟩
    refine onB.neg rfl ?_
    have w1 : wpC Try.prog 27 [r1] (fun v _ => v = .tup []) q1 := c27 (g := Hp.none h20.lo) X.p1.2.1 (by simp [intC]; omega) fun _ _ _ => rfl
    have w2 : wpC Try.prog 28 [r2'] (fun v _ => v = .tup []) q2 := c28 (g := Hp.none h20.lo) X.p2.2 (by omega) (fun x hx => by have := sdep x hx; omega) fun _ _ _ => rfl
    have w3 : wpC Try.prog 28 [r3] (fun v _ => v = .tup []) q3 := c28 (g := Hp.none h20.lo) X.p3.2 (by omega) (fun x hx => by have := tdep x hx; omega) fun _ _ _ => rfl
    refine spoil y1 (X.p1.1.trans lo26.symm) w1 fun h33 le33 lo33 => onTup.z ?_
    have z2 := Hp.le_trans (le_restH y2 X.d12) le33
    have z3 := Hp.le_trans (le_restH y3 X.d13) le33
    have zC := Hp.le_trans (le_restH c1 d1C) le33
    refine spoil z2 (X.p2.1.trans (lo26.symm.trans lo33.symm)) w2 fun h34 le34 lo34 => onTup.z ?_
    have u3 := Hp.le_trans (le_restH z3 X.d23) le34
    have uC := Hp.le_trans (le_restH zC d2C) le34
    refine spoil u3 (X.p3.1.trans (lo26.symm.trans (lo33.symm.trans lo34.symm))) w3 fun h35 le35 lo35 => onTup.z ?_
    have C35 := Hp.le_trans (le_restH uC d3C) le35
    have L35 : h19.le h35 := Hp.le_trans c6' C35
    have lo35' : h35.lo = h.lo := lo35.trans (lo34.trans (lo33.trans (lo26.trans (lo20.trans lo19))))
    refine ⟨fun c h' => h35 = h' ∧ c = false, c24 (rH.mono L35) (rb.mono L35) (by omega) hod' (onRet.b (onB.neg (by rw [decide_eq_true rfl]; rfl) (c25 (o := o) (p := o) (rO.mono L35) (rd.mono L35) hoo (onRet.b ⟨rfl, by rw [decide_eq_true rfl]; rfl⟩)))), ?_⟩
    rintro _ _ ⟨rfl, rfl⟩
    refine onB.neg rfl (c19 (c7.mono C35) (by omega) fun nv h39 o39 => onRet.r o39.sc (c20 (c8.mono (Hp.le_trans C35 o39.le)) (by omega) (fun x hx => by have := sdep x hx; show x.deps.length < 1000000; omega) fun nh h40 o40 => onRet.r o40.sc (onO.mk (inc64 (by omega)) ⟨_, by show m.length - (i + 1) < m.length - i; omega, w, s, i + 1, rfl, by omega, rfl, Hp.le_trans L (Hp.le_trans L35 (Hp.le_trans o39.le o40.le)), o40.lo.trans (o39.lo.trans lo35'), o39.row.mono o40.le, o40.row, by omega, by omega, fun x hx => by have := sdep x hx; omega⟩)))
theorem D.lawHoldTakes {x : D.HoldB} {cells : List AV} (kx : D.kHoldB.K h x cells) : wpC Try.prog 6 [.agg cells] (fun v _ => v = .b true) h := by
  obtain ⟨a0, a1, a2, rfl, ⟨r0, h0⟩, ⟨r1, h1⟩, ⟨r2, h2⟩⟩ := hola_open kx
  refine call_sound (args := [.ag [.vv a0, .vv a1, .vv a2]]) (cuts := []) ⟨⟨r0.sc, r1.sc, r2.sc, trivial⟩, trivial⟩ ?_
  rw [vc6]
  refine fun _ => c15 r0 r1 r2 h0 h1 h2 (onRet.b (onB.pos rfl rfl)) fun b0 b1 b2 => onRet.b (onB.neg rfl ?_)
  refine ⟨fun n _ n0 h' => ∃ i : Nat, n0 = i ∧ i ≤ x.l.length ∧ n = x.l.length - i ∧ h.le h', ⟨_, 0, rfl, Nat.zero_le _, rfl, Hp.le_refl _⟩, ?_⟩
  rintro n h1' _ _ ⟨i, rfl, hi, rfl, L⟩
  have fin : wpC Try.prog 14 [] (fun a50 h41 => onRet [Sh.one Kd.bool] a50 fun c23 => AV.b c23 = .b true) h1' := c14 fun h' => onRet.b rfl
  refine onO.mk r2.len (onB.dec (fun e => onB.dec (fun _ => fun _ => ?_) (fun _ => fin)) (fun _ => fin))
  obtain ⟨r', e1, e2⟩ := r2.cutH (lo := some (i : Int)) (hi := some ((i + 1 : Nat) : Int)) (i := i) (j := i + 1) rfl rfl rfl (by omega) (by omega)
  refine onO.mk (inc64 (by omega)) (onO.mk e1 (holdEx (r0.mono L) (r1.mono L) (e2.mono L) h0 h1 (by simp; omega) fun h2 le lo => onRet.b (onB.neg rfl (onO.mk (inc64 (by omega)) ⟨_, by show x.l.length - (i + 1) < x.l.length - i; omega, i + 1, rfl, by omega, rfl, Hp.le_trans L le⟩))))
end
end Go.Proofs.YtecjbmibngfpmaaAn
