/- What the functions that the law reaches come to, down to the law itself. -/
import Derived.Test.YthnhdgcaolgdnaaCnStoreOrderp2
import Derived.Test.YthnhdgcaolgdnaaProg
set_option linter.unusedVariables false
set_option linter.unusedSimpArgs false
set_option maxRecDepth 100000
namespace Go.Proofs.YthnhdgcaolgdnaaAn
open Go
/- arras/arraslaw24.StoreOrder -/
theorem vc3 (a0 : AV) (a1 : AV) (h : Hp) (Post : AV → Hp → Prop) : vcCall Try.prog [31000055,
 35000064] 3 [(SV.ag [(SV.vv a0), (SV.vv a1)])] h Post = (
  ∀ (p0 : Nat),
  ∃ I0 : Nat → Bool → Int → Hp → Prop,
    (∃ p1, I0 p1 false 0 h) ∧
      ∀ (p2 : Nat) (h0 : Hp) (cc0 : Bool) (n0 : Int),
        I0 p2 cc0 n0 h0 →
          onB (decide (n0 < 2))
            (wpC Try.prog 4 []
              (fun a0 h1 =>
                onRet [Sh.one Kd.ref] a0 fun a1 =>
                  wpC Try.prog 5 [a1]
                    (fun a2 h2 =>
                      onTup [Sh.one Kd.ref, Sh.one (Kd.int IntKind.i64)] a2 fun a3 n1 =>
                        wpC Try.prog 6 [AV.i IntKind.i64 n1]
                          (fun a4 h3 =>
                            onRet [Sh.one (Kd.int IntKind.i64)] a4 fun n2 =>
                              onB (!decide (n2 = 0)) (Post (AV.b false) h3)
                                (onO (nilP a3) fun cc1 =>
                                  onB cc1 (Post (AV.b false) h3)
                                    (∃ I1 : Nat → AV → Bool → Int → Hp → Prop,
                                      (∃ p3, I1 p3 AV.ns cc0 1 h3) ∧
                                        ∀ (p4 : Nat) (h4 : Hp) (a5 : AV),
                                          a5.sc = true →
                                            ∀ (cc2 : Bool) (n3 : Int),
                                              I1 p4 a5 cc2 n3 h4 →
                                                onB (decide (n3 ≤ 20))
                                                  (wpC Try.prog 7 []
                                                    (fun a6 h5 =>
                                                      onRet
                                                        [Sh.agg
                                                            [Kd.int IntKind.i64, Kd.int IntKind.i64, Kd.int IntKind.i64, Kd.ref, Kd.int IntKind.i64, Kd.int IntKind.i64, Kd.int IntKind.i64,
                                                              Kd.int IntKind.i64, Kd.int IntKind.i64, Kd.str, Kd.int IntKind.i64, Kd.int IntKind.i64]]
                                                        a6 fun n4 n5 n6 a7 n7 n8 n9 n10 n11 l0 n12 n13 =>
                                                        ∀ (p5 p6 : Nat),
                                                          wpE
                                                            (Eff.app a5 1
                                                              (Src.lit
                                                                [AV.i IntKind.i64 n3, AV.i IntKind.i64 n5, AV.i IntKind.i64 n6, a7, AV.i IntKind.i64 n7, AV.i IntKind.i64 n8, AV.i IntKind.i64 n9,
                                                                  AV.i IntKind.i64 n10, AV.i IntKind.i64 n11, AV.s l0, AV.i IntKind.i64 n12, AV.i IntKind.i64 n13])
                                                              12)
                                                            (fun x0 h6 =>
                                                              onO x0 fun a8 =>
                                                                ∃ I2 : Bool → Hp → Prop,
                                                                  onB (decide (n0 = 0))
                                                                      (∀ (p7 : Nat),
                                                                        h6.g p7 = none →
                                                                          h6.lo.le p7 →
                                                                            wpC Try.prog 8 [a3, AV.sl p7 0 1 1 true 12]
                                                                              (fun a9 h7 =>
                                                                                onRet [Sh.one (Kd.int IntKind.i64)] a9 fun n14 =>
                                                                                  wpC Try.prog 6 [AV.i IntKind.i64 n14]
                                                                                    (fun a10 h8 =>
                                                                                      onRet [Sh.one (Kd.int IntKind.i64)] a10 fun n15 =>
                                                                                        onB (!decide (n15 = 0)) (I2 true h8)
                                                                                          (wpC Try.prog 8 [a3, AV.ns]
                                                                                            (fun a11 h9 =>
                                                                                              onRet [Sh.one (Kd.int IntKind.i64)] a11 fun n16 =>
                                                                                                wpC Try.prog 6 [AV.i IntKind.i64 n16]
                                                                                                  (fun a12 h10 => onRet [Sh.one (Kd.int IntKind.i64)] a12 fun n17 => I2 (!decide (n17 = 0)) h10) h9)
                                                                                            h8))
                                                                                    h7)
                                                                              (h6.put p7
                                                                                [AV.i IntKind.i64 n3, AV.i IntKind.i64 n5, AV.i IntKind.i64 n6, a7, AV.i IntKind.i64 n7, AV.i IntKind.i64 n8,
                                                                                  AV.i IntKind.i64 n9, AV.i IntKind.i64 n10, AV.i IntKind.i64 n11, AV.s l0, AV.i IntKind.i64 n12,
                                                                                  AV.i IntKind.i64 n13]))
                                                                      (wpC Try.prog 8 [a3, AV.ns]
                                                                        (fun a13 h11 =>
                                                                          onRet [Sh.one (Kd.int IntKind.i64)] a13 fun n18 =>
                                                                            wpC Try.prog 6 [AV.i IntKind.i64 n18]
                                                                              (fun a14 h12 => onRet [Sh.one (Kd.int IntKind.i64)] a14 fun n19 => I2 (!decide (n19 = 0)) h12) h11)
                                                                        h6) ∧
                                                                    ∀ (h13 : Hp) (cc3 : Bool),
                                                                      I2 cc3 h13 →
                                                                        onB cc3 (Post (AV.b false) h13) (onO (intO BinOp.add IntKind.i64 n3 1) fun n20 => ∃ p8, ltN p8 p4 ∧ I1 p8 a8 cc2 n20 h13))
                                                            h5)
                                                    h4)
                                                  (∃ I3 : Bool → Hp → Prop,
                                                    onB (decide (n0 = 1))
                                                        (wpC Try.prog 8 [a3, a5]
                                                          (fun a15 h14 =>
                                                            onRet [Sh.one (Kd.int IntKind.i64)] a15 fun n21 =>
                                                              wpC Try.prog 6 [AV.i IntKind.i64 n21] (fun a16 h15 => onRet [Sh.one (Kd.int IntKind.i64)] a16 fun n22 => I3 (!decide (n22 = 0)) h15) h14)
                                                          h4)
                                                        (I3 false h4) ∧
                                                      ∀ (h16 : Hp) (cc4 : Bool),
                                                        I3 cc4 h16 →
                                                          onB cc4 (Post (AV.b false) h16)
                                                            (wpC Try.prog 9 [a1, AV.ns]
                                                              (fun a17 h17 =>
                                                                onRet [Sh.one Kd.ref] a17 fun a18 =>
                                                                  wpC Try.prog 5 [a18]
                                                                    (fun a19 h18 =>
                                                                      onTup [Sh.one Kd.ref, Sh.one (Kd.int IntKind.i64)] a19 fun a20 n23 =>
                                                                        wpC Try.prog 6 [AV.i IntKind.i64 n23]
                                                                          (fun a21 h19 =>
                                                                            onRet [Sh.one (Kd.int IntKind.i64)] a21 fun n24 =>
                                                                              onB (!decide (n24 = 0)) (Post (AV.b false) h19)
                                                                                (onO (nilP a20) fun cc5 =>
                                                                                  onB cc5 (Post (AV.b false) h19)
                                                                                    (wpC Try.prog 11 [a20]
                                                                                      (fun a22 h20 =>
                                                                                        onRet [Sh.one Kd.ref] a22 fun a23 =>
                                                                                          wpC Try.prog 10 [a23, a5]
                                                                                            (fun a24 h21 =>
                                                                                              onRet [Sh.one Kd.bool] a24 fun cc6 =>
                                                                                                onB (!cc6) (Post (AV.b false) h21)
                                                                                                  (wpC Try.prog 11 [a3]
                                                                                                    (fun a25 h22 =>
                                                                                                      onRet [Sh.one Kd.ref] a25 fun a26 =>
                                                                                                        wpC Try.prog 10 [a26, a5]
                                                                                                          (fun a27 h23 =>
                                                                                                            onRet [Sh.one Kd.bool] a27 fun cc7 =>
                                                                                                              onB (!cc7) (Post (AV.b false) h23)
                                                                                                                (onO (intO BinOp.add IntKind.i64 n0 1) fun n25 => ∃ p9, ltN p9 p2 ∧ I0 p9 cc2 n25 h23))
                                                                                                          h22)
                                                                                                    h21))
                                                                                            h20)
                                                                                      h19)))
                                                                          h18)
                                                                    h17)
                                                              h16)))))
                          h2)
                    h1)
              h0)
            (onO (lenV a0) fun p10 => onB (decide ((0 : Int) ≤ ↑p10)) (wpC Try.prog 12 [] (fun a28 h24 => onRet [Sh.one Kd.bool] a28 fun cc8 => Post (AV.b cc8) h24) h0) (Post (AV.b false) h0))) := by kernel_rfl
theorem D.lawStoreOrder {h : Hp} {X : D.StoreA} {c : List AV} (kx : D.kStoreA.K h X c) : wpC Try.prog 3 [.agg c] (fun v _ => v = .b true) h := by
  obtain ⟨a0, a1, rfl, ⟨rl, ll⟩, rf, lf⟩ := D.kStoreA_open kx
  refine call_sound (args := [.ag [.vv a0, .vv a1]]) (cuts := [31000055, 35000064]) ⟨⟨rl.sc, rf.sc, trivial⟩, trivial⟩ ?_
  rw [vc3]
  intro _
  refine ⟨fun m c i h' => ∃ k : Nat, i = k ∧ k ≤ 2 ∧ m = 2 - k ∧ c = false ∧ h.le h' ∧ h'.lo = h.lo, ⟨_, 0, rfl, by omega, rfl, rfl, Hp.le_refl _, rfl⟩, ?_⟩
  rintro m h0 _ _ ⟨kk, rfl, hk, rfl, rfl, le0, lo0⟩
  refine onB.dec (fun e => ?_) (fun e => onO.mk (rl.mono le0).len (onB.pos (decide_eq_true (by omega)) (c12 fun h' => onRet.b rfl)))
  refine c4 (Sep.start h0) fun dp a Q1 h1 s1 d1 u1 => onRet.r rfl ?_
  rcases open_newc (E := dkOf []) (C := fun y => y = []) rfl rfl rfl with ⟨e1, i1, cl1, ar1⟩ | ⟨_, e2, _⟩
  rotate_left
  · cases e2
  have hl0 : (loadR (dkOf [])).2.2.l = [] := by rw [i1.lg]
  refine c5 s1 d1 few0 (fun e => absurd e1 e) (fun _ ⟨b, hb, _⟩ => by rw [hl0] at hb; cases hb) fun _ _ w q F2 r2 a2 v2 Q2 h2 f2 s2 m2 u2 => onTup.ri rfl (c6 (onRet.i (onB.neg rfl (onO.mk rfl (onB.neg rfl ?_)))))
  rw [hl0] at m2
  have m2 : StM h0.lo F2 Q2 w q dp r2 a2 v2 (loadR (dkOf [])).2.1 (loadR (dkOf [])).2.2 ⟨[], sizeL (recsO []), false⟩ := m2
  refine ⟨fun m yv c i h' => ∃ (j : Nat) (F : Hp) (Q : Nat → Hp), i = ((j + 1 : Nat) : Int) ∧ j ≤ 20 ∧ m = 20 - j ∧ c = false ∧ SoS h0.lo h0 F Q h' dp w yv (if kk = 0 then theOs j else []) (theOs j) (j + 8),
    ⟨_, 0, F2, _, rfl, by omega, rfl, rfl, f2, s2.drop 16, ⟨q, r2, a2, v2, _, _, (by
      have : (if kk = 0 then theOs 0 else []) = ([] : List D.Op) := by split <;> rfl
      rw [this]; exact ⟨m2.same fun j hj => updQ_ne (by omega), i1, cl1, ar1, (loadR_few (few0 (N := 0))).mono (by omega)⟩)⟩, by rw [updQ_same]; exact RowP.nil⟩, ?_⟩
  clear m2 s2 f2 u2 d1 s1 u1
  rintro m h4 yv hyv _ _ ⟨j, F, Q, rfl, hj, rfl, rfl, t⟩
  have s := t.s
  obtain ⟨q, rr, a, v, E, L, mm, inv, cln, ar, few⟩ := t.m
  have aok := theOs_ok hj
  have alen := theOs_len (j := j)
  have opsok : ∀ o ∈ (if kk = 0 then theOs j else []), mayO o = true ∧ Bytes8 o.key := fun o ho => by
    split at ho
    · exact aok o ho
    · cases ho
  have opslen : (if kk = 0 then theOs j else []).length ≤ 20 := by split <;> simp [alen] <;> omega
  refine onB.dec (fun e20 => ?_) (fun e20 => ?_)
  · refine c7 fun d h5 o5 => onRet.op (o := theO) o5.sc fun p5 p6 => ?_
    have s5 := s.frz o5.le o5.lo
    have f5 := s.fgrow o5.le
    have rd : IR (moreH h4 h5 F) d theO.deps := o5.frozen int_flat
    have iok := theOi_ok (i := j + 1) (by omega) (by omega)
    have kx5 : D.kOp.K (moreH h4 h5 F) (theOi (j + 1)) (opC (theOi (j + 1)) d) := nums_in iok.1 iok.2 rd
    refine s5.app1 (i := 16) (t.row.mono f5) (sz := 12) rfl kx5 (by rw [alen]; omega) fun yv6 h6 q6 s6 rp6 => onO.mk rfl ?_
    rw [← theOs_succ] at rp6
    have m6 := (mm.fmono f5).same (Q' := updQ Q 16 q6) fun i hi => updQ_ne (by omega)
    -- nothing appended
    have nilA : ∀ {F7 : Hp} {Q7 : Nat → Hp} {h7 : Hp} {q rr a v E L ops N}, F.le F7 → Sep h0.lo F7 Q7 h7 → StM h0.lo F7 Q7 w q dp rr a v E L ⟨ops, sizeL (recsO ops), false⟩ → InvC E L (recsO ops) 0 (fun y => y = recsO ops) → E.armed = false → Few E N → N ≤ 100 → (∀ o ∈ ops, mayO o = true ∧ Bytes8 o.key) → ops.length ≤ 50 → RowP D.kOp F7 h0.lo (Q7 16) yv6 (theOs (j + 1)) → ∀ {X : Bool → Hp → Prop}, (∀ hh F8 Q8, F.le F8 → (∃ q rr a v E L, StM h0.lo F8 Q8 w q dp rr a v E L ⟨ops, sizeL (recsO ops), false⟩ ∧ InvC E L (recsO ops) 0 (fun y => y = recsO ops) ∧ Clean E L (recsO ops) ∧ E.armed = false ∧ Few E N) → Sep h0.lo F8 Q8 hh → RowP D.kOp F8 h0.lo (Q8 16) yv6 (theOs (j + 1)) → X false hh) →
        wpC Try.prog 8 [.p w 0, .ns] (fun a13 h11 => onRet [Sh.one (Kd.int IntKind.i64)] a13 fun n18 => wpC Try.prog 6 [AV.i IntKind.i64 n18] (fun a14 h12 => onRet [Sh.one (Kd.int IntKind.i64)] a14 fun n19 => X (!decide (n19 = 0)) h12) h11) h7 := by
      intro F7 Q7 h7 q rr a v E L ops N f7 s7 m7 i7 ar7 few7 hN ok7 len7 rp7 X k
      refine c141ok (l := []) s7 m7 i7 ar7 few7 (VwO.frz nsO) (fun o ho => by cases ho) ok7 (by omega) (by simp) (by omega) fun F8 r8 a8 v8 Q8 h8 E8 L8 f8 s8 m8 i8 lc8 ar8 few8 u8 => onRet.i (c6 (onRet.i ?_))
      rw [List.append_nil] at m8 i8 lc8
      exact k h8 F8 Q8 (Hp.le_trans f7 f8) ⟨_, r8, a8, v8, E8, L8, m8, i8, lc8, ar8, few8⟩ s8 (by rw [u8 16 (by omega)]; exact rp7.mono f8)
    have hcast : ((j + 1 : Nat) : Int) + 1 = ((j + 1 + 1 : Nat) : Int) := by omega
    refine ⟨fun c h' => c = false ∧ ∃ F Q, SoS h0.lo h0 F Q h' dp w yv6 (if kk = 0 then theOs (j + 1) else []) (theOs (j + 1)) (j + 9), onB.dec (fun ek p7 hp7 hlo7 => ?_) (fun ek => ?_), ?_⟩
    · have hk0 : kk = 0 := by omega
      subst hk0
      simp only [if_true] at *
      have lp : h6.le (h6.put p7 (opC (theOi (j + 1)) d)) := Hp.le_put hp7
      have s7 := s6.frz lp rfl
      have f7 := s6.fgrow lp
      have row7 : OpRow (moreH h6 (h6.put p7 (opC (theOi (j + 1)) d)) (moreH h4 h5 F)) (.sl p7 0 1 1 true 12) [theOi (j + 1)] := by
        have r0 : OpRow ((moreH h4 h5 F).put p7 (opC (theOi (j + 1)) d)) (.sl p7 0 1 1 true 12) [theOi (j + 1)] := by
          refine ⟨[opC (theOi (j + 1)) d], ⟨fun c hc => by simp at hc; subst hc; rfl, rfl, rfl, Nat.le_refl _, .inr ?_⟩, .cons (D.kOp.mono (Hp.le_put (le_none s6.fle hp7)) kx5) .nil⟩
          unfold rdH
          rw [Hp.put_same]; rfl
        exact r0.mono (put_more s6.fle hp7)
      refine c141ok (l := [theOi (j + 1)]) s7 (m6.fmono f7) inv ar few (VwO.frz row7) (fun o ho => by simp at ho; subst ho; exact iok) aok (by omega) (by simp) (by omega) fun F8 r8 a8 v8 Q8 h8 E8 L8 f8 s8 m8 i8 lc8 ar8 few8 u8 => onRet.i (c6 (onRet.i (onB.neg rfl ?_)))
      rw [← theOs_succ] at m8 i8
      refine nilA (X := fun c hh => c = false ∧ ∃ F Q, SoS h0.lo h0 F Q hh dp w yv6 (theOs (j + 1)) (theOs (j + 1)) (j + 9)) (Hp.le_trans f5 (Hp.le_trans f7 f8)) s8 m8 i8 ar8 few8 (by simp; omega) (theOs_ok (by omega)) (by rw [theOs_len]; omega) (by rw [u8 16 (by omega), updQ_same]; exact (rp6.mono f7).mono f8) fun hh F9 Q9 f9 st s9 rp9 => ⟨rfl, F9, Q9, Hp.le_trans t.fle f9, s9, ?_, rp9⟩
      obtain ⟨q', rr', a', v', E', L', st1, st2, st3, st4, st5⟩ := st
      exact ⟨q', rr', a', v', E', L', st1, st2, st3, st4, st5.mono (by show j + 8 + 1 ≤ j + 9; omega)⟩
    · have hk0 : ¬ kk = 0 := by omega
      simp only [if_neg hk0] at *
      refine nilA (X := fun c hh => c = false ∧ ∃ F Q, SoS h0.lo h0 F Q hh dp w yv6 [] (theOs (j + 1)) (j + 9)) f5 s6 m6 inv ar few (by omega) (fun o ho => by cases ho) (by simp) (by rw [updQ_same]; exact rp6) fun hh F9 Q9 f9 st s9 rp9 => ⟨rfl, F9, Q9, Hp.le_trans t.fle f9, s9, ?_, rp9⟩
      obtain ⟨q', rr', a', v', E', L', st1, st2, st3, st4, st5⟩ := st
      exact ⟨q', rr', a', v', E', L', st1, st2, st3, st4, st5.mono (by omega)⟩
    · rintro h13 _ ⟨rfl, F9, Q9, t9⟩
      refine onB.neg rfl (onO.mk (a := ((j + 1 + 1 : Nat) : Int)) ?_ ⟨_, by show 20 - (j + 1) < 20 - j; omega, j + 1, F9, Q9, rfl, by omega, rfl, rfl, t9⟩)
      rw [← hcast]; exact inc64 (by omega)
  · have hj20 : j = 20 := by omega
    subst hj20
    -- all of them held as they are
    have s4 := s.chill 16
    have ra : OpRow (F.add (Q 16)) yv (theOs 20) := t.row.row (Hp.le_right ((s.df 16).symm)) (Hp.le_left _ _)
    have fi : F.le (F.add (Q 16)) := Hp.le_left _ _
    have m4 := (mm.fmono fi).same (Q' := updQ Q 16 (Hp.none h0.lo)) fun i hi => updQ_ne (by omega)
    generalize F.add (Q 16) = F4 at *
    generalize updQ Q 16 (Hp.none h0.lo) = Q4 at *
    have f04 := Hp.le_trans t.fle fi
    refine ⟨fun c h' => c = false ∧ ∃ F Q q rr a v E L, F4.le F ∧ Sep h0.lo F Q h' ∧ StM h0.lo F Q w q dp rr a v E L ⟨theOs 20, sizeL (recsO (theOs 20)), false⟩ ∧ InvC E L (recsO (theOs 20)) 0 (fun y => y = recsO (theOs 20)) ∧ Clean E L (recsO (theOs 20)) ∧ Few E 100, onB.dec (fun ek => ?_) (fun ek => ?_), ?_⟩
    · have hk0 : ¬ kk = 0 := by omega
      simp only [if_neg hk0] at *
      refine c141ok (l := theOs 20) s4 m4 inv ar few (VwO.frz ra) aok (fun o ho => by cases ho) (by simp) (by omega) (by omega) fun F8 r8 a8 v8 Q8 h8 E8 L8 f8 s8 m8 i8 lc8 ar8 few8 u8 => onRet.i (c6 (onRet.i ⟨rfl, F8, Q8, q, r8, a8, v8, E8, L8, f8, s8, m8, i8, lc8, few8.mono (by omega)⟩))
    · have hk0 : kk = 0 := by omega
      subst hk0
      simp only [if_true] at *
      exact ⟨by simp, F4, Q4, q, rr, a, v, E, L, Hp.le_refl _, s4, m4, inv, cln, few.mono (by omega)⟩
    rintro h16 _ ⟨rfl, F5, Q5, q5, rr5, a5, v5, E5, L5, f5, s5, m5, i5, lc5, few5⟩
    -- the store's own memory set aside
    have s6 := (s5.move (i := 12) (j := 17) (by omega)).move (i := 13) (j := 18) (by omega)
    have box : ∀ {Q6 : Nat → Hp} {F6 h6}, Sep h0.lo F6 Q6 h6 → Q6 17 = Q5 12 → h6.g w = some (stC q5 v5 ⟨theOs 20, sizeL (recsO (theOs 20)), false⟩) := fun s6 e => s6.le 17 w _ (by rw [e, m5.box]; exact if_pos rfl)
    have opsr : ∀ {Q6 : Nat → Hp} {F6 h6}, F5.le F6 → Sep h0.lo F6 Q6 h6 → Q6 18 = Q5 13 → OpRow h6 v5 (theOs 20) := fun f s6 e => m5.ops.row (by rw [← e]; exact s6.le 18) (Hp.le_trans f s6.fle)
    have e17 : updQ (updQ (updQ (updQ Q5 17 (Q5 12)) 12 (Hp.none h0.lo)) 18 (updQ (updQ Q5 17 (Q5 12)) 12 (Hp.none h0.lo) 13)) 13 (Hp.none h0.lo) 17 = Q5 12 := by rw [updQ_ne (by omega), updQ_ne (by omega), updQ_ne (by omega), updQ_same]
    have e18 : updQ (updQ (updQ (updQ Q5 17 (Q5 12)) 12 (Hp.none h0.lo)) 18 (updQ (updQ Q5 17 (Q5 12)) 12 (Hp.none h0.lo) 13)) 13 (Hp.none h0.lo) 18 = Q5 13 := by rw [updQ_ne (by omega), updQ_same, updQ_ne (by omega), updQ_ne (by omega)]
    have d6 := m5.lg.dk.same (Q' := updQ (updQ (updQ (updQ Q5 17 (Q5 12)) 12 (Hp.none h0.lo)) 18 (updQ (updQ Q5 17 (Q5 12)) 12 (Hp.none h0.lo) 13)) 13 (Hp.none h0.lo)) fun i _ _ => by rw [updQ_ne (by omega), updQ_ne (by omega), updQ_ne (by omega), updQ_ne (by omega)]
    generalize updQ (updQ (updQ (updQ Q5 17 (Q5 12)) 12 (Hp.none h0.lo)) 18 (updQ (updQ Q5 17 (Q5 12)) 12 (Hp.none h0.lo) 13)) 13 (Hp.none h0.lo) = Q6 at *
    refine onB.neg rfl (c9 (ps := []) s6 d6 ns_ints (few5.mono (by omega)) fun dp2 a12 Q12 h12 s12 d12 u12 => onRet.r rfl ?_)
    obtain ⟨x0, x1, x2, cr, hpick, hrec, hx2⟩ := clean_pick i5 lc5 []
    rw [cr] at d12
    rcases loadR_cc (x0 := x0) (x1 := x1) (x2 := x2) (D := dkOf [x0, x1, x2]) (N := 0) (C := fun y => y = recsO (theOs 20)) rfl rfl with ⟨g1, g2, g3, g4, g5, g6⟩ | ⟨_, g2, _⟩
    rotate_left
    · cases g2
    rw [hrec] at g2
    have ok20 := theOs_ok (j := 20) (by omega)
    have len20 := theOs_len (j := 20)
    refine c5 s12 d12 few0 (fun e => absurd g1 e) (fun _ ⟨b, hb, hn⟩ => by rw [g2] at hb; exact absurd (recs_rec ok20 b hb) hn) fun _ _ w13 q13 F13 r13 a13 v13 Q13 h13 f13 s13 m13 u13 => onTup.ri rfl (c6 (onRet.i (onB.neg rfl (onO.mk rfl (onB.neg rfl ?_)))))
    rw [g2, ops_recs ok20] at m13
    have box13 := box s13 (by rw [u13 17 (by omega), u12 17 (by omega) (by omega)]; exact e17)
    have ops13 := opsr f13 s13 (by rw [u13 18 (by omega), u12 18 (by omega) (by omega)]; exact e18)
    refine c11 s13 m13 (by show (theOs 20).length < _; omega) fun r20 h20 o20 => onRet.r o20.sc ?_
    have all20 : OpRow h20 yv (theOs 20) := ((((ra.mono f5).mono f13).mono s13.fle)).mono o20.1
    refine c10 (a := r20) (la := theOs 20) o20.row all20 (by omega) (fun o ho => may_opk (ok20 o ho).1) (onRet.b (onB.neg (by simp) ?_))
    refine c137h (S := ⟨theOs 20, sizeL (recsO (theOs 20)), false⟩) (o20.1 _ _ box13) (ops13.mono o20.1) (by show (theOs 20).length < _; omega) (fun o ho => (ok20 o ho).1) fun r22 h22 o22 => onRet.r o22.sc ?_
    refine c10 (a := r22) (la := theOs 20) o22.row (all20.mono o22.1) (by omega) (fun o ho => may_opk (ok20 o ho).1) (onRet.b (onB.neg (by simp) ?_))
    exact onO.mk (inc64 (by omega)) ⟨_, by show 2 - (kk + 1) < 2 - kk; omega, kk + 1, rfl, by omega, rfl, rfl, Hp.le_trans le0 (Hp.le_trans f04 (Hp.le_trans f5 (Hp.le_trans f13 (Hp.le_trans s13.fle (Hp.le_trans o20.1 o22.1))))), by rw [o22.2.1, o20.2.1, s13.hlo, lo0]⟩
end Go.Proofs.YthnhdgcaolgdnaaAn
