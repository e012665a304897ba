/- What the functions that the law reaches come to, down to the law itself. -/
import Derived.Test.YtedhmpadkdmnhaaCnLogQuotasp0
import Derived.Test.YtedhmpadkdmnhaaProg
set_option linter.unusedVariables false
set_option linter.unusedSimpArgs false
set_option maxRecDepth 100000
namespace Go.Proofs.YtedhmpadkdmnhaaAn
open Go
/-! ### plain: opened -/
def mkOf (x : List Nat) : Nat := x.getD (x.length - 1) 0 % 2
theorem mkOf_lt {x : List Nat} : mkOf x < 2 := Nat.mod_lt _ (by omega)
def fileOf (D : Dk) : Nat := mkOf (fileD D 2).seen
def bytesOf (D : Dk) : List Nat := (fileD D (fileOf D : Nat)).seen
def logOf (D : Dk) : Lg := scanLg ⟨[], 0, fileOf D, 0, false⟩ (bytesOf D)
def cutOf (D : Dk) : Int × Dk := if (logOf D).pos < (bytesOf D).length then cutR D (fileOf D : Nat) ((logOf D).pos : Nat) else (0, D)
def sync1 (D : Dk) : Int × Dk := if (cutOf D).1 = 0 then syncR (cutOf D).2 (fileOf D : Nat) else cutOf D
def sync2 (D : Dk) : Int × Dk := if (sync1 D).1 = 0 then syncR (sync1 D).2 2 else sync1 D
def loadR (D : Dk) : Int × Dk × Lg := if askR D 2 = 0 then ((sync2 D).1, (sync2 D).2, logOf D) else (askR D 2, D, ⟨[], 0, 0, 0, false⟩)
theorem askR_any {D : Dk} {m n : Nat} (hm : m < 3) (hn : n < 3) (h : askR D (m : Nat) = 0) : askR D (n : Nat) = 0 := by
  obtain ⟨h1, _⟩ := askR_ok h
  unfold askR
  rw [h1]
  simp only [Bool.false_eq_true, if_false]
  rw [if_neg (by omega), if_neg (by omega)]
theorem and1l {y : Nat} (h : y < 256) : intO .and .u8 (y : Int) 1 = some ((y % 2 : Nat) : Int) := by
  unfold intO
  have e : intA .and .u8 (y : Int) 1 = some (.i .u8 (wrapA .u8 (.ofNat (Nat.land y 1)))) := by
    show (cond (Nat.blt y 256 && Nat.blt 1 256) _ none : Option AV) = _
    rw [blt_of h]; rfl
  rw [e]
  have h2 : Nat.land y 1 = y % 2 := Nat.and_two_pow_sub_one_eq_mod y 1
  rw [h2]
  show some (wrapA .u8 ((y % 2 : Nat) : Int)) = _
  rw [wrap_mod rfl]
  congr 1
  show ((y % 2 : Nat) : Int) % 256 = _
  omega
theorem cutOf_few {D : Dk} {N : Nat} (w : Few D N) : Few (cutOf D).2 (N + 1) := by
  unfold cutOf
  split
  · exact cutR_few w
  · exact w.mono (by omega)
theorem sync1_few {D : Dk} {N : Nat} (w : Few D N) : Few (sync1 D).2 (N + 1) := by
  unfold sync1
  split
  · exact syncR_few (cutOf_few w)
  · exact cutOf_few w
theorem sync2_few {D : Dk} {N : Nat} (w : Few D N) : Few (sync2 D).2 (N + 1) := by
  unfold sync2
  split
  · exact syncR_few (sync1_few w)
  · exact sync1_few w
section
variable {lo q dp : Nat} {F F' h h' : Hp} {Q Q' : Nat → Hp} {a a' : Nat → AV} {r r' b : AV} {D D' : Dk} {L L' : Lg} {Post : AV → Hp → Prop} {n : Int}
theorem c22 (s : Sep lo F Q h) (m : LgM lo F Q q dp r a D ⟨[], 0, 0, 0, false⟩) (hb : Few D 30000000)
    (k : ∀ F' r' a' Q' h', F.le F' → Sep lo F' Q' h' → LgM lo F' Q' q dp r' a' (loadR D).2.1 (loadR D).2.2 → Upd 0 12 Q Q' → Post (.i .i64 (loadR D).1) h') : wpC Try.prog 22 [.p q 0] Post h := by
  refine call_sound (args := [.vv (.p q 0)]) (cuts := [12999999, 24000004]) ⟨rfl, trivial⟩ ?_
  rw [vc22]
  unfold loadR at k
  refine c35 s m fun r1 h1 o1 => onTup.ri o1.sc ?_
  unfold readAll at o1 ⊢
  by_cases e0 : ¬ askR D 2 = 0
  · rw [if_neg e0] at k o1 ⊢
    exact onB.pos (by simp [e0]) (k F r a Q h1 (Hp.le_refl _) (s.grow o1.le o1.lo) m Upd.refl)
  have e0 := Decidable.not_not.1 e0
  rw [if_pos e0] at k o1 ⊢
  have o1 : Kn.byte.Own h h1 r1 (fileD D 2).seen := o1
  have s1 := s.grow o1.le o1.lo
  have hseen := fileD_len (E := D) (n := 2) m.dk.ok
  refine onB.neg rfl (onO.mk o1.row.len ⟨fun h' => ∃ Q', Sep lo F Q' h' ∧ LgM lo F Q' q dp r a D ⟨[], 0, fileOf D, 0, false⟩ ∧ ∀ j, j ≠ 10 → Q' j = Q j, onB.dec (fun e => ?_) (fun e => ?_), ?_⟩)
  · obtain ⟨y, hy⟩ := get_lt (l := (fileD D 2).seen) (k := (fileD D 2).seen.length - 1) (by omega)
    have hy8 := byte_lt o1.row (List.mem_of_getElem? hy)
    have hm : fileOf D = y % 2 := by
      show (fileD D 2).seen.getD ((fileD D 2).seen.length - 1) 0 % 2 = _
      rw [List.getD_eq_getElem?_getD, hy]; rfl
    refine onO.mk o1.row.len (onO.mk (a := (((fileD D 2).seen.length - 1 : Nat) : Int)) ?_ ?_)
    · rw [show (((fileD D 2).seen.length - 1 : Nat) : Int) = ((fileD D 2).seen.length : Int) - 1 by omega]
      exact sub64 (by omega) (by omega)
    refine byte0 o1.row hy (onO.mk (and1l hy8) (onO.mk (wr64 (by omega) (by omega)) (onO.mk rfl (lg_put s1 m.box m.qlo (i := 3) rfl rfl (by omega) fun h2 s2 => ⟨_, s2, ?_, fun j hj => updQ_ne hj⟩))))
    refine m.chg ?_ (by rw [updQ_ne (by omega)]; exact m.row) (fun j j1 j2 => updQ_ne j1) mkOf_lt
    rw [updQ_same, hm]; rfl
  · have hm : fileOf D = 0 := by
      have : (fileD D 2).seen = [] := List.length_eq_zero_iff.1 (by omega)
      unfold fileOf
      rw [this]; rfl
    rw [hm]
    exact ⟨Q, s1, m, fun _ _ => rfl⟩
  clear s1 o1 s
  rintro h2 ⟨Q2, s2, m2, u2⟩
  obtain ⟨w0, w1, w2, w3, w4, w5⟩ := lg_word s2 m2.box
  have hlt : fileOf D < 2 := mkOf_lt
  have ef : askR D (fileOf D : Nat) = 0 := askR_any (m := 2) (by omega) (by omega) e0
  refine onO.mk rfl (onO.mk w3 (onL.i1 (c35 s2 m2 fun r3 h3 o3 => onTup.ri o3.sc ?_)))
  unfold readAll at o3 ⊢
  rw [if_pos ef] at o3 ⊢
  have o3 : Kn.byte.Own h2 h3 r3 (fileD D (fileOf D : Nat)).seen := o3
  have s3 := s2.frz o3.le o3.lo
  have f3 := s2.fgrow o3.le
  have rb := o3.frozen byte_flat (F := F)
  have hbl : (bytesOf D).length ≤ 4194304 := fileD_len m.dk.ok
  refine onB.neg rfl (c36 (B := bytesOf D) s3 (m2.fmono f3) rb hbl (Nat.zero_le _) (Nat.le_refl _) (Nat.le_refl _) fun r4 Q4 h4 s4 m4 u4 => onTup.z ?_)
  obtain ⟨v0, v1, v2, v3, v4, v5⟩ := lg_word s4 m4.box
  have m4 : LgM lo (moreH h2 h3 F) Q4 q dp r4 a D (logOf D) := m4
  have hpos : (logOf D).pos ≤ (bytesOf D).length := by
    show 0 + (scanL ((bytesOf D).drop 0)).2 ≤ _
    have := (scan_len ((bytesOf D).drop 0)).1
    simp at this ⊢; omega
  have u04 : Upd 0 12 Q Q4 := fun j hj => by rw [u4 j (by omega) (by omega), u2 j (by omega)]
  refine onO.mk rfl (onO.mk v4 (onL.i1 (onO.mk (rb.mono s4.fle).len ⟨fun n h' => ∃ a' Q', Sep lo (moreH h2 h3 F) Q' h' ∧ LgM lo (moreH h2 h3 F) Q' q dp r4 a' (cutOf D).2 (logOf D) ∧ Upd 0 12 Q Q' ∧ n = (cutOf D).1, onB.mk (fun e => ?_) (fun e => ?_), ?_⟩)))
  · have e : (logOf D).pos < (bytesOf D).length := by
      have := of_decide_eq_true e
      exact Int.ofNat_lt.1 this
    have hc : cutOf D = cutR D (fileOf D : Nat) ((logOf D).pos : Nat) := if_pos e
    refine onO.mk rfl (onO.mk v0 (onL.r1 rfl (onO.mk rfl (onO.mk v3 (onL.i1 (onO.mk rfl (onO.mk v4 (onL.i1 ?_))))))))
    refine c37 s4 m4.dk (hb.mono (by omega)) fun a5 Q5 h5 s5 d5 u5 => onRet.i ⟨a5, Q5, s5, ?_, u04.trans u5.more, ?_⟩
    · rw [hc]; exact m4.disk d5 u5
    · rw [hc]; rfl
  · have e : ¬ (logOf D).pos < (bytesOf D).length := fun e2 => (of_decide_eq_false e) (Int.ofNat_lt.2 e2)
    have hc : cutOf D = (0, D) := if_neg e
    rw [hc]
    exact ⟨a, Q4, s4, m4, u04, rfl⟩
  rintro h6 _ ⟨a6, Q6, s6, m6, u6, rfl⟩
  obtain ⟨x0, x1, x2, x3, x4, x5⟩ := lg_word s6 m6.box
  refine onO.mk rfl (onO.mk x3 (onL.i1 ⟨fun m n13 n14 h' => ∃ (j : Nat) (a' : Nat → AV) (Q' : Nat → Hp) (D' : Dk), n14 = j ∧ j ≤ 2 ∧ m = 2 - j ∧ Sep lo (moreH h2 h3 F) Q' h' ∧ LgM lo (moreH h2 h3 F) Q' q dp r4 a' D' (logOf D) ∧ Upd 0 12 Q Q' ∧ (n13, D') = (match j with | 0 => cutOf D | 1 => sync1 D | _ => sync2 D),
    ⟨2, 0, a6, Q6, (cutOf D).2, rfl, by omega, rfl, s6, m6, u6, rfl⟩, ?_⟩))
  rintro m h7 n13 _ ⟨j, a7, Q7, D7, rfl, hj, rfl, s7, m7, u7, he⟩
  obtain ⟨y0, y1, y2, y3, y4, y5⟩ := lg_word s7 m7.box
  refine onB.dec (fun e => onO.mk (natLt_nat (n := j) (m := 2) (by omega)) ⟨⟨trivial, fun e0 => ?_⟩, fun e0 => ?_⟩) fun e => ?_
  · subst e0
    have hn : n13 = (cutOf D).1 := congrArg Prod.fst he
    have hD : D7 = (cutOf D).2 := congrArg Prod.snd he
    subst hD
    refine onB.dec (fun c => ?_) fun c => ?_
    · have hs : sync1 D = syncR (cutOf D).2 (fileOf D : Nat) := if_pos (by rw [← hn]; exact c)
      refine onO.mk rfl (onO.mk y0 (onL.r1 rfl (c34 s7 m7.dk ((cutOf_few hb).mono (by omega)) fun a8 Q8 h8 s8 d8 u8 => onRet.i (onO.mk rfl ⟨1, by show (1 : Nat) < 2 - 0; omega, 1, a8, Q8, _, rfl, by omega, rfl, s8, m7.disk d8 u8, u7.trans u8.more, ?_⟩))))
      show _ = sync1 D
      rw [hs]; rfl
    · have hs : sync1 D = cutOf D := if_neg (by rw [← hn]; exact c)
      refine onO.mk rfl ⟨1, by show (1 : Nat) < 2 - 0; omega, 1, a7, Q7, _, rfl, by omega, rfl, s7, m7, u7, ?_⟩
      show _ = sync1 D
      rw [hs]; exact he
  · subst e0
    have hn : n13 = (sync1 D).1 := congrArg Prod.fst he
    have hD : D7 = (sync1 D).2 := congrArg Prod.snd he
    subst hD
    refine onB.dec (fun c => ?_) fun c => ?_
    · have hs : sync2 D = syncR (sync1 D).2 2 := if_pos (by rw [← hn]; exact c)
      refine onO.mk rfl (onO.mk y0 (onL.r1 rfl (c34 s7 m7.dk ((sync1_few hb).mono (by omega)) fun a8 Q8 h8 s8 d8 u8 => onRet.i (onO.mk rfl ⟨0, by show (0 : Nat) < 2 - 1; omega, 2, a8, Q8, _, rfl, by omega, rfl, s8, m7.disk d8 u8, u7.trans u8.more, ?_⟩))))
      show _ = sync2 D
      rw [hs]
    · have hs : sync2 D = sync1 D := if_neg (by rw [← hn]; exact c)
      refine onO.mk rfl ⟨0, by show (0 : Nat) < 2 - 1; omega, 2, a7, Q7, _, rfl, by omega, rfl, s7, m7, u7, ?_⟩
      show _ = sync2 D
      rw [hs]; exact he
  · have hj2 : j = 2 := by omega
    subst hj2
    have hn : n13 = (sync2 D).1 := congrArg Prod.fst he
    have hD : D7 = (sync2 D).2 := congrArg Prod.snd he
    subst hD; subst hn
    exact k _ r4 a7 Q7 h7 f3 s7 m7 u7
theorem c6 (s : Sep lo F Q h) (d : DkA lo F Q 0 dp a D) (hb : Few D 30000000)
    (k1 : (loadR D).1 ≠ 0 → ∀ F' a' Q' h', F.le F' → Sep lo F' Q' h' → DkA lo F' Q' 0 dp a' (loadR D).2.1 → Upd 0 12 Q Q' → Post (.tup [.np, .i .i64 (loadR D).1]) h')
    (k2 : (loadR D).1 = 0 → ∀ q F' r' a' Q' h', F.le F' → Sep lo F' Q' h' → LgM lo F' Q' q dp r' a' (loadR D).2.1 (loadR D).2.2 → Upd 0 12 Q Q' → Post (.tup [.p q 0, .i .i64 0]) h') : wpC Try.prog 6 [.p dp 0] Post h := by
  refine call_sound (args := [.vv (.p dp 0)]) (cuts := []) ⟨rfl, trivial⟩ ?_
  rw [vc6]
  refine onO.mk rfl (onB.neg rfl fun q hq hlo => ?_)
  have s1 := (s.drop 11).alloc 10 hq [.p dp 0, .ns, .i .i64 0, .i .i64 0, .i .i64 0, .b false]
  have u1 : Upd 0 12 Q (updQ (updQ Q 11 (Hp.none lo)) 10 (Hp.one q [.p dp 0, .ns, .i .i64 0, .i .i64 0, .i .i64 0, .b false] lo)) := fun j hj => by rw [updQ_ne (by omega), updQ_ne (by omega)]
  refine c22 s1 ⟨updQ_same, by rw [← s.hlo]; exact hlo, by rw [updQ_ne (by omega), updQ_same]; exact PK.nil _ _, d.same fun j _ _ => by rw [updQ_ne (by omega), updQ_ne (by omega)], by show (0 : Nat) < 2; omega⟩ hb fun F2 r2 a2 Q2 h2 f2 s2 m2 u2 => onRet.i (onB.ndec (fun e => ?_) fun e => ?_)
  · exact k1 e F2 a2 Q2 h2 f2 s2 m2.dk (u1.trans u2)
  · exact k2 e q F2 r2 a2 Q2 h2 f2 s2 m2 (u1.trans u2)
theorem c8 {x : Int} (k : Post (.i .i64 x) h) : wpC Try.prog 8 [.i .i64 x] Post h := by
  refine call_sound (args := [.ii .i64 x]) (cuts := []) ⟨trivial, trivial⟩ ?_
  rw [vc8]; exact k
theorem c7 (s : Sep lo F Q h) (k : ∀ dp a Q' h', Sep lo F Q' h' → DkA lo F Q' 0 dp a (dkOf []) → Upd 0 10 Q Q' → Post (.p dp 0) h') : wpC Try.prog 7 [] Post h := by
  refine call_sound (args := []) (cuts := []) trivial ?_
  rw [vc7]
  exact c23 (B := 0) s Vw.frz ns_rows (by simp) (fun e => by cases e) fun _ p a Q1 h1 s1 d1 u1 => onTup.ri rfl (c8 (onRet.i (onB.neg rfl (k p a Q1 h1 s1 d1 u1))))
end
/-! ### plain -/
def rnStep (o : Nat) (B : List Nat) (D : Dk) : Nat → Int × Dk
  | 0 => cutR D (o : Nat) 0
  | 1 => writeR D (o : Nat) 0 B
  | 2 => syncR D (o : Nat)
  | 3 => if askR D 2 = 0 then writeR D 2 (((fileD D 2).seen.length : Nat) : Int) [o] else (askR D 2, D)
  | _ => syncR D 2
def rnR (o : Nat) (B : List Nat) (D : Dk) : Nat → Int × Dk
  | 0 => (0, D)
  | j + 1 => if (rnR o B D j).1 = 0 then rnStep o B (rnR o B D j).2 j else rnR o B D j
theorem rn_stop {o : Nat} {B : List Nat} {D : Dk} {j : Nat} (h : (rnR o B D j).1 ≠ 0) : ∀ d, rnR o B D (j + d) = rnR o B D j
  | 0 => rfl
  | d + 1 => by
    have := rn_stop h d
    show (if (rnR o B D (j + d)).1 = 0 then _ else rnR o B D (j + d)) = _
    rw [this, if_neg h]
theorem rnStep_few {o : Nat} {B : List Nat} {D : Dk} {N : Nat} (w : Few D N) (j : Nat) : Few (rnStep o B D j).2 (N + 1) := by
  match j with
  | 0 => exact cutR_few w
  | 1 => exact writeR_few w
  | 2 => exact (syncR_few w).mono (by omega)
  | 3 =>
    show Few (if askR D 2 = 0 then writeR D 2 _ [o] else (askR D 2, D)).2 _
    split
    · exact writeR_few w
    · exact w.mono (by omega)
  | j + 4 => exact (syncR_few w).mono (by omega)
theorem rnR_few {o : Nat} {B : List Nat} {D : Dk} {N : Nat} (w : Few D N) : ∀ j, Few (rnR o B D j).2 (N + j)
  | 0 => w
  | j + 1 => by
    show Few (if (rnR o B D j).1 = 0 then _ else rnR o B D j).2 _
    split
    · exact rnStep_few (rnR_few w j) j
    · exact (rnR_few w j).mono (by omega)
def rstL (D : Dk) (L : Lg) (l : List (List Nat)) : Int × Dk × Lg :=
  if L.dead = true then (10, D, L) else if (cntR l).2 = 0 then
    (if (rnR (1 - L.file) (layR l) D 5).1 = 0 then (0, (rnR (1 - L.file) (layR l) D 5).2, ⟨l, sizeL l, 1 - L.file, (layR l).length, false⟩)
     else ((rnR (1 - L.file) (layR l) D 5).1, (rnR (1 - L.file) (layR l) D 5).2, { L with dead := true }))
  else ((cntR l).2, D, L)
def Rest (n : Nat) (Q Q' : Nat → Hp) : Prop := ∀ j, n ≤ j → Q' j = Q j
section
variable {lo q dp : Nat} {F F' h h' : Hp} {Q Q' : Nat → Hp} {a a' : Nat → AV} {r r' b : AV} {D D' : Dk} {L L' : Lg} {Post : AV → Hp → Prop} {n : Int}
theorem c29 {B : List Nat} (s : Sep lo F Q h) (m : LgM lo F Q q dp r a D L) (rb : Kn.byte.Row F b B) (hb : Few D 30000000)
    (k : ∀ F' a' Q' h', F.le F' → Sep lo F' Q' h' → LgM lo F' Q' q dp r a' (rnR (1 - L.file) B D 5).2 L → Rest 15 Q Q' → Post (.i .i64 (rnR (1 - L.file) B D 5).1) h') : wpC Try.prog 29 [.p q 0, b] Post h := by
  refine call_sound (args := [.vv (.p q 0), .vv b]) (cuts := [999999]) ⟨rfl, rb.sc, trivial⟩ ?_
  rw [vc29]
  intro p0 p1
  obtain ⟨w0, w1, w2, w3, w4, w5⟩ := lg_word s m.box
  have hfl := m.file
  have hsub : intO .sub .i64 1 (L.file : Int) = some ((1 - L.file : Nat) : Int) := by
    rw [sub64 (by omega) (by omega)]
    congr 1; omega
  refine onO.mk rfl (onO.mk w3 (onL.i1 (onO.mk hsub fun p2 e0 l0 e1 l1 e2 l2 => ?_)))
  generalize ho : 1 - L.file = o at *
  have ho2 : o < 2 := by omega
  have s1 := s.alloc 12 e0 [.p q 0]
  have s2 := s1.alloc 13 (p := p1) e1 [b]
  have s3 := s2.alloc 14 (p := p2) e2 [.i .i64 (o : Int)]
  have hq0 : lo ≤ p0 := by rw [← s.hlo]; exact l0
  have hq1 : lo ≤ p1 := by rw [← s.hlo]; exact l1
  have hq2 : lo ≤ p2 := by rw [← s.hlo]; exact l2
  refine ⟨fun mm n2 n3 h' => ∃ (j : Nat) (F' : Hp) (a' : Nat → AV) (Q' : Nat → Hp), n3 = j ∧ j ≤ 5 ∧ mm = 5 - j ∧ F.le F' ∧ Sep lo F' Q' h' ∧ LgM lo F' Q' q dp r a' (rnR o B D j).2 L ∧ Rest 15 Q Q' ∧ (rnR o B D j).1 = 0 ∧ Q' 12 = Hp.one p0 [.p q 0] lo ∧ Q' 13 = Hp.one p1 [b] lo ∧ Q' 14 = Hp.one p2 [.i .i64 (o : Int)] lo,
    ⟨5, 0, F, a, _, rfl, by omega, rfl, Hp.le_refl _, s3, ?_, fun j hj => by rw [updQ_ne (by omega), updQ_ne (by omega), updQ_ne (by omega)], rfl, by rw [updQ_ne (by omega), updQ_ne (by omega), updQ_same], by rw [updQ_ne (by omega), updQ_same], updQ_same⟩, ?_⟩
  · exact ⟨by rw [updQ_ne (by omega), updQ_ne (by omega), updQ_ne (by omega)]; exact m.box, m.qlo, by rw [updQ_ne (by omega), updQ_ne (by omega), updQ_ne (by omega)]; exact m.row, m.dk.same fun j _ _ => by rw [updQ_ne (by omega), updQ_ne (by omega), updQ_ne (by omega)], m.file⟩
  rintro mm h4 n2 _ ⟨j, F4, a4, Q4, rfl, hj, rfl, f4, s4, m4, u4, hz, b0, b1, b2⟩
  have few := (rnR_few (o := o) (B := B) hb j).mono (M := 30000005) (by omega)
  have hnext : rnR o B D (j + 1) = rnStep o B (rnR o B D j).2 j := if_pos hz
  have r0 : rdH h4 p0 0 1 = some [.p q 0] := rdBox (s4.box b0) rfl
  have r1 : rdH h4 p1 0 1 = some [b] := rdBox (s4.box b1) rfl
  have r2 : rdH h4 p2 0 1 = some [.i .i64 (o : Int)] := rdBox (s4.box b2) rfl
  obtain ⟨w0, _⟩ := lg_word s4 m4.box
  -- behind a step
  have done : ∀ {F5 : Hp} {a5 : Nat → AV} {Q5 : Nat → Hp} {h5 : Hp} {D5 : Dk} {e : Int}, F4.le F5 → Sep lo F5 Q5 h5 → DkA lo F5 Q5 0 dp a5 D5 → Upd 0 10 Q4 Q5 → (e, D5) = rnStep o B (rnR o B D j).2 j → j < 5 →
      onB (!decide (e = 0)) (Post (AV.i IntKind.i64 e) h5) (onO (intO BinOp.add IntKind.i64 (j : Int) 1) fun n5 => ∃ p6, ltN p6 (5 - j) ∧ ∃ (j : Nat) (F' : Hp) (a' : Nat → AV) (Q' : Nat → Hp), n5 = j ∧ j ≤ 5 ∧ p6 = 5 - j ∧ F.le F' ∧ Sep lo F' Q' h5 ∧ LgM lo F' Q' q dp r a' (rnR o B D j).2 L ∧ Rest 15 Q Q' ∧ (rnR o B D j).1 = 0 ∧ Q' 12 = Hp.one p0 [.p q 0] lo ∧ Q' 13 = Hp.one p1 [b] lo ∧ Q' 14 = Hp.one p2 [.i .i64 (o : Int)] lo) := by
    intro F5 a5 Q5 h5 D5 e f5 s5 d5 u5 he hj5
    rw [← hnext] at he
    have he1 : e = (rnR o B D (j + 1)).1 := congrArg Prod.fst he
    have he2 : D5 = (rnR o B D (j + 1)).2 := congrArg Prod.snd he
    have m5 := (m4.fmono f5).disk d5 u5
    have u5' : Rest 15 Q Q5 := fun i hi => by rw [u5 i (by omega), u4 i hi]
    refine onB.ndec (fun ez => ?_) fun ez => ?_
    · have hs : rnR o B D 5 = rnR o B D (j + 1) := by
        have := rn_stop (o := o) (B := B) (D := D) (j := j + 1) (by rw [← he1]; exact ez) (5 - (j + 1))
        rw [show j + 1 + (5 - (j + 1)) = 5 by omega] at this
        exact this
      have := k F5 a5 Q5 h5 (Hp.le_trans f4 f5) s5
      rw [hs, ← he1, ← he2] at this
      exact this m5 u5'
    · refine onO.mk (inc64 (by omega)) ⟨_, by show 5 - (j + 1) < 5 - j; omega, j + 1, F5, a5, Q5, rfl, by omega, rfl, Hp.le_trans f4 f5, s5, ?_, u5', by rw [← he1]; exact ez, by rw [u5 _ (by omega)]; exact b0, by rw [u5 _ (by omega)]; exact b1, by rw [u5 _ (by omega)]; exact b2⟩
      rw [← he2]; exact m5
  refine onB.dec (fun e => onO.mk (natLt_nat (n := j) (m := 5) (by omega)) ⟨⟨⟨⟨⟨trivial, fun ej => ?_⟩, fun ej => ?_⟩, fun ej => ?_⟩, fun ej => ?_⟩, fun ej => ?_⟩) fun e => ?_
  · subst ej
    refine call_sound (args := [.vv (.p p0 0), .vv (.p p2 0)]) (cuts := []) ⟨rfl, rfl, trivial⟩ ?_
    rw [vc43]
    refine onO.mk rfl (onO.mk r0 (onL.r1 rfl (onO.mk rfl (onO.mk w0 (onL.r1 rfl (onO.mk rfl (onO.mk r2 (onL.i1 ?_))))))))
    exact c37 (n := (o : Int)) (k' := 0) s4 m4.dk (few.mono (by omega)) fun a5 Q5 h5 s5 d5 u5 => onRet.i (onRet.i (done (Hp.le_refl _) s5 d5 u5 rfl (by omega)))
  · subst ej
    refine call_sound (args := [.vv (.p p0 0), .vv (.p p2 0), .vv (.p p1 0)]) (cuts := []) ⟨rfl, rfl, rfl, trivial⟩ ?_
    rw [vc44]
    refine onO.mk rfl (onO.mk r0 (onL.r1 rfl (onO.mk rfl (onO.mk w0 (onL.r1 rfl (onO.mk rfl (onO.mk r2 (onL.i1 (onO.mk rfl (onO.mk r1 (onL.r1 rb.sc ?_)))))))))))
    exact c26 (n := (o : Int)) (at' := 0) (l := B) (V := F) s4 m4.dk (fun F5 Q5 h5 f5 s5 _ => Hp.le_trans (Hp.le_trans f4 f5) s5.fle) rb (few.mono (by omega)) (by omega) (by omega) fun F5 a5 Q5 h5 f5 s5 d5 u5 => onRet.i (onRet.i (done f5 s5 d5 u5 rfl (by omega)))
  · subst ej
    refine call_sound (args := [.vv (.p p0 0), .vv (.p p2 0)]) (cuts := []) ⟨rfl, rfl, trivial⟩ ?_
    rw [vc45]
    refine onO.mk rfl (onO.mk r0 (onL.r1 rfl (onO.mk rfl (onO.mk w0 (onL.r1 rfl (onO.mk rfl (onO.mk r2 (onL.i1 ?_))))))))
    exact c34 (n := (o : Int)) s4 m4.dk (few.mono (by omega)) fun a5 Q5 h5 s5 d5 u5 => onRet.i (onRet.i (done (Hp.le_refl _) s5 d5 u5 rfl (by omega)))
  · subst ej
    refine call_sound (args := [.vv (.p p0 0), .vv (.p p2 0)]) (cuts := []) ⟨rfl, rfl, trivial⟩ ?_
    rw [vc46]
    refine onO.mk rfl (onO.mk r0 (onL.r1 rfl (onO.mk rfl (onO.mk w0 (onL.r1 rfl (c47 (n := 2) s4 m4.dk (onTup.ii ?_)))))))
    generalize hD : (rnR o B D 3).2 = D4 at *
    unfold sizeR
    by_cases ea : askR D4 2 = 0
    · rw [if_pos ea]
      have hseen := fileD_len (E := D4) (n := 2) m4.dk.ok
      refine onB.neg rfl (onO.mk rfl (onO.mk r0 (onL.r1 rfl (onO.mk rfl (onO.mk w0 (onL.r1 rfl (onO.mk rfl (onO.mk r2 (onL.i1 ?_)))))))))
      have w8 : wrO .u8 (o : Int) = some (o : Int) := by rw [wr8]; congr 1; omega
      refine onO.mk w8 fun p3 e3 l3 => ?_
      have ob : Kn.byte.Own h4 (h4.put p3 [.i .u8 (o : Int)]) (.sl p3 0 1 1 true 1) [o] :=
        ⟨h4, [[.i .u8 (o : Int)]], Hp.le_refl _, rfl, Fresh.put (Hp.le_refl _) rfl e3 l3 (css := [[.i .u8 (o : Int)]]) (sz := 1) (len := 1) true (fun c hc => by simp at hc; subst hc; rfl) rfl (cs := [.i .u8 (o : Int)]) rfl, .cons ⟨rfl, by omega⟩ .nil⟩
      have s5 := s4.frz ob.le ob.lo
      have f5 := s4.fgrow ob.le
      exact c26 (n := 2) (l := [o]) s5 (m4.dk.fmono f5) Vw.frz (ob.frozen byte_flat) (few.mono (by omega)) (by omega) (by omega) fun F6 a6 Q6 h6 f6 s6 d6 u6 => onRet.i (onRet.i (done (Hp.le_trans f5 f6) s6 d6 u6 (by
        show _ = (if askR D4 2 = 0 then writeR D4 2 (((fileD D4 2).seen.length : Nat) : Int) [o] else (askR D4 2, D4))
        rw [if_pos ea]) (by omega)))
    · rw [if_neg ea]
      exact onB.pos (by simp [ea]) (onRet.i (done (Hp.le_refl _) s4 m4.dk Upd.refl (by
        show _ = (if askR D4 2 = 0 then writeR D4 2 (((fileD D4 2).seen.length : Nat) : Int) [o] else (askR D4 2, D4))
        rw [if_neg ea]) (by omega)))
  · subst ej
    refine call_sound (args := [.vv (.p p0 0)]) (cuts := []) ⟨rfl, trivial⟩ ?_
    rw [vc48]
    refine onO.mk rfl (onO.mk r0 (onL.r1 rfl (onO.mk rfl (onO.mk w0 (onL.r1 rfl ?_)))))
    exact c34 (n := 2) s4 m4.dk (few.mono (by omega)) fun a5 Q5 h5 s5 d5 u5 => onRet.i (onRet.i (done (Hp.le_refl _) s5 d5 u5 rfl (by omega)))
  · have hj5 : j = 5 := by omega
    subst hj5
    have := k F4 a4 Q4 h4 f4 s4 m4 u4
    rw [hz] at this; exact this
theorem c11 {l : List (List Nat)} {V : Hp} (s : Sep lo F Q h) (m : LgM lo F Q q dp r a D L) (hv : ∀ F' Q' h', F.le F' → Sep lo F' Q' h' → Rest 15 Q Q' → V.le h') (rb : SR V b l) (hb : Few D 30000000) (hn : l.length < 31000000)
    (k : ∀ F' r' a' Q' h', F.le F' → Sep lo F' Q' h' → LgM lo F' Q' q dp r' a' (rstL D L l).2.1 (rstL D L l).2.2 → Rest 15 Q Q' → Post (.i .i64 (rstL D L l).1) h') : wpC Try.prog 11 [.p q 0, b] Post h := by
  refine call_sound (args := [.vv (.p q 0), .vv b]) (cuts := []) ⟨rfl, rb.sc, trivial⟩ ?_
  rw [vc11]
  unfold rstL at k
  obtain ⟨w0, w1, w2, w3, w4, w5⟩ := lg_word s m.box
  have ue : Rest 15 Q Q := fun _ _ => rfl
  refine onO.mk rfl (onO.mk w5 (onL.b1 (onB.mk (fun e => by rw [if_pos e] at k; exact k F r a Q h (Hp.le_refl _) s m ue) fun e => ?_)))
  rw [if_neg (by rw [e]; simp)] at k
  have rb0 := rb.mono (hv F Q h (Hp.le_refl _) s ue)
  refine c28 rb0 hn (onTup.ii (onB.ndec (fun ec => by rw [if_neg ec] at k; exact k F r a Q h (Hp.le_refl _) s m ue) fun ec => ?_))
  rw [if_pos ec] at k
  have hall : (∀ x ∈ l, x.length ≤ 4096) ∧ sizeL l ≤ 2097152 ∧ (cntR l).1 = (sizeL l : Nat) := by
    unfold cntR at ec ⊢
    split at ec
    · rename_i h1
      split at ec
      · rename_i h2
        rw [if_pos h1, if_pos h2]
        exact ⟨fun x hx => of_decide_eq_true (List.all_eq_true.1 h1 x hx), h2, rfl⟩
      · simp at ec
    · simp at ec
  have hlay := layR_le (l := l)
  refine c24 rb0 hall.1 (by omega) hn fun a1 h1 o1 => onRet.r o1.sc ?_
  have s1 := s.frz o1.le o1.lo
  have f1 := s.fgrow o1.le
  refine c29 (B := layR l) s1 (m.fmono f1) (o1.frozen byte_flat) hb fun F2 a2 Q2 h2 f2 s2 m2 u2 => onRet.i (c25 s2 m2 fun h3 s3 m3 => onRet.i ?_)
  have f12 := Hp.le_trans f1 f2
  generalize hR : rnR (1 - L.file) (layR l) D 5 = R at *
  by_cases er : R.1 = 0
  · rw [if_pos er] at k
    rw [er] at s3 m3 ⊢
    have u3 : Rest 15 Q (updQ Q2 10 (Hp.one q (lgC dp r { L with dead := !decide ((0 : Int) = 0) }) lo)) := fun j hj => by rw [updQ_ne (by omega)]; exact u2 j hj
    refine onB.neg rfl (c27 (rb.mono (hv F2 _ h3 f12 s3 u3)) hn fun a6 h4 o4 => onRet.r o4.sc ?_)
    obtain ⟨q11, s4, p4⟩ := s3.fresh 11 str_flat o4
    obtain ⟨y0, y1, y2, y3, y4, y5⟩ := lg_word s3 m3.box
    have e10 : updQ (updQ Q2 10 (Hp.one q (lgC dp r { L with dead := !decide ((0 : Int) = 0) }) lo)) 11 q11 10 = Hp.one q (lgC dp r { L with dead := !decide ((0 : Int) = 0) }) lo := by rw [updQ_ne (by omega)]; exact m3.box
    obtain ⟨z0, z1, z2, z3, z4, z5⟩ := lg_word s4 e10
    have hfl := m.file
    have hsub : intO .sub .i64 1 (L.file : Int) = some ((1 - L.file : Nat) : Int) := by
      rw [sub64 (by omega) (by omega)]
      congr 1; omega
    refine onO.mk rfl (onO.mk z3 (onL.i1 ⟨onO.mk y3 z3, ?_⟩))
    refine onO.mk hsub (onO.mk (o1.row.len) ?_)
    rw [hall.2.2]
    refine onO.mk rfl (lg_put s4 e10 m.qlo (i := 1) p4.sc rfl (by omega) fun h6 s6 => ?_)
    refine onO.mk rfl (lg_put (L := { L with dead := false }) (r := a6) (dp := dp) s6 updQ_same m.qlo (i := 2) rfl rfl (by omega) fun h7 s7 => ?_)
    refine onO.mk rfl (lg_put (L := { L with dead := false, size := sizeL l }) (r := a6) (dp := dp) s7 updQ_same m.qlo (i := 3) rfl rfl (by omega) fun h8 s8 => ?_)
    refine onO.mk rfl (lg_put (L := { L with dead := false, size := sizeL l, file := 1 - L.file }) (r := a6) (dp := dp) s8 updQ_same m.qlo (i := 4) rfl rfl (by omega) fun h9 s9 => ?_)
    refine k F2 a6 a2 _ h9 f12 s9 (m3.chg (by rw [updQ_same]; rfl) (by rw [updQ_ne (by omega), updQ_ne (by omega), updQ_ne (by omega), updQ_ne (by omega), updQ_same]; exact p4) (fun j j1 j2 => by rw [updQ_ne j1, updQ_ne j1, updQ_ne j1, updQ_ne j1, updQ_ne j2]) (by show 1 - L.file < 2; omega)) fun j hj => ?_
    rw [updQ_ne (by omega), updQ_ne (by omega), updQ_ne (by omega), updQ_ne (by omega), updQ_ne (by omega), updQ_ne (by omega)]; exact u2 j hj
  · rw [if_neg er] at k
    have ed : (!decide (R.1 = 0)) = true := by simp [er]
    rw [ed] at s3 m3
    exact onB.pos ed (k F2 r a2 _ h3 f12 s3 m3 fun j hj => by rw [updQ_ne (by omega)]; exact u2 j hj)
end
/-! ### files -/
theorem fileD_set {D : Dk} (hl : D.f.length = 3) {n m : Nat} (hm : m < 3) {g : DFile} : fileD { D with f := D.f.set n g } (m : Nat) = if m = n then g else fileD D (m : Nat) := by
  unfold fileD
  rw [Int.toNat_natCast]
  show (D.f.set n g)[m]?.getD _ = _
  by_cases e : m = n
  · subst e
    rw [if_pos rfl, List.getElem?_set_self (by omega)]; rfl
  · rw [if_neg e, List.getElem?_set_ne (Ne.symm e)]
theorem call_eq {D : Dk} : (callD D).f = D.f ∧ (callD D).armed = D.armed ∧ ((callD D).off = D.off ∨ D.armed = true) := by
  unfold callD
  split
  · rename_i h
    exact ⟨rfl, rfl, .inr h.1⟩
  · exact ⟨rfl, rfl, .inl rfl⟩
theorem ask_off {D : Dk} {n : Nat} (hn : n < 3) : askR D (n : Nat) = if D.off = true then 10 else 0 := by
  unfold askR
  split
  · rfl
  · rw [if_neg (by omega), if_neg (by omega)]
/-- a call that counts: done, or the power went -/
theorem call_cases {D : Dk} {n : Nat} (hn : n < 3) (ho : D.off = false) : (askR (callD D) (n : Nat) = 0 ∧ (callD D).off = false) ∨ (askR (callD D) (n : Nat) = 10 ∧ D.armed = true) := by
  obtain ⟨_, _, h3⟩ := call_eq (D := D)
  rw [ask_off hn]
  cases hc : (callD D).off with
  | true =>
    rcases h3 with h3 | h3
    · rw [hc, ho] at h3; cases h3
    · exact .inr ⟨rfl, h3⟩
  | false => exact .inl ⟨rfl, rfl⟩
/-- the outcomes of a file -/
def outs (f : DFile) (x : List Nat) : Prop := ∃ p ps, p ≤ f.ops.length ∧ x = (tornF f p ps).1
theorem outs_nil {k x : List Nat} (h : outs ⟨k, []⟩ x) : x = k := by
  obtain ⟨p, ps, h1, h2⟩ := h
  rw [h2]
  simp [tornF]
theorem outs_seen {f : DFile} : outs f f.seen := ⟨f.ops.length, [], Nat.le_refl _, by
  unfold tornF
  rw [List.getElem?_eq_none (Nat.le_refl _), List.take_length]; rfl⟩
theorem torn_none {f : DFile} {p : Nat} {ps : List Int} (h : f.ops[p]? = none) : (tornF f p ps).1 = (f.ops.take p).foldl doF f.kept := by unfold tornF; rw [h]
theorem torn_cut {f : DFile} {p : Nat} {ps : List Int} {o : DOp} (h : f.ops[p]? = some o) (c : o.cut = true) : (tornF f p ps).1 = (f.ops.take p).foldl doF f.kept := by unfold tornF; rw [h]; simp only [c, if_true]
theorem torn_put {f : DFile} {p : Nat} {ps : List Int} {o : DOp} (h : f.ops[p]? = some o) (c : o.cut = false) : (tornF f p ps).1 = doF ((f.ops.take p).foldl doF f.kept) ⟨false, o.pos, o.b.take (nextP ps (o.b.length + 1)).1⟩ := by unfold tornF; rw [h]; simp only [c, Bool.false_eq_true, if_false]
theorem outs_snoc {k : List Nat} {os : List DOp} {o : DOp} {x : List Nat} (h : outs ⟨k, os ++ [o]⟩ x) : outs ⟨k, os⟩ x ∨ x = doF (os.foldl doF k) o ∨ (o.cut = false ∧ ∃ m, m ≤ o.b.length ∧ x = doF (os.foldl doF k) ⟨false, o.pos, o.b.take m⟩) := by
  obtain ⟨p, ps, h1, h2⟩ := h
  have h1 : p ≤ os.length + 1 := by simpa using h1
  by_cases e : p < os.length
  · left
    refine ⟨p, ps, by show p ≤ os.length; omega, ?_⟩
    rw [h2]
    have ht : (os ++ [o]).take p = os.take p := List.take_append_of_le_length (by omega)
    obtain ⟨y, hy⟩ := get_lt (l := os) (k := p) e
    have hy2 : (os ++ [o])[p]? = some y := by rw [List.getElem?_append_left e]; exact hy
    cases hc : y.cut with
    | true =>
      rw [torn_cut (f := ⟨k, os ++ [o]⟩) hy2 hc, torn_cut (f := ⟨k, os⟩) hy hc]
      show ((os ++ [o]).take p).foldl doF k = (os.take p).foldl doF k
      rw [ht]
    | false =>
      rw [torn_put (f := ⟨k, os ++ [o]⟩) hy2 hc, torn_put (f := ⟨k, os⟩) hy hc]
      show doF (((os ++ [o]).take p).foldl doF k) _ = doF ((os.take p).foldl doF k) _
      rw [ht]
  · by_cases e2 : p = os.length
    · subst e2
      have hg : (os ++ [o])[os.length]? = some o := by simp
      have ht : (os ++ [o]).take os.length = os := by simp
      cases hc : o.cut with
      | true =>
        left
        rw [h2, torn_cut (f := ⟨k, os ++ [o]⟩) hg hc]
        show outs ⟨k, os⟩ (((os ++ [o]).take os.length).foldl doF k)
        rw [ht]; exact outs_seen (f := ⟨k, os⟩)
      | false =>
        right; right
        refine ⟨rfl, (nextP ps (o.b.length + 1)).1, by have := nextP_lt (ps := ps) (n := o.b.length + 1) (by omega); omega, ?_⟩
        rw [h2, torn_put (f := ⟨k, os ++ [o]⟩) hg hc]
        show doF (((os ++ [o]).take os.length).foldl doF k) _ = _
        rw [ht]
    · right; left
      have e3 : p = os.length + 1 := by omega
      subst e3
      rw [h2, torn_none (f := ⟨k, os ++ [o]⟩) (by show (os ++ [o])[os.length + 1]? = none; exact List.getElem?_eq_none (by simp))]
      show ((os ++ [o]).take (os.length + 1)).foldl doF k = _
      rw [List.take_of_length_le (by simp), List.foldl_append]; rfl
/-! ### what is opened -/
def recOf (x0 x1 x2 : List Nat) : List (List Nat) := (scanL (if mkOf x2 = 0 then x0 else x1)).1
abbrev Recs := List (List Nat)
def AllC (D : Dk) (C : Recs → Prop) : Prop := ∀ x0 x1 x2, outs (fileD D (0 : Nat)) x0 → outs (fileD D (1 : Nat)) x1 → outs (fileD D (2 : Nat)) x2 → C (recOf x0 x1 x2)
theorem AllC.mono {D : Dk} {C C' : Recs → Prop} (h : AllC D C) (i : ∀ r, C r → C' r) : AllC D C' := fun x0 x1 x2 h0 h1 h2 => i _ (h x0 x1 x2 h0 h1 h2)
theorem AllC.same {D D' : Dk} {C : Recs → Prop} (h : AllC D C) (e : D'.f = D.f) : AllC D' C := by
  have ef : ∀ n : Int, fileD D' n = fileD D n := fun n => by unfold fileD; rw [e]
  intro x0 x1 x2 h0 h1 h2
  rw [ef] at h0 h1 h2
  exact h x0 x1 x2 h0 h1 h2
/-- by the file that is said, if the mark is known -/
theorem allC_of {D : Dk} {C : Recs → Prop} {fl : Nat} (hf : fl < 2) (h : ∀ x2, outs (fileD D (2 : Nat)) x2 → mkOf x2 = fl) (g : ∀ x, outs (fileD D (fl : Nat)) x → C (scanL x).1) : AllC D C := by
  intro x0 x1 x2 h0 h1 h2
  have hm := h x2 h2
  unfold recOf
  rw [hm]
  match fl, hf with
  | 0, _ => exact g x0 h0
  | 1, _ => exact g x1 h1
def okRs (r : Recs) : Prop := (∀ s ∈ r, s.length ≤ 4096 ∧ Bytes8 s) ∧ sizeL r ≤ 2097152
structure InvC (D : Dk) (L : Lg) (r : Recs) (N : Nat) (C : Recs → Prop) : Prop where
  off : D.off = false
  len : D.f.length = 3
  lg : L = ⟨r, sizeL r, L.file, (layR r).length, false⟩
  file : L.file < 2
  seen : (fileD D (L.file : Nat)).seen = layR r
  ok : okRs r
  mark : ∃ mk, fileD D (2 : Nat) = ⟨mk, []⟩ ∧ mkOf mk = L.file ∧ mk.length ≤ N
  can : ∀ x, outs (fileD D (L.file : Nat)) x → C (scanL x).1
theorem InvC.all {D : Dk} {L : Lg} {r : Recs} {N : Nat} {C : Recs → Prop} (i : InvC D L r N C) : AllC D C := by
  obtain ⟨mk, m1, m2, _⟩ := i.mark
  refine allC_of i.file (fun x2 h => ?_) i.can
  rw [m1] at h
  rw [outs_nil h, m2]
theorem InvC.now {D : Dk} {L : Lg} {r : Recs} {N : Nat} {C : Recs → Prop} (i : InvC D L r N C) : C r := by
  have := i.can _ outs_seen
  rw [i.seen, scan_all i.ok.1] at this
  exact this
/-- the power went -/
structure DeadC (D : Dk) (L : Lg) (r : Recs) (C : Recs → Prop) : Prop where
  len : D.f.length = 3
  dead : L.dead = true
  l : L.l = r
  all : AllC D C
theorem layR_len8 {r : Recs} (h : okRs r) : (layR r).length ≤ 2097152 := Nat.le_trans layR_le h.2
section
variable {D : Dk} {L : Lg} {r : Recs} {N : Nat} {C C' : Recs → Prop} {x : List Nat}
theorem callD_fileD {n : Int} : fileD (callD D) n = fileD D n := callD_file
theorem appL_c (i : InvC D L r N C) (hx : x.length ≤ 4096) (hx8 : Bytes8 x) (hs : sizeL r + x.length + 16 ≤ 2097152) (hC : ∀ y, C y → C' y) (hn : C' (r ++ [x])) :
    ((appL D L x).1 = 0 ∧ InvC (appL D L x).2.1 (appL D L x).2.2 (r ++ [x]) N C' ∧ (appL D L x).2.1.armed = D.armed) ∨ ((appL D L x).1 = 10 ∧ D.armed = true ∧ DeadC (appL D L x).2.1 (appL D L x).2.2 r C) := by
  have hlg := i.lg
  have hfl := i.file
  have iseen := i.seen
  have ican := i.can
  have imark := i.mark
  generalize hfile : L.file = fl at *
  have hdead : L.dead = false := by rw [hlg]
  have hsize : L.size = sizeL r := by rw [hlg]
  have hpos : L.pos = (layR r).length := by rw [hlg]
  have hlay := layR_len8 i.ok
  have hll : (lay1 x).length = 8 + x.length := lay1_len
  unfold appL
  rw [if_neg (by rw [hdead]; simp), if_neg (by omega), if_neg (by rw [hsize]; omega), hpos, hfile]
  have hseen : (fileD (callD D) (fl : Nat)).seen = layR r := by rw [callD_fileD]; exact iseen
  have happ : doF (layR r) ⟨false, (layR r).length, lay1 x⟩ = layR (r ++ [x]) := by
    rw [doF_put rfl]
    show (layR r).take (layR r).length ++ (lay1 x ++ (layR r).drop ((layR r).length + (lay1 x).length)) = _
    rw [List.take_length, List.drop_of_length_le (by omega), List.append_nil, layR_app, layR_one]
  rcases call_cases (n := fl) (by omega) i.off with ⟨ha, ho⟩ | ⟨ha, har⟩
  · left
    have hw : writeR D (fl : Nat) ((layR r).length : Nat) (lay1 x) = (0, putD (callD D) (fl : Nat) ⟨false, (layR r).length, lay1 x⟩) := by
      unfold writeR
      rw [if_pos ha, if_neg (by rw [hseen]; omega)]
      rfl
    rw [hw, if_pos rfl]
    have hlen : (callD D).f.length = 3 := by rw [callD_f]; exact i.len
    have hfd : ∀ m : Nat, m < 3 → fileD (putD (callD D) (fl : Nat) ⟨false, (layR r).length, lay1 x⟩) (m : Nat) = if m = fl then ⟨(fileD D (fl : Nat)).kept, (fileD D (fl : Nat)).ops ++ [⟨false, (layR r).length, lay1 x⟩]⟩ else fileD D (m : Nat) := fun m hm => by
      unfold putD
      rw [Int.toNat_natCast, fileD_set hlen hm, callD_fileD, callD_fileD]
    obtain ⟨mk, m1, m2, m3⟩ := imark
    refine ⟨rfl, ⟨ho, by show ((callD D).f.set _ _).length = 3; rw [List.length_set]; exact hlen, ?_, hfl, ?_, ⟨fun s hs' => ?_, by rw [sizeL_app]; simp [sizeL] at hs ⊢; omega⟩, ⟨mk, ?_, m2, m3⟩, fun y hy => ?_⟩, (call_eq (D := D)).2.1⟩
    · show (⟨L.l ++ [x], L.size + x.length + 16, fl, (layR r).length + 8 + x.length, false⟩ : Lg) = ⟨r ++ [x], sizeL (r ++ [x]), fl, (layR (r ++ [x])).length, false⟩
      rw [hsize, show L.l = r by rw [hlg], sizeL_app, layR_app, layR_one, List.length_append, hll]
      simp only [sizeL, List.map_cons, List.map_nil, List.sum_cons, List.sum_nil]
      congr 1; omega
    · show (fileD (putD _ _ _) (fl : Nat)).seen = _
      rw [hfd fl (by omega), if_pos rfl, seen_snoc, iseen, happ]
    · rcases List.mem_append.1 hs' with h | h
      · exact i.ok.1 s h
      · simp at h; subst h; exact ⟨hx, hx8⟩
    · show fileD (putD _ _ _) (2 : Nat) = _
      rw [hfd 2 (by omega), if_neg (by omega)]; exact m1
    · have hy : outs (fileD (putD (callD D) (fl : Nat) ⟨false, (layR r).length, lay1 x⟩) (fl : Nat)) y := hy
      rw [hfd fl (by omega), if_pos rfl] at hy
      have hse : (fileD D (fl : Nat)).ops.foldl doF (fileD D (fl : Nat)).kept = layR r := iseen
      have hokx : ∀ s ∈ r ++ [x], s.length ≤ 4096 ∧ Bytes8 s := fun s hs' => by
        rcases List.mem_append.1 hs' with h | h
        · exact i.ok.1 s h
        · simp at h; subst h; exact ⟨hx, hx8⟩
      rcases outs_snoc hy with h | h | ⟨_, m, hm, h⟩
      · exact hC _ (ican y h)
      · rw [hse, happ] at h
        rw [h, scan_all hokx]; exact hn
      · rw [hse, doF_put rfl] at h
        have h : y = (layR r).take (layR r).length ++ ((lay1 x).take m ++ (layR r).drop ((layR r).length + ((lay1 x).take m).length)) := h
        rw [List.take_length, List.drop_of_length_le (by omega), List.append_nil] at h
        have hm : m ≤ (lay1 x).length := hm
        by_cases e : m < (lay1 x).length
        · rw [h, scan_torn i.ok.1 hx e]
          exact hC _ i.now
        · rw [List.take_of_length_le (by omega), ← layR_one, ← layR_app] at h
          rw [h, scan_all hokx]; exact hn
  · right
    have hw : writeR D (fl : Nat) ((layR r).length : Nat) (lay1 x) = (10, callD D) := by
      unfold writeR
      rw [if_neg (by rw [ha]; omega), ha]
    rw [hw, if_neg (by show ¬ (10 : Int) = 0; omega)]
    exact ⟨rfl, har, by show (callD D).f.length = 3; rw [callD_f]; exact i.len, rfl, by show L.l = r; rw [hlg], i.all.same callD_f⟩
theorem syncR_cases {n : Nat} (hn : n < 3) (ho : D.off = false) (hl : D.f.length = 3) :
    ((syncR D (n : Nat)).1 = 0 ∧ (syncR D (n : Nat)).2.off = false ∧ (syncR D (n : Nat)).2.f.length = 3 ∧ (syncR D (n : Nat)).2.armed = D.armed ∧ ∀ m : Nat, m < 3 → fileD (syncR D (n : Nat)).2 (m : Nat) = if m = n then ⟨(fileD D (n : Nat)).seen, []⟩ else fileD D (m : Nat)) ∨
    ((syncR D (n : Nat)).1 = 10 ∧ D.armed = true ∧ (syncR D (n : Nat)).2.f = D.f) := by
  rcases call_cases hn ho with ⟨ha, ho'⟩ | ⟨ha, har⟩
  · left
    have hw : syncR D (n : Nat) = (0, { callD D with f := D.f.set n ⟨(fileD D (n : Nat)).seen, []⟩ }) := by
      unfold syncR
      rw [if_pos ha]; rfl
    rw [hw]
    refine ⟨rfl, ho', by show (D.f.set _ _).length = 3; rw [List.length_set]; exact hl, (call_eq (D := D)).2.1, fun m hm => ?_⟩
    have := fileD_set hl (n := n) hm (g := ⟨(fileD D (n : Nat)).seen, []⟩)
    rw [← this]; rfl
  · right
    have hw : syncR D (n : Nat) = (10, callD D) := by
      unfold syncR
      rw [if_neg (by rw [ha]; omega), ha]
    rw [hw]
    exact ⟨rfl, har, callD_f⟩
theorem syncL_c (i : InvC D L r N C) (hn : C' r) : ((syncL D L).1 = 0 ∧ InvC (syncL D L).2.1 (syncL D L).2.2 r N C' ∧ (syncL D L).2.1.armed = D.armed) ∨ ((syncL D L).1 = 10 ∧ D.armed = true ∧ DeadC (syncL D L).2.1 (syncL D L).2.2 r C) := by
  have hlg := i.lg
  have hfl := i.file
  have hdead : L.dead = false := by rw [hlg]
  unfold syncL
  rw [if_neg (by rw [hdead]; simp)]
  rcases syncR_cases (n := L.file) (by omega) i.off i.len with ⟨h1, h2, h3, h4, h5⟩ | ⟨h1, h2, h3⟩
  · left
    obtain ⟨mk, m1, m2, m3⟩ := i.mark
    have hfd := h5 L.file (by omega)
    rw [if_pos rfl, i.seen] at hfd
    refine ⟨h1, ⟨h2, h3, ?_, hfl, ?_, i.ok, ⟨mk, ?_, m2, m3⟩, fun y hy => ?_⟩, h4⟩
    · show { L with dead := !decide ((syncR D (L.file : Nat)).1 = 0) } = _
      rw [h1]
      conv => lhs; rw [hlg]
      rfl
    · show (fileD (syncR D (L.file : Nat)).2 (L.file : Nat)).seen = _
      rw [hfd]; rfl
    · show fileD (syncR D (L.file : Nat)).2 (2 : Nat) = _
      rw [h5 2 (by omega), if_neg (by omega)]; exact m1
    · have hy : outs (fileD (syncR D (L.file : Nat)).2 (L.file : Nat)) y := hy
      rw [hfd] at hy
      rw [outs_nil hy, scan_all i.ok.1]; exact hn
  · right
    refine ⟨h1, h2, by show (syncR D (L.file : Nat)).2.f.length = 3; rw [h3]; exact i.len, by show (!decide ((syncR D (L.file : Nat)).1 = 0)) = true; rw [h1]; rfl, by show L.l = r; rw [hlg], i.all.same h3⟩
end
section
variable {D : Dk} {L : Lg} {r l : Recs} {N : Nat} {C C' : Recs → Prop} {x : List Nat}
theorem fileD_congr {D D' : Dk} {n : Int} (e : D'.f = D.f) : fileD D' n = fileD D n := by unfold fileD; rw [e]
theorem writeR_cases {n p : Nat} {b : List Nat} (hn : n < 3) (ho : D.off = false) (hl : D.f.length = 3) (hp : p ≤ (fileD D (n : Nat)).seen.length) (hb : p + b.length ≤ 4194304) :
    ((writeR D (n : Nat) (p : Nat) b).1 = 0 ∧ (writeR D (n : Nat) (p : Nat) b).2.off = false ∧ (writeR D (n : Nat) (p : Nat) b).2.f.length = 3 ∧ (writeR D (n : Nat) (p : Nat) b).2.armed = D.armed ∧
      ∀ m : Nat, m < 3 → fileD (writeR D (n : Nat) (p : Nat) b).2 (m : Nat) = if m = n then ⟨(fileD D (n : Nat)).kept, (fileD D (n : Nat)).ops ++ [⟨false, p, b⟩]⟩ else fileD D (m : Nat)) ∨
    ((writeR D (n : Nat) (p : Nat) b).1 = 10 ∧ D.armed = true ∧ (writeR D (n : Nat) (p : Nat) b).2.f = D.f) := by
  rcases call_cases hn ho with ⟨ha, ho'⟩ | ⟨ha, har⟩
  · left
    have hw : writeR D (n : Nat) (p : Nat) b = (0, putD (callD D) (n : Nat) ⟨false, p, b⟩) := by
      unfold writeR
      rw [if_pos ha, if_neg (by rw [callD_fileD]; omega)]; rfl
    have hlen : (callD D).f.length = 3 := by rw [callD_f]; exact hl
    rw [hw]
    refine ⟨rfl, ho', by show ((callD D).f.set _ _).length = 3; rw [List.length_set]; exact hlen, (call_eq (D := D)).2.1, fun m hm => ?_⟩
    show fileD (putD _ _ _) _ = _
    unfold putD
    rw [Int.toNat_natCast, fileD_set hlen hm, callD_fileD, callD_fileD]
  · right
    have hw : writeR D (n : Nat) (p : Nat) b = (10, callD D) := by
      unfold writeR
      rw [if_neg (by rw [ha]; omega), ha]
    rw [hw]
    exact ⟨rfl, har, callD_f⟩
theorem cutR_cases {n p : Nat} (hn : n < 3) (ho : D.off = false) (hl : D.f.length = 3) (hp : p ≤ (fileD D (n : Nat)).seen.length) :
    ((cutR D (n : Nat) (p : Nat)).1 = 0 ∧ (cutR D (n : Nat) (p : Nat)).2.off = false ∧ (cutR D (n : Nat) (p : Nat)).2.f.length = 3 ∧ (cutR D (n : Nat) (p : Nat)).2.armed = D.armed ∧
      ∀ m : Nat, m < 3 → fileD (cutR D (n : Nat) (p : Nat)).2 (m : Nat) = if m = n then ⟨(fileD D (n : Nat)).kept, (fileD D (n : Nat)).ops ++ [⟨true, p, []⟩]⟩ else fileD D (m : Nat)) ∨
    ((cutR D (n : Nat) (p : Nat)).1 = 10 ∧ D.armed = true ∧ (cutR D (n : Nat) (p : Nat)).2.f = D.f) := by
  rcases call_cases hn ho with ⟨ha, ho'⟩ | ⟨ha, har⟩
  · left
    have hw : cutR D (n : Nat) (p : Nat) = (0, putD (callD D) (n : Nat) ⟨true, p, []⟩) := by
      unfold cutR
      rw [if_pos ha, if_neg (by rw [callD_fileD]; omega)]; rfl
    have hlen : (callD D).f.length = 3 := by rw [callD_f]; exact hl
    rw [hw]
    refine ⟨rfl, ho', by show ((callD D).f.set _ _).length = 3; rw [List.length_set]; exact hlen, (call_eq (D := D)).2.1, fun m hm => ?_⟩
    show fileD (putD _ _ _) _ = _
    unfold putD
    rw [Int.toNat_natCast, fileD_set hlen hm, callD_fileD, callD_fileD]
  · right
    have hw : cutR D (n : Nat) (p : Nat) = (10, callD D) := by
      unfold cutR
      rw [if_neg (by rw [ha]; omega), ha]
    rw [hw]
    exact ⟨rfl, har, callD_f⟩
theorem InvC.keep {D' : Dk} (i : InvC D L r N C) (k : fileD D' (L.file : Nat) = fileD D (L.file : Nat)) (k2 : fileD D' (2 : Nat) = fileD D (2 : Nat)) : AllC D' C := by
  obtain ⟨mk, m1, m2, _⟩ := i.mark
  refine allC_of i.file (fun x2 h => ?_) fun x hx => ?_
  · rw [k2, m1] at h
    rw [outs_nil h, m2]
  · rw [k] at hx
    exact i.can x hx
theorem cnt_ok (h : (cntR l).2 = 0) : (∀ s ∈ l, s.length ≤ 4096) ∧ sizeL l ≤ 2097152 := by
  unfold cntR at h
  split at h
  · rename_i h1
    split at h
    · rename_i h2
      exact ⟨fun x hx => of_decide_eq_true (List.all_eq_true.1 h1 x hx), h2⟩
    · simp at h
  · simp at h
theorem rstL_c (i : InvC D L r N C) (hN : N + 1 ≤ 1000000) (hc : (cntR l).2 = 0) (h8 : ∀ s ∈ l, Bytes8 s) (hn : C' l) :
    ((rstL D L l).1 = 0 ∧ InvC (rstL D L l).2.1 (rstL D L l).2.2 l (N + 1) C' ∧ (rstL D L l).2.1.armed = D.armed) ∨ ((rstL D L l).1 = 10 ∧ D.armed = true ∧ DeadC (rstL D L l).2.1 (rstL D L l).2.2 r fun y => C y ∨ y = l) := by
  have hlg := i.lg
  have hfl := i.file
  obtain ⟨hl1, hl2⟩ := cnt_ok hc
  have hokl : okRs l := ⟨fun s hs => ⟨hl1 s hs, h8 s hs⟩, hl2⟩
  have hdead : L.dead = false := by rw [hlg]
  have hLl : L.l = r := by rw [hlg]
  have hlay := layR_len8 hokl
  obtain ⟨mk, m1, m2, m3⟩ := i.mark
  have ho2 : 1 - L.file < 2 := by omega
  have hne : 1 - L.file ≠ L.file := by omega
  generalize ho : 1 - L.file = o at *
  have stop : ∀ j, j < 5 → (rnR o (layR l) D (j + 1)).1 = 10 → D.armed = true → (rnR o (layR l) D (j + 1)).2.f.length = 3 → AllC (rnR o (layR l) D (j + 1)).2 (fun y => C y ∨ y = l) →
      ((rstL D L l).1 = 0 ∧ InvC (rstL D L l).2.1 (rstL D L l).2.2 l (N + 1) C' ∧ (rstL D L l).2.1.armed = D.armed) ∨ ((rstL D L l).1 = 10 ∧ D.armed = true ∧ DeadC (rstL D L l).2.1 (rstL D L l).2.2 r fun y => C y ∨ y = l) := by
    intro j hj e har hlen hall
    have hs : rnR o (layR l) D 5 = rnR o (layR l) D (j + 1) := by
      have := rn_stop (o := o) (B := layR l) (D := D) (j := j + 1) (by rw [e]; omega) (5 - (j + 1))
      rw [show j + 1 + (5 - (j + 1)) = 5 by omega] at this
      exact this
    right
    unfold rstL
    rw [if_neg (by rw [hdead]; simp), if_pos hc, ho, hs, if_neg (by rw [e]; omega)]
    exact ⟨e, har, hlen, rfl, hLl, hall⟩
  have nx : ∀ j, (rnR o (layR l) D j).1 = 0 → rnR o (layR l) D (j + 1) = rnStep o (layR l) (rnR o (layR l) D j).2 j := fun j h => if_pos h
  have imp : ∀ y, C y → C y ∨ y = l := fun y h => .inl h
  -- the other file cut
  have e1 : rnR o (layR l) D 1 = cutR D (o : Nat) (0 : Nat) := nx 0 rfl
  rcases cutR_cases (n := o) (p := 0) (by omega) i.off i.len (Nat.zero_le _) with ⟨a1, a2, a3, a4, a5⟩ | ⟨a1, a2, a3⟩
  rotate_left
  · exact stop 0 (by omega) (by rw [e1]; exact a1) a2 (by rw [e1, a3]; exact i.len) (by rw [e1]; exact (i.keep (fileD_congr a3) (fileD_congr a3)).mono imp)
  rw [← e1] at a1 a2 a3 a4 a5
  generalize hD1 : (rnR o (layR l) D 1).2 = D1 at *
  have f1 : fileD D1 (L.file : Nat) = fileD D (L.file : Nat) := by rw [a5 _ (by omega), if_neg (by omega)]
  have k1 : fileD D1 (2 : Nat) = fileD D (2 : Nat) := by rw [a5 _ (by omega), if_neg (by omega)]
  have o1 : (fileD D1 (o : Nat)).seen = [] := by
    rw [a5 _ (by omega), if_pos rfl, seen_snoc, doF_cut rfl]; exact List.take_zero
  -- written
  have e2 : rnR o (layR l) D 2 = writeR D1 (o : Nat) (0 : Nat) (layR l) := by rw [nx 1 a1, hD1]; rfl
  rcases writeR_cases (n := o) (p := 0) (b := layR l) (by omega) a2 a3 (Nat.zero_le _) (by omega) with ⟨b1, b2, b3, b4, b5⟩ | ⟨b1, b2, b3⟩
  rotate_left
  · exact stop 1 (by omega) (by rw [e2]; exact b1) (by rw [← a4]; exact b2) (by rw [e2, b3]; exact a3) (by rw [e2]; exact (i.keep ((fileD_congr b3).trans f1) ((fileD_congr b3).trans k1)).mono imp)
  rw [← e2] at b1 b2 b3 b4 b5
  generalize hD2 : (rnR o (layR l) D 2).2 = D2 at *
  have f2 : fileD D2 (L.file : Nat) = fileD D (L.file : Nat) := by rw [b5 _ (by omega), if_neg (by omega), f1]
  have k2 : fileD D2 (2 : Nat) = fileD D (2 : Nat) := by rw [b5 _ (by omega), if_neg (by omega), k1]
  have o2 : (fileD D2 (o : Nat)).seen = layR l := by
    rw [b5 _ (by omega), if_pos rfl, seen_snoc, o1, doF_put rfl]
    show ([] : List Nat).take 0 ++ (layR l ++ ([] : List Nat).drop (0 + (layR l).length)) = layR l
    simp
  -- synced
  have e3 : rnR o (layR l) D 3 = syncR D2 (o : Nat) := by rw [nx 2 b1, hD2]; rfl
  rcases syncR_cases (n := o) (by omega) b2 b3 with ⟨lc1, lc2, lc3, lc4, lc5⟩ | ⟨lc1, lc2, lc3⟩
  rotate_left
  · exact stop 2 (by omega) (by rw [e3]; exact lc1) (by rw [← a4, ← b4]; exact lc2) (by rw [e3, lc3]; exact b3) (by rw [e3]; exact (i.keep ((fileD_congr lc3).trans f2) ((fileD_congr lc3).trans k2)).mono imp)
  rw [← e3] at lc1 lc2 lc3 lc4 lc5
  generalize hD3 : (rnR o (layR l) D 3).2 = D3 at *
  have f3 : fileD D3 (L.file : Nat) = fileD D (L.file : Nat) := by rw [lc5 _ (by omega), if_neg (by omega), f2]
  have k3 : fileD D3 (2 : Nat) = fileD D (2 : Nat) := by rw [lc5 _ (by omega), if_neg (by omega), k2]
  have o3 : fileD D3 (o : Nat) = ⟨layR l, []⟩ := by rw [lc5 _ (by omega), if_pos rfl, o2]
  -- the mark
  have hask : askR D3 2 = 0 := by
    have := ask_off (D := D3) (n := 2) (by omega)
    rw [lc2] at this
    exact this
  have hseen3 : (fileD D3 (2 : Nat)).seen = mk := by rw [k3, m1]; rfl
  have hs3 : (fileD D3 2).seen = mk := hseen3
  have e4 : rnR o (layR l) D 4 = writeR D3 (2 : Nat) (mk.length : Nat) [o] := by
    rw [nx 3 lc1, hD3]
    show (if askR D3 2 = 0 then writeR D3 2 (((fileD D3 2).seen.length : Nat) : Int) [o] else (askR D3 2, D3)) = _
    rw [if_pos hask, hs3]; rfl
  rcases writeR_cases (n := 2) (p := mk.length) (b := [o]) (by omega) lc2 lc3 (by rw [hseen3]; exact Nat.le_refl _) (by simp; omega) with ⟨d1, d2, d3, d4, d5⟩ | ⟨d1, d2, d3⟩
  rotate_left
  · exact stop 3 (by omega) (by rw [e4]; exact d1) (by rw [← a4, ← b4, ← lc4]; exact d2) (by rw [e4, d3]; exact lc3) (by rw [e4]; exact (i.keep ((fileD_congr d3).trans f3) ((fileD_congr d3).trans k3)).mono imp)
  rw [← e4] at d1 d2 d3 d4 d5
  generalize hD4 : (rnR o (layR l) D 4).2 = D4 at *
  have f4 : fileD D4 (L.file : Nat) = fileD D (L.file : Nat) := by rw [d5 _ (by omega), if_neg (by omega), f3]
  have o4 : fileD D4 (o : Nat) = ⟨layR l, []⟩ := by rw [d5 _ (by omega), if_neg (by omega), o3]
  have k4 : fileD D4 (2 : Nat) = ⟨mk, [⟨false, mk.length, [o]⟩]⟩ := by rw [d5 _ (by omega), if_pos rfl, k3, m1]; rfl
  have happ : ∀ b : List Nat, doF mk ⟨false, mk.length, b⟩ = mk ++ b := fun b => by
    rw [doF_put rfl]
    show mk.take mk.length ++ (b ++ mk.drop (mk.length + b.length)) = _
    rw [List.take_length, List.drop_of_length_le (by omega), List.append_nil]
  have hmk : mkOf (mk ++ [o]) = o := by
    unfold mkOf
    rw [List.length_append, List.getD_eq_getElem?_getD]
    simp
    omega
  -- synced
  have e5 : rnR o (layR l) D 5 = syncR D4 (2 : Nat) := by rw [nx 4 d1, hD4]; rfl
  rcases syncR_cases (n := 2) (by omega) d2 d3 with ⟨g1, g2, g3, g4, g5⟩ | ⟨g1, g2, g3⟩
  rotate_left
  · refine stop 4 (by omega) (by rw [e5]; exact g1) (by rw [← a4, ← b4, ← lc4, ← d4]; exact g2) (by rw [e5, g3]; exact d3) ?_
    rw [e5]
    refine AllC.same (D := D4) ?_ g3
    intro x0 x1 x2 h0 h1 h2
    rw [k4] at h2
    have hx2 : x2 = mk ∨ x2 = mk ++ [o] := by
      rcases outs_snoc (os := []) h2 with h | h | ⟨_, m, hm, h⟩
      · exact .inl (outs_nil h)
      · exact .inr (by rw [h]; exact happ _)
      · have h : x2 = doF mk ⟨false, mk.length, [o].take m⟩ := h
        rw [happ] at h
        match m with
        | 0 => exact .inl (by rw [h]; simp)
        | m + 1 => exact .inr (by rw [h]; simp)
    rcases hx2 with rfl | rfl
    · left
      have := i.keep (D' := D3) f3 k3
      refine this x0 x1 x2 ?_ ?_ ?_
      · rw [d5 0 (by omega), if_neg (by omega)] at h0; exact h0
      · rw [d5 1 (by omega), if_neg (by omega)] at h1; exact h1
      · rw [k3, m1]; exact outs_seen (f := ⟨x2, []⟩)
    · right
      unfold recOf
      rw [hmk]
      have pick : (if o = 0 then x0 else x1) = layR l := by
        match o, ho2 with
        | 0, _ => rw [o4] at h0; rw [if_pos rfl]; exact outs_nil h0
        | 1, _ => rw [o4] at h1; rw [if_neg (by omega)]; exact outs_nil h1
      rw [pick, scan_all hokl.1]
  rw [← e5] at g1 g2 g3 g4 g5
  left
  have hm5 : fileD (rnR o (layR l) D 5).2 (2 : Nat) = ⟨mk ++ [o], []⟩ := by
    rw [g5 _ (by omega), if_pos rfl, k4]
    show (⟨doF mk ⟨false, mk.length, [o]⟩, []⟩ : DFile) = _
    rw [happ]
  have ho5 : fileD (rnR o (layR l) D 5).2 (o : Nat) = ⟨layR l, []⟩ := by rw [g5 _ (by omega), if_neg (by omega), o4]
  unfold rstL
  rw [if_neg (by rw [hdead]; simp), if_pos hc, ho, if_pos g1]
  refine ⟨rfl, ⟨g2, g3, rfl, ho2, ?_, hokl, ⟨mk ++ [o], hm5, hmk, by simp; omega⟩, fun y hy => ?_⟩, by show (rnR o (layR l) D 5).2.armed = _; rw [g4, d4, lc4, b4, a4]⟩
  · show (fileD (rnR o (layR l) D 5).2 (o : Nat)).seen = _
    rw [ho5]; rfl
  · have hy : outs (fileD (rnR o (layR l) D 5).2 (o : Nat)) y := hy
    rw [ho5] at hy
    rw [outs_nil hy, scan_all hokl.1]; exact hn
end
section
variable {D D' : Dk} {L : Lg} {r l : Recs} {N : Nat} {C C' : Recs → Prop} {x : List Nat}
/-- while it is opened: bytes b in file fl, mark x2, records r0 -/
structure Opg (D : Dk) (b x2 : List Nat) (fl : Nat) (r0 : Recs) : Prop where
  len : D.f.length = 3
  mark : fileD D (2 : Nat) = ⟨x2, []⟩
  can : ∀ x, outs (fileD D (fl : Nat)) x → (scanL x).1 = r0
theorem Opg.all {b x2 : List Nat} {fl : Nat} {r0 : Recs} (o : Opg D b x2 fl r0) (hf : fl < 2) (hm : mkOf x2 = fl) : AllC D (fun y => y = r0) :=
  allC_of hf (fun x h => by rw [o.mark] at h; rw [outs_nil h, hm]) o.can
theorem Opg.same {b x2 : List Nat} {fl : Nat} {r0 : Recs} (o : Opg D b x2 fl r0) (e : D'.f = D.f) : Opg D' b x2 fl r0 :=
  ⟨by rw [e]; exact o.len, by rw [fileD_congr e]; exact o.mark, fun x h => by rw [fileD_congr e] at h; exact o.can x h⟩
/-- a step of opening: done, or the power went -/
def StepO (D : Dk) (s : Int × Dk) (b x2 : List Nat) (fl : Nat) (r0 : Recs) : Prop :=
  (s.1 = 0 ∧ s.2.off = false ∧ s.2.armed = D.armed ∧ Opg s.2 b x2 fl r0) ∨ (s.1 = 10 ∧ D.armed = true ∧ Opg s.2 b x2 fl r0)
theorem loadR_c {x0 x1 x2 : List Nat} (ho : D.off = false) (hf : D.f = [⟨x0, []⟩, ⟨x1, []⟩, ⟨x2, []⟩]) :
    ((loadR D).1 = 0 ∧ (loadR D).2.2.l = recOf x0 x1 x2 ∧ (loadR D).2.1.f.length = 3 ∧ AllC (loadR D).2.1 (fun y => y = recOf x0 x1 x2) ∧ (loadR D).2.1.armed = D.armed ∧
      ((if mkOf x2 = 0 then x0 else x1) = layR (recOf x0 x1 x2) → okRs (recOf x0 x1 x2) → x2.length ≤ N → C (recOf x0 x1 x2) → InvC (loadR D).2.1 (loadR D).2.2 (recOf x0 x1 x2) N C)) ∨
    ((loadR D).1 = 10 ∧ D.armed = true ∧ (loadR D).2.1.f.length = 3 ∧ AllC (loadR D).2.1 (fun y => y = recOf x0 x1 x2)) := by
  have hlen : D.f.length = 3 := by rw [hf]; rfl
  have h2 : fileD D (2 : Nat) = ⟨x2, []⟩ := by unfold fileD; rw [hf]; rfl
  have hfl : mkOf x2 < 2 := mkOf_lt
  have hfo : fileOf D = mkOf x2 := by
    show mkOf (fileD D (2 : Nat)).seen = _
    rw [h2]; rfl
  have hrec : recOf x0 x1 x2 = (scanL (if mkOf x2 = 0 then x0 else x1)).1 := rfl
  generalize hb : (if mkOf x2 = 0 then x0 else x1) = b at *
  generalize hflg : mkOf x2 = fl at *
  have hF : fileD D (fl : Nat) = ⟨b, []⟩ := by
    unfold fileD
    rw [hf, ← hb]
    match fl, hfl with
    | 0, _ => rfl
    | 1, _ => rfl
  have hbo : bytesOf D = b := by
    show (fileD D (fileOf D : Nat)).seen = b
    rw [hfo, hF]; rfl
  have hlo : logOf D = ⟨(scanL b).1, sizeL (scanL b).1, fl, (scanL b).2, false⟩ := by
    unfold logOf scanLg
    rw [hbo, hfo]
    show (⟨[] ++ (scanL (b.drop 0)).1, 0 + sizeL (scanL (b.drop 0)).1, fl, 0 + (scanL (b.drop 0)).2, false⟩ : Lg) = _
    rw [List.drop_zero, List.nil_append, Nat.zero_add, Nat.zero_add]
  generalize hr0 : recOf x0 x1 x2 = r0 at *
  have hsl := scan_len b
  have hask : askR D 2 = 0 := by
    have := ask_off (D := D) (n := 2) (by omega)
    rw [ho] at this
    exact this
  have base : Opg D b x2 fl r0 := ⟨hlen, h2, fun x h => by rw [hF] at h; rw [outs_nil h, hrec]⟩
  -- cut
  have sc : StepO D (cutOf D) b x2 fl r0 ∧ ((scanL b).2 = b.length → (cutOf D) = (0, D)) := by
    unfold cutOf
    rw [hlo, hbo, hfo]
    show StepO D (if (scanL b).2 < b.length then cutR D (fl : Nat) ((scanL b).2 : Nat) else (0, D)) b x2 fl r0 ∧ ((scanL b).2 = b.length → (if (scanL b).2 < b.length then cutR D (fl : Nat) ((scanL b).2 : Nat) else (0, D)) = (0, D))
    refine ⟨?_, fun e => if_neg (by omega)⟩
    by_cases e : (scanL b).2 < b.length
    · rw [if_pos e]
      rcases cutR_cases (D := D) (n := fl) (p := (scanL b).2) (by omega) ho hlen (by rw [hF]; exact hsl.1) with ⟨a1, a2, a3, a4, a5⟩ | ⟨a1, a2, a3⟩
      · refine .inl ⟨a1, a2, a4, a3, by rw [a5 _ (by omega), if_neg (by omega)]; exact h2, fun x h => ?_⟩
        rw [a5 _ (by omega), if_pos rfl, hF] at h
        rcases outs_snoc (os := []) h with h | h | ⟨h, _⟩
        · rw [outs_nil h, hrec]
        · have h : x = doF b ⟨true, (scanL b).2, []⟩ := h
          rw [doF_cut rfl] at h
          have h : x = b.take (scanL b).2 := h
          rw [h, scan_take, hrec]
        · cases h
      · exact .inr ⟨a1, a2, base.same a3⟩
    · rw [if_neg e]
      exact .inl ⟨rfl, ho, rfl, base⟩
  -- synced
  have s1 : StepO D (sync1 D) b x2 fl r0 ∧ ((scanL b).2 = b.length → (sync1 D).1 = 0 → fileD (sync1 D).2 (fl : Nat) = ⟨b, []⟩) := by
    unfold sync1
    rw [hfo]
    rcases sc.1 with ⟨a1, a2, a3, a4⟩ | ⟨a1, a2, a3⟩
    · rw [if_pos a1]
      rcases syncR_cases (D := (cutOf D).2) (n := fl) (by omega) a2 a4.len with ⟨lc1, lc2, lc3, lc4, lc5⟩ | ⟨lc1, lc2, lc3⟩
      · refine ⟨.inl ⟨lc1, lc2, by rw [lc4, a3], lc3, by rw [lc5 _ (by omega), if_neg (by omega)]; exact a4.mark, fun x h => ?_⟩, fun e _ => ?_⟩
        · rw [lc5 _ (by omega), if_pos rfl] at h
          rw [outs_nil h]; exact a4.can _ outs_seen
        · rw [lc5 _ (by omega), if_pos rfl, sc.2 e, hF]; rfl
      · exact ⟨.inr ⟨lc1, by rw [← a3]; exact lc2, a4.same lc3⟩, fun _ e => by rw [lc1] at e; cases e⟩
    · rw [if_neg (by rw [a1]; omega)]
      exact ⟨.inr ⟨a1, a2, a3⟩, fun _ e => by rw [a1] at e; cases e⟩
  have s2 : StepO D (sync2 D) b x2 fl r0 ∧ ((scanL b).2 = b.length → (sync2 D).1 = 0 → fileD (sync2 D).2 (fl : Nat) = ⟨b, []⟩) := by
    unfold sync2
    rcases s1.1 with ⟨a1, a2, a3, a4⟩ | ⟨a1, a2, a3⟩
    · rw [if_pos a1]
      rcases syncR_cases (D := (sync1 D).2) (n := 2) (by omega) a2 a4.len with ⟨lc1, lc2, lc3, lc4, lc5⟩ | ⟨lc1, lc2, lc3⟩
      · have hk : fileD (syncR (sync1 D).2 2).2 (fl : Nat) = fileD (sync1 D).2 (fl : Nat) := by
          have := lc5 fl (by omega)
          rw [if_neg (by omega)] at this; exact this
        refine ⟨.inl ⟨lc1, lc2, by rw [show (syncR (sync1 D).2 2).2.armed = _ from lc4, a3], lc3, ?_, fun x h => ?_⟩, fun e _ => ?_⟩
        · have := lc5 2 (by omega)
          rw [if_pos rfl, a4.mark] at this; exact this
        · rw [hk] at h; exact a4.can x h
        · rw [hk]; exact s1.2 e a1
      · exact ⟨.inr ⟨lc1, by rw [← a3]; exact lc2, a4.same lc3⟩, fun _ e => by rw [show (syncR (sync1 D).2 2).1 = 10 from lc1] at e; cases e⟩
    · rw [if_neg (by rw [a1]; omega)]
      exact ⟨.inr ⟨a1, a2, a3⟩, fun _ e => by rw [a1] at e; cases e⟩
  have hL : loadR D = ((sync2 D).1, (sync2 D).2, logOf D) := if_pos hask
  rw [hL]
  rcases s2.1 with ⟨a1, a2, a3, a4⟩ | ⟨a1, a2, a3⟩
  · left
    refine ⟨a1, by show (logOf D).l = r0; rw [hlo, hrec], a4.len, a4.all hfl hflg, a3, fun e1 e2 e3 e4 => ?_⟩
    have hsc : scanL b = (r0, (layR r0).length) := by rw [e1]; exact scan_all e2.1
    have hlast := s2.2 (by rw [hsc, e1]) a1
    show InvC (sync2 D).2 (logOf D) r0 N C
    rw [hlo, hsc]
    exact ⟨a2, a4.len, rfl, hfl, by rw [hlast]; exact e1, e2, ⟨x2, a4.mark, hflg, e3⟩, fun x h => by rw [a4.can x h]; exact e4⟩
  · right
    exact ⟨a1, a2, a3.len, a3.all hfl hflg⟩
/-- a new disk's log -/
theorem open_new (hC : C []) (ho : D.off = false) (hf : D.f = (dkOf []).f) : ((loadR D).1 = 0 ∧ InvC (loadR D).2.1 (loadR D).2.2 [] 0 C ∧ (loadR D).2.1.armed = D.armed) ∨ ((loadR D).1 = 10 ∧ D.armed = true ∧ (loadR D).2.1.f.length = 3 ∧ AllC (loadR D).2.1 C) := by
  have hr : recOf [] [] [] = [] := by decide
  rcases loadR_c (x0 := []) (x1 := []) (x2 := []) (N := 0) (C := C) ho hf with ⟨h1, h2, h3, h4, h5, h6⟩ | ⟨h1, h2, h3, h4⟩
  · left
    rw [hr] at h6
    exact ⟨h1, h6 (by decide) ⟨fun s hs => (by cases hs), by decide⟩ (Nat.le_refl _) hC, h5⟩
  · right
    rw [hr] at h4
    exact ⟨h1, h2, h3, h4.mono fun y e => by rw [e]; exact hC⟩
end
section
variable {h : Hp} {Post : AV → Hp → Prop}
theorem InvC.size {E : Dk} {L : Lg} {r : Recs} {N : Nat} {C : Recs → Prop} (i : InvC E L r N C) : L.size ≤ 2097152 ∧ L.pos ≤ 2097152 ∧ L.l.length ≤ 2097152 ∧ L.l = r := by
  have h1 := i.lg
  have h2 := i.ok.2
  have h3 := layR_len8 i.ok
  have h4 : ∀ l : Recs, l.length ≤ sizeL l := fun l => by
    induction l with
    | nil => exact Nat.le_refl _
    | cons s l ih => rw [sizeL_cons, List.length_cons]; omega
  have h5 := h4 r
  refine ⟨by rw [h1]; exact h2, by rw [h1]; exact h3, by rw [h1]; show r.length ≤ _; omega, by rw [h1]⟩
theorem appL_few {E : Dk} {L : Lg} {x : List Nat} {N : Nat} (w : Few E N) : Few (appL E L x).2.1 (N + 1) := by
  unfold appL
  split
  · exact w.mono (by omega)
  · split
    · exact w.mono (by omega)
    · split
      · exact w.mono (by omega)
      · split
        · exact writeR_few w
        · exact writeR_few w
theorem rstL_few {E : Dk} {L : Lg} {l : Recs} {N : Nat} (w : Few E N) : Few (rstL E L l).2.1 (N + 5) := by
  unfold rstL
  split
  · exact w.mono (by omega)
  · split
    · split
      · exact rnR_few w 5
      · exact rnR_few w 5
    · exact w.mono (by omega)
theorem loadR_few {E : Dk} {N : Nat} (w : Few E N) : Few (loadR E).2.1 (N + 1) := by
  unfold loadR
  split
  · exact sync2_few w
  · exact w.mono (by omega)
/-- a record appended to a new one, and told -/
theorem c13 (k : ∀ h', Post (.b true) h') : wpC Try.prog 13 [] Post h := by
  refine call_sound (args := []) (cuts := []) trivial ?_
  rw [vc13]
  have s := Sep.start h
  refine c7 s fun dp a Q1 h1 s1 d1 u1 => onRet.r rfl ?_
  rcases open_new (D := dkOf []) (C := fun _ => True) trivial rfl rfl with ⟨e1, i1, _⟩ | ⟨_, e2, _⟩
  rotate_left
  · cases e2
  have few1 : Few (loadR (dkOf [])).2.1 1 := loadR_few few0
  refine c6 s1 d1 few0 (fun e => absurd e1 e) fun _ q F2 r2 a2 Q2 h2 f2 s2 m2 u2 => onTup.ri rfl (c8 (onRet.i (onB.pos rfl (onO.mk rfl (onB.pos rfl ?_)))))
  generalize hE : (loadR (dkOf [])).2.1 = E2 at *
  generalize hL : (loadR (dkOf [])).2.2 = L2 at *
  obtain ⟨z1, z2, z3, z4⟩ := i1.size
  have ar : E2.armed = false := by rw [← hE]; decide
  refine c9 s2 m2 (few1.mono (by omega)) (fun y hy => by simp at hy; omega) (by simp) (by omega) (by omega) (by omega) fun F3 r3 a3 Q3 h3 f3 s3 m3 u3 => onRet.i (c8 (onRet.i ?_))
  rcases appL_c (x := [97]) (C' := fun _ => True) i1 (by simp) (fun y hy => by simp at hy; omega) (by decide) (fun _ _ => trivial) trivial with ⟨e3, i3, ar3⟩ | ⟨_, e3, _⟩
  rotate_left
  · rw [ar] at e3; cases e3
  rw [e3]
  have few3 := appL_few (L := L2) (x := [97]) few1
  generalize hE3 : (appL E2 L2 [97]).2.1 = E3 at *
  generalize hL3 : (appL E2 L2 [97]).2.2 = L3 at *
  refine onB.pos rfl (c21 s3 m3 (few3.mono (by omega)) fun a4 Q4 h4 s4 m4 u4 => onRet.i (c8 (onRet.i ?_)))
  rcases syncL_c (C' := fun _ => True) i3 trivial with ⟨e4, i4, ar4⟩ | ⟨_, e4, _⟩
  rotate_left
  · rw [ar3, ar] at e4; cases e4
  rw [e4]
  have z5 := i4.size
  refine onB.pos rfl (c10 s4 m4 (by omega) fun r5 h5 o5 => onRet.r o5.sc fun p0 hp hlo => ?_)
  have ob : Kn.str.Own h5 (h5.put p0 [.s [97]]) (.sl p0 0 1 1 true 1) [[97]] :=
    ⟨h5, [[.s [97]]], Hp.le_refl _, rfl, Fresh.put (Hp.le_refl _) rfl hp hlo (css := [[.s [97]]]) (sz := 1) (len := 1) true (fun c hc => by simp at hc; subst hc; rfl) rfl (cs := [.s [97]]) rfl, .cons ⟨rfl, by simp, fun y hy => by simp at hy; omega⟩ .nil⟩
  rw [z5.2.2.2] at o5
  refine c12 (o5.row.mono ob.le) ob.row (by simp) (onRet.b ?_)
  rw [decide_eq_true (by rfl)]
  exact k _
end
theorem catO_mk {x y : List Nat} (h : x.length + y.length < 1000000000) : catO x y = some (x ++ y) := by
  unfold catO
  rw [blt_of h]; rfl
theorem two_own {h : Hp} {p : Nat} {x y : List Nat} (hp : h.g p = none) (hlo : h.lo ≤ p) (hx : x.length ≤ 140737488351232) (hx8 : Bytes8 x) (hy : y.length ≤ 140737488351232) (hy8 : Bytes8 y) : Kn.str.Own h (h.put p [.s x, .s y]) (.sl p 0 2 2 true 1) [x, y] :=
  ⟨h, [[.s x], [.s y]], Hp.le_refl _, rfl, Fresh.put (Hp.le_refl _) rfl hp hlo (css := [[.s x], [.s y]]) (sz := 1) (len := 2) true (fun c hc => by simp at hc; rcases hc with rfl | rfl <;> rfl) rfl (cs := [.s x, .s y]) rfl, .cons ⟨rfl, hx, hx8⟩ (.cons ⟨rfl, hy, hy8⟩ .nil)⟩
theorem one_own {h : Hp} {p : Nat} {x : List Nat} (hp : h.g p = none) (hlo : h.lo ≤ p) (hx : x.length ≤ 140737488351232) (hx8 : Bytes8 x) : Kn.str.Own h (h.put p [.s x]) (.sl p 0 1 1 true 1) [x] :=
  ⟨h, [[.s x]], Hp.le_refl _, rfl, Fresh.put (Hp.le_refl _) rfl hp hlo (css := [[.s x]]) (sz := 1) (len := 1) true (fun c hc => by simp at hc; subst hc; rfl) rfl (cs := [.s x]) rfl, .cons ⟨rfl, hx, hx8⟩ .nil⟩
theorem sizeL_rep {Z : List Nat} : ∀ j : Nat, sizeL (List.replicate j Z) = j * (Z.length + 16)
  | 0 => by simp [sizeL]
  | j + 1 => by rw [List.replicate_succ, sizeL_cons, sizeL_rep j, Nat.succ_mul]; omega
theorem bytes_a : Bytes8 [97] := fun y hy => by simp at hy; omega
theorem D.lawLogQuotas {h : Hp} {X : D.LogA} {c : List AV} (kx : D.kLogA.K h X c) : wpC Try.prog 3 [.agg c] (fun v _ => v = .b true) h := by
  obtain ⟨a0, a1, rfl, ⟨rl, ll⟩, rf, lf⟩ := D.kLogA_open kx
  refine call_sound (args := [.ag [.vv a0, .vv a1]]) (cuts := [5000019, 27000065]) ⟨⟨rl.sc, rf.sc, trivial⟩, trivial⟩ ?_
  rw [vc3]
  intro _
  have s0 := Sep.start h
  refine c7 s0 fun dp a Q1 h1 s1 d1 u1 => onRet.r rfl ?_
  rcases open_new (D := dkOf []) (C := fun _ => True) trivial rfl rfl with ⟨e1, i1, ar1⟩ | ⟨_, e2, _⟩
  rotate_left
  · cases e2
  refine c6 s1 d1 few0 (fun e => absurd e1 e) fun _ q F2 r2 a2 Q2 h2 f2 s2 m2 u2 => onTup.ri rfl ⟨fun c h' => c = false ∧ h' = h2, c8 (onRet.i (onB.neg rfl (onO.mk rfl ⟨rfl, rfl⟩))), ?_⟩
  rintro h3 _ ⟨rfl, rfl⟩
  have few1 : Few (loadR (dkOf [])).2.1 1 := loadR_few few0
  have ar1 : (loadR (dkOf [])).2.1.armed = false := by rw [ar1]; rfl
  generalize (loadR (dkOf [])).2.1 = E at *
  generalize (loadR (dkOf [])).2.2 = L at *
  refine onB.neg rfl (onO.mk (a := 4096) rfl (onO.mk (a := 4096) rfl (onC.mk rfl fun p3 hp3 hlo3 => ?_)))
  obtain ⟨css, z1, z2⟩ := zeros_row (h := h3) 4096
  have ob : Kn.byte.Own h3 (h3.put p3 (zerosV [.i .u8 0] 4096)) (.sl p3 0 4096 4096 true 1) (List.replicate 4096 0) :=
    ⟨h3, css, Hp.le_refl _, rfl, Fresh.put (Hp.le_refl _) rfl hp3 hlo3 (css := css) (sz := 1) (len := 4096) true (Kn.all_len z1) (by have := z1.length; simpa using this) z2, z1⟩
  obtain ⟨x1, x2, x3, x4⟩ := strAt_row ob.row
  have hZl : (List.replicate 4096 0 : List Nat).length = 4096 := List.length_replicate
  have hZ8 : Bytes8 (List.replicate 4096 0) := fun y hy => by rw [(List.mem_replicate.1 hy).2]; omega
  refine onO.mk x4 ?_
  show onO (catO (List.replicate 4096 0) [120]) _
  generalize (List.replicate 4096 0 : List Nat) = Z at *
  have hZx : (Z ++ [120]).length = 4097 := by rw [List.length_append, hZl]; rfl
  have hZx8 : Bytes8 (Z ++ [120]) := fun y hy => by
    rcases List.mem_append.1 hy with h | h
    · exact hZ8 y h
    · simp at h; omega
  have sp := s2.grow ob.le ob.lo
  refine onO.mk (catO_mk (by rw [hZl]; simp)) ?_
  have z0 := i1.size
  refine c9 sp m2 (few1.mono (by omega)) hZx8 (by omega) (by omega) (by omega) (by omega) fun F4 r4 a4 Q4 h4 f4 s4 m4 u4 => onRet.i (c8 (onRet.i ?_))
  have hd : appL E L (Z ++ [120]) = (1, E, L) := by unfold appL; rw [if_neg (by rw [i1.lg]; simp), if_pos (by omega)]
  rw [hd] at m4 ⊢
  refine onB.neg rfl ⟨fun m c n h' => ∃ (j : Nat) (F : Hp) (Q : Nat → Hp) (rr : AV) (a : Nat → AV) (E : Dk) (L : Lg), n = j ∧ j ≤ 510 ∧ m = 510 - j ∧ h.le F ∧ Sep h.lo F Q h' ∧ LgM h.lo F Q q dp rr a E L ∧ InvC E L (List.replicate j Z) 0 (fun _ => True) ∧ E.armed = false ∧ Few E (j + 1),
    ⟨510, 0, F4, Q4, r4, a4, E, L, rfl, by omega, rfl, Hp.le_trans f2 f4, s4, m4, i1, ar1, few1⟩, ?_⟩
  clear m4 s4 f4 u4 hd z0 sp s1 d1 u1 s2 m2 u2 f2 i1 ar1 few1
  rintro m h6 _ _ ⟨j, F, Q, rr, a, E, L, rfl, hj, rfl, fl, s, mm, inv, ar, few⟩
  have z0 := inv.size
  have hsz := sizeL_rep (Z := Z) j
  rw [hZl] at hsz
  refine onB.dec (fun e => ?_) fun e => ?_
  · refine c9 (x := Z) s mm (few.mono (by omega)) hZ8 (by omega) (by omega) (by omega) (by omega) fun F4 r4 a4 Q4 h4 f4 s4 m4 u4 => onRet.i (c8 (onRet.i ?_))
    rcases appL_c (x := Z) (C' := fun _ => True) inv (by omega) hZ8 (by omega) (fun _ _ => trivial) trivial with ⟨d1, d2, d3⟩ | ⟨_, d3, _⟩
    rotate_left
    · rw [ar] at d3; cases d3
    rw [d1]
    refine onB.neg rfl (onO.mk (inc64 (by omega)) ⟨_, by show 510 - (j + 1) < 510 - j; omega, j + 1, F4, Q4, r4, a4, _, _, rfl, by omega, rfl, Hp.le_trans fl f4, s4, m4, ?_, by rw [d3]; exact ar, appL_few few⟩)
    rw [List.replicate_succ']; exact d2
  have hj5 : j = 510 := by omega
  subst hj5
  refine ⟨fun c h' => c = false ∧ ∃ (F : Hp) (Q : Nat → Hp) (rr : AV) (a : Nat → AV), h.le F ∧ Sep h.lo F Q h' ∧ LgM h.lo F Q q dp rr a E L, ?_, ?_⟩
  · refine c9 (x := Z) s mm (few.mono (by omega)) hZ8 (by omega) (by omega) (by omega) (by omega) fun F4 r4 a4 Q4 h4 f4 s4 m4 u4 => onRet.i (c8 (onRet.i ?_))
    have hd : appL E L Z = (5, E, L) := by unfold appL; rw [if_neg (by rw [inv.lg]; simp), if_neg (by omega), if_pos (by rw [inv.lg]; show 2097152 < sizeL _ + _ + 16; omega)]
    rw [hd] at m4 ⊢
    have m4 : LgM h.lo F4 Q4 q dp r4 a4 E L := m4
    refine onB.neg rfl (c10 s4 m4 (by omega) fun r5 h5 o5 => onRet.r o5.sc (onO.mk o5.row.len (onB.neg ?_ (onO.mk (catO_mk (by rw [hZl]; simp)) fun p8 hp8 hlo8 => ?_))))
    · rw [z0.2.2.2, List.length_replicate]; rfl
    have s5 := s4.grow o5.le o5.lo
    have ob2 := two_own (x := [97]) (y := Z ++ [120]) hp8 hlo8 (by simp) bytes_a (by omega) hZx8
    have s6 := s5.frz ob2.le ob2.lo
    have f6 := s5.fgrow ob2.le
    refine c11 (V := moreH h5 _ F4) s6 (m4.fmono f6) (fun F' Q' h' f' s' _ => Hp.le_trans f' s'.fle) (ob2.frozen str_flat) (few.mono (by omega)) (by simp) fun F7 r7 a7 Q7 h7 f7 s7 m7 u7 => onRet.i (c8 (onRet.i ?_))
    have hc : (cntR [[97], Z ++ [120]]).2 = 1 := by
      unfold cntR
      rw [if_neg (by simp; omega)]
    have hr : rstL E L [[97], Z ++ [120]] = (1, E, L) := by unfold rstL; rw [if_neg (by rw [inv.lg]; simp), if_neg (by rw [hc]; omega), hc]
    rw [hr] at m7 ⊢
    have m7 : LgM h.lo F7 Q7 q dp r7 a7 E L := m7
    refine onB.neg rfl (c10 s7 m7 (by omega) fun r8 h8 o8 => onRet.r o8.sc (onO.mk o8.row.len ⟨?_, F7, Q7, r7, a7, Hp.le_trans fl (Hp.le_trans f4 (Hp.le_trans f6 f7)), s7.grow o8.le o8.lo, m7⟩))
    rw [z0.2.2.2, List.length_replicate]; rfl
  rintro h15 _ ⟨rfl, F, Q, rr, a, fl, s, mm⟩
  refine onB.neg rfl fun p10 hp10 hlo10 => ?_
  have ob1 := one_own (x := [97]) hp10 hlo10 (by simp) bytes_a
  have s6 := s.frz ob1.le ob1.lo
  have f6 := s.fgrow ob1.le
  refine c11 (V := moreH h15 _ F) s6 (mm.fmono f6) (fun F' Q' h' f' s' _ => Hp.le_trans f' s'.fle) (ob1.frozen str_flat) (few.mono (by omega)) (by simp) fun F7 r7 a7 Q7 h7 f7 s7 m7 u7 => onRet.i (c8 (onRet.i ?_))
  rcases rstL_c (l := [[97]]) (C' := fun _ => True) inv (by omega) (by decide) (fun s hs => by simp at hs; subst hs; exact bytes_a) trivial with ⟨d1, d2, d3⟩ | ⟨_, d3, _⟩
  rotate_left
  · rw [ar] at d3; cases d3
  rw [d1]
  have few7 := rstL_few (L := L) (l := [[97]]) few
  have z7 := d2.size
  have ar7 : (rstL E L [[97]]).2.1.armed = false := by rw [d3]; exact ar
  generalize (rstL E L [[97]]).2.1 = E7 at *
  generalize (rstL E L [[97]]).2.2 = L7 at *
  refine onB.pos rfl (c9 (x := Z) s7 m7 (few7.mono (by omega)) hZ8 (by omega) (by omega) (by omega) (by omega) fun F8 r8 a8 Q8 h8 f8 s8 m8 u8 => onRet.i (c8 (onRet.i ?_)))
  rcases appL_c (x := Z) (C' := fun _ => True) d2 (by omega) hZ8 (by rw [hZl]; decide) (fun _ _ => trivial) trivial with ⟨g1, g2, g3⟩ | ⟨_, g3, _⟩
  rotate_left
  · rw [ar7] at g3; cases g3
  rw [g1]
  have z8 := g2.size
  refine onB.pos rfl (c10 s8 m8 (by omega) fun r9 h9 o9 => onRet.r o9.sc fun p11 hp11 hlo11 => ?_)
  have ob3 := two_own (x := [97]) (y := Z) hp11 hlo11 (by simp) bytes_a (by omega) hZ8
  rw [z8.2.2.2] at o9
  refine c12 (o9.row.mono ob3.le) ob3.row (by simp) (onRet.b (onB.pos (decide_eq_true rfl) ?_))
  refine onO.mk (rl.mono (Hp.le_trans (Hp.le_trans (Hp.le_trans (Hp.le_trans (Hp.le_trans (Hp.le_trans fl f6) f7) f8) s8.fle) o9.le) ob3.le)).len (onB.pos (decide_eq_true (by omega)) (c13 fun h' => onRet.b rfl))
end Go.Proofs.YtedhmpadkdmnhaaAn
