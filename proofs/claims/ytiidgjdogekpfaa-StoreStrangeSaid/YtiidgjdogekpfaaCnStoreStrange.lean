/- What the functions that the law reaches come to, down to the law itself. -/
import Derived.Test.YtiidgjdogekpfaaCnStoreStrangep1
import Derived.Test.YtiidgjdogekpfaaProg
set_option linter.unusedVariables false
set_option linter.unusedSimpArgs false
set_option maxRecDepth 100000
namespace Go.Proofs.YtiidgjdogekpfaaAn
open Go
/-! ### plain: opened -/
def mkOf (x : List Nat) : Nat := x.getD (x.length - 1) 0 % 2
theorem mkOf_lt {x : List Nat} : mkOf x < 2 := Nat.mod_lt _ (by omega)
def fileOf (D : Dk) : Nat := mkOf (fileD D 2).seen
def bytesOf (D : Dk) : List Nat := (fileD D (fileOf D : Nat)).seen
def logOf (D : Dk) : Lg := scanLg ⟨[], 0, fileOf D, 0, false⟩ (bytesOf D)
def cutOf (D : Dk) : Int × Dk := if (logOf D).pos < (bytesOf D).length then cutR D (fileOf D : Nat) ((logOf D).pos : Nat) else (0, D)
def sync1 (D : Dk) : Int × Dk := if (cutOf D).1 = 0 then syncR (cutOf D).2 (fileOf D : Nat) else cutOf D
def sync2 (D : Dk) : Int × Dk := if (sync1 D).1 = 0 then syncR (sync1 D).2 2 else sync1 D
def loadR (D : Dk) : Int × Dk × Lg := if askR D 2 = 0 then ((sync2 D).1, (sync2 D).2, logOf D) else (askR D 2, D, ⟨[], 0, 0, 0, false⟩)
theorem askR_any {D : Dk} {m n : Nat} (hm : m < 3) (hn : n < 3) (h : askR D (m : Nat) = 0) : askR D (n : Nat) = 0 := by
  obtain ⟨h1, _⟩ := askR_ok h
  unfold askR
  rw [h1]
  simp only [Bool.false_eq_true, if_false]
  rw [if_neg (by omega), if_neg (by omega)]
theorem and1l {y : Nat} (h : y < 256) : intO .and .u8 (y : Int) 1 = some ((y % 2 : Nat) : Int) := by
  unfold intO
  have e : intA .and .u8 (y : Int) 1 = some (.i .u8 (wrapA .u8 (.ofNat (Nat.land y 1)))) := by
    show (cond (Nat.blt y 256 && Nat.blt 1 256) _ none : Option AV) = _
    rw [blt_of h]; rfl
  rw [e]
  have h2 : Nat.land y 1 = y % 2 := Nat.and_two_pow_sub_one_eq_mod y 1
  rw [h2]
  show some (wrapA .u8 ((y % 2 : Nat) : Int)) = _
  rw [wrap_mod rfl]
  congr 1
  show ((y % 2 : Nat) : Int) % 256 = _
  omega
theorem cutOf_few {D : Dk} {N : Nat} (w : Few D N) : Few (cutOf D).2 (N + 1) := by
  unfold cutOf
  split
  · exact cutR_few w
  · exact w.mono (by omega)
theorem sync1_few {D : Dk} {N : Nat} (w : Few D N) : Few (sync1 D).2 (N + 1) := by
  unfold sync1
  split
  · exact syncR_few (cutOf_few w)
  · exact cutOf_few w
theorem sync2_few {D : Dk} {N : Nat} (w : Few D N) : Few (sync2 D).2 (N + 1) := by
  unfold sync2
  split
  · exact syncR_few (sync1_few w)
  · exact sync1_few w
section
variable {lo q dp : Nat} {F F' h h' : Hp} {Q Q' : Nat → Hp} {a a' : Nat → AV} {r r' b : AV} {D D' : Dk} {L L' : Lg} {Post : AV → Hp → Prop} {n : Int}
theorem c44 (s : Sep lo F Q h) (m : LgM lo F Q q dp r a D ⟨[], 0, 0, 0, false⟩) (hb : Few D 30000000)
    (k : ∀ F' r' a' Q' h', F.le F' → Sep lo F' Q' h' → LgM lo F' Q' q dp r' a' (loadR D).2.1 (loadR D).2.2 → Upd 0 12 Q Q' → Post (.i .i64 (loadR D).1) h') : wpC Try.prog 44 [.p q 0] Post h := by
  refine call_sound (args := [.vv (.p q 0)]) (cuts := [12999999, 24000004]) ⟨rfl, trivial⟩ ?_
  rw [vc44]
  unfold loadR at k
  refine c63 s m fun r1 h1 o1 => onTup.ri o1.sc ?_
  unfold readAll at o1 ⊢
  by_cases e0 : ¬ askR D 2 = 0
  · rw [if_neg e0] at k o1 ⊢
    exact onB.pos (by simp [e0]) (k F r a Q h1 (Hp.le_refl _) (s.grow o1.le o1.lo) m Upd.refl)
  have e0 := Decidable.not_not.1 e0
  rw [if_pos e0] at k o1 ⊢
  have o1 : Kn.byte.Own h h1 r1 (fileD D 2).seen := o1
  have s1 := s.grow o1.le o1.lo
  have hseen := fileD_len (E := D) (n := 2) m.dk.ok
  refine onB.neg rfl (onO.mk o1.row.len ⟨fun h' => ∃ Q', Sep lo F Q' h' ∧ LgM lo F Q' q dp r a D ⟨[], 0, fileOf D, 0, false⟩ ∧ ∀ j, j ≠ 10 → Q' j = Q j, onB.dec (fun e => ?_) (fun e => ?_), ?_⟩)
  · obtain ⟨y, hy⟩ := get_lt (l := (fileD D 2).seen) (k := (fileD D 2).seen.length - 1) (by omega)
    have hy8 := byte_lt o1.row (List.mem_of_getElem? hy)
    have hm : fileOf D = y % 2 := by
      show (fileD D 2).seen.getD ((fileD D 2).seen.length - 1) 0 % 2 = _
      rw [List.getD_eq_getElem?_getD, hy]; rfl
    refine onO.mk o1.row.len (onO.mk (a := (((fileD D 2).seen.length - 1 : Nat) : Int)) ?_ ?_)
    · rw [show (((fileD D 2).seen.length - 1 : Nat) : Int) = ((fileD D 2).seen.length : Int) - 1 by omega]
      exact sub64 (by omega) (by omega)
    refine byte0 o1.row hy (onO.mk (and1l hy8) (onO.mk (wr64 (by omega) (by omega)) (onO.mk rfl (lg_put s1 m.box m.qlo (i := 3) rfl rfl (by omega) fun h2 s2 => ⟨_, s2, ?_, fun j hj => updQ_ne hj⟩))))
    refine m.chg ?_ (by rw [updQ_ne (by omega)]; exact m.row) (fun j j1 j2 => updQ_ne j1) mkOf_lt
    rw [updQ_same, hm]; rfl
  · have hm : fileOf D = 0 := by
      have : (fileD D 2).seen = [] := List.length_eq_zero_iff.1 (by omega)
      unfold fileOf
      rw [this]; rfl
    rw [hm]
    exact ⟨Q, s1, m, fun _ _ => rfl⟩
  clear s1 o1 s
  rintro h2 ⟨Q2, s2, m2, u2⟩
  obtain ⟨w0, w1, w2, w3, w4, w5⟩ := lg_word s2 m2.box
  have hlt : fileOf D < 2 := mkOf_lt
  have ef : askR D (fileOf D : Nat) = 0 := askR_any (m := 2) (by omega) (by omega) e0
  refine onO.mk rfl (onO.mk w3 (onL.i1 (c63 s2 m2 fun r3 h3 o3 => onTup.ri o3.sc ?_)))
  unfold readAll at o3 ⊢
  rw [if_pos ef] at o3 ⊢
  have o3 : Kn.byte.Own h2 h3 r3 (fileD D (fileOf D : Nat)).seen := o3
  have s3 := s2.frz o3.le o3.lo
  have f3 := s2.fgrow o3.le
  have rb := o3.frozen byte_flat (F := F)
  have hbl : (bytesOf D).length ≤ 4194304 := fileD_len m.dk.ok
  refine onB.neg rfl (c64 (B := bytesOf D) s3 (m2.fmono f3) rb hbl (Nat.zero_le _) (Nat.le_refl _) (Nat.le_refl _) fun r4 Q4 h4 s4 m4 u4 => onTup.z ?_)
  obtain ⟨v0, v1, v2, v3, v4, v5⟩ := lg_word s4 m4.box
  have m4 : LgM lo (moreH h2 h3 F) Q4 q dp r4 a D (logOf D) := m4
  have hpos : (logOf D).pos ≤ (bytesOf D).length := by
    show 0 + (scanL ((bytesOf D).drop 0)).2 ≤ _
    have := (scan_len ((bytesOf D).drop 0)).1
    simp at this ⊢; omega
  have u04 : Upd 0 12 Q Q4 := fun j hj => by rw [u4 j (by omega) (by omega), u2 j (by omega)]
  refine onO.mk rfl (onO.mk v4 (onL.i1 (onO.mk (rb.mono s4.fle).len ⟨fun n h' => ∃ a' Q', Sep lo (moreH h2 h3 F) Q' h' ∧ LgM lo (moreH h2 h3 F) Q' q dp r4 a' (cutOf D).2 (logOf D) ∧ Upd 0 12 Q Q' ∧ n = (cutOf D).1, onB.mk (fun e => ?_) (fun e => ?_), ?_⟩)))
  · have e : (logOf D).pos < (bytesOf D).length := by
      have := of_decide_eq_true e
      exact Int.ofNat_lt.1 this
    have hc : cutOf D = cutR D (fileOf D : Nat) ((logOf D).pos : Nat) := if_pos e
    refine onO.mk rfl (onO.mk v0 (onL.r1 rfl (onO.mk rfl (onO.mk v3 (onL.i1 (onO.mk rfl (onO.mk v4 (onL.i1 ?_))))))))
    refine c65 s4 m4.dk (hb.mono (by omega)) fun a5 Q5 h5 s5 d5 u5 => onRet.i ⟨a5, Q5, s5, ?_, u04.trans u5.more, ?_⟩
    · rw [hc]; exact m4.disk d5 u5
    · rw [hc]; rfl
  · have e : ¬ (logOf D).pos < (bytesOf D).length := fun e2 => (of_decide_eq_false e) (Int.ofNat_lt.2 e2)
    have hc : cutOf D = (0, D) := if_neg e
    rw [hc]
    exact ⟨a, Q4, s4, m4, u04, rfl⟩
  rintro h6 _ ⟨a6, Q6, s6, m6, u6, rfl⟩
  obtain ⟨x0, x1, x2, x3, x4, x5⟩ := lg_word s6 m6.box
  refine onO.mk rfl (onO.mk x3 (onL.i1 ⟨fun m n13 n14 h' => ∃ (j : Nat) (a' : Nat → AV) (Q' : Nat → Hp) (D' : Dk), n14 = j ∧ j ≤ 2 ∧ m = 2 - j ∧ Sep lo (moreH h2 h3 F) Q' h' ∧ LgM lo (moreH h2 h3 F) Q' q dp r4 a' D' (logOf D) ∧ Upd 0 12 Q Q' ∧ (n13, D') = (match j with | 0 => cutOf D | 1 => sync1 D | _ => sync2 D),
    ⟨2, 0, a6, Q6, (cutOf D).2, rfl, by omega, rfl, s6, m6, u6, rfl⟩, ?_⟩))
  rintro m h7 n13 _ ⟨j, a7, Q7, D7, rfl, hj, rfl, s7, m7, u7, he⟩
  obtain ⟨y0, y1, y2, y3, y4, y5⟩ := lg_word s7 m7.box
  refine onB.dec (fun e => onO.mk (natLt_nat (n := j) (m := 2) (by omega)) ⟨⟨trivial, fun e0 => ?_⟩, fun e0 => ?_⟩) fun e => ?_
  · subst e0
    have hn : n13 = (cutOf D).1 := congrArg Prod.fst he
    have hD : D7 = (cutOf D).2 := congrArg Prod.snd he
    subst hD
    refine onB.dec (fun c => ?_) fun c => ?_
    · have hs : sync1 D = syncR (cutOf D).2 (fileOf D : Nat) := if_pos (by rw [← hn]; exact c)
      refine onO.mk rfl (onO.mk y0 (onL.r1 rfl (c66 s7 m7.dk ((cutOf_few hb).mono (by omega)) fun a8 Q8 h8 s8 d8 u8 => onRet.i (onO.mk rfl ⟨1, by show (1 : Nat) < 2 - 0; omega, 1, a8, Q8, _, rfl, by omega, rfl, s8, m7.disk d8 u8, u7.trans u8.more, ?_⟩))))
      show _ = sync1 D
      rw [hs]; rfl
    · have hs : sync1 D = cutOf D := if_neg (by rw [← hn]; exact c)
      refine onO.mk rfl ⟨1, by show (1 : Nat) < 2 - 0; omega, 1, a7, Q7, _, rfl, by omega, rfl, s7, m7, u7, ?_⟩
      show _ = sync1 D
      rw [hs]; exact he
  · subst e0
    have hn : n13 = (sync1 D).1 := congrArg Prod.fst he
    have hD : D7 = (sync1 D).2 := congrArg Prod.snd he
    subst hD
    refine onB.dec (fun c => ?_) fun c => ?_
    · have hs : sync2 D = syncR (sync1 D).2 2 := if_pos (by rw [← hn]; exact c)
      refine onO.mk rfl (onO.mk y0 (onL.r1 rfl (c66 s7 m7.dk ((sync1_few hb).mono (by omega)) fun a8 Q8 h8 s8 d8 u8 => onRet.i (onO.mk rfl ⟨0, by show (0 : Nat) < 2 - 1; omega, 2, a8, Q8, _, rfl, by omega, rfl, s8, m7.disk d8 u8, u7.trans u8.more, ?_⟩))))
      show _ = sync2 D
      rw [hs]
    · have hs : sync2 D = sync1 D := if_neg (by rw [← hn]; exact c)
      refine onO.mk rfl ⟨0, by show (0 : Nat) < 2 - 1; omega, 2, a7, Q7, _, rfl, by omega, rfl, s7, m7, u7, ?_⟩
      show _ = sync2 D
      rw [hs]; exact he
  · have hj2 : j = 2 := by omega
    subst hj2
    have hn : n13 = (sync2 D).1 := congrArg Prod.fst he
    have hD : D7 = (sync2 D).2 := congrArg Prod.snd he
    subst hD; subst hn
    exact k _ r4 a7 Q7 h7 f3 s7 m7 u7
theorem c26 (s : Sep lo F Q h) (d : DkA lo F Q 0 dp a D) (hb : Few D 30000000)
    (k1 : (loadR D).1 ≠ 0 → ∀ F' a' Q' h', F.le F' → Sep lo F' Q' h' → DkA lo F' Q' 0 dp a' (loadR D).2.1 → Upd 0 12 Q Q' → Post (.tup [.np, .i .i64 (loadR D).1]) h')
    (k2 : (loadR D).1 = 0 → ∀ q F' r' a' Q' h', F.le F' → Sep lo F' Q' h' → LgM lo F' Q' q dp r' a' (loadR D).2.1 (loadR D).2.2 → Upd 0 12 Q Q' → Post (.tup [.p q 0, .i .i64 0]) h') : wpC Try.prog 26 [.p dp 0] Post h := by
  refine call_sound (args := [.vv (.p dp 0)]) (cuts := []) ⟨rfl, trivial⟩ ?_
  rw [vc26]
  refine onO.mk rfl (onB.neg rfl fun q hq hlo => ?_)
  have s1 := (s.drop 11).alloc 10 hq [.p dp 0, .ns, .i .i64 0, .i .i64 0, .i .i64 0, .b false]
  have u1 : Upd 0 12 Q (updQ (updQ Q 11 (Hp.none lo)) 10 (Hp.one q [.p dp 0, .ns, .i .i64 0, .i .i64 0, .i .i64 0, .b false] lo)) := fun j hj => by rw [updQ_ne (by omega), updQ_ne (by omega)]
  refine c44 s1 ⟨updQ_same, by rw [← s.hlo]; exact hlo, by rw [updQ_ne (by omega), updQ_same]; exact PK.nil _ _, d.same fun j _ _ => by rw [updQ_ne (by omega), updQ_ne (by omega)], by show (0 : Nat) < 2; omega⟩ hb fun F2 r2 a2 Q2 h2 f2 s2 m2 u2 => onRet.i (onB.ndec (fun e => ?_) fun e => ?_)
  · exact k1 e F2 a2 Q2 h2 f2 s2 m2.dk (u1.trans u2)
  · exact k2 e q F2 r2 a2 Q2 h2 f2 s2 m2 (u1.trans u2)
theorem c25 {x : Int} (k : Post (.i .i64 x) h) : wpC Try.prog 25 [.i .i64 x] Post h := by
  refine call_sound (args := [.ii .i64 x]) (cuts := []) ⟨trivial, trivial⟩ ?_
  rw [vc25]; exact k
theorem c15 (s : Sep lo F Q h) (k : ∀ dp a Q' h', Sep lo F Q' h' → DkA lo F Q' 0 dp a (dkOf []) → Upd 0 10 Q Q' → Post (.p dp 0) h') : wpC Try.prog 15 [] Post h := by
  refine call_sound (args := []) (cuts := []) trivial ?_
  rw [vc15]
  exact c24 (B := 0) s Vw.frz ns_rows (by simp) (fun e => by cases e) fun _ p a Q1 h1 s1 d1 u1 => onTup.ri rfl (c25 (onRet.i (onB.neg rfl (k p a Q1 h1 s1 d1 u1))))
end
section
variable {lo q dp : Nat} {F F' g h h' : Hp} {Q Q' : Nat → Hp} {a a' : Nat → AV} {r r' b c b2 b3 : AV} {L L' : Lg} {E : Dk} {Post : AV → Hp → Prop} {n : Int} {l m : List (List Nat)} {x : List Nat}
theorem sizeL_le {k : Nat} : ∀ {l : List (List Nat)}, (∀ x ∈ l, x.length ≤ k) → sizeL l ≤ l.length * (k + 16)
  | [], _ => Nat.zero_le _
  | x :: l, h => by
    have h1 := h x (by simp)
    have h2 := sizeL_le (l := l) fun y hy => h y (by simp [hy])
    rw [sizeL_cons, List.length_cons, Nat.succ_mul]; omega
end
/-! ### files -/
theorem fileD_set {D : Dk} (hl : D.f.length = 3) {n m : Nat} (hm : m < 3) {g : DFile} : fileD { D with f := D.f.set n g } (m : Nat) = if m = n then g else fileD D (m : Nat) := by
  unfold fileD
  rw [Int.toNat_natCast]
  show (D.f.set n g)[m]?.getD _ = _
  by_cases e : m = n
  · subst e
    rw [if_pos rfl, List.getElem?_set_self (by omega)]; rfl
  · rw [if_neg e, List.getElem?_set_ne (Ne.symm e)]
theorem call_eq {D : Dk} : (callD D).f = D.f ∧ (callD D).armed = D.armed ∧ ((callD D).off = D.off ∨ D.armed = true) := by
  unfold callD
  split
  · rename_i h
    exact ⟨rfl, rfl, .inr h.1⟩
  · exact ⟨rfl, rfl, .inl rfl⟩
theorem ask_off {D : Dk} {n : Nat} (hn : n < 3) : askR D (n : Nat) = if D.off = true then 10 else 0 := by
  unfold askR
  split
  · rfl
  · rw [if_neg (by omega), if_neg (by omega)]
/-- a call that counts: done, or the power went -/
theorem call_cases {D : Dk} {n : Nat} (hn : n < 3) (ho : D.off = false) : (askR (callD D) (n : Nat) = 0 ∧ (callD D).off = false) ∨ (askR (callD D) (n : Nat) = 10 ∧ D.armed = true) := by
  obtain ⟨_, _, h3⟩ := call_eq (D := D)
  rw [ask_off hn]
  cases hc : (callD D).off with
  | true =>
    rcases h3 with h3 | h3
    · rw [hc, ho] at h3; cases h3
    · exact .inr ⟨rfl, h3⟩
  | false => exact .inl ⟨rfl, rfl⟩
/-- the outcomes of a file -/
def outs (f : DFile) (x : List Nat) : Prop := ∃ p ps, p ≤ f.ops.length ∧ x = (tornF f p ps).1
theorem outs_nil {k x : List Nat} (h : outs ⟨k, []⟩ x) : x = k := by
  obtain ⟨p, ps, h1, h2⟩ := h
  rw [h2]
  simp [tornF]
theorem outs_seen {f : DFile} : outs f f.seen := ⟨f.ops.length, [], Nat.le_refl _, by
  unfold tornF
  rw [List.getElem?_eq_none (Nat.le_refl _), List.take_length]; rfl⟩
theorem torn_none {f : DFile} {p : Nat} {ps : List Int} (h : f.ops[p]? = none) : (tornF f p ps).1 = (f.ops.take p).foldl doF f.kept := by unfold tornF; rw [h]
theorem torn_cut {f : DFile} {p : Nat} {ps : List Int} {o : DOp} (h : f.ops[p]? = some o) (c : o.cut = true) : (tornF f p ps).1 = (f.ops.take p).foldl doF f.kept := by unfold tornF; rw [h]; simp only [c, if_true]
theorem torn_put {f : DFile} {p : Nat} {ps : List Int} {o : DOp} (h : f.ops[p]? = some o) (c : o.cut = false) : (tornF f p ps).1 = doF ((f.ops.take p).foldl doF f.kept) ⟨false, o.pos, o.b.take (nextP ps (o.b.length + 1)).1⟩ := by unfold tornF; rw [h]; simp only [c, Bool.false_eq_true, if_false]
theorem outs_snoc {k : List Nat} {os : List DOp} {o : DOp} {x : List Nat} (h : outs ⟨k, os ++ [o]⟩ x) : outs ⟨k, os⟩ x ∨ x = doF (os.foldl doF k) o ∨ (o.cut = false ∧ ∃ m, m ≤ o.b.length ∧ x = doF (os.foldl doF k) ⟨false, o.pos, o.b.take m⟩) := by
  obtain ⟨p, ps, h1, h2⟩ := h
  have h1 : p ≤ os.length + 1 := by simpa using h1
  by_cases e : p < os.length
  · left
    refine ⟨p, ps, by show p ≤ os.length; omega, ?_⟩
    rw [h2]
    have ht : (os ++ [o]).take p = os.take p := List.take_append_of_le_length (by omega)
    obtain ⟨y, hy⟩ := get_lt (l := os) (k := p) e
    have hy2 : (os ++ [o])[p]? = some y := by rw [List.getElem?_append_left e]; exact hy
    cases hc : y.cut with
    | true =>
      rw [torn_cut (f := ⟨k, os ++ [o]⟩) hy2 hc, torn_cut (f := ⟨k, os⟩) hy hc]
      show ((os ++ [o]).take p).foldl doF k = (os.take p).foldl doF k
      rw [ht]
    | false =>
      rw [torn_put (f := ⟨k, os ++ [o]⟩) hy2 hc, torn_put (f := ⟨k, os⟩) hy hc]
      show doF (((os ++ [o]).take p).foldl doF k) _ = doF ((os.take p).foldl doF k) _
      rw [ht]
  · by_cases e2 : p = os.length
    · subst e2
      have hg : (os ++ [o])[os.length]? = some o := by simp
      have ht : (os ++ [o]).take os.length = os := by simp
      cases hc : o.cut with
      | true =>
        left
        rw [h2, torn_cut (f := ⟨k, os ++ [o]⟩) hg hc]
        show outs ⟨k, os⟩ (((os ++ [o]).take os.length).foldl doF k)
        rw [ht]; exact outs_seen (f := ⟨k, os⟩)
      | false =>
        right; right
        refine ⟨rfl, (nextP ps (o.b.length + 1)).1, by have := nextP_lt (ps := ps) (n := o.b.length + 1) (by omega); omega, ?_⟩
        rw [h2, torn_put (f := ⟨k, os ++ [o]⟩) hg hc]
        show doF (((os ++ [o]).take os.length).foldl doF k) _ = _
        rw [ht]
    · right; left
      have e3 : p = os.length + 1 := by omega
      subst e3
      rw [h2, torn_none (f := ⟨k, os ++ [o]⟩) (by show (os ++ [o])[os.length + 1]? = none; exact List.getElem?_eq_none (by simp))]
      show ((os ++ [o]).take (os.length + 1)).foldl doF k = _
      rw [List.take_of_length_le (by simp), List.foldl_append]; rfl
/-! ### what is opened -/
def recOf (x0 x1 x2 : List Nat) : List (List Nat) := (scanL (if mkOf x2 = 0 then x0 else x1)).1
abbrev Recs := List (List Nat)
def AllC (D : Dk) (C : Recs → Prop) : Prop := ∀ x0 x1 x2, outs (fileD D (0 : Nat)) x0 → outs (fileD D (1 : Nat)) x1 → outs (fileD D (2 : Nat)) x2 → C (recOf x0 x1 x2)
theorem AllC.mono {D : Dk} {C C' : Recs → Prop} (h : AllC D C) (i : ∀ r, C r → C' r) : AllC D C' := fun x0 x1 x2 h0 h1 h2 => i _ (h x0 x1 x2 h0 h1 h2)
theorem AllC.same {D D' : Dk} {C : Recs → Prop} (h : AllC D C) (e : D'.f = D.f) : AllC D' C := by
  have ef : ∀ n : Int, fileD D' n = fileD D n := fun n => by unfold fileD; rw [e]
  intro x0 x1 x2 h0 h1 h2
  rw [ef] at h0 h1 h2
  exact h x0 x1 x2 h0 h1 h2
/-- by the file that is said, if the mark is known -/
theorem allC_of {D : Dk} {C : Recs → Prop} {fl : Nat} (hf : fl < 2) (h : ∀ x2, outs (fileD D (2 : Nat)) x2 → mkOf x2 = fl) (g : ∀ x, outs (fileD D (fl : Nat)) x → C (scanL x).1) : AllC D C := by
  intro x0 x1 x2 h0 h1 h2
  have hm := h x2 h2
  unfold recOf
  rw [hm]
  match fl, hf with
  | 0, _ => exact g x0 h0
  | 1, _ => exact g x1 h1
def okRs (r : Recs) : Prop := (∀ s ∈ r, s.length ≤ 4096 ∧ Bytes8 s) ∧ sizeL r ≤ 2097152
structure InvC (D : Dk) (L : Lg) (r : Recs) (N : Nat) (C : Recs → Prop) : Prop where
  off : D.off = false
  len : D.f.length = 3
  lg : L = ⟨r, sizeL r, L.file, (layR r).length, false⟩
  file : L.file < 2
  seen : (fileD D (L.file : Nat)).seen = layR r
  ok : okRs r
  mark : ∃ mk, fileD D (2 : Nat) = ⟨mk, []⟩ ∧ mkOf mk = L.file ∧ mk.length ≤ N
  can : ∀ x, outs (fileD D (L.file : Nat)) x → C (scanL x).1
theorem InvC.all {D : Dk} {L : Lg} {r : Recs} {N : Nat} {C : Recs → Prop} (i : InvC D L r N C) : AllC D C := by
  obtain ⟨mk, m1, m2, _⟩ := i.mark
  refine allC_of i.file (fun x2 h => ?_) i.can
  rw [m1] at h
  rw [outs_nil h, m2]
theorem InvC.now {D : Dk} {L : Lg} {r : Recs} {N : Nat} {C : Recs → Prop} (i : InvC D L r N C) : C r := by
  have := i.can _ outs_seen
  rw [i.seen, scan_all i.ok.1] at this
  exact this
/-- the power went -/
structure DeadC (D : Dk) (L : Lg) (r : Recs) (C : Recs → Prop) : Prop where
  len : D.f.length = 3
  dead : L.dead = true
  l : L.l = r
  all : AllC D C
theorem layR_len8 {r : Recs} (h : okRs r) : (layR r).length ≤ 2097152 := Nat.le_trans layR_le h.2
section
variable {D : Dk} {L : Lg} {r : Recs} {N : Nat} {C C' : Recs → Prop} {x : List Nat}
theorem callD_fileD {n : Int} : fileD (callD D) n = fileD D n := callD_file
theorem appL_c (i : InvC D L r N C) (hx : x.length ≤ 4096) (hx8 : Bytes8 x) (hs : sizeL r + x.length + 16 ≤ 2097152) (hC : ∀ y, C y → C' y) (hn : C' (r ++ [x])) :
    ((appL D L x).1 = 0 ∧ InvC (appL D L x).2.1 (appL D L x).2.2 (r ++ [x]) N C' ∧ (appL D L x).2.1.armed = D.armed) ∨ ((appL D L x).1 = 10 ∧ D.armed = true ∧ DeadC (appL D L x).2.1 (appL D L x).2.2 r C) := by
  have hlg := i.lg
  have hfl := i.file
  have iseen := i.seen
  have ican := i.can
  have imark := i.mark
  generalize hfile : L.file = fl at *
  have hdead : L.dead = false := by rw [hlg]
  have hsize : L.size = sizeL r := by rw [hlg]
  have hpos : L.pos = (layR r).length := by rw [hlg]
  have hlay := layR_len8 i.ok
  have hll : (lay1 x).length = 8 + x.length := lay1_len
  unfold appL
  rw [if_neg (by rw [hdead]; simp), if_neg (by omega), if_neg (by rw [hsize]; omega), hpos, hfile]
  have hseen : (fileD (callD D) (fl : Nat)).seen = layR r := by rw [callD_fileD]; exact iseen
  have happ : doF (layR r) ⟨false, (layR r).length, lay1 x⟩ = layR (r ++ [x]) := by
    rw [doF_put rfl]
    show (layR r).take (layR r).length ++ (lay1 x ++ (layR r).drop ((layR r).length + (lay1 x).length)) = _
    rw [List.take_length, List.drop_of_length_le (by omega), List.append_nil, layR_app, layR_one]
  rcases call_cases (n := fl) (by omega) i.off with ⟨ha, ho⟩ | ⟨ha, har⟩
  · left
    have hw : writeR D (fl : Nat) ((layR r).length : Nat) (lay1 x) = (0, putD (callD D) (fl : Nat) ⟨false, (layR r).length, lay1 x⟩) := by
      unfold writeR
      rw [if_pos ha, if_neg (by rw [hseen]; omega)]
      rfl
    rw [hw, if_pos rfl]
    have hlen : (callD D).f.length = 3 := by rw [callD_f]; exact i.len
    have hfd : ∀ m : Nat, m < 3 → fileD (putD (callD D) (fl : Nat) ⟨false, (layR r).length, lay1 x⟩) (m : Nat) = if m = fl then ⟨(fileD D (fl : Nat)).kept, (fileD D (fl : Nat)).ops ++ [⟨false, (layR r).length, lay1 x⟩]⟩ else fileD D (m : Nat) := fun m hm => by
      unfold putD
      rw [Int.toNat_natCast, fileD_set hlen hm, callD_fileD, callD_fileD]
    obtain ⟨mk, m1, m2, m3⟩ := imark
    refine ⟨rfl, ⟨ho, by show ((callD D).f.set _ _).length = 3; rw [List.length_set]; exact hlen, ?_, hfl, ?_, ⟨fun s hs' => ?_, by rw [sizeL_app]; simp [sizeL] at hs ⊢; omega⟩, ⟨mk, ?_, m2, m3⟩, fun y hy => ?_⟩, (call_eq (D := D)).2.1⟩
    · show (⟨L.l ++ [x], L.size + x.length + 16, fl, (layR r).length + 8 + x.length, false⟩ : Lg) = ⟨r ++ [x], sizeL (r ++ [x]), fl, (layR (r ++ [x])).length, false⟩
      rw [hsize, show L.l = r by rw [hlg], sizeL_app, layR_app, layR_one, List.length_append, hll]
      simp only [sizeL, List.map_cons, List.map_nil, List.sum_cons, List.sum_nil]
      congr 1; omega
    · show (fileD (putD _ _ _) (fl : Nat)).seen = _
      rw [hfd fl (by omega), if_pos rfl, seen_snoc, iseen, happ]
    · rcases List.mem_append.1 hs' with h | h
      · exact i.ok.1 s h
      · simp at h; subst h; exact ⟨hx, hx8⟩
    · show fileD (putD _ _ _) (2 : Nat) = _
      rw [hfd 2 (by omega), if_neg (by omega)]; exact m1
    · have hy : outs (fileD (putD (callD D) (fl : Nat) ⟨false, (layR r).length, lay1 x⟩) (fl : Nat)) y := hy
      rw [hfd fl (by omega), if_pos rfl] at hy
      have hse : (fileD D (fl : Nat)).ops.foldl doF (fileD D (fl : Nat)).kept = layR r := iseen
      have hokx : ∀ s ∈ r ++ [x], s.length ≤ 4096 ∧ Bytes8 s := fun s hs' => by
        rcases List.mem_append.1 hs' with h | h
        · exact i.ok.1 s h
        · simp at h; subst h; exact ⟨hx, hx8⟩
      rcases outs_snoc hy with h | h | ⟨_, m, hm, h⟩
      · exact hC _ (ican y h)
      · rw [hse, happ] at h
        rw [h, scan_all hokx]; exact hn
      · rw [hse, doF_put rfl] at h
        have h : y = (layR r).take (layR r).length ++ ((lay1 x).take m ++ (layR r).drop ((layR r).length + ((lay1 x).take m).length)) := h
        rw [List.take_length, List.drop_of_length_le (by omega), List.append_nil] at h
        have hm : m ≤ (lay1 x).length := hm
        by_cases e : m < (lay1 x).length
        · rw [h, scan_torn i.ok.1 hx e]
          exact hC _ i.now
        · rw [List.take_of_length_le (by omega), ← layR_one, ← layR_app] at h
          rw [h, scan_all hokx]; exact hn
  · right
    have hw : writeR D (fl : Nat) ((layR r).length : Nat) (lay1 x) = (10, callD D) := by
      unfold writeR
      rw [if_neg (by rw [ha]; omega), ha]
    rw [hw, if_neg (by show ¬ (10 : Int) = 0; omega)]
    exact ⟨rfl, har, by show (callD D).f.length = 3; rw [callD_f]; exact i.len, rfl, by show L.l = r; rw [hlg], i.all.same callD_f⟩
theorem syncR_cases {n : Nat} (hn : n < 3) (ho : D.off = false) (hl : D.f.length = 3) :
    ((syncR D (n : Nat)).1 = 0 ∧ (syncR D (n : Nat)).2.off = false ∧ (syncR D (n : Nat)).2.f.length = 3 ∧ (syncR D (n : Nat)).2.armed = D.armed ∧ ∀ m : Nat, m < 3 → fileD (syncR D (n : Nat)).2 (m : Nat) = if m = n then ⟨(fileD D (n : Nat)).seen, []⟩ else fileD D (m : Nat)) ∨
    ((syncR D (n : Nat)).1 = 10 ∧ D.armed = true ∧ (syncR D (n : Nat)).2.f = D.f) := by
  rcases call_cases hn ho with ⟨ha, ho'⟩ | ⟨ha, har⟩
  · left
    have hw : syncR D (n : Nat) = (0, { callD D with f := D.f.set n ⟨(fileD D (n : Nat)).seen, []⟩ }) := by
      unfold syncR
      rw [if_pos ha]; rfl
    rw [hw]
    refine ⟨rfl, ho', by show (D.f.set _ _).length = 3; rw [List.length_set]; exact hl, (call_eq (D := D)).2.1, fun m hm => ?_⟩
    have := fileD_set hl (n := n) hm (g := ⟨(fileD D (n : Nat)).seen, []⟩)
    rw [← this]; rfl
  · right
    have hw : syncR D (n : Nat) = (10, callD D) := by
      unfold syncR
      rw [if_neg (by rw [ha]; omega), ha]
    rw [hw]
    exact ⟨rfl, har, callD_f⟩
theorem syncL_c (i : InvC D L r N C) (hn : C' r) : ((syncL D L).1 = 0 ∧ InvC (syncL D L).2.1 (syncL D L).2.2 r N C' ∧ (syncL D L).2.1.armed = D.armed) ∨ ((syncL D L).1 = 10 ∧ D.armed = true ∧ DeadC (syncL D L).2.1 (syncL D L).2.2 r C) := by
  have hlg := i.lg
  have hfl := i.file
  have hdead : L.dead = false := by rw [hlg]
  unfold syncL
  rw [if_neg (by rw [hdead]; simp)]
  rcases syncR_cases (n := L.file) (by omega) i.off i.len with ⟨h1, h2, h3, h4, h5⟩ | ⟨h1, h2, h3⟩
  · left
    obtain ⟨mk, m1, m2, m3⟩ := i.mark
    have hfd := h5 L.file (by omega)
    rw [if_pos rfl, i.seen] at hfd
    refine ⟨h1, ⟨h2, h3, ?_, hfl, ?_, i.ok, ⟨mk, ?_, m2, m3⟩, fun y hy => ?_⟩, h4⟩
    · show { L with dead := !decide ((syncR D (L.file : Nat)).1 = 0) } = _
      rw [h1]
      conv => lhs; rw [hlg]
      rfl
    · show (fileD (syncR D (L.file : Nat)).2 (L.file : Nat)).seen = _
      rw [hfd]; rfl
    · show fileD (syncR D (L.file : Nat)).2 (2 : Nat) = _
      rw [h5 2 (by omega), if_neg (by omega)]; exact m1
    · have hy : outs (fileD (syncR D (L.file : Nat)).2 (L.file : Nat)) y := hy
      rw [hfd] at hy
      rw [outs_nil hy, scan_all i.ok.1]; exact hn
  · right
    refine ⟨h1, h2, by show (syncR D (L.file : Nat)).2.f.length = 3; rw [h3]; exact i.len, by show (!decide ((syncR D (L.file : Nat)).1 = 0)) = true; rw [h1]; rfl, by show L.l = r; rw [hlg], i.all.same h3⟩
end
section
variable {D : Dk} {L : Lg} {r l : Recs} {N : Nat} {C C' : Recs → Prop} {x : List Nat}
theorem fileD_congr {D D' : Dk} {n : Int} (e : D'.f = D.f) : fileD D' n = fileD D n := by unfold fileD; rw [e]
theorem cutR_cases {n p : Nat} (hn : n < 3) (ho : D.off = false) (hl : D.f.length = 3) (hp : p ≤ (fileD D (n : Nat)).seen.length) :
    ((cutR D (n : Nat) (p : Nat)).1 = 0 ∧ (cutR D (n : Nat) (p : Nat)).2.off = false ∧ (cutR D (n : Nat) (p : Nat)).2.f.length = 3 ∧ (cutR D (n : Nat) (p : Nat)).2.armed = D.armed ∧
      ∀ m : Nat, m < 3 → fileD (cutR D (n : Nat) (p : Nat)).2 (m : Nat) = if m = n then ⟨(fileD D (n : Nat)).kept, (fileD D (n : Nat)).ops ++ [⟨true, p, []⟩]⟩ else fileD D (m : Nat)) ∨
    ((cutR D (n : Nat) (p : Nat)).1 = 10 ∧ D.armed = true ∧ (cutR D (n : Nat) (p : Nat)).2.f = D.f) := by
  rcases call_cases hn ho with ⟨ha, ho'⟩ | ⟨ha, har⟩
  · left
    have hw : cutR D (n : Nat) (p : Nat) = (0, putD (callD D) (n : Nat) ⟨true, p, []⟩) := by
      unfold cutR
      rw [if_pos ha, if_neg (by rw [callD_fileD]; omega)]; rfl
    have hlen : (callD D).f.length = 3 := by rw [callD_f]; exact hl
    rw [hw]
    refine ⟨rfl, ho', by show ((callD D).f.set _ _).length = 3; rw [List.length_set]; exact hlen, (call_eq (D := D)).2.1, fun m hm => ?_⟩
    show fileD (putD _ _ _) _ = _
    unfold putD
    rw [Int.toNat_natCast, fileD_set hlen hm, callD_fileD, callD_fileD]
  · right
    have hw : cutR D (n : Nat) (p : Nat) = (10, callD D) := by
      unfold cutR
      rw [if_neg (by rw [ha]; omega), ha]
    rw [hw]
    exact ⟨rfl, har, callD_f⟩
theorem InvC.keep {D' : Dk} (i : InvC D L r N C) (k : fileD D' (L.file : Nat) = fileD D (L.file : Nat)) (k2 : fileD D' (2 : Nat) = fileD D (2 : Nat)) : AllC D' C := by
  obtain ⟨mk, m1, m2, _⟩ := i.mark
  refine allC_of i.file (fun x2 h => ?_) fun x hx => ?_
  · rw [k2, m1] at h
    rw [outs_nil h, m2]
  · rw [k] at hx
    exact i.can x hx
end
section
variable {D D' : Dk} {L : Lg} {r l : Recs} {N : Nat} {C C' : Recs → Prop} {x : List Nat}
/-- while it is opened: bytes b in file fl, mark x2, records r0 -/
structure Opg (D : Dk) (b x2 : List Nat) (fl : Nat) (r0 : Recs) : Prop where
  len : D.f.length = 3
  mark : fileD D (2 : Nat) = ⟨x2, []⟩
  can : ∀ x, outs (fileD D (fl : Nat)) x → (scanL x).1 = r0
theorem Opg.all {b x2 : List Nat} {fl : Nat} {r0 : Recs} (o : Opg D b x2 fl r0) (hf : fl < 2) (hm : mkOf x2 = fl) : AllC D (fun y => y = r0) :=
  allC_of hf (fun x h => by rw [o.mark] at h; rw [outs_nil h, hm]) o.can
theorem Opg.same {b x2 : List Nat} {fl : Nat} {r0 : Recs} (o : Opg D b x2 fl r0) (e : D'.f = D.f) : Opg D' b x2 fl r0 :=
  ⟨by rw [e]; exact o.len, by rw [fileD_congr e]; exact o.mark, fun x h => by rw [fileD_congr e] at h; exact o.can x h⟩
/-- a step of opening: done, or the power went -/
def StepO (D : Dk) (s : Int × Dk) (b x2 : List Nat) (fl : Nat) (r0 : Recs) : Prop :=
  (s.1 = 0 ∧ s.2.off = false ∧ s.2.armed = D.armed ∧ Opg s.2 b x2 fl r0) ∨ (s.1 = 10 ∧ D.armed = true ∧ Opg s.2 b x2 fl r0)
theorem loadR_cc {x0 x1 x2 : List Nat} (ho : D.off = false) (hf : D.f = [⟨x0, []⟩, ⟨x1, []⟩, ⟨x2, []⟩]) :
    ((loadR D).1 = 0 ∧ (loadR D).2.2.l = recOf x0 x1 x2 ∧ (loadR D).2.1.f.length = 3 ∧ AllC (loadR D).2.1 (fun y => y = recOf x0 x1 x2) ∧ (loadR D).2.1.armed = D.armed ∧
      ((if mkOf x2 = 0 then x0 else x1) = layR (recOf x0 x1 x2) → okRs (recOf x0 x1 x2) → x2.length ≤ N → C (recOf x0 x1 x2) → InvC (loadR D).2.1 (loadR D).2.2 (recOf x0 x1 x2) N C ∧ fileD (loadR D).2.1 ((loadR D).2.2.file : Nat) = ⟨layR (recOf x0 x1 x2), []⟩)) ∨
    ((loadR D).1 = 10 ∧ D.armed = true ∧ (loadR D).2.1.f.length = 3 ∧ AllC (loadR D).2.1 (fun y => y = recOf x0 x1 x2)) := by
  have hlen : D.f.length = 3 := by rw [hf]; rfl
  have h2 : fileD D (2 : Nat) = ⟨x2, []⟩ := by unfold fileD; rw [hf]; rfl
  have hfl : mkOf x2 < 2 := mkOf_lt
  have hfo : fileOf D = mkOf x2 := by
    show mkOf (fileD D (2 : Nat)).seen = _
    rw [h2]; rfl
  have hrec : recOf x0 x1 x2 = (scanL (if mkOf x2 = 0 then x0 else x1)).1 := rfl
  generalize hb : (if mkOf x2 = 0 then x0 else x1) = b at *
  generalize hflg : mkOf x2 = fl at *
  have hF : fileD D (fl : Nat) = ⟨b, []⟩ := by
    unfold fileD
    rw [hf, ← hb]
    match fl, hfl with
    | 0, _ => rfl
    | 1, _ => rfl
  have hbo : bytesOf D = b := by
    show (fileD D (fileOf D : Nat)).seen = b
    rw [hfo, hF]; rfl
  have hlo : logOf D = ⟨(scanL b).1, sizeL (scanL b).1, fl, (scanL b).2, false⟩ := by
    unfold logOf scanLg
    rw [hbo, hfo]
    show (⟨[] ++ (scanL (b.drop 0)).1, 0 + sizeL (scanL (b.drop 0)).1, fl, 0 + (scanL (b.drop 0)).2, false⟩ : Lg) = _
    rw [List.drop_zero, List.nil_append, Nat.zero_add, Nat.zero_add]
  generalize hr0 : recOf x0 x1 x2 = r0 at *
  have hsl := scan_len b
  have hask : askR D 2 = 0 := by
    have := ask_off (D := D) (n := 2) (by omega)
    rw [ho] at this
    exact this
  have base : Opg D b x2 fl r0 := ⟨hlen, h2, fun x h => by rw [hF] at h; rw [outs_nil h, hrec]⟩
  -- cut
  have sc : StepO D (cutOf D) b x2 fl r0 ∧ ((scanL b).2 = b.length → (cutOf D) = (0, D)) := by
    unfold cutOf
    rw [hlo, hbo, hfo]
    show StepO D (if (scanL b).2 < b.length then cutR D (fl : Nat) ((scanL b).2 : Nat) else (0, D)) b x2 fl r0 ∧ ((scanL b).2 = b.length → (if (scanL b).2 < b.length then cutR D (fl : Nat) ((scanL b).2 : Nat) else (0, D)) = (0, D))
    refine ⟨?_, fun e => if_neg (by omega)⟩
    by_cases e : (scanL b).2 < b.length
    · rw [if_pos e]
      rcases cutR_cases (D := D) (n := fl) (p := (scanL b).2) (by omega) ho hlen (by rw [hF]; exact hsl.1) with ⟨a1, a2, a3, a4, a5⟩ | ⟨a1, a2, a3⟩
      · refine .inl ⟨a1, a2, a4, a3, by rw [a5 _ (by omega), if_neg (by omega)]; exact h2, fun x h => ?_⟩
        rw [a5 _ (by omega), if_pos rfl, hF] at h
        rcases outs_snoc (os := []) h with h | h | ⟨h, _⟩
        · rw [outs_nil h, hrec]
        · have h : x = doF b ⟨true, (scanL b).2, []⟩ := h
          rw [doF_cut rfl] at h
          have h : x = b.take (scanL b).2 := h
          rw [h, scan_take, hrec]
        · cases h
      · exact .inr ⟨a1, a2, base.same a3⟩
    · rw [if_neg e]
      exact .inl ⟨rfl, ho, rfl, base⟩
  -- synced
  have s1 : StepO D (sync1 D) b x2 fl r0 ∧ ((scanL b).2 = b.length → (sync1 D).1 = 0 → fileD (sync1 D).2 (fl : Nat) = ⟨b, []⟩) := by
    unfold sync1
    rw [hfo]
    rcases sc.1 with ⟨a1, a2, a3, a4⟩ | ⟨a1, a2, a3⟩
    · rw [if_pos a1]
      rcases syncR_cases (D := (cutOf D).2) (n := fl) (by omega) a2 a4.len with ⟨lc1, lc2, lc3, lc4, lc5⟩ | ⟨lc1, lc2, lc3⟩
      · refine ⟨.inl ⟨lc1, lc2, by rw [lc4, a3], lc3, by rw [lc5 _ (by omega), if_neg (by omega)]; exact a4.mark, fun x h => ?_⟩, fun e _ => ?_⟩
        · rw [lc5 _ (by omega), if_pos rfl] at h
          rw [outs_nil h]; exact a4.can _ outs_seen
        · rw [lc5 _ (by omega), if_pos rfl, sc.2 e, hF]; rfl
      · exact ⟨.inr ⟨lc1, by rw [← a3]; exact lc2, a4.same lc3⟩, fun _ e => by rw [lc1] at e; cases e⟩
    · rw [if_neg (by rw [a1]; omega)]
      exact ⟨.inr ⟨a1, a2, a3⟩, fun _ e => by rw [a1] at e; cases e⟩
  have s2 : StepO D (sync2 D) b x2 fl r0 ∧ ((scanL b).2 = b.length → (sync2 D).1 = 0 → fileD (sync2 D).2 (fl : Nat) = ⟨b, []⟩) := by
    unfold sync2
    rcases s1.1 with ⟨a1, a2, a3, a4⟩ | ⟨a1, a2, a3⟩
    · rw [if_pos a1]
      rcases syncR_cases (D := (sync1 D).2) (n := 2) (by omega) a2 a4.len with ⟨lc1, lc2, lc3, lc4, lc5⟩ | ⟨lc1, lc2, lc3⟩
      · have hk : fileD (syncR (sync1 D).2 2).2 (fl : Nat) = fileD (sync1 D).2 (fl : Nat) := by
          have := lc5 fl (by omega)
          rw [if_neg (by omega)] at this; exact this
        refine ⟨.inl ⟨lc1, lc2, by rw [show (syncR (sync1 D).2 2).2.armed = _ from lc4, a3], lc3, ?_, fun x h => ?_⟩, fun e _ => ?_⟩
        · have := lc5 2 (by omega)
          rw [if_pos rfl, a4.mark] at this; exact this
        · rw [hk] at h; exact a4.can x h
        · rw [hk]; exact s1.2 e a1
      · exact ⟨.inr ⟨lc1, by rw [← a3]; exact lc2, a4.same lc3⟩, fun _ e => by rw [show (syncR (sync1 D).2 2).1 = 10 from lc1] at e; cases e⟩
    · rw [if_neg (by rw [a1]; omega)]
      exact ⟨.inr ⟨a1, a2, a3⟩, fun _ e => by rw [a1] at e; cases e⟩
  have hL : loadR D = ((sync2 D).1, (sync2 D).2, logOf D) := if_pos hask
  rw [hL]
  rcases s2.1 with ⟨a1, a2, a3, a4⟩ | ⟨a1, a2, a3⟩
  · left
    refine ⟨a1, by show (logOf D).l = r0; rw [hlo, hrec], a4.len, a4.all hfl hflg, a3, fun e1 e2 e3 e4 => ?_⟩
    have hsc : scanL b = (r0, (layR r0).length) := by rw [e1]; exact scan_all e2.1
    have hlast := s2.2 (by rw [hsc, e1]) a1
    show InvC (sync2 D).2 (logOf D) r0 N C ∧ fileD (sync2 D).2 ((logOf D).file : Nat) = _
    rw [hlo, hsc]
    refine ⟨?_, by show fileD (sync2 D).2 (fl : Nat) = _; rw [hlast, e1]⟩
    exact ⟨a2, a4.len, rfl, hfl, by rw [hlast]; exact e1, e2, ⟨x2, a4.mark, hflg, e3⟩, fun x h => by rw [a4.can x h]; exact e4⟩
  · right
    exact ⟨a1, a2, a3.len, a3.all hfl hflg⟩
end
section
variable {h : Hp} {Post : AV → Hp → Prop}
theorem InvC.size {E : Dk} {L : Lg} {r : Recs} {N : Nat} {C : Recs → Prop} (i : InvC E L r N C) : L.size ≤ 2097152 ∧ L.pos ≤ 2097152 ∧ L.l.length ≤ 2097152 ∧ L.l = r := by
  have h1 := i.lg
  have h2 := i.ok.2
  have h3 := layR_len8 i.ok
  have h4 : ∀ l : Recs, l.length ≤ sizeL l := fun l => by
    induction l with
    | nil => exact Nat.le_refl _
    | cons s l ih => rw [sizeL_cons, List.length_cons]; omega
  have h5 := h4 r
  refine ⟨by rw [h1]; exact h2, by rw [h1]; exact h3, by rw [h1]; show r.length ≤ _; omega, by rw [h1]⟩
theorem appL_few {E : Dk} {L : Lg} {x : List Nat} {N : Nat} (w : Few E N) : Few (appL E L x).2.1 (N + 1) := by
  unfold appL
  split
  · exact w.mono (by omega)
  · split
    · exact w.mono (by omega)
    · split
      · exact w.mono (by omega)
      · split
        · exact writeR_few w
        · exact writeR_few w
theorem loadR_few {E : Dk} {N : Nat} (w : Few E N) : Few (loadR E).2.1 (N + 1) := by
  unfold loadR
  split
  · exact sync2_few w
  · exact w.mono (by omega)
end
theorem len_sizeL : ∀ l : Recs, l.length ≤ sizeL l
  | [] => Nat.le_refl _
  | s :: l => by rw [sizeL_cons, List.length_cons]; have := len_sizeL l; omega
section
variable {g h : Hp} {a b : AV} {l m : List Nat} {Post : AV → Hp → Prop}
theorem nums_in {o : D.Op} (h : mayO o = true) (hk : Bytes8 o.key) {d : AV} {h0 : Hp} (r : IR h0 d o.deps) : D.kOp.K h0 o (opC o d) := by
  obtain ⟨s1, s2, s3, s4, s5⟩ := mayO_nums h
  obtain ⟨x, hx, hs⟩ := (op_parts h hk).seq
  have hx2 := s2 x (List.mem_of_getElem? hx)
  have i : ∀ n : Int, -1 ≤ n → n ≤ 1099511627777 → In64 n := fun n h1 h2 => ⟨by omega, by omega⟩
  rcases s5 with ⟨k1, k2, k3, k4, k5, k6⟩ | ⟨k1, k2, k3, k4⟩
  · exact op_mk (i _ (by omega) (by omega)) (i _ (by omega) (by omega)) (i _ (by omega) (by omega)) r (by omega) (i _ (by omega) (by omega)) (i _ (by omega) (by omega)) (i _ (by omega) (by omega)) (i _ (by omega) (by omega)) (i _ (by omega) (by omega)) (by omega) hk (i _ (by omega) (by omega)) (i _ (by omega) (by omega))
  · have hp : o.parent.time = 0 ∧ o.parent.rep = 0 := by rw [k3]; exact ⟨rfl, rfl⟩
    exact op_mk (i _ (by omega) (by omega)) (i _ (by omega) (by omega)) (i _ (by omega) (by omega)) r (by omega) (i _ (by omega) (by omega)) (i _ (by omega) (by omega)) (i _ (by omega) (by omega)) (i _ (by omega) (by omega)) (i _ (by omega) (by omega)) (by rw [k4]; simp) hk (i _ (by omega) (by omega)) (i _ (by omega) (by omega))
end
/-- what reading leaves: a frame of its own, or none -/
structure FrmOwn (g h : Hp) (a b : AV) (v : List Int) (l : List D.Op) : Prop where
  le : g.le h
  lo : h.lo = g.lo
  vec : (Kn.int.Own g h a v ∧ b = .ns ∧ l = []) ∨ (a = .ns ∧ v = [] ∧ OpOwn g h b l)
theorem FrmOwn.ra {g h : Hp} {a b : AV} {v : List Int} {l : List D.Op} (o : FrmOwn g h a b v l) : IR h a v := by
  rcases o.vec with ⟨h1, _, _⟩ | ⟨h1, h2, _⟩
  · exact h1.row
  · rw [h1, h2]; exact nsI
theorem FrmOwn.nil {g h : Hp} (le : g.le h) (lo : h.lo = g.lo) : FrmOwn g h .ns .ns [] [] := ⟨le, lo, .inl ⟨(Kn.Own.nil _ h).mono le lo, rfl, rfl⟩⟩
theorem OpOwn.take {g h : Hp} {a : AV} {l : List D.Op} (o : OpOwn g h a l) {q : List Nat} {r : AV} (br : BR g r q) (hb : q.length < 31000000) (hq : Bytes8 q) (hl : l.length < 100) {Post : AV → Hp → Prop}
    (k1 : (takeO q).2.2 ≠ 0 → ∀ d h', d.sc = true → OpOwn g h' a l → Post (.tup [.agg (opC (takeO q).1 d), .i .i64 ((takeO q).2.1 : Nat), .i .i64 (takeO q).2.2]) h')
    (k2 : (takeO q).2.2 = 0 → ∀ d h', d.sc = true → (∀ (Q : Option AV → Hp → Prop), (∀ r' h2, OpOwn g h2 r' (l ++ [(takeO q).1]) → Q (some r') h2) → wpE (.app a 1 (.lit (opC (takeO q).1 d)) 12) Q h') → Post (.tup [.agg (opC (takeO q).1 d), .i .i64 ((takeO q).2.1 : Nat), .i .i64 (takeO q).2.2]) h') : wpC Try.prog 46 [r] Post h := by
  obtain ⟨p, css, qs, oe⟩ := o
  refine (oe.fr.call (Q := fun w p' => ∃ d, w = .tup [.agg (opC (takeO q).1 d), .i .i64 ((takeO q).2.1 : Nat), .i .i64 (takeO q).2.2] ∧ Kn.int.Own p p' d (takeO q).1.deps) (c29o (br.mono oe.le) hb fun d h' o => ⟨d, rfl, o⟩)).mono ?_
  rintro w h1 ⟨p', fr, hlo, d, rfl, ow⟩
  by_cases e : (takeO q).2.2 = 0
  · obtain ⟨w1, w2, w3, w4⟩ := takeO_was hq e
    exact k2 e _ _ ow.sc fun Q kq => OpOwn.snoc oe fr hlo (nums_in w1 w4 ow.row) ow (by omega) kq
  · refine k1 e _ _ ow.sc ⟨p', css, qs, Hp.le_trans oe.le ow.le, hlo.trans oe.lo, fr, oe.len, fun i => Hp.le_trans (oe.sub i) ow.le, oe.dj, oe.dd, oe.qlo, oe.own, oe.el⟩
/- slices.Clone[[]arras/api.Op,arras/api.Op] -/
theorem vc47 (a : AV) (h : Hp) (Post : AV → Hp → Prop) : vcCall Try.prog [] 47 [(SV.vv a)] h Post = (
  onO (nilSl a) fun lc0 =>
  onB lc0 (Post AV.ns h)
    (∀ (p0 : Nat),
      h.g p0 = none →
        h.lo.le p0 →
          onO (srcV 12 a) fun r0 =>
            onC (((4 * r0.fst + 4000) * 120).ble (OfNat.ofNat 17179869184)) (wpE (Eff.app (AV.sl p0 0 0 0 true 12) r0.fst r0.snd 12) (fun x0 h0 => onO x0 fun a0 => Post a0 h0) (h.put p0 [])))) := by kernel_rfl
/- arras/arraslaw24.StoreStrange -/
theorem vc3 (a : AV) (h : Hp) (Post : AV → Hp → Prop) : vcCall Try.prog [9000020, 28999999] 3 [(SV.vv a)] h Post = (
  wpC Try.prog 6 [a]
  (fun a0 h0 =>
    onRet [Sh.one (Kd.int IntKind.i64)] a0 fun n0 =>
      onB (decide (8000 < n0)) (Post (AV.b true) h0)
        (∃ I0 : Nat → Bool → Int → Hp → Prop,
          (∃ p0, I0 p0 false 0 h0) ∧
            ∀ (p1 : Nat) (h1 : Hp) (lc0 : Bool) (n1 : Int),
              I0 p1 lc0 n1 h1 →
                ∃ I1 : Bool → Hp → Prop,
                  (onO (intO BinOp.add IntKind.i64 n1 2) fun n2 => onO (lenV a) fun p2 => onB (decide (n2 < ↑p2)) (I1 (decide (n1 < 6)) h1) (I1 false h1)) ∧
                    ∀ (h2 : Hp) (lc1 : Bool),
                      I1 lc1 h2 →
                        onB lc1
                          (onO (idxV a n1 1) fun r0 =>
                            onO (rdH h2 r0.fst r0.snd 1) fun l0 =>
                              onL [Kd.ref] l0 fun a1 =>
                                wpC Try.prog 8 [a1]
                                  (fun a2 h3 =>
                                    onRet [Sh.one Kd.ref] a2 fun a3 =>
                                      onO (intO BinOp.add IntKind.i64 n1 1) fun n3 =>
                                        onO (idxV a n3 1) fun r1 =>
                                          onO (rdH h3 r1.fst r1.snd 1) fun l1 =>
                                            onL [Kd.ref] l1 fun a4 =>
                                              sameH h2 h3 r1.fst r1.snd 1 ∧
                                                wpC Try.prog 8 [a4]
                                                  (fun a5 h4 =>
                                                    onRet [Sh.one Kd.ref] a5 fun a6 =>
                                                      onO (intO BinOp.add IntKind.i64 n1 2) fun n4 =>
                                                        onO (idxV a n4 1) fun r2 =>
                                                          onO (rdH h4 r2.fst r2.snd 1) fun l2 =>
                                                            onL [Kd.ref] l2 fun a7 =>
                                                              sameH h3 h4 r2.fst r2.snd 1 ∧
                                                                sameH h2 h3 r2.fst r2.snd 1 ∧
                                                                  wpC Try.prog 8 [a7]
                                                                    (fun a8 h5 =>
                                                                      onRet [Sh.one Kd.ref] a8 fun a9 =>
                                                                        ∀ (p3 : Nat),
                                                                          h5.g p3 = none →
                                                                            h5.lo.le p3 →
                                                                              wpC Try.prog 7 [AV.sl p3 0 3 3 true 1]
                                                                                (fun a10 h6 =>
                                                                                  onRet [Sh.one Kd.ref] a10 fun a11 =>
                                                                                    onO (nilP a11) fun lc2 =>
                                                                                      onB lc2 (Post (AV.b false) h6)
                                                                                        (wpC Try.prog 9 [a11]
                                                                                          (fun a12 h7 =>
                                                                                            onTup [Sh.one Kd.ref, Sh.one (Kd.int IntKind.i64)] a12 fun a13 n5 =>
                                                                                              onO (nilP a13) fun lc3 =>
                                                                                                wpC Try.prog 10 [AV.i IntKind.i64 n5]
                                                                                                  (fun a14 h8 =>
                                                                                                    onRet [Sh.one (Kd.int IntKind.i64)] a14 fun n6 =>
                                                                                                      onB (!lc3 == !decide (n6 = 0)) (Post (AV.b false) h8)
                                                                                                        (onO (nilP a13) fun lc4 =>
                                                                                                          ∃ I2 : Bool → Hp → Prop,
                                                                                                            onB (!lc4)
                                                                                                                (wpC Try.prog 11 [a13]
                                                                                                                  (fun a15 h9 =>
                                                                                                                    onRet [Sh.one Kd.ref] a15 fun a16 =>
                                                                                                                      ∃ I3 : Nat → Bool → Int → Hp → Prop,
                                                                                                                        (∃ p4, I3 p4 lc0 0 h9) ∧
                                                                                                                          ∀ (p5 : Nat) (h10 : Hp) (lc5 : Bool) (n7 : Int),
                                                                                                                            I3 p5 lc5 n7 h10 →
                                                                                                                              onO (lenV a16) fun p6 =>
                                                                                                                                onB (decide (n7 < ↑p6))
                                                                                                                                  (onO (idxV a16 n7 12) fun r3 =>
                                                                                                                                    onO (rdH h10 r3.fst r3.snd 12) fun l3 =>
                                                                                                                                      onL
                                                                                                                                        [Kd.int IntKind.i64, Kd.int IntKind.i64, Kd.int IntKind.i64,
                                                                                                                                          Kd.ref, Kd.int IntKind.i64, Kd.int IntKind.i64,
                                                                                                                                          Kd.int IntKind.i64, Kd.int IntKind.i64, Kd.int IntKind.i64,
                                                                                                                                          Kd.str, Kd.int IntKind.i64, Kd.int IntKind.i64]
                                                                                                                                        l3 fun n8 n9 n10 a17 n11 n12 n13 n14 n15 l4 n16 n17 =>
                                                                                                                                        wpC Try.prog 12
                                                                                                                                          [AV.agg
                                                                                                                                              [AV.i IntKind.i64 n8, AV.i IntKind.i64 n9,
                                                                                                                                                AV.i IntKind.i64 n10, a17, AV.i IntKind.i64 n11,
                                                                                                                                                AV.i IntKind.i64 n12, AV.i IntKind.i64 n13,
                                                                                                                                                AV.i IntKind.i64 n14, AV.i IntKind.i64 n15, AV.s l4,
                                                                                                                                                AV.i IntKind.i64 n16, AV.i IntKind.i64 n17]]
                                                                                                                                          (fun a18 h11 =>
                                                                                                                                            onRet [Sh.one Kd.bool] a18 fun lc6 =>
                                                                                                                                              onB (!lc6) (Post (AV.b false) h11)
                                                                                                                                                (onO (intO BinOp.add IntKind.i64 n7 1) fun n18 =>
                                                                                                                                                  ∃ p7, ltN p7 p5 ∧ I3 p7 lc5 n18 h11))
                                                                                                                                          h10)
                                                                                                                                  (I2 lc5 h10))
                                                                                                                  h8)
                                                                                                                (I2 lc0 h8) ∧
                                                                                                              ∀ (h12 : Hp) (lc7 : Bool),
                                                                                                                I2 lc7 h12 →
                                                                                                                  onO (intO BinOp.add IntKind.i64 n1 1) fun n19 => ∃ p8, ltN p8 p1 ∧ I0 p8 lc7 n19 h12))
                                                                                                  h7)
                                                                                          h6))
                                                                                (h5.put p3 [a3, a6, a9]))
                                                                    h4)
                                                  h3)
                                  h2)
                          (wpC Try.prog 13 [] (fun a19 h13 => onRet [Sh.one Kd.bool] a19 fun lc8 => Post (AV.b lc8) h13) h2)))
  h) := by kernel_rfl
/-- operations in a part of their own -/
def OpsP (lo : Nat) (q : Hp) (a : AV) (l : List D.Op) : Prop := q.lo = lo ∧ OpOwn (Hp.none lo) q a l
theorem OpsP.row {lo : Nat} {q H : Hp} {a : AV} {v : List D.Op} (p : OpsP lo q a v) (l : q.le H) : OpRow H a v := by
  have r : OpRow q a v := OpOwn.kn p.2 |>.row
  exact r.mono l
theorem OpsP.of {g H : Hp} {a : AV} {l : List D.Op} (o : OpOwn g H a l) : ∃ q, q.le H ∧ Disj q g ∧ OpsP g.lo q a l := by
  obtain ⟨q, q1, q2, q3, q4⟩ := o.part
  exact ⟨q, q1, q2, q3, q4⟩
/-- operations that are new -/
def NewOps (h h' : Hp) (r : AV) (l : List D.Op) : Prop := h.le h' ∧ h'.lo = h.lo ∧ ∃ q, q.le h' ∧ Disj q h ∧ OpsP h.lo q r l
theorem NewOps.of {h h' : Hp} {r : AV} {l : List D.Op} (o : OpOwn h h' r l) : NewOps h h' r l := ⟨o.kn.le, o.kn.lo, OpsP.of o⟩
theorem NewOps.row {h h' : Hp} {r : AV} {l : List D.Op} (o : NewOps h h' r l) : OpRow h' r l := by
  obtain ⟨_, _, q, q1, _, q3⟩ := o
  exact q3.row q1
theorem NewOps.sc {h h' : Hp} {r : AV} {l : List D.Op} (o : NewOps h h' r l) : r.sc = true := o.row.sc
theorem NewOps.frozen {h h' F : Hp} {r : AV} {l : List D.Op} (o : NewOps h h' r l) : OpRow (moreH h h' F) r l := by
  obtain ⟨_, _, q, q1, q2, q3⟩ := o
  exact q3.row (more_new q1 q2)
theorem op_key {h : Hp} {o : D.Op} {c : List AV} (k : D.kOp.K h o c) : Bytes8 o.key := by
  obtain ⟨d0, e, f1, f2, f3, f4, f5, f6, f7, f8, f9, f10, f11, f12⟩ := D.kOp_open k
  exact f10.2
theorem op_keys {h : Hp} {a : AV} {l : List D.Op} (r : OpRow h a l) : ∀ o ∈ l, Bytes8 o.key := fun o ho => by
  obtain ⟨j, hj⟩ := List.getElem?_of_mem ho
  obtain ⟨b, p, c, e1, e2, e3⟩ := r.idx (i := (j : Int)) (x := o) (Int.natCast_nonneg j) (by simpa using hj)
  exact op_key e3
theorem may_opk {o : D.Op} (h : mayO o = true) : opOk o := by
  have := (mayO_nums h).len
  show o.deps.length < 32000000; omega
theorem takeO_in' {l : List Nat} (hl : Bytes8 l) (h : (takeO l).2.2 = 0) {d : AV} {h0 : Hp} (r : IR h0 d (takeO l).1.deps) : D.kOp.K h0 (takeO l).1 (opC (takeO l).1 d) := by
  obtain ⟨w1, w2, w3, w4⟩ := takeO_was hl h
  exact nums_in w1 w4 r
section
variable {h : Hp} {a b : AV} {l : List D.Op} {o : D.Op} {Post : AV → Hp → Prop}
theorem c47 {css : List (List AV)} (rc : Raw h a 12 css) (ka : All2 (D.kOp.K h) l css) (hl : l.length < 31000000) (k : ∀ r h', Fresh h h' r 12 css → Post r h') : wpC Try.prog 47 [a] Post h := by
  have ra : OpRow h a l := ⟨css, rc, ka⟩
  refine call_sound (args := [.vv a]) (cuts := []) ⟨ra.sc, trivial⟩ ?_
  rw [vc47]
  have hlen := ka.length
  refine clone_body (d := kRw 12) ⟨css, rc, kRw_mk (d := D.kOp) ka⟩ rfl kRw_flat (by omega) (Nat.ble_eq_true_of_le (by show (4 * css.length + 4000) * 120 ≤ 17179869184; omega)) fun r h' o => ?_
  obtain ⟨p, css', p1, p2, f, f2⟩ := o
  have := kRw_all f2
  subst this
  exact k r h' (f.mono p1 p2)
/-- all of it taken over -/
theorem c29 (ra : OpRow h a l) (hl : l.length < 31000000) (ho : ∀ o ∈ l, opOk o) (k : ∀ r h', NewOps h h' r l → Post r h') : wpC Try.prog 29 [a] Post h := by
  refine call_sound (args := [.vv a]) (cuts := []) ⟨ra.sc, trivial⟩ ?_
  rw [vc29]
  obtain ⟨css, rc, ka⟩ := ra
  have hlen := ka.length
  refine c47 rc ka hl fun r h0 f0 => onRet.r f0.row.sc (onO.mk f0.row.len ?_)
  refine ⟨fun m n0 h' => ∃ (i : Nat) (G : Hp) (css' : List (List AV)) (qs : Nat → Hp), n0 = i ∧ i ≤ l.length ∧ m = l.length - i ∧ Fresh G h' r 12 css' ∧ h.le G ∧ G.lo = h.lo ∧ css'.length = l.length ∧ (∀ j, (qs j).le G) ∧ (∀ j, Disj (qs j) h) ∧ (∀ j j', j ≠ j' → Disj (qs j) (qs j')) ∧ (∀ j, (qs j).lo = G.lo) ∧ (∀ j b, (qs j).g b ≠ none → G.lo ≤ b) ∧ (∀ j x c, j < i → l[j]? = some x → css'[j]? = some c → eOp (qs j) x c) ∧ (∀ j, i ≤ j → css'[j]? = css[j]?) ∧ ∀ j, i ≤ j → qs j = Hp.none h.lo,
    ⟨l.length, 0, h, css, fun _ => Hp.none h.lo, rfl, by omega, rfl, f0, Hp.le_refl _, rfl, hlen.symm ▸ rfl, fun _ => none_le _ _, fun _ k c e => (by cases e), fun _ _ _ k c e => (by cases e), fun _ => rfl, fun _ b e => absurd rfl e, fun j x c hj => by omega, fun _ _ => rfl, fun _ _ => rfl⟩, ?_⟩
  rintro m h1 _ ⟨i, G, css', qs, rfl, hi, rfl, f, hG, loG, hl', q1, q2, q3, q4, q5, q6, q7, q8⟩
  refine onB.dec (fun e => ?_) (fun e => ?_)
  · obtain ⟨x, hx⟩ := get_lt (l := l) (k := i) (by omega)
    obtain ⟨c, hc⟩ := get_lt (l := css) (k := i) (by omega)
    have hc' : css'[i]? = some c := by rw [q7 i (Nat.le_refl _)]; exact hc
    have kx := ka.get2 hx hc
    obtain ⟨d, rfl, rd⟩ := op_cells kx
    have hod := ho x (List.mem_of_getElem? hx)
    obtain ⟨b, of, e1, e2, e3⟩ := f.row.idx (i := (i : Int)) (Int.natCast_nonneg i) (by simpa using hc')
    refine onO.mk e1 (onO.mk e2 (onL.op rd.sc ?_))
    refine (f.call (Q := fun v p' => ∃ r', v = .agg (opC x r') ∧ Kn.int.Own G p' r' x.deps) (c48 (o := x) (rd.mono hG) hod fun r' h' ow => ⟨r', rfl, ow⟩)).mono ?_
    rintro v h2 ⟨p', f', hlo, r', rfl, ow⟩
    obtain ⟨qd, d1, d2, d3, d4, d5, d6⟩ := ow.part
    have kk : eOp qd x (opC x r') := ⟨op_again kx d6, r', rfl, by rw [d3]; exact d5⟩
    refine onRet.op ow.sc (f'.set hc' 0 (new := opC x r') (by simp [opC]) (D.kOp.sc kk.1) fun h3 f3 => ?_)
    have esp : splice (opC x d) 0 (opC x r') = opC x r' := rfl
    rw [esp] at f3
    have hGp : G.le p' := ow.le
    have cs : ∀ {P : Hp → Prop} (j : Nat), (j ≠ i → P (qs j)) → (j = i → P qd) → P (if j = i then qd else qs j) := fun {P} j a1 a2 => by
      by_cases h : j = i
      · rw [if_pos h]; exact a2 h
      · rw [if_neg h]; exact a1 h
    refine onO.mk (inc64 (by omega)) ⟨_, by show l.length - (i + 1) < l.length - i; omega, i + 1, p', _, fun j => if j = i then qd else qs j, rfl, by omega, rfl, f3, Hp.le_trans hG hGp, hlo.trans loG, by rw [List.length_set]; exact hl', fun j => cs (P := fun q => q.le p') j (fun _ => Hp.le_trans (q1 j) hGp) fun _ => d1, fun j => cs (P := fun q => Disj q h) j (fun _ => q2 j) fun _ => d2.le_right hG, fun j j' hjj => ?_, fun j => cs (P := fun q => q.lo = p'.lo) j (fun _ => (q4 j).trans hlo.symm) fun _ => d3.trans hlo.symm, fun j => cs (P := fun q => ∀ b, q.g b ≠ none → p'.lo ≤ b) j (fun _ b hb => by rw [hlo]; exact q5 j b hb) fun _ b hb => by rw [hlo]; exact d4 b hb, fun j y c' hj hy hc'' => ?_, fun j hj => ?_, fun j hj => ?_⟩
    · refine cs (P := fun q => Disj q (if j' = i then qd else qs j')) j (fun hj => ?_) fun hj => ?_
      · exact cs (P := fun q => Disj (qs j) q) j' (fun _ => q3 _ _ hjj) fun _ => (d2.le_right (q1 j)).symm
      · exact cs (P := fun q => Disj qd q) j' (fun _ => d2.le_right (q1 j')) fun hj' => by omega
    · by_cases hji : j = i
      · subst hji
        rw [hx] at hy; injection hy with hy; subst hy
        rw [List.getElem?_set_self (by omega)] at hc''
        injection hc'' with hc''; subst hc''
        simp only [if_pos rfl]
        exact kk
      · rw [List.getElem?_set_ne (by omega)] at hc''
        simp only [if_neg hji]
        exact q6 j y c' (by omega) hy hc''
    · rw [List.getElem?_set_ne (by omega)]; exact q7 j (by omega)
    · simp only [if_neg (show j ≠ i by omega)]; exact q8 j (by omega)
  · have : i = l.length := by omega
    subst this
    have o : OwnE eOp 12 (G.res fun k => ∀ i, (qs i).g k = none) h1 r l G css' qs :=
      ⟨Hp.res_le _ _, rfl, f, hl', q1, fun i k c h => Hp.res_out fun hk => (by rw [hk i] at h; cases h), q3, q4, q5, fun j x c hx hc => q6 j x c (List.getElem?_eq_some_iff.1 hx).1 hx hc⟩
    obtain ⟨q, z1, z2, z3⟩ := OpsP.of ⟨G, css', qs, o⟩
    refine k r h1 ⟨Hp.le_trans hG f.le, f.lo.trans loG, q, z1, z2.le_right fun k c e => ?_, by rw [← loG]; exact z3⟩
    rw [Hp.res_in fun i => (q2 i).symm k c e]
    exact hG k c e
theorem c10 {x : Int} (k : Post (.i .i64 x) h) : wpC Try.prog 10 [.i .i64 x] Post h := by
  refine call_sound (args := [.ii .i64 x]) (cuts := []) ⟨trivial, trivial⟩ ?_
  rw [vc10]; exact k
end
structure StP where
  l : List D.Op
  size : Nat
  dead : Bool
def stC (q : Nat) (v : AV) (S : StP) : List AV := [.p q 0, v, .i .i64 (S.size : Nat), .b S.dead]
structure StM (lo : Nat) (F : Hp) (Q : Nat → Hp) (w q dp : Nat) (r : AV) (a : Nat → AV) (v : AV) (E : Dk) (L : Lg) (S : StP) : Prop where
  lg : LgM lo F Q q dp r a E L
  box : Q 12 = Hp.one w (stC q v S) lo
  wlo : lo ≤ w
  ops : RowP D.kOp F lo (Q 13) v S.l
  ok : ∀ o ∈ S.l, mayO o = true
theorem LgM.same {lo q dp : Nat} {F : Hp} {Q Q' : Nat → Hp} {a : Nat → AV} {r : AV} {E : Dk} {L : Lg} (m : LgM lo F Q q dp r a E L) (e : ∀ j, j < 12 → Q' j = Q j) : LgM lo F Q' q dp r a E L :=
  ⟨by rw [e 10 (by omega)]; exact m.box, m.qlo, by rw [e 11 (by omega)]; exact m.row, m.dk.same fun j _ _ => e j (by omega), m.file⟩
section
variable {lo w q dp : Nat} {F F' h h' : Hp} {Q Q' : Nat → Hp} {a a' : Nat → AV} {r r' v v' b : AV} {E E' : Dk} {L L' : Lg} {S S' : StP} {Post : AV → Hp → Prop} {l : List D.Op}
theorem StM.fmono (m : StM lo F Q w q dp r a v E L S) (f : F.le F') : StM lo F' Q w q dp r a v E L S := ⟨m.lg.fmono f, m.box, m.wlo, m.ops.mono f, m.ok⟩
theorem StM.log (m : StM lo F Q w q dp r a v E L S) (f : F.le F') (m' : LgM lo F' Q' q dp r' a' E' L') (u : Upd 0 12 Q Q') : StM lo F' Q' w q dp r' a' v E' L' S :=
  ⟨m', by rw [u 12 (by omega)]; exact m.box, m.wlo, by rw [u 13 (by omega)]; exact m.ops.mono f, m.ok⟩
theorem StM.same (m : StM lo F Q w q dp r a v E L S) (e : ∀ j, j < 14 → Q' j = Q j) : StM lo F Q' w q dp r a v E L S :=
  ⟨m.lg.same fun j hj => e j (by omega), by rw [e 12 (by omega)]; exact m.box, m.wlo, by rw [e 13 (by omega)]; exact m.ops, m.ok⟩
theorem st_word (s : Sep lo F Q h) (e : Q 12 = Hp.one w (stC q v S) lo) : rdH h w (0 + 0) 1 = some [.p q 0] ∧ rdH h w (0 + 1) 1 = some [v] ∧ rdH h w (0 + 2) 1 = some [.i .i64 (S.size : Nat)] ∧ rdH h w (0 + 3) 1 = some [.b S.dead] :=
  ⟨rdBox (s.box e) rfl, rdBox (s.box e) rfl, rdBox (s.box e) rfl, rdBox (s.box e) rfl⟩
theorem st_put (s : Sep lo F Q h) (e : Q 12 = Hp.one w (stC q v S) lo) (wlo : lo ≤ w) {i : Nat} {x : AV} (hx : x.sc = true) {c : List AV} (hc : splice (stC q v S) (0 + i) [x] = c) (hi : i < 4) {Post : Option AV → Hp → Prop}
    (k : ∀ h', Sep lo F (updQ Q 12 (Hp.one w c lo)) h' → Post none h') : wpE (.w w (0 + i) (.lit [x]) none) Post h := by
  refine wpE.w (s.box e) (by rw [s.hlo]; exact wlo) (new := [x]) rfl (by show _ + 1 ≤ 4; omega) (by simp [hx]) (k _ ?_)
  rw [hc]; exact s.put e _
theorem drop_cons {α : Type} {l : List α} {j : Nat} {x : α} (h : l[j]? = some x) : l.drop j = x :: l.drop (j + 1) := by
  obtain ⟨h1, h2⟩ := List.getElem?_eq_some_iff.1 h
  rw [List.drop_eq_getElem_cons h1, h2]
theorem src_up {h h' : Hp} (l : h.le h') {s : Src} {c : List AV} (e : srcH h s = some c) : srcH h' s = some c := by
  cases s with
  | lit l => exact e
  | mem b o n => exact rdH_le l e
theorem bytes_enc : ∀ (n : Nat), Bytes8 (enc n) := by
  intro n
  induction n using Nat.strongRecOn with
  | ind n ih =>
    by_cases h : n < 128
    · rw [enc_small h]; intro x hx; simp at hx; omega
    · rw [enc_big (by omega)]
      intro x hx
      rcases List.mem_cons.1 hx with rfl | hx
      · omega
      · exact ih (n / 128) (by omega) x hx
theorem Bytes8.append {a b : List Nat} (ha : Bytes8 a) (hb : Bytes8 b) : Bytes8 (a ++ b) := fun x hx => (List.mem_append.1 hx).elim (ha x) (hb x)
theorem bytes_encs : ∀ (v : List Int), Bytes8 (encs v)
  | [] => fun x hx => by simp [encs] at hx
  | x :: v => by rw [encs_cons]; exact (bytes_enc _).append (bytes_encs v)
theorem bytes_opE {o : D.Op} (hk : Bytes8 o.key) : Bytes8 (opE o) := by
  unfold opE
  refine ((((bytes_enc _).append (bytes_enc _)).append ((bytes_enc _).append (bytes_encs _))).append (bytes_enc _)).append ((bytes_enc _).append (bytes_enc _)) |>.append ?_
  split
  · exact ((bytes_enc _).append (bytes_enc _)).append ((bytes_enc _).append hk)
  · exact (bytes_enc _).append (bytes_enc _)
/-- what is one of a store's records -/
def recO (b : List Nat) : Prop := (takeO b).2.2 = 0 ∧ (takeO b).2.1 = b.length
instance (b : List Nat) : Decidable (recO b) := inferInstanceAs (Decidable (_ ∧ _))
def readS (S : StP) (b : List Nat) : StP := ⟨S.l ++ [(takeO b).1], S.size + b.length + 16, S.dead⟩
/-- ways that keep all but some parts -/
def Kp (n m : Nat) (Q Q' : Nat → Hp) : Prop := ∀ j, j < n ∨ m ≤ j → Q' j = Q j
theorem c28 {b : List Nat} (s : Sep lo F Q h) (m : StM lo F Q w q dp r a v E L S) (hb : b.length ≤ 30000000) (h8 : Bytes8 b) (hl : S.l.length < 31000000) (hs : S.size < 4611686018427387904)
    (k1 : ¬ recO b → ∀ F' h', F.le F' → Sep lo F' Q h' → Post (.b false) h')
    (k2 : recO b → ∀ F' v' Q' h', F.le F' → Sep lo F' Q' h' → StM lo F' Q' w q dp r a v' E L (readS S b) → Kp 12 14 Q Q' → Post (.b true) h') : wpC Try.prog 28 [.p w 0, .s b] Post h := by
  refine call_sound (args := [.vv (.p w 0), .ss b]) (cuts := []) ⟨rfl, trivial, trivial⟩ ?_
  rw [vc28]
  intro p0 hp hlo
  have s0 := s.grow (Hp.le_put hp) rfl (h' := h.put p0 (bytesV b))
  have br : BR (h.put p0 (bytesV b)) (.sl p0 0 b.length b.length false 1) b := by
    have ob : Kn.byte.Own h (h.put p0 (bytesV b)) (.sl p0 0 b.length b.length false 1) b :=
      ⟨h, b.map fun y => [.i .u8 (.ofNat y)], Hp.le_refl _, rfl, Fresh.put (Hp.le_refl _) rfl hp hlo (css := b.map fun y => [.i .u8 (.ofNat y)]) (sz := 1) (len := b.length) false (fun c hc => by
        obtain ⟨y, _, rfl⟩ := List.mem_map.1 hc; rfl) (by simp) (ofU8_flat b), bytes_all h8⟩
    exact ob.row
  refine c29o br (by omega) fun d h1 o1 => onTup.opii o1.sc fun _ => ?_
  have s1 := s0.frz o1.le o1.lo
  have f1 := s0.fgrow o1.le
  refine onB.ndec (fun e => k1 (fun e2 => e e2.1) _ h1 f1 s1) fun e => onB.ndec (fun e2 => k1 (fun e3 => e2 (by rw [e3.2])) _ h1 f1 s1) fun e2 => ?_
  have hr : recO b := ⟨e, by omega⟩
  have m1 := m.fmono f1
  obtain ⟨y0, y1, y2, y3⟩ := st_word s1 m1.box
  have hx := takeO_in' h8 e (o1.frozen int_flat (F := F))
  refine onO.mk rfl (onO.mk y1 (onL.r1 m1.ops.sc fun _ => ?_))
  refine s1.app1 (i := 13) m1.ops (sz := 12) rfl hx (by omega) fun v2 h2 q13 s2 p2 => onO.mk rfl (onO.mk rfl ?_)
  have e12 : updQ Q 13 q13 12 = Hp.one w (stC q v S) lo := by rw [updQ_ne (by omega)]; exact m1.box
  obtain ⟨z0, z1, z2, z3⟩ := st_word s2 e12
  refine onO.mk z2 (onL.i1 ⟨onO.mk y2 z2, ?_⟩)
  refine onO.mk (a := ((S.size + b.length : Nat) : Int)) (add64 (by omega) (by omega)) (onO.mk (a := ((S.size + b.length + 16 : Nat) : Int)) (add64 (by omega) (by omega)) ?_)
  refine onO.mk rfl (st_put s2 e12 m.wlo (i := 1) p2.sc (c := stC q v2 S) rfl (by omega) fun h3 s3 => onO.mk rfl (st_put s3 updQ_same m.wlo (i := 2) rfl (c := stC q v2 (readS S b)) rfl (by omega) fun h4 s4 => ?_))
  refine k2 hr _ v2 _ h4 f1 s4 ⟨m1.lg.same fun j hj => by rw [updQ_ne (by omega), updQ_ne (by omega), updQ_ne (by omega)], updQ_same, m.wlo, by rw [updQ_ne (by omega), updQ_ne (by omega), updQ_same]; exact p2, fun o ho => ?_⟩ fun j hj => by rw [updQ_ne (by omega), updQ_ne (by omega), updQ_ne (by omega)]
  rcases List.mem_append.1 ho with ho | ho
  · exact m.ok o ho
  · simp at ho; subst ho; exact (takeO_was h8 e).1
/-- operations that are seen as long as a part is kept -/
def VwO (lo : Nat) (F : Hp) (Q : Nat → Hp) (b : AV) (l : List D.Op) : Prop := ∀ F' Q' h', F.le F' → Sep lo F' Q' h' → Q' 14 = Q 14 → OpRow h' b l
theorem VwO.frz (row : OpRow F b l) : VwO lo F Q b l := fun _ _ _ f s _ => (row.mono f).mono s.fle
/-- more operations appended, their data frozen -/
theorem Sep.appN {m : List D.Op} (s : Sep lo F Q h) {i : Nat} (rp : RowP D.kOp F lo (Q i) v l) (row : OpRow F b m) (hl : l.length < 10000000) (hm : m.length < 20000) {Post : Option AV → Hp → Prop}
    (k : ∀ a' h' q', Sep lo F (updQ Q i q') h' → RowP D.kOp F lo q' a' (l ++ m) → Post (some a') h') : onO (srcV 12 b) fun r0 => onC (((4 * r0.1 + 4000) * 120).ble (OfNat.ofNat 17179869184)) (wpE (.app v r0.1 r0.2 12) Post h) := by
  obtain ⟨css, rr, kk⟩ := row
  have hcl := kk.length
  obtain ⟨src, t1, t2⟩ := rr.src
  refine onO.mk (a := (css.length, src)) t1 (onC.mk (Nat.ble_eq_true_of_le (by show (4 * css.length + 4000) * 120 ≤ 17179869184; omega)) ?_)
  obtain ⟨ocs, p13, k13⟩ := rp
  have ol := k13.length
  refine (s.own kRw_flat p13).app (sz := 12) rfl kRw_flat (kRw_mk (d := D.kOp) kk) (src_up s.fle t2) rfl (by omega) fun v5 h5 o5 => ?_
  obtain ⟨q13, s5, p5⟩ := s.back kRw_flat o5
  exact k v5 h5 q13 s5 ⟨_, p5, k13.append kk⟩
/-- the operations' records -/
def recsO (l : List D.Op) : Recs := l.map opE
theorem recs_len {l : List D.Op} (h : ∀ o ∈ l, mayO o = true) : sizeL (recsO l) ≤ 416 * l.length := by
  have := sizeL_le (k := 400) (l := recsO l) fun x hx => by
    obtain ⟨o, ho, rfl⟩ := List.mem_map.1 hx
    exact opE_len (h o ho)
  rw [show (recsO l).length = l.length from List.length_map _] at this
  omega
theorem c40 (s : Sep lo F Q h) (vw : VwO lo F Q b l) (hl : l.length < 30000000) (ho : ∀ o ∈ l, opOk o)
    (k1 : (∃ o ∈ l, mayO o = false) → ∀ Q' h', Sep lo F Q' h' → Kp 15 16 Q Q' → Post (.tup [.ns, .i .i64 0, .i .i64 1]) h')
    (k2 : (∀ o ∈ l, mayO o = true) → ∀ r Q' h', Sep lo F Q' h' → PK Kn.str lo (Q' 15) r (recsO l) → Kp 15 16 Q Q' → Post (.tup [r, .i .i64 (sizeL (recsO l) : Nat), .i .i64 0]) h') : wpC Try.prog 40 [b] Post h := by
  have row := vw F Q h (Hp.le_refl _) s rfl
  refine call_sound (args := [.vv b]) (cuts := []) ⟨row.sc, trivial⟩ ?_
  rw [vc40]
  have hk := op_keys row
  refine onO.mk row.len ⟨fun m n0 r n1 i h' => ∃ (j : Nat) (Q' : Nat → Hp), i = j ∧ j ≤ l.length ∧ m = l.length - j ∧ Sep lo F Q' h' ∧ Kp 15 16 Q Q' ∧ (∀ o ∈ l.take j, mayO o = true) ∧ PK Kn.str lo (Q' 15) r (recsO (l.take j)) ∧ n1 = (sizeL (recsO (l.take j)) : Nat),
    ⟨_, 0, _, rfl, by omega, rfl, s.drop 15, fun j hj => updQ_ne (by omega), fun o h => (by cases h), by rw [updQ_same]; exact PK.nil _ _, rfl⟩, ?_⟩
  rintro m h0 n0 r _ _ _ ⟨j, Q', rfl, hj, rfl, s', u', hm, p', rfl⟩
  refine onB.dec (fun e => ?_) (fun e => ?_)
  · obtain ⟨x, hx⟩ := get_lt (l := l) (k := j) (by omega)
    have hmx := List.mem_of_getElem? hx
    refine opW (vw F Q' h0 (Hp.le_refl _) s' (u' 14 (by omega))) (Hp.le_refl _) hx fun d rd kx => fun _ => c59 rd (ho x hmx) (hk x hmx) (fun em => onTup.ri rfl (onB.pos rfl (k1 ⟨x, hmx, em⟩ Q' h0 s' u'))) fun em r2 h2 o2 => onTup.ri o2.sc (onB.neg rfl ?_)
    obtain ⟨b1, o1, n1, e1⟩ := strAt_row o2.row
    have s2 := s'.grow o2.le o2.lo
    have hm2 : ∀ o ∈ l.take (j + 1), mayO o = true := fun o ho => by
      rw [take_succ' hx] at ho
      rcases List.mem_append.1 ho with h | h
      · exact hm o h
      · simp at h; subst h; exact em
    have hsz := recs_len hm
    have hlx := opE_len em
    have htl : (l.take j).length = j := by simp; omega
    have hrec : recsO (l.take (j + 1)) = recsO (l.take j) ++ [opE x] := by unfold recsO; rw [take_succ' hx, List.map_append]; rfl
    refine onO.mk e1 fun _ => (s2.own str_flat p').app1 (x := opE x) (sz := 1) rfl str_flat ⟨rfl, by omega, bytes_opE (hk x hmx)⟩ (by unfold recsO; rw [List.length_map]; omega) fun r3 h3 o3 => onO.mk rfl ?_
    obtain ⟨q15, s3, p3⟩ := s2.back str_flat o3
    refine onO.mk o2.row.len (onO.mk (a := ((sizeL (recsO (l.take j)) + (opE x).length : Nat) : Int)) (add64 (by omega) (by omega)) (onO.mk (a := ((sizeL (recsO (l.take j)) + (opE x).length + 16 : Nat) : Int)) (add64 (by omega) (by omega)) (onO.mk (inc64 (by omega)) ⟨_, by show l.length - (j + 1) < l.length - j; omega, j + 1, _, rfl, by omega, rfl, s3, fun i hi => by rw [updQ_ne (by omega)]; exact u' i hi, hm2, by rw [updQ_same, hrec]; exact p3, ?_⟩)))
    rw [hrec, sizeL_app]
    simp [sizeL]; omega
  · have : j = l.length := by omega
    subst this
    rw [List.take_length] at *
    exact k2 hm r Q' h0 s' p' u'
def FitL (L : Lg) : Prop := L.size ≤ 2097152 ∧ L.pos ≤ 2097152 + L.size ∧ L.l.length ≤ L.size
theorem appL_fit {x : List Nat} (f : FitL L) : FitL (appL E L x).2.2 := by
  obtain ⟨f1, f2, f3⟩ := f
  unfold appL
  split
  · exact ⟨f1, f2, f3⟩
  · split
    · exact ⟨f1, f2, f3⟩
    · split
      · exact ⟨f1, f2, f3⟩
      · split
        · exact ⟨by show L.size + _ + _ ≤ _; omega, by show L.pos + _ + _ ≤ 2097152 + (L.size + _ + _); omega, by show (L.l ++ [x]).length ≤ L.size + _ + _; simp; omega⟩
        · exact ⟨f1, f2, f3⟩
def writeS : Dk → Lg → Recs → Int × Dk × Lg
  | E, L, [] => syncL E L
  | E, L, x :: t => if (appL E L x).1 = 0 then writeS (appL E L x).2.1 (appL E L x).2.2 t else appL E L x
theorem c41 {l : Recs} {N : Nat} (s : Sep lo F Q h) (m : StM lo F Q w q dp r a v E L S) (row : PK Kn.str lo (Q 15) b l) (hb : Few E N) (hN : N + l.length < 30000000) (hf : FitL L)
    (k : ∀ F' r' a' Q' h', F.le F' → Sep lo F' Q' h' → StM lo F' Q' w q dp r' a' v (writeS E L l).2.1 (writeS E L l).2.2 S → Upd 0 12 Q Q' → Post (.i .i64 (writeS E L l).1) h') : wpC Try.prog 41 [.p w 0, b] Post h := by
  refine call_sound (args := [.vv (.p w 0), .vv b]) (cuts := []) ⟨rfl, row.sc, trivial⟩ ?_
  rw [vc41]
  have wr := s.row row
  refine onO.mk wr.len ⟨fun m n0 i h' => ∃ (j : Nat) (F' : Hp) (r' : AV) (a' : Nat → AV) (Q' : Nat → Hp) (E' : Dk) (L' : Lg), i = j ∧ j ≤ l.length ∧ m = l.length - j ∧ F.le F' ∧ Sep lo F' Q' h' ∧ StM lo F' Q' w q dp r' a' v E' L' S ∧ Upd 0 12 Q Q' ∧ Few E' (N + j) ∧ FitL L' ∧ writeS E L l = writeS E' L' (l.drop j),
    ⟨_, 0, F, r, a, Q, E, L, rfl, by omega, rfl, Hp.le_refl _, s, m, Upd.refl, hb, hf, rfl⟩, ?_⟩
  rintro m' h0 n0 _ ⟨j, F', r', a', Q', E', L', rfl, hj, rfl, f', s', m2, u', few, fit, hw⟩
  have row' : PK Kn.str lo (Q' 15) b l := by rw [u' 15 (by omega)]; exact row
  obtain ⟨y0, y1, y2, y3⟩ := st_word s' m2.box
  obtain ⟨g1, g2, g3⟩ := fit
  refine onB.dec (fun e => ?_) (fun e => ?_)
  · obtain ⟨x, hx⟩ := get_lt (l := l) (k := j) (by omega)
    have hd : l.drop j = x :: l.drop (j + 1) := drop_cons hx
    rw [hd] at hw
    refine str0 (s'.row row') hx fun q1 q2 => onO.mk rfl (onO.mk y0 (onL.r1 rfl ?_))
    refine c60 s' m2.lg (few.mono (by omega)) q2 q1 g1 (by omega) (by omega) fun F3 r3 a3 Q3 h3 f3 s3 m3 u3 => onRet.i ?_
    have hstep : writeS E' L' (x :: l.drop (j + 1)) = if (appL E' L' x).1 = 0 then writeS (appL E' L' x).2.1 (appL E' L' x).2.2 (l.drop (j + 1)) else appL E' L' x := rfl
    rw [hstep] at hw
    refine onB.ndec (fun e2 => ?_) fun e2 => ?_
    · rw [if_neg e2] at hw
      rw [hw] at k
      exact k F3 r3 a3 Q3 h3 (Hp.le_trans f' f3) s3 (m2.log f3 m3 u3) (u'.trans u3)
    · rw [if_pos e2] at hw
      exact onO.mk (inc64 (by omega)) ⟨_, by show l.length - (j + 1) < l.length - j; omega, j + 1, F3, r3, a3, Q3, _, _, rfl, by omega, rfl, Hp.le_trans f' f3, s3, m2.log f3 m3 u3, u'.trans u3, (appL_few few).mono (by omega), appL_fit ⟨g1, g2, g3⟩, hw⟩
  · have : j = l.length := by omega
    subst this
    rw [List.drop_length] at hw
    have hw : writeS E L l = syncL E' L' := hw
    rw [hw] at k
    refine onO.mk rfl (onO.mk y0 (onL.r1 rfl (c61 s' m2.lg (few.mono (by omega)) fun a3 Q3 h3 s3 m3 u3 => onRet.i (k F' r' a3 Q3 h3 f' s3 (m2.log (Hp.le_refl _) m3 (u3)) (u'.trans u3)))))
/-- operations appended: the answer, the disk, the log, the store -/
def appS (E : Dk) (L : Lg) (S : StP) (l : List D.Op) : Int × Dk × Lg × StP :=
  if S.dead = true then (10, E, L, S) else if (∃ o ∈ l, mayO o = false) then (1, E, L, S) else if 2097152 < S.size + sizeL (recsO l) then (5, E, L, S) else
  if (writeS E L (recsO l)).1 = 0 then (0, (writeS E L (recsO l)).2.1, (writeS E L (recsO l)).2.2, ⟨S.l ++ l, S.size + sizeL (recsO l), S.dead⟩)
  else ((writeS E L (recsO l)).1, (writeS E L (recsO l)).2.1, (writeS E L (recsO l)).2.2, { S with dead := true })
theorem c20 {N : Nat} (s : Sep lo F Q h) (m : StM lo F Q w q dp r a v E L S) (vw : VwO lo F Q b l) (hl : l.length < 20000) (ho : ∀ o ∈ l, opOk o) (hb : Few E N) (hN : N < 20000000) (hf : FitL L) (hsl : S.l.length < 10000000) (hss : S.size ≤ 4611686018427387)
    (k : ∀ F' r' a' v' Q' h', F.le F' → Sep lo F' Q' h' → StM lo F' Q' w q dp r' a' v' (appS E L S l).2.1 (appS E L S l).2.2.1 (appS E L S l).2.2.2 → Kp 0 16 Q Q' → Q' 14 = Q 14 → Post (.i .i64 (appS E L S l).1) h') : wpC Try.prog 20 [.p w 0, b] Post h := by
  refine call_sound (args := [.vv (.p w 0), .vv b]) (cuts := []) ⟨rfl, (vw F Q h (Hp.le_refl _) s rfl).sc, trivial⟩ ?_
  rw [vc20]
  unfold appS at k
  obtain ⟨y0, y1, y2, y3⟩ := st_word s m.box
  refine onO.mk rfl (onO.mk y3 (onL.b1 (onB.mk (fun e => ?_) fun e => ?_)))
  · rw [if_pos e] at k
    exact k F r a v Q h (Hp.le_refl _) s m (fun _ _ => rfl) rfl
  rw [if_neg (by rw [e]; simp)] at k
  refine c40 s vw (by omega) ho (fun ex Q1 h1 s1 u1 => onTup.rii rfl (onB.pos rfl ?_)) fun hm r1 Q1 h1 s1 p1 u1 => onTup.rii p1.sc (onB.neg rfl ?_)
  · rw [if_pos ex] at k
    exact k F r a v Q1 h1 (Hp.le_refl _) s1 (m.same fun j hj => u1 j (by omega)) (fun j hj => u1 j (by omega)) (u1 14 (by omega))
  rw [if_neg (by rintro ⟨o, ho, h⟩; rw [hm o ho] at h; cases h)] at k
  have m1 := m.same (Q' := Q1) fun j hj => u1 j (by omega)
  have hsz := recs_len hm
  obtain ⟨z0, z1, z2, z3⟩ := st_word s1 m1.box
  refine onO.mk rfl (onO.mk z2 (onL.i1 (onO.mk (a := (2097152 : Int) - (S.size : Nat)) (sub64 (by omega) (by omega)) (onB.dec (fun e2 => ?_) fun e2 => ?_))))
  · rw [if_pos (by omega)] at k
    exact k F r a v Q1 h1 (Hp.le_refl _) s1 m1 (fun j hj => u1 j (by omega)) (u1 14 (by omega))
  rw [if_neg (by omega)] at k
  refine c41 s1 m1 p1 hb (by unfold recsO; rw [List.length_map]; omega) hf fun F2 r2 a2 Q2 h2 f2 s2 m2 u2 => onRet.i ?_
  have u02 : ∀ j, j ≠ 15 → 12 ≤ j → Q2 j = Q j := fun j h1 h2 => by rw [u2 j (by omega), u1 j (by omega)]
  refine onB.ndec (fun e3 => ?_) fun e3 => ?_
  · rw [if_neg e3] at k
    refine onO.mk rfl (st_put s2 m2.box m.wlo (i := 3) rfl (c := stC q v { S with dead := true }) rfl (by omega) fun h3 s3 => ?_)
    exact k F2 r2 a2 v _ h3 f2 s3 ⟨m2.lg.same fun j hj => updQ_ne (by omega), updQ_same, m.wlo, by rw [updQ_ne (by omega)]; exact m2.ops, m.ok⟩ (fun j hj => by rw [updQ_ne (by omega)]; exact u02 j (by omega) (by omega)) (by rw [updQ_ne (by omega)]; exact u02 14 (by omega) (by omega))
  rw [if_pos e3] at k
  obtain ⟨x0, x1, x2, x3⟩ := st_word s2 m2.box
  refine onO.mk rfl (onO.mk x1 (onL.r1 m2.ops.sc ?_))
  refine c29 (vw F2 Q2 h2 f2 s2 (u02 14 (by omega) (by omega))) (by omega) ho fun r3 h3 o3 => onRet.r o3.sc ?_
  have s3 := s2.frz o3.1 o3.2.1
  have f3 := s2.fgrow o3.1
  have row3 : OpRow (moreH h2 h3 F2) r3 l := o3.frozen
  have m3 := m2.fmono f3
  obtain ⟨v0, v1, v2, v3⟩ := st_word s3 m3.box
  refine ⟨onO.mk x1 v1, s3.appN m3.ops row3 hsl hl fun v5 h5 q13 s5 p5 => onO.mk rfl (onO.mk rfl ?_)⟩
  have e12 : updQ Q2 13 q13 12 = Hp.one w (stC q v S) lo := by rw [updQ_ne (by omega)]; exact m3.box
  obtain ⟨w0, w1, w2, w3⟩ := st_word s5 e12
  refine onO.mk w2 (onL.i1 ⟨onO.mk v2 w2, onO.mk x2 v2, ?_⟩)
  refine onO.mk (a := ((S.size + sizeL (recsO l) : Nat) : Int)) (add64 (by omega) (by omega)) ?_
  refine onO.mk rfl (st_put s5 e12 m.wlo (i := 1) p5.sc (c := stC q v5 S) rfl (by omega) fun h6 s6 => onO.mk rfl (st_put s6 updQ_same m.wlo (i := 2) rfl (c := stC q v5 ⟨S.l ++ l, S.size + sizeL (recsO l), S.dead⟩) rfl (by omega) fun h7 s7 => ?_))
  have same : ∀ j, j ≠ 12 → j ≠ 13 → updQ (updQ (updQ Q2 13 q13) 12 (Hp.one w (stC q v5 S) lo)) 12 (Hp.one w (stC q v5 ⟨S.l ++ l, S.size + sizeL (recsO l), S.dead⟩) lo) j = Q2 j := fun j h1 h2 => by rw [updQ_ne h1, updQ_ne h1, updQ_ne h2]
  refine k _ r2 a2 v5 _ h7 (Hp.le_trans f2 f3) s7 ⟨m3.lg.same fun j hj => same j (by omega) (by omega), updQ_same, m.wlo, by rw [updQ_ne (by omega), updQ_ne (by omega), updQ_same]; exact p5, fun o ho => ?_⟩ (fun j hj => by rw [same j (by omega) (by omega)]; exact u02 j (by omega) (by omega)) (by rw [same 14 (by omega) (by omega)]; exact u02 14 (by omega) (by omega))
  rcases List.mem_append.1 ho with h | h
  · exact m.ok o h
  · exact hm o h
/-- what it holds, told -/
theorem c11 (s : Sep lo F Q h) (m : StM lo F Q w q dp r a v E L S) (hl : S.l.length < 30000000) (k : ∀ r' h', NewOps h h' r' S.l → Post r' h') : wpC Try.prog 11 [.p w 0] Post h := by
  refine call_sound (args := [.vv (.p w 0)]) (cuts := []) ⟨rfl, trivial⟩ ?_
  rw [vc11]
  obtain ⟨y0, y1, y2, y3⟩ := st_word s m.box
  exact onO.mk rfl (onO.mk y1 (onL.r1 m.ops.sc (c29 (s.rows m.ops) (by omega) (fun o ho => may_opk (m.ok o ho)) fun r2 h2 o2 => onRet.r o2.sc (k r2 h2 o2))))
end
theorem sizeL_lay : ∀ l : Recs, sizeL l ≤ 2 * (layR l).length
  | [] => Nat.zero_le _
  | s :: l => by
    have := sizeL_lay l
    rw [sizeL_cons, layR_cons, List.length_append, lay1_len]; omega
theorem load_recs {E : Dk} (ok : ∀ (n : Nat) f, E.f[n]? = some f → f.ok) : (∀ b ∈ (loadR E).2.2.l, b.length ≤ 4096) ∧ sizeL (loadR E).2.2.l ≤ 8388608 ∧ (loadR E).2.2.l.length ≤ 8388608 := by
  have key : (∀ b ∈ (loadR E).2.2.l, b.length ≤ 4096) ∧ sizeL (loadR E).2.2.l ≤ 8388608 := by
    unfold loadR
    split
    · have hbl : (bytesOf E).length ≤ 4194304 := fileD_len ok
      obtain ⟨s1, s2, s3⟩ := scan_len (bytesOf E)
      have hl : (logOf E).l = (scanL (bytesOf E)).1 := by
        show [] ++ (scanL ((bytesOf E).drop 0)).1 = _
        rw [List.drop_zero, List.nil_append]
      show (∀ b ∈ (logOf E).l, _) ∧ sizeL (logOf E).l ≤ _
      rw [hl]
      have := sizeL_lay (scanL (bytesOf E)).1
      exact ⟨s2, by omega⟩
    · exact ⟨fun b h => (by cases h), by show sizeL [] ≤ _; exact Nat.zero_le _⟩
  have := len_sizeL (loadR E).2.2.l
  exact ⟨key.1, key.2, by omega⟩
/-- the records' operations -/
def opsO (l : Recs) : List D.Op := l.map fun b => (takeO b).1
section
variable {lo w q dp : Nat} {F F' h h' : Hp} {Q Q' : Nat → Hp} {a a' : Nat → AV} {r r' v v' b : AV} {E E' : Dk} {L L' : Lg} {S S' : StP} {Post : AV → Hp → Prop} {l : List D.Op}
theorem c9 (s : Sep lo F Q h) (d : DkA lo F Q 0 dp a E) (hb : Few E 30000000)
    (k1 : (loadR E).1 ≠ 0 → ∀ F' a' Q' h', F.le F' → Sep lo F' Q' h' → DkA lo F' Q' 0 dp a' (loadR E).2.1 → Kp 0 14 Q Q' → Post (.tup [.np, .i .i64 (loadR E).1]) h')
    (k2 : (loadR E).1 = 0 → (∃ b ∈ (loadR E).2.2.l, ¬ recO b) → ∀ F' Q' h', F.le F' → Sep lo F' Q' h' → Post (.tup [.np, .i .i64 1]) h')
    (k3 : (loadR E).1 = 0 → (∀ b ∈ (loadR E).2.2.l, recO b) → ∀ w q F' r' a' v' Q' h', F.le F' → Sep lo F' Q' h' → StM lo F' Q' w q dp r' a' v' (loadR E).2.1 (loadR E).2.2 ⟨opsO (loadR E).2.2.l, sizeL (loadR E).2.2.l, false⟩ → Kp 0 14 Q Q' → Post (.tup [.p w 0, .i .i64 0]) h') : wpC Try.prog 9 [.p dp 0] Post h := by
  refine call_sound (args := [.vv (.p dp 0)]) (cuts := [0]) ⟨rfl, trivial⟩ ?_
  rw [vc9]
  obtain ⟨z1, z2, z3⟩ := load_recs d.ok
  refine c26 s d hb (fun e F2 a2 Q2 h2 f2 s2 d2 u2 => onTup.ri rfl (onB.pos (by simp [e]) (k1 e F2 a2 Q2 h2 f2 s2 d2 fun j hj => u2 j (by omega)))) fun e q F2 r2 a2 Q2 h2 f2 s2 m2 u2 => onTup.ri rfl (onB.neg rfl fun w => ?_)
  generalize hL : (loadR E).2.2 = L at *
  generalize hE : (loadR E).2.1 = E2 at *
  refine c27 s2 m2 (by omega) fun r3 h3 o3 => onRet.r o3.sc fun hw hwlo => ?_
  have s3 := s2.frz o3.le o3.lo
  have f3 := s2.fgrow o3.le
  have row3 : SR (moreH h2 h3 F2) r3 L.l := o3.frozen str_flat
  have f03 := Hp.le_trans f2 f3
  have s4 := (s3.drop 13).alloc 12 hw [.p q 0, .ns, .i .i64 0, .b false]
  have m4 : StM lo (moreH h2 h3 F2) (updQ (updQ Q2 13 (Hp.none lo)) 12 (Hp.one w [.p q 0, .ns, .i .i64 0, .b false] lo)) w q dp r2 a2 .ns E2 L ⟨[], 0, false⟩ :=
    ⟨(m2.fmono f3).same fun j hj => by rw [updQ_ne (by omega), updQ_ne (by omega)], updQ_same, by rw [← s3.hlo]; exact hwlo, by rw [updQ_ne (by omega), updQ_same]; exact RowP.nil, fun o ho => (by cases ho)⟩
  have u4 : Kp 0 14 Q (updQ (updQ Q2 13 (Hp.none lo)) 12 (Hp.one w [.p q 0, .ns, .i .i64 0, .b false] lo)) := fun j hj => by rw [updQ_ne (by omega), updQ_ne (by omega)]; exact u2 j (by omega)
  refine ⟨fun m x y n h' => ∃ (j : Nat) (F5 : Hp) (v5 : AV) (Q5 : Nat → Hp), y = .np ∧ n = 0 ∧ j ≤ L.l.length ∧ m = L.l.length - j ∧ F.le F5 ∧ Sep lo F5 Q5 h' ∧ SR F5 x (L.l.drop j) ∧ StM lo F5 Q5 w q dp r2 a2 v5 E2 L ⟨opsO (L.l.take j), sizeL (L.l.take j), false⟩ ∧ (∀ b ∈ L.l.take j, recO b) ∧ Kp 0 14 Q Q5,
    ⟨_, 0, _, .ns, _, rfl, rfl, by omega, rfl, f03, s4, row3, m4, fun b hb => (by cases hb), u4⟩, ?_⟩
  rintro m h5 x hx _ _ _ ⟨j, F5, v5, Q5, rfl, rfl, hj, rfl, f5, s5, row5, m5, hr, u5⟩
  refine Dup.mk (onO.mk (row5.mono s5.fle).len (onB.mk (fun e0 => ?_) fun e0 => ?_))
  · have e0 := of_decide_eq_true e0
    rw [List.length_drop] at e0
    have : j = L.l.length := by omega
    subst this
    rw [List.take_length] at m5 hr
    exact k3 e hr w q F5 r2 a2 v5 Q5 h5 f5 s5 m5 u5
  · have e0 := of_decide_eq_false e0
    rw [List.length_drop] at e0
    obtain ⟨y, hy⟩ := get_lt (l := L.l) (k := j) (by omega)
    have hmem := List.mem_of_getElem? hy
    have hy1 := z1 y hmem
    have htk := take_succ' hy
    have hd0 : (L.l.drop j)[0]? = some y := by rw [List.getElem?_drop, Nat.add_zero]; exact hy
    refine str0 (j := 0) (row5.mono s5.fle) hd0 fun q1 q2 => ?_
    have hsz : sizeL (L.l.take j) ≤ sizeL L.l := sizeL_take
    refine c28 s5 m5 (by omega) q2 (by show (opsO _).length < _; unfold opsO; rw [List.length_map, List.length_take]; omega) (by show sizeL _ < _; omega) (fun hn F6 h6 f6 s6 => onRet.b (onB.neg rfl (k2 e ⟨y, hmem, hn⟩ F6 Q5 h6 (Hp.le_trans f5 f6) s6))) fun hyr F6 v6 Q6 h6 f6 s6 m6 u6 => onRet.b (onB.pos rfl ?_)
    have row6 := row5.mono f6
    obtain ⟨r7, e7, row7⟩ := row6.sl rfl (sz := 1) (i := 1) (j := (L.l.drop j).length) (lo := some 1) (hi := none) (by rw [List.length_drop]; omega) (Nat.le_refl _) rfl rfl
    have hdd : ((L.l.drop j).drop 1).take ((L.l.drop j).length - 1) = L.l.drop (j + 1) := by
      rw [List.take_of_length_le (by rw [List.length_drop]; omega), List.drop_drop]
    rw [hdd] at row7
    refine onO.mk e7 ⟨_, by show L.l.length - (j + 1) < L.l.length - j; omega, j + 1, F6, v6, Q6, rfl, rfl, by omega, rfl, Hp.le_trans f5 f6, s6, row7, ?_, fun b hb => ?_, fun i hi => by rw [u6 i (by omega)]; exact u5 i hi⟩
    · have he : (⟨opsO (L.l.take (j + 1)), sizeL (L.l.take (j + 1)), false⟩ : StP) = readS ⟨opsO (L.l.take j), sizeL (L.l.take j), false⟩ y := by
        unfold readS
        rw [htk, sizeL_app]
        simp [opsO, sizeL, Nat.add_assoc]
      rw [he]; exact m6
    · rw [htk] at hb
      rcases List.mem_append.1 hb with h | h
      · exact hr b h
      · simp at h; subst h; exact hyr
end
/-- all of the log's file is kept -/
def Clean (E : Dk) (L : Lg) (r : Recs) : Prop := fileD E (L.file : Nat) = ⟨layR r, []⟩
section
variable {E : Dk} {L : Lg} {r : Recs} {N : Nat} {C : Recs → Prop} {l ops : List D.Op}
theorem open_newc (hC : C []) (ho : E.off = false) (hf : E.f = (dkOf []).f) : ((loadR E).1 = 0 ∧ InvC (loadR E).2.1 (loadR E).2.2 [] 0 C ∧ Clean (loadR E).2.1 (loadR E).2.2 [] ∧ (loadR E).2.1.armed = E.armed) ∨ ((loadR E).1 = 10 ∧ E.armed = true ∧ (loadR E).2.1.f.length = 3 ∧ AllC (loadR E).2.1 C) := by
  have hr : recOf [] [] [] = [] := by decide
  rcases loadR_cc (x0 := []) (x1 := []) (x2 := []) (N := 0) (C := C) ho hf with ⟨h1, h2, h3, h4, h5, h6⟩ | ⟨h1, h2, h3, h4⟩
  · left
    rw [hr] at h6
    have := h6 (by decide) ⟨fun s hs => (by cases hs), by decide⟩ (Nat.le_refl _) hC
    exact ⟨h1, this.1, this.2, h5⟩
  · right
    rw [hr] at h4
    exact ⟨h1, h2, h3, h4.mono fun y e => by rw [e]; exact hC⟩
theorem syncL_clean (i : InvC E L r N C) (h : (syncL E L).1 = 0) : Clean (syncL E L).2.1 (syncL E L).2.2 r := by
  have hdead : L.dead = false := by rw [i.lg]
  have hfl := i.file
  unfold syncL at h ⊢
  rw [if_neg (by rw [hdead]; simp)] at h ⊢
  rcases syncR_cases (D := E) (n := L.file) (by omega) i.off i.len with ⟨_, _, _, _, g5⟩ | ⟨g1, _, _⟩
  · show fileD (syncR E (L.file : Nat)).2 (L.file : Nat) = _
    rw [g5 _ (by omega), if_pos rfl, i.seen]
  · have h : (syncR E (L.file : Nat)).1 = 0 := h
    rw [g1] at h; cases h
theorem writeS_c : ∀ (xs : Recs) {r : Recs} {E : Dk} {L : Lg} {N : Nat} {C : Recs → Prop}, InvC E L r N C → (∀ x ∈ xs, x.length ≤ 4096 ∧ Bytes8 x) → sizeL r + sizeL xs ≤ 2097152 →
    ((writeS E L xs).1 = 0 ∧ InvC (writeS E L xs).2.1 (writeS E L xs).2.2 (r ++ xs) N (fun y => y = r ++ xs) ∧ Clean (writeS E L xs).2.1 (writeS E L xs).2.2 (r ++ xs) ∧ (writeS E L xs).2.1.armed = E.armed) ∨
    ((writeS E L xs).1 = 10 ∧ E.armed = true ∧ (writeS E L xs).2.1.f.length = 3 ∧ AllC (writeS E L xs).2.1 (fun y => C y ∨ ∃ k, k ≤ xs.length ∧ y = r ++ xs.take k))
  | [], r, E, L, N, C, i, _, _ => by
    have hs : writeS E L [] = syncL E L := rfl
    rw [hs, List.append_nil]
    rcases syncL_c (C' := fun y => y = r) i rfl with ⟨a1, a2, a3⟩ | ⟨a1, a2, a3⟩
    · exact .inl ⟨a1, a2, syncL_clean i a1, a3⟩
    · exact .inr ⟨a1, a2, a3.len, a3.all.mono fun y h => .inl h⟩
  | x :: xs, r, E, L, N, C, i, hx, hs => by
    have hstep : writeS E L (x :: xs) = if (appL E L x).1 = 0 then writeS (appL E L x).2.1 (appL E L x).2.2 xs else appL E L x := rfl
    rw [sizeL_cons] at hs
    obtain ⟨x1, x2⟩ := hx x (by simp)
    have happ : r ++ x :: xs = (r ++ [x]) ++ xs := by simp
    rcases appL_c (C' := fun y => C y ∨ y = r ++ [x]) i x1 x2 (by omega) (fun y h => .inl h) (.inr rfl) with ⟨a1, a2, a3⟩ | ⟨a1, a2, a3⟩
    · rw [if_pos a1] at hstep
      have hsz : sizeL (r ++ [x]) + sizeL xs ≤ 2097152 := by
        rw [sizeL_app]; simp [sizeL] at *; omega
      rw [hstep]
      rcases writeS_c xs a2 (fun y hy => hx y (by simp [hy])) hsz with ⟨b1, b2, b3, b4⟩ | ⟨b1, b2, b3, b4⟩
      · left
        rw [happ]
        exact ⟨b1, b2, b3, b4.trans a3⟩
      · right
        refine ⟨b1, by rw [← a3]; exact b2, b3, b4.mono fun y h => ?_⟩
        rcases h with (h | h) | ⟨k, k1, k2⟩
        · exact .inl h
        · exact .inr ⟨1, by simp, by rw [h]; rfl⟩
        · exact .inr ⟨k + 1, by simp; omega, by rw [k2]; simp⟩
    · rw [if_neg (by rw [a1]; omega)] at hstep
      rw [hstep]
      exact .inr ⟨a1, a2, a3.len, a3.all.mono fun y h => .inl h⟩
theorem InvC.fit (i : InvC E L r N C) : FitL L := by
  obtain ⟨z1, z2, z3, z4⟩ := i.size
  have := len_sizeL r
  rw [i.lg]
  exact ⟨i.ok.2, by have := layR_len8 i.ok; show (layR r).length ≤ 2097152 + sizeL r; omega, this⟩
theorem recs_ok (h : ∀ o ∈ l, mayO o = true ∧ Bytes8 o.key) : ∀ x ∈ recsO l, x.length ≤ 4096 ∧ Bytes8 x := fun x hx => by
  obtain ⟨o, ho, rfl⟩ := List.mem_map.1 hx
  obtain ⟨h1, h2⟩ := h o ho
  have := opE_len h1
  exact ⟨by omega, bytes_opE h2⟩
theorem recs_app {a b : List D.Op} : recsO (a ++ b) = recsO a ++ recsO b := List.map_append
theorem appS_c (i : InvC E L (recsO ops) N C) (hm : ∀ o ∈ l, mayO o = true ∧ Bytes8 o.key) (hs : sizeL (recsO ops) + sizeL (recsO l) ≤ 2097152) :
    (appS E L ⟨ops, sizeL (recsO ops), false⟩ l = (0, (writeS E L (recsO l)).2.1, (writeS E L (recsO l)).2.2, ⟨ops ++ l, sizeL (recsO (ops ++ l)), false⟩) ∧ InvC (writeS E L (recsO l)).2.1 (writeS E L (recsO l)).2.2 (recsO (ops ++ l)) N (fun y => y = recsO (ops ++ l)) ∧ Clean (writeS E L (recsO l)).2.1 (writeS E L (recsO l)).2.2 (recsO (ops ++ l)) ∧ (writeS E L (recsO l)).2.1.armed = E.armed) ∨
    (appS E L ⟨ops, sizeL (recsO ops), false⟩ l = (10, (writeS E L (recsO l)).2.1, (writeS E L (recsO l)).2.2, ⟨ops, sizeL (recsO ops), true⟩) ∧ E.armed = true ∧ (writeS E L (recsO l)).2.1.f.length = 3 ∧ AllC (writeS E L (recsO l)).2.1 (fun y => C y ∨ ∃ k, k ≤ l.length ∧ y = recsO (ops ++ l.take k))) := by
  unfold appS
  rw [if_neg (by simp), if_neg (by rintro ⟨o, ho, h⟩; rw [(hm o ho).1] at h; cases h), if_neg (by show ¬ 2097152 < sizeL (recsO ops) + _; omega)]
  rcases writeS_c (recsO l) i (recs_ok hm) hs with ⟨b1, b2, b3, b4⟩ | ⟨b1, b2, b3, b4⟩
  · left
    rw [if_pos b1, recs_app, sizeL_app]
    exact ⟨rfl, b2, b3, b4⟩
  · right
    rw [if_neg (by rw [b1]; omega), b1]
    refine ⟨rfl, b2, b3, b4.mono fun y h => h.imp id fun ⟨k, k1, k2⟩ => ⟨k, by unfold recsO at k1; rw [List.length_map] at k1; exact k1, ?_⟩⟩
    rw [k2, recs_app]
    unfold recsO
    rw [List.map_take]
end
section
variable {h : Hp} {Post : AV → Hp → Prop}
theorem put_more {F : Hp} {p : Nat} {c : List AV} (f : F.le h) (hp : h.g p = none) : (F.put p c).le (moreH h (h.put p c) F) := fun k x e => by
  by_cases ek : k = p
  · subst ek
    unfold moreH
    rw [Hp.res_in (.inl hp), Hp.put_same]
    rw [Hp.put_same] at e; exact e
  · rw [Hp.put_ne _ _ ek] at e
    exact more_base f (Hp.le_trans f (Hp.le_put hp)) k x e
theorem theO_ok : mayO theO = true ∧ Bytes8 theO.key := ⟨theO_may, fun x hx => by simp [theO] at hx; omega⟩
theorem one_op' {d : AV} {p : Nat} (rd : IR h d theO.deps) (hp : h.g p = none) : OpRow (h.put p (opC theO d)) (.sl p 0 1 1 true 12) [theO] := by
  have kx : D.kOp.K (h.put p (opC theO d)) theO (opC theO d) := nums_in theO_ok.1 theO_ok.2 (rd.mono (Hp.le_put hp))
  refine ⟨[opC theO d], ⟨fun c hc => by simp at hc; subst hc; rfl, rfl, rfl, Nat.le_refl _, .inr ?_⟩, .cons kx .nil⟩
  unfold rdH
  rw [Hp.put_same]; rfl
/-- an operation appended to a new one, and told -/
theorem c13 (k : ∀ h', Post (.b true) h') : wpC Try.prog 13 [] Post h := by
  refine call_sound (args := []) (cuts := []) trivial ?_
  rw [vc13]
  have s := Sep.start h
  refine c15 s fun dp a Q1 h1 s1 d1 u1 => onRet.r rfl ?_
  rcases open_newc (E := dkOf []) (C := fun y => y = []) rfl rfl rfl with ⟨e1, i1, _, ar1⟩ | ⟨_, e2, _⟩
  rotate_left
  · cases e2
  have few1 : Few (loadR (dkOf [])).2.1 1 := loadR_few few0
  have hl0 : (loadR (dkOf [])).2.2.l = [] := by rw [i1.lg]
  refine c9 s1 d1 few0 (fun e => absurd e1 e) (fun _ ⟨b, hb, _⟩ => by rw [hl0] at hb; cases hb) fun _ _ w q F2 r2 a2 v2 Q2 h2 f2 s2 m2 u2 => onTup.ri rfl (c10 (onRet.i (onB.neg rfl (onO.mk rfl (onB.neg rfl ?_)))))
  rw [hl0] at m2
  have m2 : StM h.lo F2 Q2 w q dp r2 a2 v2 (loadR (dkOf [])).2.1 (loadR (dkOf [])).2.2 ⟨[], sizeL (recsO []), false⟩ := m2
  have ar : (loadR (dkOf [])).2.1.armed = false := ar1
  generalize (loadR (dkOf [])).2.1 = E2 at *
  generalize (loadR (dkOf [])).2.2 = L2 at *
  refine c36 fun d h3 o3 => onRet.op (o := theO) o3.sc fun p0 hp0 hlo0 => ?_
  have s3 := s2.frz o3.le o3.lo
  have rd : IR (moreH h2 h3 F2) d theO.deps := o3.frozen int_flat
  have f3 := s2.fgrow o3.le
  have row4 := (one_op' (h := moreH h2 h3 F2) rd (le_none s3.fle hp0)).mono (put_more s3.fle hp0)
  have lp : h3.le (h3.put p0 (opC theO d)) := Hp.le_put hp0
  have s4 := s3.frz lp rfl
  have f4 := s3.fgrow lp
  have ho : ∀ o ∈ [theO], mayO o = true ∧ Bytes8 o.key := fun o ho => by simp at ho; subst ho; exact theO_ok
  have hsz : sizeL (recsO ([] : List D.Op)) + sizeL (recsO [theO]) ≤ 2097152 := by
    have := recs_len (l := [theO]) fun o h => (ho o h).1
    show 0 + _ ≤ _
    simp at this ⊢; omega
  refine c20 (l := [theO]) s4 ((m2.fmono f3).fmono f4) (VwO.frz row4) (by simp) (fun o h => may_opk (ho o h).1) few1 (by omega) i1.fit (by simp) (by show sizeL [] ≤ _; exact Nat.zero_le _) fun F5 r5 a5 v5 Q5 h5 f5 s5 m5 u5 _ => onRet.i (c10 (onRet.i ?_))
  rcases appS_c (l := [theO]) i1 ho hsz with ⟨e3, _⟩ | ⟨_, e3, _⟩
  rotate_left
  · rw [ar] at e3; cases e3
  rw [e3] at m5 ⊢
  refine onB.pos rfl (c11 s5 m5 (by simp) fun r6 h6 o6 => onRet.r o6.sc ?_)
  refine c36 fun d7 h7 o7 => onRet.op (o := theO) o7.sc fun p8 hp8 hlo8 => ?_
  refine c21 ((o6.row.mono o7.le).mono (Hp.le_put hp8)) (one_op' o7.row hp8) (by simp) (fun o h => may_opk (ho o (by simpa using h)).1) (onRet.b ?_)
  rw [decide_eq_true (by rfl)]
  exact k _
end
theorem D.oBs : Opens Try.prog 26 (Kn.slice Kn.byte 1) := opens_slice (P := Try.prog) 1 Try.underlying26 (by kernel_rfl) (by decide) (by kernel_rfl) (opens_byte (P := Try.prog) Try.underlying5)
section
variable {lo w q dp : Nat} {F F' h h' : Hp} {Q Q' : Nat → Hp} {b : AV} {Post : AV → Hp → Prop} {l : List (List Nat)}
theorem c7 (s : Sep lo F Q h) (ra : kBs.Row F b l) (hn : l.length < 31000000) (ok : newOk l = true) (k : ∀ p a Q' h', Sep lo F Q' h' → DkA lo F Q' 0 p a (dkOf l) → Post (.p p 0) h') : wpC Try.prog 7 [b] Post h := by
  refine call_sound (args := [.vv b]) (cuts := []) ⟨ra.sc, trivial⟩ ?_
  rw [vc7]
  exact c24 (B := 0) s Vw.frz ra hn (fun e => by rw [ok] at e; cases e) fun _ p a Q1 h1 s1 d1 u1 => onTup.ri rfl (c25 (onRet.i (onB.neg rfl (k p a Q1 h1 s1 d1))))
/-- three rows of bytes in a new block -/
theorem three_rows {x y z : List Nat} {r1 r2 r3 : AV} {p : Nat} (w1 : Kn.byte.Row h r1 x) (w2 : Kn.byte.Row h r2 y) (w3 : Kn.byte.Row h r3 z) (g1 : x.length ≤ 8000) (g2 : y.length ≤ 8000) (g3 : z.length ≤ 8000) (hp : h.g p = none) :
    kBs.Row (h.put p [r1, r2, r3]) (.sl p 0 3 3 true 1) [x, y, z] := by
  have le : h.le (h.put p [r1, r2, r3]) := Hp.le_put hp
  refine ⟨[[r1], [r2], [r3]], ⟨fun c hc => by simp at hc; rcases hc with rfl | rfl | rfl <;> rfl, rfl, rfl, Nat.le_refl _, .inr ?_⟩, .cons ⟨r1, rfl, w1.mono le, by omega⟩ (.cons ⟨r2, rfl, w2.mono le, by omega⟩ (.cons ⟨r3, rfl, w3.mono le, by omega⟩ .nil))⟩
  unfold rdH
  rw [Hp.put_same]; rfl
theorem put_more' {F : Hp} {p : Nat} {c : List AV} (f : F.le h) (hp : h.g p = none) : (F.put p c).le (moreH h (h.put p c) F) := put_more f hp
theorem D.lawStoreStrange {L : List (List Nat)} {c : AV} (kx : (Kn.slice (Kn.slice Kn.byte 1) 24).K h L [c]) : wpC Try.prog 3 [c] (fun v _ => v = .b true) h := by
  obtain ⟨a, e, ra, hl⟩ := kx
  injection e with e
  subst e
  have ra : kBs.Row h c L := ra
  refine call_sound (args := [.vv c]) (cuts := [9000020, 28999999]) ⟨ra.sc, trivial⟩ ?_
  rw [vc3]
  refine c6 ra (by omega) fun n n1 n2 n3 => onRet.i (onB.dec (fun _ => rfl) fun en => ?_)
  obtain ⟨hl8, hx8⟩ := n3 (by omega)
  refine ⟨fun m c i h' => ∃ (j : Nat) (F : Hp) (Q : Nat → Hp), i = j ∧ j ≤ 6 ∧ m = 6 - j ∧ c = false ∧ h.le F ∧ Sep h.lo F Q h', ⟨_, 0, h, _, rfl, by omega, rfl, rfl, Hp.le_refl _, Sep.start h⟩, ?_⟩
  rintro m h1 _ _ ⟨j, F, Q, rfl, hj, rfl, rfl, fle, s⟩
  have rF := ra.mono fle
  refine ⟨fun c h' => (c = true ↔ j + 2 < L.length ∧ j < 6) ∧ h' = h1, onO.mk (add64 (by omega) (by omega)) (onO.mk (rF.mono s.fle).len (onB.dec (fun e => ⟨by rw [decide_eq_true_iff]; omega, rfl⟩) fun e => ⟨by simp; omega, rfl⟩)), ?_⟩
  rintro h2 lc1 ⟨hc, rfl⟩
  refine onB.mk (fun e => ?_) fun e => c13 fun h' => onRet.b rfl
  obtain ⟨e1, e2⟩ := hc.1 e
  obtain ⟨x, hx⟩ := get_lt (l := L) (k := j) (by omega)
  obtain ⟨y, hy⟩ := get_lt (l := L) (k := j + 1) (by omega)
  obtain ⟨z, hz⟩ := get_lt (l := L) (k := j + 2) (by omega)
  have gx := hx8 x (List.mem_of_getElem? hx)
  have gy := hx8 y (List.mem_of_getElem? hy)
  have gz := hx8 z (List.mem_of_getElem? hz)
  obtain ⟨bx, ox, cx, ix1, ix2, vx, rfl, wx, _⟩ := rF.idx (i := ((j : Nat) : Int)) (x := x) (Int.natCast_nonneg _) (by rw [Int.toNat_natCast]; exact hx)
  obtain ⟨bY, oY, cY, iy1, iy2, vy, rfl, wy, _⟩ := rF.idx (i := ((j + 1 : Nat) : Int)) (x := y) (Int.natCast_nonneg _) (by rw [Int.toNat_natCast]; exact hy)
  obtain ⟨bz, oz, cz, iz1, iz2, vz, rfl, wz, _⟩ := rF.idx (i := ((j + 2 : Nat) : Int)) (x := z) (Int.natCast_nonneg _) (by rw [Int.toNat_natCast]; exact hz)
  refine onO.mk ix1 (onO.mk (rdH_le s.fle ix2) (onL.r1 wx.sc (c8 (wx.mono s.fle) (by omega) fun r3 h3 o3 => onRet.r o3.sc ?_)))
  have s3 := s.frz o3.le o3.lo
  have f3 := s.fgrow o3.le
  have row3 : Kn.byte.Row (moreH h2 h3 F) r3 x := o3.frozen byte_flat
  refine onO.mk (a := ((j + 1 : Nat) : Int)) (add64 (by omega) (by omega)) (onO.mk iy1 (onO.mk (rdH_le s3.fle (rdH_le f3 iy2)) (onL.r1 wy.sc ⟨onO.mk (rdH_le s.fle iy2) (rdH_le s3.fle (rdH_le f3 iy2)), c8 ((wy.mono f3).mono s3.fle) (by omega) fun r4 h4 o4 => onRet.r o4.sc ?_⟩)))
  have s4 := s3.frz o4.le o4.lo
  have f4 := s3.fgrow o4.le
  have row4 : Kn.byte.Row (moreH h3 h4 (moreH h2 h3 F)) r4 y := o4.frozen byte_flat
  have f04 := Hp.le_trans f3 f4
  refine onO.mk (a := ((j + 2 : Nat) : Int)) (add64 (by omega) (by omega)) (onO.mk iz1 (onO.mk (rdH_le s4.fle (rdH_le f04 iz2)) (onL.r1 wz.sc ⟨onO.mk (rdH_le s3.fle (rdH_le f3 iz2)) (rdH_le s4.fle (rdH_le f04 iz2)), onO.mk (rdH_le s.fle iz2) (rdH_le s3.fle (rdH_le f3 iz2)), c8 ((wz.mono f04).mono s4.fle) (by omega) fun r5 h5 o5 => onRet.r o5.sc fun p3 hp3 hlo3 => ?_⟩)))
  have s5 := s4.frz o5.le o5.lo
  have f5 := s4.fgrow o5.le
  generalize hF5 : moreH h4 h5 (moreH h3 h4 (moreH h2 h3 F)) = F5 at *
  have row5 : Kn.byte.Row F5 r5 z := by rw [← hF5]; exact o5.frozen byte_flat
  have lp : h5.le (h5.put p3 [r3, r4, r5]) := Hp.le_put hp3
  have s6 := s5.frz lp rfl
  have f6 := s5.fgrow lp
  have row6 := (three_rows (h := F5) ((row3.mono f4).mono f5) (row4.mono f5) row5 gx gy gz (le_none s5.fle hp3)).mono (put_more' s5.fle hp3)
  have f06 := Hp.le_trans fle (Hp.le_trans (Hp.le_trans f04 f5) f6)
  refine c7 s6 row6 (by simp) (by unfold newOk; simp; omega) fun dp a Q7 h7 s7 d7 => onRet.r rfl (onO.mk rfl (onB.neg rfl ?_))
  rcases loadR_cc (x0 := x) (x1 := y) (x2 := z) (D := dkOf [x, y, z]) (N := 0) (C := fun _ => True) rfl rfl with ⟨g1, _⟩ | ⟨_, g2, _⟩
  rotate_left
  · cases g2
  have next : ∀ (F' : Hp) (Q' : Nat → Hp) (hh : Hp), (moreH h5 (h5.put p3 [r3, r4, r5]) F5).le F' → Sep h.lo F' Q' hh → onO (intO BinOp.add IntKind.i64 (j : Int) 1) fun n19 => ∃ p8, ltN p8 (6 - j) ∧ ∃ (j : Nat) (F : Hp) (Q : Nat → Hp), n19 = j ∧ j ≤ 6 ∧ p8 = 6 - j ∧ false = false ∧ h.le F ∧ Sep h.lo F Q hh := fun F' Q' hh f' s' =>
    onO.mk (inc64 (by omega)) ⟨_, by show 6 - (j + 1) < 6 - j; omega, j + 1, F', Q', rfl, by omega, rfl, rfl, Hp.le_trans f06 f', s'⟩
  obtain ⟨z1, z2, z3⟩ := load_recs d7.ok
  refine c9 s7 d7 few0 (fun e => absurd g1 e) (fun _ _ F' Q' h' f' s' => onTup.ri rfl (onO.mk rfl (c10 (onRet.i (onB.neg rfl (onO.mk rfl ⟨fun c hh => c = false ∧ ∃ F'' Q'', (moreH h5 (h5.put p3 [r3, r4, r5]) F5).le F'' ∧ Sep h.lo F'' Q'' hh, onB.neg rfl ⟨rfl, F', Q', f', s'⟩, ?_⟩)))))) fun _ hr w q F' r' a' v' Q' h' f' s' m' u' => onTup.ri rfl (onO.mk rfl (c10 (onRet.i (onB.neg rfl (onO.mk rfl ⟨fun c hh => c = false ∧ ∃ F'' Q'', (moreH h5 (h5.put p3 [r3, r4, r5]) F5).le F'' ∧ Sep h.lo F'' Q'' hh, onB.pos rfl ?_, ?_⟩)))))
  · rintro hh _ ⟨rfl, F'', Q'', f'', s''⟩
    exact next F'' Q'' hh f'' s''
  · have hol : (opsO (loadR (dkOf [x, y, z])).2.2.l).length ≤ 8388608 := by unfold opsO; rw [List.length_map]; exact z3
    refine c11 s' m' (by show (opsO _).length < _; omega) fun r8 h8 o8 => onRet.r o8.sc ?_
    have s8 := s'.grow o8.1 o8.2.1
    have ok8 := m'.ok
    generalize opsO (loadR (dkOf [x, y, z])).2.2.l = ops at *
    have o8 : NewOps h' h8 r8 ops := o8
    have ok8 : ∀ o ∈ ops, mayO o = true := ok8
    refine ⟨fun m c i hh => ∃ k : Nat, i = k ∧ k ≤ ops.length ∧ m = ops.length - k ∧ c = false ∧ hh = h8, ⟨_, 0, rfl, by omega, rfl, rfl, rfl⟩, ?_⟩
    rintro m9 h9 _ _ ⟨k, rfl, hk, rfl, rfl, rfl⟩
    refine onO.mk o8.row.len (onB.dec (fun e => ?_) fun e => ⟨rfl, F', Q', f', s8⟩)
    obtain ⟨o, ho⟩ := get_lt (l := ops) (k := k) (by omega)
    have hmo := ok8 o (List.mem_of_getElem? ho)
    refine opW o8.row (Hp.le_refl _) ho fun d rd kk => c12 rd (may_opk hmo) (onRet.b (onB.neg (by rw [hmo]; rfl) ?_))
    exact onO.mk (inc64 (by omega)) ⟨_, by show ops.length - (k + 1) < ops.length - k; omega, k + 1, rfl, by omega, rfl, rfl, rfl⟩
  · rintro hh _ ⟨rfl, F'', Q'', f'', s''⟩
    exact next F'' Q'' hh f'' s''
end
end Go.Proofs.YtiidgjdogekpfaaAn
