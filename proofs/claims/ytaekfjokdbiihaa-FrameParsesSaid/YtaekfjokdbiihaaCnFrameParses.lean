/- What the functions that the law reaches come to, down to the law itself. -/
import Derived.Test.YtaekfjokdbiihaaCnFrameParsesp1
import Derived.Test.YtaekfjokdbiihaaProg
set_option linter.unusedVariables false
set_option linter.unusedSimpArgs false
set_option maxRecDepth 100000
namespace Go.Proofs.YtaekfjokdbiihaaAn
open Go
/-- operations, one behind the other, while no error is -/
def opsD : Nat → List Nat → Rd → List D.Op × Rd
  | 0, _, s => ([], s)
  | m + 1, l, s => if s.2 = 0 then ((takeO (l.drop s.1)).1 :: (opsD m l (s.1 + (takeO (l.drop s.1)).2.1, (takeO (l.drop s.1)).2.2)).1, (opsD m l (s.1 + (takeO (l.drop s.1)).2.1, (takeO (l.drop s.1)).2.2)).2) else ([], s)
def restD (x y z : Int) (l : List Nat) (s : Rd) : Fr × Rd :=
  if s.2 = 0 ∧ z = 1 then ((x, y, z, (vecR l s).1, []), (vecR l s).2)
  else ((x, y, z, [], (opsD (min (numD l s).1.toNat 9) l (numD l s).2).1), (opsD (min (numD l s).1.toNat 9) l (numD l s).2).2)
def formD (l : List Nat) : Fr × Rd :=
  restD (numD l (0, 0)).1 (numD l (numD l (0, 0)).2).1 (numD l (numD l (numD l (0, 0)).2).2).1 l (numD l (numD l (numD l (0, 0)).2).2).2
def parseD (l : List Nat) : Option Fr × Int :=
  if l.length < 4 then (none, 7) else if word l = crc 0 (l.drop 4) then
    (if (formD (l.drop 4)).2.2 = 0 ∧ (formD (l.drop 4)).2.1 = (l.drop 4).length ∧ frmF (formD (l.drop 4)).1 = true then (some (formD (l.drop 4)).1, 0) else (none, 1))
  else (none, 8)
/-- both parses: to be shown of each is that it says OK of a frame's bytes alone -/
theorem parseD_of {l : List Nat} (hl : Bytes8 l) (ok : (parseD l).2 = 0 → ∃ x y z v ops, frmV x y z v ops = true ∧ Keys8 ops ∧ frmE x y z v ops = l)
    (put : ∀ {x y z : Int} {v : List Int} {ops : List D.Op}, frmV x y z v ops = true → Keys8 ops → parseD (frmE x y z v ops) = (some (x, y, z, v, ops), 0)) : parseD l = parseP l := by
  by_cases h : (parseD l).2 = 0
  · obtain ⟨x, y, z, v, ops, h1, h2, rfl⟩ := ok h
    rw [put h1 h2, parseP_put h1 h2]
  · have h' : (parseP l).2 ≠ 0 := fun e => by
      obtain ⟨x, y, z, v, ops, h1, h2, rfl⟩ := parse_ok hl e
      exact h (by rw [put h1 h2])
    unfold parseD parseP at *
    split
    · rfl
    rename_i h4
    rw [if_neg h4] at h h'
    split
    · rename_i hw
      rw [if_pos hw] at h h'
      split
      · rename_i hc; rw [if_pos hc] at h; exact absurd rfl h
      · split
        · rename_i f hf
          rw [hf] at h'
          simp only at h'
          split
          · rename_i hc; rw [if_pos hc] at h'; exact absurd rfl h'
          · rfl
        · rfl
    · rfl
theorem opsD_ok : ∀ (m : Nat) (l : List Nat) (s : Rd), Bytes8 l → s.1 ≤ l.length → (opsD m l s).2.2 = 0 →
    s.2 = 0 ∧ (opsD m l s).1.length = m ∧ (∀ o ∈ (opsD m l s).1, mayO o = true ∧ Bytes8 o.key) ∧ l.take (opsD m l s).2.1 = l.take s.1 ++ opsE (opsD m l s).1 ∧ (opsD m l s).2.1 ≤ l.length
  | 0, l, s, hl, hs, h => by
    have e : opsD 0 l s = ([], s) := rfl
    rw [e] at h ⊢
    exact ⟨h, rfl, (fun o ho => by cases ho), by simp [opsE], hs⟩
  | m + 1, l, s, hl, hs, h => by
    unfold opsD at h ⊢
    by_cases h0 : s.2 = 0
    · rw [if_pos h0] at h ⊢
      have hk : (takeO (l.drop s.1)).2.1 ≤ (l.drop s.1).length := takeO_len _ (hl.drop _)
      rw [List.length_drop] at hk
      obtain ⟨i1, i2, i3, i4, i5⟩ := opsD_ok m l (s.1 + (takeO (l.drop s.1)).2.1, (takeO (l.drop s.1)).2.2) hl (by show s.1 + _ ≤ _; omega) h
      obtain ⟨w1, w2, w3, w4⟩ := takeO_was (hl.drop s.1) i1
      refine ⟨h0, by simp [i2], fun o ho => ?_, ?_, i5⟩
      · rcases List.mem_cons.1 ho with rfl | ho
        · exact ⟨w1, w4⟩
        · exact i3 o ho
      · simp only at i4 ⊢
        rw [i4, List.take_add, w2]
        simp [opsE]
    · rw [if_neg h0] at h; exact absurd h h0
theorem opsD_put : ∀ (ops : List D.Op) (pre rest : List Nat), (∀ o ∈ ops, mayO o = true ∧ Bytes8 o.key) → opsD ops.length (pre ++ (opsE ops ++ rest)) (pre.length, 0) = (ops, (pre.length + (opsE ops).length, 0))
  | [], pre, rest, _ => rfl
  | o :: ops, pre, rest, h => by
    obtain ⟨h1, h2⟩ := h o (by simp)
    have e : opsE (o :: ops) = opE o ++ opsE ops := by simp [opsE]
    have e1 : takeO ((pre ++ (opsE (o :: ops) ++ rest)).drop pre.length) = (o, (opE o).length, 0) := by
      rw [List.drop_left, e, List.append_assoc]; exact takeO_put h1 h2 _
    have ih := opsD_put ops (pre ++ opE o) rest fun y hy => h y (by simp [hy])
    have e2 : pre ++ (opsE (o :: ops) ++ rest) = (pre ++ opE o) ++ (opsE ops ++ rest) := by rw [e]; simp
    rw [List.length_append] at ih
    rw [List.length_cons]
    unfold opsD
    rw [if_pos rfl]
    simp only [e1]
    rw [e2, ih, e, List.length_append, Nat.add_assoc]
theorem numD_put {x : Int} {L pre rest : List Nat} {k : Nat} (hx : okN x) (hl : L = pre ++ (enc x.toNat ++ rest)) (hk : k = pre.length) : numD L (k, 0) = (x, (k + (enc x.toNat).length, 0)) := by
  subst hk
  have e := goodN.at (rest := rest) hx hl
  unfold numD numR partR
  rw [if_pos rfl, if_pos rfl]
  simp only [e]
theorem formD_put {x y z : Int} {v : List Int} {l : List D.Op} (h : frmV x y z v l = true) (hk : Keys8 l) : formD (bodyE x y z v l) = ((x, y, z, v, l), ((bodyE x y z v l).length, 0)) := by
  obtain ⟨s1, s2, s3⟩ := frm_ok h
  have hz : 0 ≤ z ∧ z ≤ 2 := by rcases s3 with ⟨e, _⟩ | ⟨e, _⟩ <;> omega
  obtain ⟨B, hB⟩ : ∃ B, B = bodyE x y z v l := ⟨_, rfl⟩
  obtain ⟨T, hT⟩ : ∃ T, T = (if z = 1 then encV v else enc l.length) ++ opsE l := ⟨_, rfl⟩
  have e3 : B = (enc x.toNat ++ enc y.toNat) ++ (enc z.toNat ++ T) := by
    rw [hB, hT]; unfold bodyE
    simp only [encs, List.map_cons, List.map_nil, List.flatten_cons, List.flatten_nil, List.append_nil, List.append_assoc]
  have n1 := numD_put (x := x) (L := B) (pre := []) (rest := enc y.toNat ++ (enc z.toNat ++ T)) (k := 0) ⟨by omega, by omega⟩ (by rw [e3]; simp) rfl
  have n2 := numD_put (x := y) (L := B) (pre := enc x.toNat) (rest := enc z.toNat ++ T) (k := 0 + (enc x.toNat).length) ⟨by omega, by omega⟩ (by rw [e3]; simp) (by omega)
  have n3 := numD_put (x := z) (L := B) (rest := T) (k := 0 + (enc x.toNat).length + (enc y.toNat).length) ⟨by omega, by omega⟩ e3 (by simp)
  have e4 : B = (enc x.toNat ++ enc y.toNat ++ enc z.toNat) ++ T := by rw [e3]; simp
  rw [← hB]
  unfold formD
  simp only [n1, n2, n3]
  unfold restD
  obtain ⟨P, hP⟩ : ∃ P, P = enc x.toNat ++ enc y.toNat ++ enc z.toNat := ⟨_, rfl⟩
  have hPl : 0 + (enc x.toNat).length + (enc y.toNat).length + (enc z.toNat).length = P.length := by rw [hP]; simp only [List.length_append]; omega
  rw [hPl]
  rw [← hP] at e4
  rcases s3 with ⟨rfl, hv, rfl⟩ | ⟨hz1, rfl, ho, _, h8⟩
  · rw [if_pos rfl] at hT
    have e := goodV.at (l := B) (pre := P) (rest := []) hv (by rw [e4, hT]; simp [opsE])
    rw [if_pos ⟨rfl, rfl⟩]
    unfold vecR partR
    rw [if_pos rfl]
    simp only [e]
    rw [e4, hT]; simp [opsE]
  · rw [if_neg (by omega)] at hT
    have n4 := numD_put (x := (l.length : Int)) (L := B) (pre := P) (rest := opsE l) (k := P.length) ⟨by omega, by omega⟩ (by rw [e4, hT]; rfl) rfl
    rw [if_neg (by omega)]
    have hmin : min ((l.length : Int)).toNat 9 = l.length := by omega
    simp only [n4, hmin]
    have o := opsD_put l (P ++ enc l.length) [] fun o hm => ⟨ho o hm, hk o hm⟩
    rw [List.append_nil, List.length_append] at o
    have e5 : B = (P ++ enc l.length) ++ opsE l := by rw [e4, hT]; simp
    rw [← e5] at o
    have ht : (enc ((l.length : Int)).toNat).length = (enc l.length).length := rfl
    rw [ht, o]
    have : B.length = P.length + (enc l.length).length + (opsE l).length := by rw [e5]; simp; omega
    rw [this]
theorem parseD_put {x y z : Int} {v : List Int} {l : List D.Op} (h : frmV x y z v l = true) (hk : Keys8 l) : parseD (frmE x y z v l) = (some (x, y, z, v, l), 0) := by
  have hb := bytes_body (x := x) (y := y) (z := z) (v := v) hk
  have hc := crc_lt (s := 0) hb (by omega)
  have hd : (frmE x y z v l).drop 4 = bodyE x y z v l := rfl
  have hw : word (frmE x y z v l) = crc 0 (bodyE x y z v l) := word_four hc _
  unfold parseD
  rw [if_neg (by unfold frmE four; simp), hd, hw, if_pos rfl, formD_put h hk]
  simp only
  rw [if_pos ⟨trivial, trivial, h⟩]
/-- the first four bytes are told by their word -/
theorem four_word {l : List Nat} (hl : Bytes8 l) (h4 : 4 ≤ l.length) : l = four (word l) ++ l.drop 4 := by
  match l, h4 with
  | a :: b :: c :: d :: l, _ =>
    have h1 := hl a (by simp)
    have h2 := hl b (by simp)
    have h3 := hl c (by simp)
    have h5 := hl d (by simp)
    show _ = (four (a * 16777216 + b * 65536 + c * 256 + d)) ++ l
    unfold four
    simp only [List.cons_append, List.nil_append, List.cons.injEq, and_true]
    omega
/-- a number taken well by the document's reader -/
theorem numD_step {l : List Nat} {s : Rd} (hl : Bytes8 l) (hs : s.1 ≤ l.length) (h : (numD l s).2.2 = 0) :
    s.2 = 0 ∧ okN (numD l s).1 ∧ l.take (numD l s).2.1 = l.take s.1 ++ enc (numD l s).1.toNat := by
  have h0 : s.2 = 0 := by rw [numD_st] at h; exact partR_zero h
  have e : numD l s = numR l s := by unfold numD; rw [if_pos h0]
  rw [e] at h ⊢
  obtain ⟨w0, w1, w2, w3, w4⟩ := goodN.step hl hs h
  refine ⟨h0, w2, ?_⟩
  have e5 : (numR l s).2.1 = s.1 + (tkN (l.drop s.1)).2.1 := w3
  rw [e5]; exact w4
theorem formD_ok {l : List Nat} (hl : Bytes8 l) (h : (formD l).2.2 = 0) (ha : (formD l).2.1 = l.length) (hf : frmF (formD l).1 = true) : ∃ x y z v ops, frmV x y z v ops = true ∧ Keys8 ops ∧ bodyE x y z v ops = l := by
  obtain ⟨A, hA⟩ : ∃ A, A = numD l (0, 0) := ⟨_, rfl⟩
  obtain ⟨B, hB⟩ : ∃ B, B = numD l A.2 := ⟨_, rfl⟩
  obtain ⟨C, hC⟩ : ∃ C, C = numD l B.2 := ⟨_, rfl⟩
  have l1 := numD_len (l := l) (s := (0, 0)) (Nat.zero_le _)
  rw [← hA] at l1
  have l2 := numD_len l1
  rw [← hB] at l2
  have l3 := numD_len l2
  rw [← hC] at l3
  have hF : formD l = restD A.1 B.1 C.1 l C.2 := by unfold formD; rw [← hA, ← hB, ← hC]
  have pre : C.2.2 = 0 → l.take C.2.1 = enc A.1.toNat ++ (enc B.1.toNat ++ enc C.1.toNat) := fun h0 => by
    obtain ⟨c0, c1, c2⟩ := numD_step hl l2 (by rw [← hC]; exact h0)
    obtain ⟨b0, b1, b2⟩ := numD_step hl l1 (by rw [← hB]; exact c0)
    obtain ⟨a0, a1, a2⟩ := numD_step (s := (0, 0)) hl (Nat.zero_le _) (by rw [← hA]; exact b0)
    rw [← hA] at a2
    rw [← hB] at b2
    rw [← hC] at c2
    rw [c2, b2, a2]; simp
  rw [hF] at h ha hf
  unfold restD at h ha hf
  by_cases hz : C.2.2 = 0 ∧ C.1 = 1
  · rw [if_pos hz] at h ha hf
    obtain ⟨w0, w1, w2, w3, w4⟩ := goodV.step hl l3 h
    have w4 : l.take (C.2.1 + (tkV (l.drop C.2.1)).2.1) = l.take C.2.1 ++ encV (tkV (l.drop C.2.1)).1 := w4
    have w3 : (vecR l C.2).2.1 = C.2.1 + (tkV (l.drop C.2.1)).2.1 := w3
    have ha : (vecR l C.2).2.1 = l.length := ha
    rw [← w3, ha, List.take_length, pre hz.1] at w4
    refine ⟨A.1, B.1, C.1, (vecR l C.2).1, [], hf, (fun o ho => by cases ho), ?_⟩
    conv => rhs; rw [w4]
    unfold bodyE
    rw [if_pos hz.2]
    simp only [encs, List.map_cons, List.map_nil, List.flatten_cons, List.flatten_nil, List.append_nil, List.append_assoc, opsE]
    rfl
  · rw [if_neg hz] at h ha hf
    have l4 := numD_len l3
    obtain ⟨o0, o1, o2, o3, o4⟩ := opsD_ok _ l _ hl l4 h
    obtain ⟨n0, n1, n2⟩ := numD_step hl l3 o0
    have hC1 : C.1 ≠ 1 := fun e => hz ⟨n0, e⟩
    obtain ⟨s1, s2, s3⟩ := frm_ok hf
    obtain ⟨z2, _, _, _, h8⟩ := s3.resolve_left fun e => hC1 e.1
    have h8 : (opsD (min (numD l C.2).1.toNat 9) l (numD l C.2).2).1.length ≤ 8 := h8
    rw [o1] at h8
    have hn : (numD l C.2).1.toNat = (opsD (min (numD l C.2).1.toNat 9) l (numD l C.2).2).1.length := by rw [o1]; omega
    refine ⟨A.1, B.1, C.1, [], (opsD (min (numD l C.2).1.toNat 9) l (numD l C.2).2).1, hf, fun o ho => (o2 o ho).2, ?_⟩
    have ha : (opsD (min (numD l C.2).1.toNat 9) l (numD l C.2).2).2.1 = l.length := ha
    rw [ha, List.take_length, n2, pre n0] at o3
    unfold bodyE
    rw [if_neg hC1, ← hn]
    conv => rhs; rw [o3]
    simp only [encs, List.map_cons, List.map_nil, List.flatten_cons, List.flatten_nil, List.append_nil, List.append_assoc]
/-- the two parses are one -/
theorem parseD_eq {l : List Nat} (hl : Bytes8 l) : parseD l = parseP l := by
  refine parseD_of hl (fun h => ?_) parseD_put
  unfold parseD at h
  split at h
  · exact absurd h (by decide)
  rename_i h4
  split at h
  · rename_i hw
    split at h
    · rename_i hc
      obtain ⟨x, y, z, v, ops, h1, h2, h3⟩ := formD_ok (hl.drop 4) hc.1 hc.2.1 hc.2.2
      refine ⟨x, y, z, v, ops, h1, h2, ?_⟩
      unfold frmE
      rw [h3, ← hw]
      exact (four_word hl (by omega)).symm
    · exact absurd h (by decide)
  · exact absurd h (by decide)
/-- what was seen beside the row, written -/
theorem OwnD.putg {α : Type} {E : Hp → α → List AV → Prop} {sz : Nat} {g h : Hp} {a : AV} {l : List α} {p : Nat} {c : List AV} (o : OwnD E sz (g.put p c) h a l) (c' : List AV) : OwnD E sz (g.put p c') (h.put p c') a l := by
  obtain ⟨p0, css, qs, o⟩ := o
  have hg : (g.put p c).g p = some c := Hp.put_same _ _ _
  have hp0 : p0.g p = some c := o.le p c hg
  have hq : ∀ i, (qs i).g p = none := fun i => by
    cases e : (qs i).g p with
    | none => rfl
    | some x => have := o.dj i p x e; rw [hg] at this; cases this
  refine ⟨p0.put p c', css, qs, fun k x e => ?_, o.lo, o.fr.putg hp0 c', o.len, fun i k x e => ?_, fun i k x e => ?_, o.dd, o.qlo, o.own, o.el⟩
  · by_cases hk : k = p
    · subst hk; rw [Hp.put_same] at e ⊢; exact e
    · rw [Hp.put_ne _ _ hk] at e ⊢; exact o.le k x (by rw [Hp.put_ne _ _ hk]; exact e)
  · by_cases hk : k = p
    · subst hk; rw [hq i] at e; cases e
    · rw [Hp.put_ne _ _ hk]; exact o.sub i k x e
  · by_cases hk : k = p
    · subst hk; rw [hq i] at e; cases e
    · have := o.dj i k x e
      rw [Hp.put_ne _ _ hk] at this ⊢; exact this
theorem takeO_bad {l : List Nat} (h : (takeO l).2.2 ≠ 0) : (takeO l).1 = zeroO := by
  unfold takeO at h ⊢
  split
  · rename_i h1
    rw [if_pos h1] at h
    split
    · rename_i x hx
      rw [hx] at h
      simp only at h
      split
      · rename_i h2; rw [if_pos h2] at h; exact absurd rfl h
      · rfl
    · rfl
  · rfl
theorem takeO_opk {l : List Nat} (hl : Bytes8 l) : opOk (takeO l).1 := by
  by_cases h : (takeO l).2.2 = 0
  · have := (mayO_nums (takeO_was hl h).1).len
    show (takeO l).1.deps.length < 1000000; omega
  · rw [takeO_bad h]; show 0 < 1000000; omega
theorem takeO_in {l : List Nat} (hl : Bytes8 l) {d : AV} {h0 : Hp} (r : IR h0 d (takeO l).1.deps) : D.kOp.K h0 (takeO l).1 (opC (takeO l).1 d) := by
  by_cases h : (takeO l).2.2 = 0
  · obtain ⟨w1, w2, w3, w4⟩ := takeO_was hl h
    exact nums_in w1 w4 r
  · rw [takeO_bad h] at r ⊢
    have i : In64 0 := ⟨by omega, by omega⟩
    exact op_mk i i i r (by show 0 ≤ _; omega) i i i i i (by show 0 ≤ _; omega) (fun x hx => by cases hx) i i
/-- one more operation taken by the document's reader, appended -/
theorem OpOwn.takeD {g h : Hp} {a : AV} {l : List D.Op} (o : OpOwn g h a l) {q : List Nat} {r : AV} (br : BR g r q) (hb : q.length < 900000) (hq : Bytes8 q) (hl : l.length < 100) {Post : AV → Hp → Prop}
    (k : ∀ d h', d.sc = true → (∀ (Q : Option AV → Hp → Prop), (∀ r' h2, OpOwn g h2 r' (l ++ [(takeO q).1]) → Q (some r') h2) → wpE (.app a 1 (.lit (opC (takeO q).1 d)) 12) Q h') → Post (.tup [.agg (opC (takeO q).1 d), .i .i64 ((takeO q).2.1 : Nat), .i .i64 (takeO q).2.2]) h') : wpC Try.prog 30 [r] Post h := by
  obtain ⟨p, css, qs, oe⟩ := o
  refine (oe.fr.call (Q := fun w p' => ∃ d, w = .tup [.agg (opC (takeO q).1 d), .i .i64 ((takeO q).2.1 : Nat), .i .i64 (takeO q).2.2] ∧ Kn.int.Own p p' d (takeO q).1.deps) (c30 (br.mono oe.le) hb fun d h' o => ?_)).mono ?_
  · rw [takeD_eq] at o ⊢
    exact ⟨d, rfl, o⟩
  rintro w h1 ⟨p', fr, hlo, d, rfl, ow⟩
  exact k _ _ ow.sc fun Q kq => OpOwn.snoc oe fr hlo (takeO_in hq ow.row) ow (by omega) kq
theorem tkV_short (l : List Nat) : (tkV l).1.length ≤ 1024 := by
  unfold tkV
  split
  · split
    · rename_i h; have := vecV_len h; omega
    · simp
  · simp
theorem c10 {h : Hp} {a : AV} {l : List Nat} {Post : AV → Hp → Prop} (r : BR h a l) (hb : l.length < 900000) (k1 : (parseD l).1 = none → ∀ h', h.le h' → h'.lo = h.lo → Post (.tup [frmA 0 0 0 .ns .ns, .i .i64 (parseD l).2]) h')
    (k2 : ∀ f, parseD l = (some f, 0) → ∀ a4 a5 h', FrmOwn h h' a4 a5 f.2.2.2.1 f.2.2.2.2 → Post (.tup [frmA f.1 f.2.1 f.2.2.1 a4 a5, .i .i64 0]) h') : wpC Try.prog 10 [a] Post h := by
  have hl8 : Bytes8 l := fun x hx => byte_lt r hx
  refine call_sound (args := [.vv a]) (cuts := [9000054, 17000076, 20999999, 29000121, 39000178]) ⟨r.sc, trivial⟩ ?_
  rw [vc10]
  have bad : ∀ e : Int, parseD l = (none, e) → ∀ h', h.le h' → h'.lo = h.lo → Post (.tup [frmA 0 0 0 .ns .ns, .i .i64 e]) h' := fun e he h' le lo => by
    have := k1 (by rw [he]) h' le lo
    rw [he] at this
    exact this
  unfold parseD at bad k2
  refine fun _ => onO.mk r.len (onB.dec (fun e => bad _ (by rw [if_pos (by omega)]) _ (Hp.le_refl h) rfl) (fun e => ?_))
  rw [if_neg (by omega)] at bad k2
  have h4 : 4 ≤ l.length := by omega
  have hc := crc_lt (s := 0) (hl8.drop 4) (by omega)
  refine r.from rfl h4 fun a0 r0 => c22 (s := 0) r0 (by omega) (by simp; omega) (onRet.u32 ?_)
  obtain ⟨C, hC⟩ : ∃ C, C = crc 0 (l.drop 4) := ⟨_, rfl⟩
  rw [← hC] at hc bad k2 ⊢
  obtain ⟨x0, e0⟩ := get_lt (l := l) (k := 0) (by omega)
  obtain ⟨x1, e1⟩ := get_lt (l := l) (k := 1) (by omega)
  obtain ⟨x2, e2⟩ := get_lt (l := l) (k := 2) (by omega)
  obtain ⟨x3, e3⟩ := get_lt (l := l) (k := 3) (by omega)
  have b0 := byte_lt r (List.mem_of_getElem? e0)
  have b1 := byte_lt r (List.mem_of_getElem? e1)
  have b2 := byte_lt r (List.mem_of_getElem? e2)
  have b3 := byte_lt r (List.mem_of_getElem? e3)
  have hw : word l = x0 * 16777216 + x1 * 65536 + x2 * 256 + x3 := by
    unfold word
    simp only [List.getD_eq_getElem?_getD, e0, e1, e2, e3, Option.getD_some]
  have p24 : (2 : Nat) ^ 24 = 16777216 := rfl
  have p16 : (2 : Nat) ^ 16 = 65536 := rfl
  have p8 : (2 : Nat) ^ 8 = 256 := rfl
  refine ⟨fun c h' => h = h' ∧ (c = true ↔ word l ≠ C), ?_, ?_⟩
  · refine byte0 r (k := 0) e0 (onO.mk (shr32 24 (by omega)) (onO.mk wr8d (onB.ndec (fun e => ⟨rfl, by rw [p24] at e; simp only [true_iff]; omega⟩) (fun f0 => ?_))))
    refine byte0 r (k := 1) e1 (onO.mk (shr32 16 (by omega)) (onO.mk wr8d (onB.ndec (fun e => ⟨rfl, by rw [p16] at e; simp only [true_iff]; omega⟩) (fun f1 => ?_))))
    refine byte0 r (k := 2) e2 (onO.mk (shr32 8 (by omega)) (onO.mk wr8d (onB.ndec (fun e => ⟨rfl, by rw [p8] at e; simp only [true_iff]; omega⟩) (fun f2 => ?_))))
    refine byte0 r (k := 3) e3 (onO.mk wr8n ⟨rfl, ?_⟩)
    rw [p24] at f0
    rw [p16] at f1
    rw [p8] at f2
    by_cases f3 : (x3 : Int) = ((C % 256 : Nat) : Int)
    · rw [decide_eq_true f3]
      simp only [Bool.not_true, Bool.false_eq_true, false_iff]
      omega
    · rw [decide_eq_false f3]
      simp only [Bool.not_false, true_iff]
      omega
  rintro _ c0 ⟨rfl, hc0⟩
  refine onB.mk (fun e => bad _ (by rw [if_neg (hc0.1 e)]) _ (Hp.le_refl h) rfl) (fun e => ?_)
  have hwc : word l = C := by
    by_cases q : word l = C
    · exact q
    · rw [hc0.2 q] at e; cases e
  rw [if_pos hwc] at bad k2
  refine r.from rfl h4 fun a2 r2 p2 hp hlo => ?_
  have hB8 := hl8.drop 4
  have hbB : (l.drop 4).length < 900000 := by simp; omega
  obtain ⟨B, eB⟩ : ∃ B, B = l.drop 4 := ⟨_, rfl⟩
  rw [← eB] at r2 bad k2 hB8 hbB
  obtain ⟨X, hX⟩ : ∃ X, X = numD B (0, 0) := ⟨_, rfl⟩
  obtain ⟨Y, hY⟩ : ∃ Y, Y = numD B X.2 := ⟨_, rfl⟩
  obtain ⟨Z, hZ⟩ : ∃ Z, Z = numD B Y.2 := ⟨_, rfl⟩
  have l1 := numD_len (l := B) (s := (0, 0)) (Nat.zero_le _)
  rw [← hX] at l1
  have l2 := numD_len l1
  rw [← hY] at l2
  have l3 := numD_len l2
  rw [← hZ] at l3
  have hF : formD B = restD X.1 Y.1 Z.1 B Z.2 := by unfold formD; rw [← hX, ← hY, ← hZ]
  refine c28 r2 hlo hp (s := (0, 0)) (Nat.zero_le _) hbB (onRet.i ?_)
  rw [← hX]
  refine c28 r2 hlo hp l1 hbB (onRet.i ?_)
  rw [← hY]
  refine c28 r2 hlo hp l2 hbB (onRet.i ?_)
  rw [← hZ]
  intro _
  refine ⟨fun c h' => h.put p2 (rdC a2 Z.2) = h' ∧ (c = true ↔ Z.2.2 = 0 ∧ Z.1 = 1), onO.mk rdc2 (onL.i1 (onB.dec (fun e => ⟨rfl, by simp [e]⟩) (fun e => ⟨rfl, by simp [e]⟩))), ?_⟩
  rintro _ c1 ⟨rfl, hc1⟩
  refine ⟨fun x y z a4 a5 h' => x = X.1 ∧ y = Y.1 ∧ z = Z.1 ∧ ∃ (v : List Int) (ops : List D.Op) (s : Rd), formD B = ((X.1, Y.1, Z.1, v, ops), s) ∧ FrmOwn h h' a4 a5 v ops ∧ h'.g p2 = some (rdC a2 s) ∧ (∀ o ∈ ops, opOk o) ∧ v.length < 1000000 ∧ ops.length < 1000000, onB.mk (fun e => ?_) (fun e => ?_), ?_⟩
  · obtain ⟨z1, z2⟩ := hc1.1 e
    refine onO.mk rdc0 (onL.r1 r2.sc (vec_part r2 hlo hp l3 hbB z1 fun d G' ow hp' hlo' => ⟨rfl, rfl, rfl, (vecR B Z.2).1, [], (vecR B Z.2).2, ?_, ⟨Hp.le_trans ow.le (Hp.le_put hp'), ow.lo, .inl ⟨ow.moren hp' _, rfl, rfl⟩⟩, Hp.put_same _ _ _, (fun o ho => by cases ho), ?_, by simp⟩))
    · rw [hF]; unfold restD; rw [if_pos ⟨z1, z2⟩]
    · have := tkV_short (B.drop Z.2.1)
      show (tkV (B.drop Z.2.1)).1.length < _; omega
  · have hz : ¬ (Z.2.2 = 0 ∧ Z.1 = 1) := fun q => by rw [hc1.2 q] at e; cases e
    obtain ⟨W, hW⟩ : ∃ W, W = numD B Z.2 := ⟨_, rfl⟩
    have l4 := numD_len l3
    rw [← hW] at l4
    obtain ⟨N, hN⟩ : ∃ N, N = min W.1.toNat 9 := ⟨_, rfl⟩
    have hF2 : formD B = ((X.1, Y.1, Z.1, [], (opsD N B W.2).1), (opsD N B W.2).2) := by rw [hF]; unfold restD; rw [if_neg hz, ← hW, ← hN]
    refine c28 r2 hlo hp l3 hbB (onRet.i ?_)
    rw [← hW]
    refine ⟨fun m i x y z a11 a12 h' => ∃ (j : Nat) (acc : List D.Op) (s : Rd), i = j ∧ x = X.1 ∧ y = Y.1 ∧ z = Z.1 ∧ a11 = .ns ∧ j ≤ N ∧ m = N - j ∧ acc.length = j ∧ (∀ o ∈ acc, opOk o) ∧ s.1 ≤ B.length ∧ OpOwn (h.put p2 (rdC a2 s)) h' a12 acc ∧ opsD N B W.2 = (acc ++ (opsD (N - j) B s).1, (opsD (N - j) B s).2), ⟨N, 0, [], W.2, rfl, rfl, rfl, rfl, rfl, by omega, rfl, rfl, (fun o ho => by cases ho), l4, OwnD.nil _, rfl⟩, ?_⟩
    rintro m h10 _ _ _ _ a11 _ a12 _ ⟨j, acc, s, rfl, rfl, rfl, rfl, rfl, hj, rfl, ha, hok, hs, ow, hop⟩
    have q0 : rdH h10 p2 0 1 = some [a2] := rdH_le ow.kn.le rdc0
    have q1 : rdH h10 p2 1 1 = some [.i .i64 (s.1 : Nat)] := rdH_le ow.kn.le rdc1
    have q2 : rdH h10 p2 2 1 = some [.i .i64 s.2] := rdH_le ow.kn.le rdc2
    refine ⟨fun c h' => h10 = h' ∧ (c = true ↔ j < N ∧ s.2 = 0), ?_, ?_⟩
    · refine onB.dec (fun e => onB.dec (fun e2 => onO.mk q2 (onL.i1 ⟨rfl, ?_⟩)) (fun e2 => ⟨rfl, ?_⟩)) (fun e => ⟨rfl, ?_⟩)
      · have : j < N := by omega
        simp [this]
      · have : ¬ j < N := by omega
        simp [this]
      · have : ¬ j < N := by omega
        simp [this]
    rintro _ c2 ⟨rfl, hc2⟩
    refine onB.mk (fun e => ?_) (fun e => ?_)
    · obtain ⟨hjN, hs0⟩ := hc2.1 e
      obtain ⟨d, hd⟩ : ∃ d, N - j = d + 1 := ⟨N - j - 1, by omega⟩
      have hkl := takeO_len (B.drop s.1) (hB8.drop _)
      rw [List.length_drop] at hkl
      have hst : opsD (d + 1) B s = ((takeO (B.drop s.1)).1 :: (opsD d B (s.1 + (takeO (B.drop s.1)).2.1, (takeO (B.drop s.1)).2.2)).1, (opsD d B (s.1 + (takeO (B.drop s.1)).2.1, (takeO (B.drop s.1)).2.2)).2) := by
        show (if s.2 = 0 then _ else _) = _
        rw [if_pos hs0]
      rw [hd, hst] at hop
      refine onO.mk q0 (onL.r1 r2.sc (onO.mk q1 (onL.i1 ((r2.mono (Hp.le_put hp)).from rfl hs fun a14 b14 => OpOwn.takeD ow b14 (by simp; omega) (hB8.drop _) (by omega) fun d' h12 sd hap => onTup.opii (o := (takeO (B.drop s.1)).1) sd fun _ _ => hap _ fun a17 h13 o13 => onO.mk rfl ?_))))
      have g13 : h13.g p2 = some (rdC a2 s) := o13.kn.le p2 _ (Hp.put_same _ _ _)
      have lo13 : h13.lo ≤ p2 := by rw [o13.kn.lo]; exact hlo
      refine onO.mk (rdH_le o13.kn.le rdc1) (onL.i1 (onO.mk (add64 (by omega) (by omega)) ?_))
      refine wpE.w g13 lo13 rfl (by show 0 + 1 + 1 ≤ 3; omega) rfl ?_
      refine wpE.w (Hp.put_same _ _ _) lo13 rfl (by show 0 + 2 + 1 ≤ 3; omega) rfl ?_
      rw [put_put]
      have o14 := o13.putg (rdC a2 (s.1 + (takeO (B.drop s.1)).2.1, (takeO (B.drop s.1)).2.2))
      refine onO.mk (inc64 (by omega)) ⟨N - (j + 1), by show N - (j + 1) < N - j; omega, j + 1, acc ++ [(takeO (B.drop s.1)).1], (s.1 + (takeO (B.drop s.1)).2.1, (takeO (B.drop s.1)).2.2), rfl, rfl, rfl, rfl, rfl, by omega, rfl, by simp [ha], fun o ho => ?_, by show s.1 + _ ≤ _; omega, o14, ?_⟩
      · rcases List.mem_append.1 ho with ho | ho
        · exact hok o ho
        · simp at ho; rw [ho]; exact takeO_opk (hB8.drop _)
      · rw [hop, show N - (j + 1) = d by omega]; simp
    · have hend : opsD (N - j) B s = ([], s) := by
        by_cases q : j < N
        · obtain ⟨d, hd⟩ : ∃ d, N - j = d + 1 := ⟨N - j - 1, by omega⟩
          rw [hd]; unfold opsD
          rw [if_neg (fun q2 => by rw [hc2.2 ⟨q, q2⟩] at e; cases e)]
        · rw [show N - j = 0 by omega]; rfl
      rw [hend, List.append_nil] at hop
      rw [hop] at hF2
      have ow' : OpOwn h h10 a12 acc := ow.mono (Hp.le_put hp) rfl
      exact ⟨rfl, rfl, rfl, [], acc, s, hF2, ⟨ow'.kn.le, ow'.kn.lo, .inr ⟨rfl, rfl, ow'⟩⟩, ow.kn.le p2 _ (Hp.put_same _ _ _), hok, by simp, by omega⟩
  rintro h16 _ _ _ a18 _ a19 _ ⟨rfl, rfl, rfl, v, ops, s, hF3, fo, hg, hok, hv, hol⟩
  rw [hF3] at bad k2
  simp only at bad k2
  have rr : ∀ o n, rdH h16 p2 o n = rdH (h.put p2 (rdC a2 s)) p2 o n := fun o n => by unfold rdH; rw [hg, Hp.put_same]
  refine ⟨fun c h' => h16 = h' ∧ (c = true ↔ ¬ (s.2 = 0 ∧ s.1 = B.length ∧ frmF (X.1, Y.1, Z.1, v, ops) = true)), ?_, ?_⟩
  · refine onO.mk ((rr _ _).trans rdc2) (onL.i1 (onB.ndec (fun e => ⟨rfl, by simp [e]⟩) (fun e => onO.mk ((rr _ _).trans rdc1) (onL.i1 (onO.mk ((rr _ _).trans rdc0) (onL.r1 r2.sc (onO.mk (r2.mono fo.le).len (onB.ndec (fun e1 => ⟨rfl, ?_⟩) (fun e1 => c17 fo.ra fo.rb hv hol hok (onRet.b ⟨rfl, ?_⟩))))))))))
    · have : ¬ s.1 = B.length := by omega
      simp [this]
    · have : s.1 = B.length := by omega
      unfold frmF
      simp [this, e]
  rintro _ c4 ⟨rfl, hc4⟩
  refine onB.mk (fun e => bad _ (by rw [if_neg (hc4.1 e)]) _ fo.le fo.lo) (fun e => ?_)
  have hcond : s.2 = 0 ∧ s.1 = B.length ∧ frmF (X.1, Y.1, Z.1, v, ops) = true := by
    by_cases q : s.2 = 0 ∧ s.1 = B.length ∧ frmF (X.1, Y.1, Z.1, v, ops) = true
    · exact q
    · rw [hc4.2 q] at e; cases e
  exact k2 (X.1, Y.1, Z.1, v, ops) (by rw [if_pos hcond]) _ _ _ fo
/-- the frame told, or none -/
def resF (q : Option Fr × Int) : Fr := match q.1 with
  | some f => f
  | none => (0, 0, 0, [], [])
theorem parseP_none {l : List Nat} (h : (parseP l).2 ≠ 0) : (parseP l).1 = none := by
  unfold parseP at h ⊢
  split
  · rfl
  · rename_i h4
    rw [if_neg h4] at h
    split
    · rename_i hw
      rw [if_pos hw] at h
      split
      · rename_i f hf
        rw [hf] at h
        simp only at h
        split
        · rename_i hc; rw [if_pos hc] at h; exact absurd rfl h
        · rfl
      · rfl
    · rfl
theorem parse_fit {l : List Nat} (hl : Bytes8 l) : (resF (parseP l)).2.2.2.1.length ≤ 1024 ∧ (resF (parseP l)).2.2.2.2.length ≤ 8 ∧ ∀ o ∈ (resF (parseP l)).2.2.2.2, o.deps.length ≤ 1024 := by
  by_cases h : (parseP l).2 = 0
  · obtain ⟨x, y, z, v, ops, h1, h2, rfl⟩ := parse_ok hl h
    rw [parseP_put h1 h2]
    show v.length ≤ 1024 ∧ ops.length ≤ 8 ∧ ∀ o ∈ ops, o.deps.length ≤ 1024
    obtain ⟨_, _, s3⟩ := frm_ok h1
    rcases s3 with ⟨_, hv, rfl⟩ | ⟨_, rfl, ho, _, h8⟩
    · have := vecV_len hv
      exact ⟨by omega, by simp, fun o ho => by cases ho⟩
    · exact ⟨by simp, h8, fun o hm => by have := (mayO_nums (ho o hm)).len; omega⟩
  · have e := parseP_none h
    unfold resF
    rw [e]
    exact ⟨by simp, by simp, fun o ho => by cases ho⟩
theorem FrmOwn.spo {g h : Hp} {a b : AV} {v : List Int} {l : List D.Op} {x y z : Int} (fo : FrmOwn g h a b v l) (hv : v.length < 900000) (hl : l.length < 900000) (hd : ∀ o ∈ l, o.deps.length < 900000) : Spo 14 g h (frmA x y z a b) := by
  rcases fo.vec with ⟨h1, rfl, rfl⟩ | ⟨rfl, rfl, h1⟩
  · exact spo43v h1 hv
  · exact spo43o h1 hl hd
section
variable {g h : Hp} {a b c : AV} {l m : List Nat} {Post : AV → Hp → Prop}
theorem c39' (r : BR h a l) (hb : l.length < 900000) (k : ∀ a4 a5 h', FrmOwn h h' a4 a5 (resF (parseP l)).2.2.2.1 (resF (parseP l)).2.2.2.2 → Post (.tup [frmA (resF (parseP l)).1 (resF (parseP l)).2.1 (resF (parseP l)).2.2.1 a4 a5, .i .i64 (parseP l).2]) h') : wpC Try.prog 9 [a] Post h := by
  refine c9 r hb (fun e h' le lo => ?_) (fun f e a4 a5 h' fo => ?_)
  · have e1 : resF (parseP l) = (0, 0, 0, [], []) := by unfold resF; rw [e]
    rw [e1] at k
    exact k _ _ _ (FrmOwn.nil le lo)
  · rw [e] at k
    exact k _ _ _ fo
theorem c40' (r : BR h a l) (hb : l.length < 900000) (k : ∀ a4 a5 h', FrmOwn h h' a4 a5 (resF (parseP l)).2.2.2.1 (resF (parseP l)).2.2.2.2 → Post (.tup [frmA (resF (parseP l)).1 (resF (parseP l)).2.1 (resF (parseP l)).2.2.1 a4 a5, .i .i64 (parseP l).2]) h') : wpC Try.prog 10 [a] Post h := by
  have hl8 : Bytes8 l := fun x hx => byte_lt r hx
  rw [← parseD_eq hl8] at k
  refine c10 r hb (fun e h' le lo => ?_) (fun f e a4 a5 h' fo => ?_)
  · have e1 : resF (parseD l) = (0, 0, 0, [], []) := by unfold resF; rw [e]
    rw [e1] at k
    exact k _ _ _ (FrmOwn.nil le lo)
  · rw [e] at k
    exact k _ _ _ fo
theorem D.lawFrameParses {L : List D.FrmX} {c : AV} (kx : (Kn.slice D.kFrmX 96).K h L [c]) : wpC Try.prog 3 [c] (fun v _ => v = .b true) h := by
  obtain ⟨a, e, r, hL⟩ := kx
  injection e with e _; subst e
  refine call_sound (args := [.vv c]) (cuts := [5000019, 21000043, 24999999]) ⟨r.sc, trivial⟩ ?_
  rw [vc3]
  refine ⟨fun m _ i h' => h.le h' ∧ ∃ k : Nat, i = k ∧ k ≤ L.length ∧ m = L.length - k, ⟨_, Hp.le_refl h, 0, rfl, by omega, rfl⟩, ?_⟩
  rintro m h0 c0 _ ⟨le0, i, rfl, hi, rfl⟩
  refine ⟨fun b h' => h' = h0 ∧ (b = true → i < L.length ∧ i < 8), onO.mk r.len (onB.dec (fun e => ⟨rfl, fun e2 => ⟨by omega, by have := of_decide_eq_true e2; omega⟩⟩) (fun e => ⟨rfl, fun e => by cases e⟩)), ?_⟩
  rintro h1 c1 ⟨rfl, hc1⟩
  refine onB.mk (fun e => ?_) (fun _ => c15 fun h' => onRet.b rfl)
  obtain ⟨hlt, h12⟩ := hc1 e
  obtain ⟨p, hp⟩ := get_lt (l := L) (k := i) hlt
  obtain ⟨bb, oo, cc, e1, e2, e3⟩ := r.idx (i := (i : Int)) (Int.natCast_nonneg i) (by simpa using hp)
  obtain ⟨a0, a1, a2, rfl, r0, hl0, r1, hl1, hk, r2⟩ := frmx_open e3
  refine onO.mk e1 (onO.mk (rdH_le le0 e2) (onL.frmx r0.sc r1.sc r2.sc ?_))
  refine c6 (r0.mono le0) (r1.mono le0) (r2.mono le0) hl0 hl1 (onRet.b (onB.pos rfl rfl)) fun hv ho hx => onRet.b (onB.neg rfl ?_)
  refine ⟨fun m _ k h' => h.le h' ∧ ∃ j : Nat, k = j ∧ j ≤ 2 ∧ m = 2 - j, ⟨_, le0, 0, rfl, by omega, rfl⟩, ?_⟩
  rintro m h3 c3 _ ⟨le3, j, rfl, hj, rfl⟩
  refine onB.dec (fun e => ?_) (fun e => onO.mk (inc64 (by omega)) ⟨_, by show L.length - (i + 1) < L.length - i; omega, le3, i + 1, rfl, by omega, rfl⟩)
  refine onO.mk e1 (onO.mk (rdH_sub (rdH_le le3 e2) (o' := 5) (n' := 1) rfl) (onL.r1 r2.sc (c7 (r2.mono le3) (by omega) fun a6 h4 o6 => onRet.r o6.sc ?_)))
  refine ⟨fun c h' => h4 = h' ∧ (c = true → 4 ≤ p.x.length), onB.dec (fun _ => onO.mk o6.row.len ⟨rfl, fun e => by have := of_decide_eq_true e; omega⟩) (fun _ => ⟨rfl, fun e => by cases e⟩), ?_⟩
  rintro _ c4 ⟨rfl, hc4⟩
  refine ⟨fun h' => ∃ l, BO h3 h' a6 l ∧ l.length = p.x.length, onB.mk (fun e => ?_) (fun e => ⟨_, o6, rfl⟩), ?_⟩
  · have h4x := hc4 e
    refine o6.row.from rfl h4x fun a7 r7 => c8 r7 (by simp; omega) (onRet.u32 ?_)
    obtain ⟨C, hC⟩ : ∃ C, C = crc 0 (p.x.drop 4) := ⟨_, rfl⟩
    rw [← hC]
    refine onO.mk (shr32 24 (by omega)) (onO.mk wr8d (onO.mk (shr32 16 (by omega)) (onO.mk wr8d (onO.mk (shr32 8 (by omega)) (onO.mk wr8d (onO.mk wr8n ?_))))))
    have hm : ∀ n, n % 256 < 256 := fun n => Nat.mod_lt _ (by omega)
    exact o6.set (i := 0) (by omega) (hm _) fun h7 o7 => o7.set (i := 1) (by simp; omega) (hm _) fun h8 o8 => o8.set (i := 2) (by simp; omega) (hm _) fun h9 o9 => o9.set (i := 3) (by simp; omega) (hm _) fun h10 o10 => ⟨_, o10, by simp⟩
  rintro h11 ⟨l, o11, hl⟩
  have hb : l.length < 900000 := by omega
  refine c7 o11.row hb fun a10 h12 o12 => onRet.r o12.sc ?_
  have hl8 : Bytes8 l := fun x hx => byte_lt o12.row hx
  obtain ⟨f1, f2, f3⟩ := parse_fit hl8
  refine c39' o12.row hb fun a12 a13 h13 fo => onTup.frm fo.ra.sc fo.rb.sc fun _ => ?_
  refine c40' (o11.row.mono (Hp.le_trans o12.le fo.le)) hb fun a15 a16 h14 fo2 => onTup.frm fo2.ra.sc fo2.rb.sc fun _ => c11 (onRet.i (onB.ndec (fun q => absurd rfl q) (fun _ => ?_)))
  refine c12 (fo.ra.mono fo2.le) (fo.rb.mono fo2.le) fo2.ra fo2.rb (by omega) (by omega) (fun o hm => by have := f3 o hm; show o.deps.length < 1000000; omega) (onRet.b ?_)
  simp only [decide_true, Bool.and_self]
  have le14 := Hp.le_trans fo.le fo2.le
  refine onB.neg rfl (c13 (o12.row.mono le14) (o11.row.mono (Hp.le_trans o12.le le14)) (by omega) (onRet.b (onB.neg (by rw [decide_eq_true rfl]; rfl) ?_)))
  refine (fo.spo (by omega) (by omega) fun o hm => by have := f3 o hm; omega).use fo2.le fo2.lo fun q H dj _ lr _ => onTup.z ?_
  exact onO.mk (inc64 (by omega)) ⟨2 - (j + 1), by show 2 - (j + 1) < 2 - j; omega, Hp.le_trans le3 (Hp.le_trans o11.le (Hp.le_trans o12.le (Hp.le_trans (le_rest le14 dj) lr))), j + 1, rfl, by omega, rfl⟩
end
end Go.Proofs.YtaekfjokdbiihaaAn
