/- What the functions that the law reaches come to, down to the law itself. -/
import Derived.Test.YtaekfjokdbiihaaCnFrameParsesp0
import Derived.Test.YtaekfjokdbiihaaProg
set_option linter.unusedVariables false
set_option linter.unusedSimpArgs false
set_option maxRecDepth 100000
namespace Go.Proofs.YtaekfjokdbiihaaAn
open Go
theorem isS_fits {s : D.Stamp} (h : isS s = true) : 1 ≤ s.time ∧ s.time ≤ 1099511627776 ∧ 0 ≤ s.rep ∧ s.rep < 16 := by
  unfold isS at h
  simpa using h
theorem placeV_fits {s : D.Stamp} (h : placeV s = true) : 0 ≤ s.time ∧ s.time ≤ 1099511627776 ∧ 0 ≤ s.rep ∧ s.rep < 16 := by
  unfold placeV at h
  rw [Bool.or_eq_true, Bool.or_eq_true] at h
  rcases h with h | h | h
  · have := isS_fits h; omega
  · have := of_decide_eq_true h; subst this; simp
  · have := of_decide_eq_true h; subst this; simp
theorem mayP_fits {p v : Int} (h : mayP p v = true) : 0 ≤ p ∧ p < 19 ∧ -1 ≤ v ∧ v ≤ 1099511627776 := by
  unfold mayP propP at h
  simp only [Bool.and_eq_true, decide_eq_true_eq] at h
  obtain ⟨⟨h1, h2⟩, h3, h4⟩ := h
  obtain ⟨n, rfl⟩ := Int.eq_ofNat_of_zero_le h1
  have hn : n < 19 := by omega
  simp only [Int.toNat_natCast] at h3 h4
  have key : ∀ m : Fin 19, -1 ≤ lowP m.val ∧ highP m.val ≤ 1099511627776 := by decide
  have := key ⟨n, hn⟩
  simp only at this
  omega
/-- the numbers of what may be -/
structure OpNums (o : D.Op) : Prop where
  stamp : 1 ≤ o.stamp.time ∧ o.stamp.time ≤ 1099511627776 ∧ 0 ≤ o.stamp.rep ∧ o.stamp.rep < 16
  deps : ∀ x ∈ o.deps, 0 ≤ x ∧ x ≤ 1099511627776
  len : 1 ≤ o.deps.length ∧ o.deps.length ≤ 16
  node : 1 ≤ o.node.time ∧ o.node.time ≤ 1099511627776 ∧ 0 ≤ o.node.rep ∧ o.node.rep < 16
  kind : (o.kind = 1 ∧ (0 ≤ o.parent.time ∧ o.parent.time ≤ 1099511627776 ∧ 0 ≤ o.parent.rep ∧ o.parent.rep < 16) ∧ 1 ≤ o.key.length ∧ o.key.length ≤ 64 ∧ o.prop = 0 ∧ o.value = 0) ∨
    (o.kind = 2 ∧ (0 ≤ o.prop ∧ o.prop < 19 ∧ -1 ≤ o.value ∧ o.value ≤ 1099511627776) ∧ o.parent = ⟨0, 0⟩ ∧ o.key = [])
theorem mayO_nums {o : D.Op} (h : mayO o = true) : OpNums o := by
  unfold mayO at h
  simp only [Bool.and_eq_true] at h
  obtain ⟨h1, h2, h3, h4, h5⟩ := h
  have hv := h2
  unfold vecV at hv
  simp only [Bool.and_eq_true, List.all_eq_true, decide_eq_true_eq] at hv
  refine ⟨isS_fits h1, fun x hx => ?_, hv.2, isS_fits h3, ?_⟩
  · have := hv.1 x hx
    simpa [numV] using this
  · unfold kindV at h5
    split at h5
    · rename_i hk
      simp only [Bool.and_eq_true, decide_eq_true_eq] at h5
      obtain ⟨q1, q2, q3, q4⟩ := h5
      unfold keyV at q2
      simp only [Bool.and_eq_true, decide_eq_true_eq] at q2
      exact .inl ⟨hk, placeV_fits q1, q2.1, q2.2.1, q3, q4⟩
    · split at h5
      · rename_i hk
        simp only [Bool.and_eq_true, decide_eq_true_eq] at h5
        exact .inr ⟨hk, mayP_fits h5.1, h5.2.1, h5.2.2⟩
      · cases h5
section
variable {g h : Hp} {a b : AV} {l m : List Nat} {Post : AV → Hp → Prop}
theorem c52 {o : D.Op} {d : AV} (ow : BO g h a l) (rd : IR g d o.deps) (hm : mayO o = true) (hk : ∀ x ∈ o.key, x < 256) (hb : l.length < 900000) (k : ∀ r h', BO g h' r (l ++ opE o) → Post r h') : wpC Try.prog 52 [a, .agg (opC o d)] Post h := by
  obtain ⟨s1, s2, s3, s4, s5⟩ := mayO_nums hm
  refine call_sound (args := [.vv a, opS o d]) (cuts := []) ⟨ow.sc, opS_good rd.sc, trivial⟩ ?_
  unfold opS
  rw [vc52]
  intro _
  have t1 := enc_len10 (n := o.stamp.time.toNat) (by omega)
  have t2 := enc_len10 (n := o.stamp.rep.toNat) (by omega)
  have t3 := enc_len10 (n := o.deps.length) (by omega)
  have t4 := encs_len (v := o.deps) fun x hx => by have := s2 x hx; omega
  have t5 : 0 ≤ o.kind ∧ o.kind ≤ 2 := by rcases s5 with s | s <;> omega
  obtain ⟨K, hK⟩ := Int.eq_ofNat_of_zero_le t5.1
  have t6 := enc_len10 (n := K) (by omega)
  have t7 := enc_len10 (n := o.node.time.toNat) (by omega)
  have t8 := enc_len10 (n := o.node.rep.toNat) (by omega)
  refine c70 (s := o.stamp) ow ⟨by omega, by omega⟩ ⟨by omega, by omega⟩ (by omega) fun r1 h1 o1 => onRet.r o1.sc ?_
  refine c51 o1 rd (fun x hx => by have := s2 x hx; omega) (by omega) (by simp only [List.length_append]; omega) fun r2 h2 o2 => onRet.r o2.sc ?_
  rw [hK]
  refine c50 o2 (by omega) (by simp only [List.length_append]; omega) fun r3 h3 o3 => onRet.r o3.sc ?_
  refine c70 (s := o.node) o3 ⟨by omega, by omega⟩ ⟨by omega, by omega⟩ (by simp only [List.length_append]; omega) fun r4 h4 o4 => onRet.r o4.sc ?_
  rcases s5 with ⟨k1, k2, k3, k4, k5, k6⟩ | ⟨k1, k2, k3, k4⟩
  · refine onB.pos (by rw [← hK, k1]; rfl) (c70 (s := o.parent) o4 ⟨by omega, by omega⟩ ⟨by omega, by omega⟩ (by simp only [List.length_append]; omega) fun r5 h5 o5 => onRet.r o5.sc ?_)
    have t9 := enc_len10 (n := o.parent.time.toNat) (by omega)
    have t10 := enc_len10 (n := o.parent.rep.toNat) (by omega)
    refine c71 o5 hk (by simp only [List.length_append]; omega) fun r6 h6 o6 => onRet.r o6.sc (k _ _ ?_)
    unfold opE
    rw [if_pos k1, hK]
    simpa [List.append_assoc] using o6
  · refine onB.neg (by rw [← hK, k1]; rfl) ?_
    obtain ⟨p, hp⟩ := Int.eq_ofNat_of_zero_le k2.1
    have t9 := enc_len10 (n := p) (by omega)
    obtain ⟨w, hw⟩ := Int.eq_ofNat_of_zero_le (a := o.value + 1) (by omega)
    rw [hp]
    refine c50 o4 (by omega) (by simp only [List.length_append]; omega) fun r5 h5 o5 => onRet.r o5.sc (onO.mk (add64 (by omega) (by omega)) ?_)
    rw [hw]
    refine c50 o5 (by omega) (by simp only [List.length_append]; omega) fun r6 h6 o6 => onRet.r o6.sc (k _ _ ?_)
    unfold opE
    rw [if_neg (by omega), hK, hp, hw]
    simpa [List.append_assoc] using o6
theorem c7 (r : BR h a l) (hb : l.length < 900000) (k : ∀ r' h', BO h h' r' l → Post r' h') : wpC Try.prog 7 [a] Post h := by
  refine call_sound (args := [.vv a]) (cuts := []) ⟨r.sc, trivial⟩ ?_
  rw [vc7]
  refine ⟨fun m b i h' => ∃ k : Nat, i = k ∧ k ≤ l.length ∧ m = l.length - k ∧ BO h h' b (l.take k), ⟨l.length, 0, rfl, by omega, rfl, Kn.Own.nil _ _⟩, ?_⟩
  rintro m h0 b _ _ ⟨j, rfl, hj, rfl, ow⟩
  refine onO.mk r.len (onB.dec (fun e => ?_) (fun e => ?_))
  · obtain ⟨x, hx⟩ := get_lt (l := l) (k := j) (by omega)
    refine byte0 (r.mono ow.le) hx fun _ => app_byte (Post := fun a2 h1 => onO (intO .add .i64 (j : Int) 1) fun n2 => ∃ p4, ltN p4 (l.length - j) ∧ ∃ k : Nat, n2 = k ∧ k ≤ l.length ∧ p4 = l.length - k ∧ BO h h1 a2 (l.take k)) ow (byte_lt r (List.mem_of_getElem? hx)) (by simp; omega) fun r' h' ow' => ?_
    exact onO.mk (inc64 (by omega)) ⟨_, by show l.length - (j + 1) < l.length - j; omega, j + 1, rfl, by omega, rfl, by rw [take_succ' hx]; exact ow'⟩
  · have : j = l.length := by omega
    subst this
    rw [List.take_length] at ow
    exact k _ _ ow
theorem c13 (ra : BR h a l) (rb : BR h b m) (hb : l.length < 1000000) (k : Post (.b (decide (l = m))) h) : wpC Try.prog 13 [a, b] Post h := by
  refine call_sound (args := [.vv a, .vv b]) (cuts := []) ⟨ra.sc, rb.sc, trivial⟩ ?_
  rw [vc13]
  refine onO.mk ra.len (onO.mk rb.len (onB.ndec (fun e => ?_) (fun e => ?_)))
  · rw [decide_eq_false (fun e' => e (by rw [e']))] at k
    exact k
  · have hl : l.length = m.length := by omega
    refine ⟨fun q _ i h' => h' = h ∧ ∃ k : Nat, i = k ∧ k ≤ l.length ∧ q = l.length - k ∧ l.take k = m.take k, ⟨l.length, rfl, 0, rfl, by omega, rfl, by simp⟩, ?_⟩
    rintro q h0 _ _ ⟨rfl, j, rfl, hj, rfl, hp⟩
    refine onO.mk ra.len (onB.dec (fun e => ?_) (fun e => ?_))
    · obtain ⟨x, hx⟩ := get_lt (l := l) (k := j) (by omega)
      obtain ⟨y, hy⟩ := get_lt (l := m) (k := j) (by omega)
      refine byte0 ra hx (byte0 rb hy (onB.ndec (fun e1 => ?_) (fun e1 => ?_)))
      · have : l ≠ m := by
          intro e2; subst e2; rw [hx] at hy; injection hy with hy; exact e1 (by rw [hy])
        rw [decide_eq_false this] at k; exact k
      · have : x = y := by omega
        subst this
        exact onO.mk (inc64 (by omega)) ⟨_, by show l.length - (j + 1) < l.length - j; omega, rfl, j + 1, rfl, by omega, rfl, by rw [take_succ' hx, take_succ' hy, hp]⟩
    · have : j = l.length := by omega
      subst this
      rw [List.take_length, hl, List.take_length] at hp
      rw [decide_eq_true hp] at k; exact k
end
theorem and127 {n : Nat} (h : n < 256) : intO .and .u8 (n : Int) 127 = some ((n % 128 : Nat) : Int) := by
  unfold intO
  have e : intA .and .u8 (n : Int) 127 = some (.i .u8 (wrapA .u8 (.ofNat (Nat.land n 127)))) := by
    show (cond (Nat.blt n 256 && Nat.blt 127 256) _ none : Option AV) = _
    rw [blt_of h]; rfl
  rw [e]
  have h2 : Nat.land n 127 = n % 128 := Nat.and_two_pow_sub_one_eq_mod n 7
  rw [h2]
  show some (wrapA .u8 ((n % 128 : Nat) : Int)) = _
  rw [wrap_mod rfl]
  congr 1
  show ((n % 128 : Nat) : Int) % 256 = _
  omega
theorem pow7 {i : Nat} (h : i ≤ 8) : 2 ^ (7 * i) ≤ 72057594037927936 := by
  have : (2 : Nat) ^ (7 * i) ≤ 2 ^ 56 := Nat.pow_le_pow_right (by omega) (by omega)
  simpa using this
theorem mul_lt128 {c p : Nat} (hc : c < 128) (hp : p ≤ 72057594037927936) : c * p ≤ 9151314442816847872 := by
  have : c * p ≤ 127 * 72057594037927936 := Nat.mul_le_mul (by omega) hp
  omega
theorem shl7 {c i : Nat} (hc : c < 128) (hi : i ≤ 8) : shO .shl .i64 (c : Int) ((7 * i : Nat) : Int) = some ((c * 2 ^ (7 * i) : Nat) : Int) := by
  unfold shO
  have hb : Nat.ble (7 * i) 64 = true := Nat.ble_eq_true_of_le (by omega)
  have e : shiftA .shl .i64 (c : Int) ((7 * i : Nat) : Int) = some (.i .i64 (wrapA .i64 (Int.mul (c : Int) (.ofNat (Nat.pow 2 (cond (Nat.ble (7 * i) 64) (7 * i) 64)))))) := rfl
  rw [e, hb, cond_true]
  have h1 := mul_lt128 hc (pow7 hi)
  have h2 : Int.mul (c : Int) (.ofNat (Nat.pow 2 (7 * i))) = ((c * 2 ^ (7 * i) : Nat) : Int) := by
    rw [Int.natCast_mul]; rfl
  rw [h2, wrap64 (by omega) (by omega)]
theorem or64 {a c i : Nat} (ha : a < 2 ^ (7 * i)) (hc : c < 128) (hi : i ≤ 8) : intO .or .i64 (a : Int) ((c * 2 ^ (7 * i) : Nat) : Int) = some ((a + c * 2 ^ (7 * i) : Nat) : Int) := by
  have h1 := mul_lt128 hc (pow7 hi)
  have h0 := pow7 hi
  unfold intO
  have e : intA .or .i64 (a : Int) ((c * 2 ^ (7 * i) : Nat) : Int) = some (.i .i64 (wrapA .i64 (.ofNat (Nat.lor a (c * 2 ^ (7 * i)))))) := by
    show (cond (Nat.blt a 18446744073709551616 && Nat.blt (c * 2 ^ (7 * i)) 18446744073709551616) _ none : Option AV) = _
    rw [blt_of (by omega), blt_of (by omega)]; rfl
  rw [e]
  have h2 : Nat.lor a (c * 2 ^ (7 * i)) = a + c * 2 ^ (7 * i) := by
    have := Nat.two_pow_add_eq_or_of_lt ha c
    show a ||| (c * 2 ^ (7 * i)) = _
    rw [Nat.or_comm, Nat.mul_comm c, ← this]; omega
  rw [h2]
  have hs : a + c * 2 ^ (7 * i) < 9223372036854775808 := by
    have : a + c * 2 ^ (7 * i) < 72057594037927936 + 9151314442816847872 := by omega
    omega
  show some (wrapA .i64 ((a + c * 2 ^ (7 * i) : Nat) : Int)) = _
  rw [wrap64 (by omega) (by omega)]
theorem onTup.iii' {n m p : Int} {K : Int → Int → Int → Prop} (k : K n m p) : onTup [Sh.one (Kd.int .i64), Sh.one (Kd.int .i64), Sh.one (Kd.int .i64)] (.tup [.i .i64 n, .i .i64 m, .i .i64 p]) K := k
theorem onTup.rii {a : AV} (hs : a.sc = true) {n m : Int} {K : AV → Int → Int → Prop} (k : K a n m) : onTup [Sh.one Kd.ref, Sh.one (Kd.int .i64), Sh.one (Kd.int .i64)] (.tup [a, .i .i64 n, .i .i64 m]) K := by
  show onS [Sh.one Kd.ref, Sh.one (Kd.int .i64), Sh.one (Kd.int .i64)] [a, .i .i64 n, .i .i64 m] K
  unfold onS
  have e : flatV [Sh.one Kd.ref, Sh.one (Kd.int .i64), Sh.one (Kd.int .i64)] [a, .i .i64 n, .i .i64 m] = some [a, .i .i64 n, .i .i64 m] := by
    cases a <;> first | rfl | cases hs
  rw [e]
  exact onRef.mk (K := fun a => K a n m) hs k
theorem onTup.sii {s : List Nat} {n m : Int} {K : List Nat → Int → Int → Prop} (k : K s n m) : onTup [Sh.one Kd.str, Sh.one (Kd.int .i64), Sh.one (Kd.int .i64)] (.tup [.s s, .i .i64 n, .i .i64 m]) K := k
theorem onTup.aii {x y n m : Int} {K : Int → Int → Int → Int → Prop} (k : K x y n m) : onTup [Sh.agg [Kd.int .i64, Kd.int .i64], Sh.one (Kd.int .i64), Sh.one (Kd.int .i64)] (.tup [.agg [.i .i64 x, .i .i64 y], .i .i64 n, .i .i64 m]) K := k
/-- a part of a row of data -/
theorem Kn.Row.cut {α : Type} {d : Kn α} {h : Hp} {a : AV} {l : List α} (r : d.Row h a l) {lo hi : Option Int} {i j sz : Nat} (hsz : d.sz = sz) (hlo : natO 0 lo = some i) (hhi : natO l.length hi = some j) (h1 : i ≤ j) (h2 : j ≤ l.length) :
    ∃ r', slV a lo hi none sz = some r' ∧ d.Row h r' ((l.drop i).take (j - i)) := by
  subst hsz
  obtain ⟨css, r1, r2⟩ := r
  have hl := r2.length
  obtain ⟨r', e1, e2⟩ := r1.slice (lo := lo) (hi := hi) hlo (by rw [← hl]; exact hhi) h1 (by omega) (fun _ => trivial)
  exact ⟨r', e1, _, e2, (r2.drop i).take (j - i)⟩
theorem Kn.Row.from {α : Type} {d : Kn α} {h : Hp} {a : AV} {l : List α} (r : d.Row h a l) {i sz : Nat} (hsz : d.sz = sz) (h1 : i ≤ l.length) {K : AV → Prop} (k : ∀ r', d.Row h r' (l.drop i) → K r') : onO (slV a (some (i : Int)) none none sz) K := by
  obtain ⟨r', e1, e2⟩ := r.cut (lo := some (i : Int)) (hi := none) (i := i) (j := l.length) hsz rfl rfl h1 (Nat.le_refl _)
  rw [List.take_of_length_le (by simp)] at e2
  exact onO.mk e1 (k r' e2)
section
variable {g h : Hp} {a b : AV} {l m : List Nat} {Post : AV → Hp → Prop}
theorem c66 (r : BR h a l) (hb : l.length < 1000000) (k : Post (.tup [.i .i64 (tkN l).1, .i .i64 ((tkN l).2.1 : Nat), .i .i64 (tkN l).2.2]) h) : wpC Try.prog 66 [a] Post h := by
  refine call_sound (args := [.vv a]) (cuts := [0]) ⟨r.sc, trivial⟩ ?_
  rw [vc66]
  refine ⟨fun q n0 n1 _ _ h' => h' = h ∧ ∃ i acc : Nat, n0 = i ∧ n1 = acc ∧ i ≤ l.length ∧ i ≤ 8 ∧ q = l.length - i ∧ acc < 2 ^ (7 * i) ∧ tkN l = tkF (l.drop i) i acc, ⟨l.length, rfl, 0, 0, rfl, rfl, by omega, by omega, rfl, by simp, rfl⟩, ?_⟩
  rintro q h0 _ _ _ _ ⟨rfl, i, acc, rfl, rfl, hi, hi8, rfl, hacc, hp⟩
  refine Dup.mk (onO.mk r.len (onB.dec (fun e => ?_) (fun e => ?_)))
  · have : i = l.length := by omega
    rw [hp, this, List.drop_length] at k
    exact k
  · obtain ⟨x, hx⟩ := get_lt (l := l) (k := i) (by omega)
    have hx8 := byte_lt r (List.mem_of_getElem? hx)
    rw [drop_of hx] at hp
    unfold tkF at hp
    have hm7 : intO .mul .i64 7 (i : Int) = some ((7 * i : Nat) : Int) := by rw [mul64 (by omega) (by omega)]; rfl
    have hc := Nat.mod_lt x (show 128 > 0 by omega)
    have hp0 := pow7 hi8
    have hlt := mul_lt128 hc hp0
    refine byte0 r hx (onB.dec (fun e1 => ?_) (fun e1 => ?_))
    · refine onB.dec (fun e2 => ?_) (fun e2 => ?_)
      · rw [if_pos ⟨by omega, by omega⟩] at hp
        rw [hp] at k; exact k
      · rw [if_neg (by omega), if_pos (by omega)] at hp
        refine byte0 r hx (onO.mk (and127 hx8) (onO.mk (wr64 (by omega) (by omega)) (onO.mk hm7 (onO.mk (shl7 hc hi8) (onO.mk (or64 hacc hc hi8) (byte0 r hx (onB.pos (decide_eq_true e1) ?_)))))))
        refine onO.mk (inc64 (by omega)) ⟨_, by show l.length - (i + 1) < l.length - i; omega, rfl, i + 1, _, rfl, rfl, by omega, by omega, rfl, ?_, hp⟩
        have : 2 ^ (7 * (i + 1)) = 128 * 2 ^ (7 * i) := by rw [Nat.mul_succ, Nat.pow_add]; omega
        have h3 : x % 128 * 2 ^ (7 * i) + 2 ^ (7 * i) ≤ 128 * 2 ^ (7 * i) := by
          rw [← Nat.succ_mul]; exact Nat.mul_le_mul_right _ hc
        omega
    · rw [if_neg (by omega), if_neg (by omega)] at hp
      have hx7 : x % 128 = x := by omega
      rw [hx7] at hc hlt
      refine byte0 r hx (onO.mk (and127 hx8) (onO.mk (wr64 (by omega) (by omega)) (onO.mk hm7 (onO.mk (shl7 (by omega) hi8) (onO.mk (or64 hacc (by omega) hi8) (byte0 r hx (onB.neg (decide_eq_false e1) ?_)))))))
      rw [hx7]
      have fin : (¬ (x = 0 ∧ 0 < i)) → onB (decide ((4611686018427387904 : Int) < ((acc + x * 2 ^ (7 * i) : Nat) : Int))) (Post (.tup [.i .i64 0, .i .i64 0, .i .i64 1]) h0) (onO (intO .add .i64 (i : Int) 1) fun n => Post (.tup [.i .i64 ((acc + x * 2 ^ (7 * i) : Nat) : Int), .i .i64 n, .i .i64 0]) h0) := fun hz => by
        refine onB.dec (fun e3 => ?_) (fun e3 => ?_)
        · rw [if_pos (.inr (by omega))] at hp
          rw [hp] at k; exact k
        · rw [if_neg (by omega)] at hp
          rw [hp] at k
          exact onO.mk (inc64 (by omega)) k
      refine byte0 r hx (onB.dec (fun e2 => onB.dec (fun e3 => ?_) (fun e3 => fin (by omega))) (fun e2 => fin (by omega)))
      rw [if_pos (.inl ⟨by omega, by omega⟩)] at hp
      rw [hp] at k; exact k
theorem tkNsF_succ (m : Nat) (l : List Nat) (acc : List Int) (k : Nat) : tkNsF (m + 1) l acc k = if (tkN (l.drop k)).2.2 = 0 then tkNsF m l (acc ++ [(tkN (l.drop k)).1]) (k + (tkN (l.drop k)).2.1) else ([], 0, (tkN (l.drop k)).2.2) := rfl
theorem c67 (r : BR h a l) (hb : l.length < 1000000) (k : ∀ r' h', Kn.int.Own h h' r' (tkNs l).1 → Post (.tup [r', .i .i64 ((tkNs l).2.1 : Nat), .i .i64 (tkNs l).2.2]) h') : wpC Try.prog 67 [a] Post h := by
  refine call_sound (args := [.vv a]) (cuts := []) ⟨r.sc, trivial⟩ ?_
  rw [vc67]
  have hn := tkN_num l
  have hnl := tkN_len l
  unfold tkNs at k
  refine c66 r hb (onTup.iii' (onB.ndec (fun e => ?_) (fun e => onB.dec (fun e1 => ?_) (fun e1 => ?_))))
  · rw [if_neg e] at k; exact k _ _ (Kn.Own.nil _ _)
  · rw [if_pos e, if_pos e1] at k; exact k _ _ (Kn.Own.nil _ _)
  · rw [if_pos e, if_neg e1] at k
    obtain ⟨M, hM⟩ := Int.eq_ofNat_of_zero_le hn.1
    rw [hM] at k e1 ⊢
    refine ⟨fun q _ b kk j h' => ∃ (c : Nat) (acc : List Int) (K : Nat), j = c ∧ kk = K ∧ c ≤ M ∧ q = M - c ∧ K ≤ l.length ∧ acc.length = c ∧ Kn.int.Own h h' b acc ∧ tkNsF M l [] (tkN l).2.1 = tkNsF (M - c) l acc K, ⟨M, 0, [], _, rfl, rfl, by omega, rfl, hnl, rfl, Kn.Own.nil _ _, rfl⟩, ?_⟩
    rintro q h1 _ b _ _ _ ⟨c, acc, K, rfl, rfl, hc, rfl, hK, ha, ow, hp⟩
    refine onB.dec (fun e2 => ?_) (fun e2 => ?_)
    · obtain ⟨d, hd⟩ : ∃ d, M - c = d + 1 := ⟨M - c - 1, by omega⟩
      rw [hd, tkNsF_succ] at hp
      have hn2 := tkN_num (l.drop K)
      have hl2 := tkN_len (l.drop K)
      rw [List.length_drop] at hl2
      refine (r.mono ow.le).from rfl hK fun r2 br2 => c66 br2 (by simp; omega) (onTup.iii' (onB.ndec (fun e3 => ?_) (fun e3 => fun _ => ?_)))
      · rw [if_neg e3] at hp
        have hp : tkNsF ((M : Int)).toNat l [] (tkN l).2.1 = _ := hp
        rw [hp] at k
        exact k _ _ ((Kn.Own.nil _ h1).mono ow.le ow.lo)
      · rw [if_pos e3] at hp
        refine ow.app1 rfl int_flat (x := (tkN (l.drop K)).1) ⟨rfl, by omega, by omega⟩ (by omega) fun r3 h3 o3 => onO.mk rfl (onO.mk (add64 (by omega) (by omega)) (onO.mk (inc64 (by omega)) ⟨_, by show M - (c + 1) < M - c; omega, c + 1, _, K + (tkN (l.drop K)).2.1, rfl, by omega, by omega, rfl, by omega, by simp [ha], o3, ?_⟩))
        rw [show M - (c + 1) = d by omega]; exact hp
    · have : c = M := by omega
      subst this
      rw [Nat.sub_self] at hp
      have hp : tkNsF ((c : Int)).toNat l [] (tkN l).2.1 = (acc, K, 0) := hp
      rw [hp] at k
      exact k _ _ ow
theorem strAt_row (r : BR h a l) : ∃ b o n, strAt h a = some (l, b, o, n) := by
  obtain ⟨css, r1, r2⟩ := r
  have key : ∀ {l : List Nat} {css : List (List AV)}, All2 (Kn.byte.K h) l css → allU8 css.flatten = some l := by
    intro l css r2
    induction r2 with
    | nil => rfl
    | @cons x c l css hx _ ih =>
      obtain ⟨hx, hlt⟩ := hx
      subst hx
      show (cond (Nat.blt x 256) ((allU8 css.flatten).map fun r => x :: r) none) = _
      rw [blt_of hlt, ih]; rfl
  have hl := r2.length
  obtain ⟨hc, r⟩ := r1
  cases a <;> first | exact r.elim | skip
  · rename_i b o len lo ex z
    obtain ⟨r1, r2', r3, r4⟩ := r
    subst r1; subst r2'
    cases hz : Nat.beq css.length 0 with
    | true =>
      have h0 := beq_eq' hz
      have : l = [] := List.length_eq_zero_iff.1 (by omega)
      subst this
      refine ⟨b, o, 0, ?_⟩
      show (cond (Nat.beq Kn.byte.sz 1) (cond (Nat.beq css.length 0) _ _) none : Option (List Nat × Nat × Nat × Nat)) = _
      rw [hz]; rfl
    | false =>
      rcases r4 with r4 | r4
      · subst r4; cases hz
      · refine ⟨b, o, css.length, ?_⟩
        show (cond (Nat.beq Kn.byte.sz 1) (cond (Nat.beq css.length 0) _ (((rdH h b o css.length).bind allU8).map fun l => (l, b, o, css.length))) none : Option (List Nat × Nat × Nat × Nat)) = _
        rw [hz]
        have r4 : rdH h b o (css.length * 1) = some css.flatten := r4
        rw [Nat.mul_one] at r4
        rw [r4, cond_false, Option.bind_some, key r2]; rfl
  all_goals
    have r : css = [] := r
    subst r
    have : l = [] := List.length_eq_zero_iff.1 hl
    subst this
    exact ⟨0, 0, 0, rfl⟩
theorem c79 (r : BR h a l) (hb : l.length < 1000000) (k : Post (.tup [.s (tkT l).1, .i .i64 ((tkT l).2.1 : Nat), .i .i64 (tkT l).2.2]) h) : wpC Try.prog 79 [a] Post h := by
  refine call_sound (args := [.vv a]) (cuts := []) ⟨r.sc, trivial⟩ ?_
  rw [vc79]
  have hn := tkN_num l
  have hnl := tkN_len l
  unfold tkT at k
  refine c66 r hb (onTup.iii' (onB.ndec (fun e => ?_) (fun e => onB.dec (fun e1 => ?_) (fun e1 => onO.mk r.len (onO.mk (sub64 (by omega) (by omega)) (onB.dec (fun e2 => ?_) (fun e2 => ?_)))))))
  · rw [if_neg e] at k; exact k
  · rw [if_pos e, if_pos e1] at k; exact k
  · rw [if_pos e, if_neg e1, if_pos e2] at k; exact k
  · rw [if_pos e, if_neg e1, if_neg e2] at k
    obtain ⟨M, hM⟩ := Int.eq_ofNat_of_zero_le hn.1
    rw [hM] at k e2 e1 ⊢
    have hadd : intO .add .i64 (((tkN l).2.1 : Nat) : Int) (M : Int) = some (((tkN l).2.1 + M : Nat) : Int) := by rw [add64 (by omega) (by omega)]; rfl
    obtain ⟨r', e3, e4⟩ := r.cut (lo := some (((tkN l).2.1 : Nat) : Int)) (hi := some (((tkN l).2.1 + M : Nat) : Int)) (sz := 1) rfl rfl rfl (by omega) (by omega)
    rw [Nat.add_sub_cancel_left] at e4
    obtain ⟨b, o, n, e5⟩ := strAt_row e4
    exact onO.mk hadd (onO.mk e3 (onO.mk e5 (onO.mk hadd k)))
theorem c82 (r : BR h a l) (hb : l.length < 1000000) (k : Post (.tup [.agg [.i .i64 (tkS l).1.time, .i .i64 (tkS l).1.rep], .i .i64 ((tkS l).2.1 : Nat), .i .i64 (tkS l).2.2]) h) : wpC Try.prog 82 [a] Post h := by
  refine call_sound (args := [.vv a]) (cuts := []) ⟨r.sc, trivial⟩ ?_
  rw [vc82]
  have hnl := tkN_len l
  have hn2 := tkN_len (l.drop (tkN l).2.1)
  rw [List.length_drop] at hn2
  unfold tkS at k
  refine fun _ => c66 r hb (onTup.iii' (onB.ndec (fun e => ?_) (fun e => r.from rfl hnl fun r2 br2 => c66 br2 (by simp; omega) (onTup.iii' (onB.ndec (fun e1 => ?_) (fun e1 => c83 (s := ⟨(tkN l).1, (tkN (l.drop (tkN l).2.1)).1⟩) (onRet.b (onB.not (fun e2 => ?_) (fun e2 => ?_)))))))))
  · rw [if_neg e] at k; exact k
  · rw [if_pos e, if_neg e1] at k; exact k
  · rw [if_pos e, if_pos e1, e2] at k; exact k
  · rw [if_pos e, if_pos e1, if_pos e2] at k
    exact onO.mk (add64 (by omega) (by omega)) k
theorem tkNsF_cnt : ∀ (m : Nat) (l : List Nat) (acc : List Int) (k : Nat), (tkNsF m l acc k).1.length ≤ acc.length + m
  | 0, l, acc, k => Nat.le_refl _
  | m + 1, l, acc, k => by
    unfold tkNsF
    split
    · have := tkNsF_cnt m l (acc ++ [(tkN (l.drop k)).1]) (k + (tkN (l.drop k)).2.1)
      simp at this; omega
    · simp
theorem tkNs_cnt (l : List Nat) : (tkNs l).1.length ≤ 1024 := by
  unfold tkNs
  split
  · split
    · simp
    · rename_i h
      have := tkNsF_cnt (tkN l).1.toNat l [] (tkN l).2.1
      have := tkN_num l
      simp at *; omega
  · simp
theorem c46 (r : BR h a l) (hb : l.length < 1000000) (k : ∀ r' h', Kn.int.Own h h' r' (tkV l).1 → Post (.tup [r', .i .i64 ((tkV l).2.1 : Nat), .i .i64 (tkV l).2.2]) h') : wpC Try.prog 46 [a] Post h := by
  refine call_sound (args := [.vv a]) (cuts := []) ⟨r.sc, trivial⟩ ?_
  rw [vc46]
  have hc := tkNs_cnt l
  unfold tkV at k
  refine c67 r hb fun r2 h2 o2 => onTup.rii o2.sc (onB.ndec (fun e => ?_) (fun e => c48 o2.row (by omega) (onRet.b (onB.not (fun e1 => ?_) (fun e1 => ?_)))))
  · rw [if_neg e] at k; exact k _ _ ((Kn.Own.nil _ h2).mono o2.le o2.lo)
  · rw [if_pos e, e1] at k; exact k _ _ ((Kn.Own.nil _ h2).mono o2.le o2.lo)
  · rw [if_pos e, if_pos e1] at k
    rw [e] at k
    have e : (tkNs l).2.2 = 0 := e
    exact k _ _ o2
end
/-! ### memory with one block beside it -/
theorem put_put (G : Hp) (p : Nat) (x y : List AV) : (G.put p x).put p y = G.put p y := Hp.ext (fun k => by
  by_cases e : k = p
  · rw [e, Hp.put_same, Hp.put_same]
  · rw [Hp.put_ne _ _ e, Hp.put_ne _ _ e, Hp.put_ne _ _ e]) rfl
theorem add_one {G : Hp} {p : Nat} (hp : G.g p = none) (c : List AV) : G.add (Hp.one p c G.lo) = G.put p c := Hp.ext (fun k => by
  show (match G.g k with | some c => some c | none => if k = p then some c else none) = if k = p then some c else G.g k
  by_cases e : k = p
  · rw [e, hp, if_pos rfl]
  · rw [if_neg e]
    cases G.g k <;> simp [e]) rfl
theorem wpC.putp {P : Program} {f : FuncId} {args : List AV} {Q : AV → Hp → Prop} {G : Hp} {p : Nat} (hp : G.g p = none) (c : List AV) (w : wpC P f args Q G) :
    wpC P f args (fun v h' => ∃ G', h' = G'.put p c ∧ G'.g p = none ∧ G'.lo = G.lo ∧ Q v G') (G.put p c) := by
  have hd : Disj G (Hp.one p c G.lo) := fun k c' e => by
    show (if k = p then some c else none) = none
    rw [if_neg (fun e' => by rw [e', hp] at e; cases e)]
  have w' := wpC.frame (p := G) (g := Hp.one p c G.lo) rfl hd w
  rw [add_one hp c] at w'
  refine w'.mono fun v h' ⟨p', e, d, hlo, q⟩ => ?_
  have hpp : p'.g p = none := by
    cases hx : p'.g p with
    | none => rfl
    | some y =>
      have := d p y hx
      have this : (if p = p then some c else none) = none := this
      rw [if_pos rfl] at this; cases this
  have hlo : p'.lo = G.lo := hlo
  refine ⟨p', ?_, hpp, hlo, q⟩
  rw [e, ← hlo, add_one hpp]
/-- how far, the error -/
abbrev Rd := Nat × Int
def partR (s : Rd) (n : Nat) (e : Int) : Rd := if s.2 = 0 then (s.1 + n, e) else s
def rdC (a : AV) (s : Rd) : List AV := [a, .i .i64 (s.1 : Nat), .i .i64 s.2]
def numR (l : List Nat) (s : Rd) : Int × Rd := ((tkN (l.drop s.1)).1, partR s (tkN (l.drop s.1)).2.1 (tkN (l.drop s.1)).2.2)
def placeR (l : List Nat) (s : Rd) : D.Stamp × Rd := ((tkS (l.drop s.1)).1, partR s (tkS (l.drop s.1)).2.1 (tkS (l.drop s.1)).2.2)
def vecR (l : List Nat) (s : Rd) : List Int × Rd := ((tkV (l.drop s.1)).1, partR s (tkV (l.drop s.1)).2.1 (tkV (l.drop s.1)).2.2)
def textR (l : List Nat) (s : Rd) : List Nat × Rd := ((tkT (l.drop s.1)).1, partR s (tkT (l.drop s.1)).2.1 (tkT (l.drop s.1)).2.2)
theorem partR_len {l : List Nat} {s : Rd} (h : s.1 ≤ l.length) {n : Nat} (hn : n ≤ (l.drop s.1).length) (e : Int) : (partR s n e).1 ≤ l.length := by
  unfold partR
  rw [List.length_drop] at hn
  split
  · show s.1 + n ≤ l.length; omega
  · exact h
theorem numR_len {l : List Nat} {s : Rd} (h : s.1 ≤ l.length) : (numR l s).2.1 ≤ l.length := partR_len h (tkN_len _) _
theorem placeR_len {l : List Nat} {s : Rd} (h : s.1 ≤ l.length) : (placeR l s).2.1 ≤ l.length := partR_len h (tkS_len _) _
theorem vecR_len {l : List Nat} {s : Rd} (h : s.1 ≤ l.length) : (vecR l s).2.1 ≤ l.length := partR_len h (tkV_len _) _
theorem textR_len {l : List Nat} {s : Rd} (h : s.1 ≤ l.length) : (textR l s).2.1 ≤ l.length := partR_len h (tkT_len _) _
def zeroO : D.Op := ⟨⟨0, 0⟩, 0, [], 0, ⟨0, 0⟩, ⟨0, 0⟩, [], 0, 0⟩
/-- behind the kind -/
def bodyR (l : List Nat) (st : D.Stamp) (v : List Int) (k : Int) (s : Rd) : D.Op × Rd :=
  if k = 1 then (⟨st, 0, v, k, (placeR l s).1, (placeR l (placeR l s).2).1, (textR l (placeR l (placeR l s).2).2).1, 0, 0⟩, (textR l (placeR l (placeR l s).2).2).2)
  else (⟨st, 0, v, k, (placeR l s).1, ⟨0, 0⟩, [], (numR l (placeR l s).2).1, (numR l (numR l (placeR l s).2).2).1 - 1⟩, (numR l (numR l (placeR l s).2).2).2)
def kindR (k : Int) (s : Rd) : Rd := if k = 1 then s else if k = 2 then s else partR s 0 1
def readR (l : List Nat) : D.Op × Rd :=
  bodyR l (placeR l (0, 0)).1 (vecR l (placeR l (0, 0)).2).1 (numR l (vecR l (placeR l (0, 0)).2).2).1 (kindR (numR l (vecR l (placeR l (0, 0)).2).2).1 (numR l (vecR l (placeR l (0, 0)).2).2).2)
def takeO (l : List Nat) : Tk D.Op := if (readR l).2.2 = 0 then (match (readR l).1.deps[(readR l).1.stamp.rep.toNat]? with
  | some x => if mayO { (readR l).1 with seq := x + 1 } = true then ({ (readR l).1 with seq := x + 1 }, (readR l).2.1, 0) else (zeroO, 0, 1)
  | none => (zeroO, 0, 1)) else (zeroO, 0, (readR l).2.2)
section
variable {G : Hp} {p : Nat} {a : AV} {l : List Nat} {s : Rd} {Post : AV → Hp → Prop}
theorem rdc0 : rdH (G.put p (rdC a s)) p 0 1 = some [a] := by unfold rdH; rw [Hp.put_same]; rfl
theorem rdc1 : rdH (G.put p (rdC a s)) p 1 1 = some [.i .i64 (s.1 : Nat)] := by unfold rdH; rw [Hp.put_same]; rfl
theorem rdc2 : rdH (G.put p (rdC a s)) p 2 1 = some [.i .i64 s.2] := by unfold rdH; rw [Hp.put_same]; rfl
theorem c77 {n : Nat} {e : Int} (ha : a.sc = true) (hlo : G.lo ≤ p) (hn : s.1 + n < 1000000) (k : Post (.tup []) (G.put p (rdC a (partR s n e)))) : wpC Try.prog 77 [.p p 0, .i .i64 (n : Nat), .i .i64 e] Post (G.put p (rdC a s)) := by
  refine call_sound (args := [.vv (.p p 0), .ii .i64 n, .ii .i64 e]) (cuts := []) ⟨rfl, trivial, trivial, trivial⟩ ?_
  rw [vc77]
  unfold partR at k
  refine onO.mk (a := (p, 0)) rfl (onO.mk rdc2 (onL.i1 (onB.dec (fun e1 => ?_) (fun e1 => ?_))))
  · rw [if_pos e1] at k
    refine onO.mk (a := (p, 0)) rfl (onO.mk rdc1 (onL.i1 (onO.mk (add64 (by omega) (by omega)) (onO.mk (a := (p, 0)) rfl ?_))))
    refine wpE.w (Hp.put_same _ _ _) hlo rfl (by show 0 + 1 + 1 ≤ 3; omega) rfl ?_
    rw [put_put]
    refine onO.mk (a := (p, 0)) rfl (wpE.w (Hp.put_same _ _ _) hlo rfl (by show 0 + 2 + 1 ≤ 3; omega) rfl ?_)
    rw [put_put]
    exact k
  · rw [if_neg e1] at k; exact k
variable (br : BR G a l) (hlo : G.lo ≤ p) (hp : G.g p = none) (hs : s.1 ≤ l.length) (hb : l.length < 900000)
include br hlo hp hs hb
theorem c78 (k : Post (.i .i64 (numR l s).1) (G.put p (rdC a (numR l s).2))) : wpC Try.prog 78 [.p p 0] Post (G.put p (rdC a s)) := by
  refine call_sound (args := [.vv (.p p 0)]) (cuts := []) ⟨rfl, trivial⟩ ?_
  rw [vc78]
  have hl := tkN_len (l.drop s.1)
  rw [List.length_drop] at hl
  refine onO.mk (a := (p, 0)) rfl (onO.mk rdc0 (onL.r1 br.sc (onO.mk (a := (p, 0)) rfl (onO.mk rdc1 (onL.i1 ((br.mono (Hp.le_put hp)).from rfl hs fun r' b' => c66 b' (by simp; omega) (onTup.iii' (c77 br.sc hlo (by omega) (onTup.z k)))))))))
theorem c76 (k : Post (.agg [.i .i64 (placeR l s).1.time, .i .i64 (placeR l s).1.rep]) (G.put p (rdC a (placeR l s).2))) : wpC Try.prog 76 [.p p 0] Post (G.put p (rdC a s)) := by
  refine call_sound (args := [.vv (.p p 0)]) (cuts := []) ⟨rfl, trivial⟩ ?_
  rw [vc76]
  have hl := tkS_len (l.drop s.1)
  rw [List.length_drop] at hl
  refine fun _ => onO.mk (a := (p, 0)) rfl (onO.mk rdc0 (onL.r1 br.sc (onO.mk (a := (p, 0)) rfl (onO.mk rdc1 (onL.i1 ((br.mono (Hp.le_put hp)).from rfl hs fun r' b' => c82 b' (by simp; omega) (onTup.aii fun _ => c77 br.sc hlo (by omega) (onTup.z k))))))))
end
theorem kindR_len {l : List Nat} {k : Int} {s : Rd} (h : s.1 ≤ l.length) : (kindR k s).1 ≤ l.length := by
  unfold kindR
  split
  · exact h
  · split
    · exact h
    · exact partR_len h (Nat.zero_le _) _
section
variable {G : Hp} {p : Nat} {a : AV} {l : List Nat} {Post : AV → Hp → Prop}
theorem c68 (br : BR G a l) (hlo : G.lo ≤ p) (hp : G.g p = none) (hb : l.length < 900000) (k : ∀ d G', Kn.int.Own G G' d (readR l).1.deps → G'.g p = none → Post (.agg (opC (readR l).1 d)) (G'.put p (rdC a (readR l).2))) : wpC Try.prog 68 [.p p 0] Post (G.put p (rdC a (0, 0))) := by
  refine call_sound (args := [.vv (.p p 0)]) (cuts := []) ⟨rfl, trivial⟩ ?_
  rw [vc68]
  have l1 := placeR_len (l := l) (s := (0, 0)) (Nat.zero_le _)
  have l2 := vecR_len l1
  have l3 := numR_len l2
  have hv := tkV_len (l.drop (placeR l (0, 0)).2.1)
  rw [List.length_drop] at hv
  refine fun _ => c76 br hlo hp (Nat.zero_le _) hb (onRet.a2 ?_)
  refine onO.mk (a := (p, 0)) rfl (onO.mk rdc0 (onL.r1 br.sc (onO.mk (a := (p, 0)) rfl (onO.mk rdc1 (onL.i1 ?_)))))
  obtain ⟨r', e1, b'⟩ := br.cut (lo := some (((placeR l (0, 0)).2.1 : Nat) : Int)) (hi := none) (sz := 1) rfl rfl rfl l1 (Nat.le_refl _)
  rw [List.take_of_length_le (by simp)] at b'
  refine onO.mk e1 ?_
  have w : wpC Try.prog 46 [r'] (fun v G' => ∃ d, v = .tup [d, .i .i64 ((tkV (l.drop (placeR l (0, 0)).2.1)).2.1 : Nat), .i .i64 (tkV (l.drop (placeR l (0, 0)).2.1)).2.2] ∧ Kn.int.Own G G' d (tkV (l.drop (placeR l (0, 0)).2.1)).1) G := c46 b' (by simp; omega) fun d G' o => ⟨d, rfl, o⟩
  refine (wpC.putp hp (rdC a (placeR l (0, 0)).2) w).mono ?_
  rintro _ _ ⟨G', rfl, hp', hlo', d, rfl, ow⟩
  have br' := br.mono ow.le
  have hlo2 : G'.lo ≤ p := by rw [hlo']; exact hlo
  refine onTup.rii ow.sc (c77 br.sc hlo2 (by omega) (onTup.z ?_))
  refine c78 br' hlo2 hp' (s := (vecR l (placeR l (0, 0)).2).2) l2 hb (onRet.i ?_)
  have last : ∀ s4 : Rd, s4 = kindR (numR l (vecR l (placeR l (0, 0)).2).2).1 (numR l (vecR l (placeR l (0, 0)).2).2).2 → ∀ o s, (o, s) = bodyR l (placeR l (0, 0)).1 (vecR l (placeR l (0, 0)).2).1 (numR l (vecR l (placeR l (0, 0)).2).2).1 s4 → Post (.agg (opC o d)) (G'.put p (rdC a s)) := fun s4 h4 o s hos => by
    have hr : readR l = (o, s) := by unfold readR; rw [← h4, ← hos]
    have hd : (readR l).1.deps = (vecR l (placeR l (0, 0)).2).1 := by
      unfold readR bodyR
      split <;> rfl
    have := k d G' (by rw [hd]; exact ow) hp'
    rw [hr] at this
    exact this
  have l4 := kindR_len (k := (numR l (vecR l (placeR l (0, 0)).2).2).1) l3
  refine onB.ndec (fun e1 => onB.ndec (fun e2 => c77 (n := 0) br.sc hlo2 (by omega) (onTup.z ?_)) (fun e2 => ?_)) (fun e1 => ?_)
  · have h4 : partR (numR l (vecR l (placeR l (0, 0)).2).2).2 0 1 = kindR (numR l (vecR l (placeR l (0, 0)).2).2).1 (numR l (vecR l (placeR l (0, 0)).2).2).2 := by unfold kindR; rw [if_neg e1, if_neg e2]
    rw [← h4] at l4
    have hl := last _ h4
    unfold bodyR at hl
    rw [if_neg e1] at hl
    have l5 := placeR_len l4
    refine c76 br' hlo2 hp' l4 hb (onRet.a2 (onB.neg (decide_eq_false e1) (c78 br' hlo2 hp' l5 hb (onRet.i (c78 br' hlo2 hp' (numR_len l5) hb (onRet.i ?_))))))
    have hn := tkN_num (l.drop (numR l (placeR l (partR (numR l (vecR l (placeR l (0, 0)).2).2).2 0 1)).2).2.1)
    exact onO.mk (sub64 (by unfold numR at *; omega) (by unfold numR at *; omega)) (hl _ _ rfl)
  · have h4 : (numR l (vecR l (placeR l (0, 0)).2).2).2 = kindR (numR l (vecR l (placeR l (0, 0)).2).2).1 (numR l (vecR l (placeR l (0, 0)).2).2).2 := by unfold kindR; rw [if_neg e1, if_pos e2]
    have hl := last _ h4
    unfold bodyR at hl
    rw [if_neg e1] at hl
    have l5 := placeR_len l3
    refine c76 br' hlo2 hp' l3 hb (onRet.a2 (onB.neg (decide_eq_false e1) (c78 br' hlo2 hp' l5 hb (onRet.i (c78 br' hlo2 hp' (numR_len l5) hb (onRet.i ?_))))))
    have hn := tkN_num (l.drop (numR l (placeR l (numR l (vecR l (placeR l (0, 0)).2).2).2).2).2.1)
    exact onO.mk (sub64 (by unfold numR at *; omega) (by unfold numR at *; omega)) (hl _ _ rfl)
  · have h4 : (numR l (vecR l (placeR l (0, 0)).2).2).2 = kindR (numR l (vecR l (placeR l (0, 0)).2).2).1 (numR l (vecR l (placeR l (0, 0)).2).2).2 := by unfold kindR; rw [if_pos e1]
    have hl := last _ h4
    unfold bodyR at hl
    rw [if_pos e1] at hl
    have l5 := placeR_len l3
    have l6 := placeR_len l5
    refine c76 br' hlo2 hp' l3 hb (onRet.a2 (onB.pos (decide_eq_true e1) (c76 br' hlo2 hp' l5 hb (onRet.a2 ?_))))
    refine onO.mk (a := (p, 0)) rfl (onO.mk rdc0 (onL.r1 br.sc (onO.mk (a := (p, 0)) rfl (onO.mk rdc1 (onL.i1 ?_)))))
    have ht := tkT_len (l.drop (placeR l (placeR l (numR l (vecR l (placeR l (0, 0)).2).2).2).2).2.1)
    rw [List.length_drop] at ht
    exact (br'.mono (Hp.le_put hp')).from rfl l6 fun r2 b2 => c79 b2 (by simp; omega) (onTup.sii (c77 br.sc hlo2 (by omega) (onTup.z (hl _ _ rfl))))
theorem tkS_rep (l : List Nat) : 0 ≤ (tkS l).1.rep := by
  unfold tkS
  split
  · split
    · split
      · rename_i h; exact (placeV_fits h).2.2.1
      · simp
    · simp
  · simp
theorem Fresh.moren {g h : Hp} {a : AV} {sz : Nat} {css : List (List AV)} (f : Fresh g h a sz css) {b : Nat} (hb : h.g b = none) (cs : List AV) : Fresh g (h.put b cs) a sz css := by
  have key : ∀ b' o len lo ex z, a = .sl b' o len lo ex z → b' ≠ b := fun b' o len lo ex z e e' => by
    obtain ⟨_, _, c, n3, _⟩ := f.new _ _ _ _ _ _ e
    rw [e', hb] at n3; cases n3
  refine ⟨Hp.le_trans f.le (Hp.le_put hb), f.lo, f.row.mono (Hp.le_put hb), fun b' o len lo ex z e => ?_⟩
  obtain ⟨n1, n2, cs', n3, n4⟩ := f.new _ _ _ _ _ _ e
  exact ⟨n1, n2, cs', by rw [Hp.put_ne _ _ (key _ _ _ _ _ _ e)]; exact n3, n4⟩
theorem Kn.Own.moren {α : Type} {d : Kn α} {g h : Hp} {a : AV} {l : List α} (o : d.Own g h a l) {b : Nat} (hb : h.g b = none) (cs : List AV) : d.Own g (h.put b cs) a l := by
  obtain ⟨p, css, h0, h01, f, h1⟩ := o
  exact ⟨p, css, h0, h01, f.moren hb cs, h1⟩
theorem c29o {h : Hp} (br : BR h a l) (hb : l.length < 900000) (k : ∀ d h', Kn.int.Own h h' d (takeO l).1.deps → Post (.tup [.agg (opC (takeO l).1 d), .i .i64 ((takeO l).2.1 : Nat), .i .i64 (takeO l).2.2]) h') : wpC Try.prog 47 [a] Post h := by
  refine call_sound (args := [.vv a]) (cuts := []) ⟨br.sc, trivial⟩ ?_
  rw [vc47]
  refine fun _ p hp hlo => c68 br hlo hp hb fun d G' ow hp' => onRet.op ow.sc ?_
  have le' : h.le (G'.put p (rdC a (readR l).2)) := Hp.le_trans ow.le (Hp.le_put hp')
  have lo' : (G'.put p (rdC a (readR l).2)).lo = h.lo := ow.lo
  have rd' : IR (G'.put p (rdC a (readR l).2)) d (readR l).1.deps := ow.row.mono (Hp.le_put hp')
  have kz : ∀ e : Int, takeO l = (zeroO, 0, e) → Post (.tup [.agg (opC zeroO .ns), .i .i64 0, .i .i64 e]) (G'.put p (rdC a (readR l).2)) := fun e he => by
    have := k .ns _ (by rw [he]; exact (Kn.Own.nil _ _).mono le' lo')
    rw [he] at this
    exact this
  have hst : (readR l).1.stamp = (placeR l (0, 0)).1 := by
    unfold readR bodyR
    split <;> rfl
  have hrep : 0 ≤ (readR l).1.stamp.rep := by rw [hst]; exact tkS_rep _
  have hdep : (readR l).1.deps = (vecR l (placeR l (0, 0)).2).1 := by
    unfold readR bodyR
    split <;> rfl
  have hvv : (vecR l (placeR l (0, 0)).2).1 = [] ∨ vecV (vecR l (placeR l (0, 0)).2).1 = true := by
    show (tkV _).1 = [] ∨ vecV (tkV _).1 = true
    unfold tkV
    split
    · split
      · rename_i h; exact .inr h
      · exact .inl rfl
    · exact .inl rfl
  unfold takeO at kz k
  refine onO.mk rdc2 (onL.i1 (onB.ndec (fun e1 => kz _ (by rw [if_neg e1])) (fun e1 => onO.mk rd'.len (onB.dec (fun e2 => kz _ ?_) (fun e2 => ?_)))))
  · rw [if_pos e1, List.getElem?_eq_none (by omega)]
  · obtain ⟨q, hq⟩ := Int.eq_ofNat_of_zero_le hrep
    have hqn : (readR l).1.stamp.rep.toNat = q := by omega
    obtain ⟨x, hx⟩ := get_lt (l := (readR l).1.deps) (k := q) (by omega)
    have hxx : 0 ≤ x ∧ x ≤ 1099511627776 := by
      rcases hvv with hv | hv
      · rw [hdep, hv] at hx; simp at hx
      · exact vecV_at hv (by rw [hdep] at hx; exact hx)
    rw [if_pos e1, hqn, hx] at kz k
    simp only at kz k
    have hidx : onO (idxV d (readR l).1.stamp.rep 1) fun r0 => onO (rdH (G'.put p (rdC a (readR l).2)) r0.1 r0.2 1) fun l0 => onL [Kd.int .i64] l0 fun n => n = x := by rw [hq]; exact int0 rd' hx rfl
    have hlen : (readR l).1.deps.length < 1000000 := by
      rcases hvv with hv | hv
      · rw [hdep, hv]; simp
      · rw [hdep]; have := vecV_len hv; omega
    rw [hq]
    refine int0 rd' hx (onO.mk (add64 (by omega) (by omega)) ?_)
    rw [← hq]
    refine c69 (o := { (readR l).1 with seq := x + 1 }) rd' hlen (onRet.b (onB.mk (fun e3 => ?_) (fun e3 => kz _ (by rw [e3]; rfl))))
    rw [if_pos e3] at k
    exact onO.mk rdc1 (onL.i1 (k d _ (ow.moren hp' _)))
end
def Bytes8 (l : List Nat) : Prop := ∀ x ∈ l, x < 256
theorem Bytes8.drop {l : List Nat} (h : Bytes8 l) (n : Nat) : Bytes8 (l.drop n) := fun x hx => h x (List.mem_of_mem_drop hx)
structure Good {α : Type} (p : List Nat → Tk α) (e : α → List Nat) (ok : α → Prop) : Prop where
  put : ∀ a rest, ok a → p (e a ++ rest) = (a, (e a).length, 0)
  cut : ∀ a j, ok a → j < (e a).length → (p ((e a).take j)).2.2 = 7
  was : ∀ l, Bytes8 l → (p l).2.2 = 0 → ok (p l).1 ∧ (p l).2.1 = (e (p l).1).length ∧ l.take (p l).2.1 = e (p l).1
/-! ### numbers -/
theorem pow_succ7 (i : Nat) : 2 ^ (7 * (i + 1)) = 128 * 2 ^ (7 * i) := by rw [Nat.mul_succ, Nat.pow_add]; omega
theorem split128 (n P : Nat) : n * P = n % 128 * P + n / 128 * (128 * P) := by
  conv => lhs; rw [← Nat.mod_add_div n 128, Nat.add_mul]
  congr 1
  rw [Nat.mul_comm 128, Nat.mul_assoc]
theorem tkF_cons (b : Nat) (l : List Nat) (i acc : Nat) : tkF (b :: l) i acc = if 128 ≤ b ∧ i = 8 then (0, 0, 1) else if 128 ≤ b then tkF l (i + 1) (acc + b % 128 * 2 ^ (7 * i)) else
    if b = 0 ∧ 0 < i ∨ 4611686018427387904 < acc + b * 2 ^ (7 * i) then (0, 0, 1) else ((acc + b * 2 ^ (7 * i) : Nat), i + 1, 0) := rfl
theorem big_step {n i acc : Nat} (hn : 128 ≤ n) (hi : i ≤ 8) (h : acc + n * 2 ^ (7 * i) ≤ 4611686018427387904) : i ≠ 8 := by
  rintro rfl
  have : 128 * 2 ^ (7 * 8) ≤ n * 2 ^ (7 * 8) := Nat.mul_le_mul_right _ hn
  have e : (128 : Nat) * 2 ^ (7 * 8) = 9223372036854775808 := by decide
  omega
theorem tkF_put : ∀ (n i acc : Nat) (rest : List Nat), i ≤ 8 → (0 < i → 0 < n) → acc + n * 2 ^ (7 * i) ≤ 4611686018427387904 → tkF (enc n ++ rest) i acc = (((acc + n * 2 ^ (7 * i) : Nat) : Int), i + (enc n).length, 0) := by
  intro n
  induction n using Nat.strongRecOn with
  | ind n ih =>
    intro i acc rest hi h0 hb
    by_cases hn : n < 128
    · rw [enc_small hn]
      show tkF (n :: rest) i acc = _
      rw [tkF_cons, if_neg (by omega), if_neg (by omega), if_neg (by omega)]; rfl
    · have h8 := big_step (n := n) (by omega) hi hb
      have hs := split128 n (2 ^ (7 * i))
      rw [enc_big (by omega), List.cons_append, tkF_cons, if_neg (by omega), if_pos (by omega), show (n % 128 + 128) % 128 = n % 128 by omega]
      rw [ih (n / 128) (by omega) (i + 1) _ rest (by omega) (fun _ => by omega) (by rw [pow_succ7]; omega), pow_succ7]
      rw [show acc + n % 128 * 2 ^ (7 * i) + n / 128 * (128 * 2 ^ (7 * i)) = acc + n * 2 ^ (7 * i) by omega]
      rw [List.length_cons]
      congr 2; omega
theorem tkF_cut : ∀ (n i acc j : Nat), i ≤ 8 → acc + n * 2 ^ (7 * i) ≤ 4611686018427387904 → j < (enc n).length → (tkF ((enc n).take j) i acc).2.2 = 7 := by
  intro n
  induction n using Nat.strongRecOn with
  | ind n ih =>
    intro i acc j hi hb hj
    cases j with
    | zero => rfl
    | succ j =>
      by_cases hn : n < 128
      · rw [enc_small hn] at hj; simp at hj
      · have h8 := big_step (n := n) (by omega) hi hb
        have hs := split128 n (2 ^ (7 * i))
        rw [enc_big (by omega)] at hj ⊢
        rw [List.take_succ_cons, tkF_cons, if_neg (by omega), if_pos (by omega), show (n % 128 + 128) % 128 = n % 128 by omega]
        exact ih (n / 128) (by omega) (i + 1) _ j (by omega) (by rw [pow_succ7]; omega) (by simpa using hj)
theorem tkF_was : ∀ (l : List Nat) (i acc : Nat), Bytes8 l → (tkF l i acc).2.2 = 0 → ∃ n : Nat, tkF l i acc = (((acc + n * 2 ^ (7 * i) : Nat) : Int), i + (enc n).length, 0) ∧ l.take (enc n).length = enc n ∧ (0 < i → 0 < n)
  | [], i, acc, _, h => by cases h
  | b :: l, i, acc, hl, h => by
    have hb := hl b (by simp)
    rw [tkF_cons] at h ⊢
    by_cases h1 : 128 ≤ b ∧ i = 8
    · rw [if_pos h1] at h; cases h
    · rw [if_neg h1] at h ⊢
      by_cases h2 : 128 ≤ b
      · rw [if_pos h2] at h ⊢
        obtain ⟨n, e1, e2, e3⟩ := tkF_was l (i + 1) _ (fun x hx => hl x (by simp [hx])) h
        have hn := e3 (by omega)
        have hs := split128 (b % 128 + 128 * n) (2 ^ (7 * i))
        rw [show (b % 128 + 128 * n) % 128 = b % 128 by omega, show (b % 128 + 128 * n) / 128 = n by omega] at hs
        refine ⟨b % 128 + 128 * n, ?_, ?_, fun _ => by omega⟩
        · rw [e1, pow_succ7, enc_big (n := b % 128 + 128 * n) (by omega), show (b % 128 + 128 * n) / 128 = n by omega, List.length_cons]
          rw [show acc + b % 128 * 2 ^ (7 * i) + n * (128 * 2 ^ (7 * i)) = acc + (b % 128 + 128 * n) * 2 ^ (7 * i) by omega]
          congr 2; omega
        · rw [enc_big (n := b % 128 + 128 * n) (by omega), show (b % 128 + 128 * n) / 128 = n by omega, List.length_cons, List.take_succ_cons, e2]
          congr 1; omega
      · rw [if_neg h2] at h ⊢
        by_cases h3 : b = 0 ∧ 0 < i ∨ 4611686018427387904 < acc + b * 2 ^ (7 * i)
        · rw [if_pos h3] at h; cases h
        · rw [if_neg h3]
          refine ⟨b, ?_, ?_, fun _ => by omega⟩
          · rw [enc_small (by omega)]; rfl
          · rw [enc_small (by omega)]; rfl
def okN (n : Int) : Prop := 0 ≤ n ∧ n ≤ 4611686018427387904
theorem goodN : Good tkN (fun n => enc n.toNat) okN where
  put n rest h := by
    obtain ⟨m, rfl⟩ := Int.eq_ofNat_of_zero_le h.1
    have h2 := h.2
    show tkF (enc m ++ rest) 0 0 = _
    rw [tkF_put m 0 0 rest (by omega) (by omega) (by simp; omega)]
    simp
  cut n j h hj := by
    obtain ⟨m, rfl⟩ := Int.eq_ofNat_of_zero_le h.1
    have h2 := h.2
    exact tkF_cut m 0 0 j (by omega) (by simp; omega) hj
  was l hl h := by
    obtain ⟨n, e1, e2, _⟩ := tkF_was l 0 0 hl h
    have hn := tkN_num l
    have e1 : tkN l = ((n : Int), (enc n).length, 0) := by unfold tkN; rw [e1]; simp
    rw [e1] at hn ⊢
    exact ⟨hn, rfl, e2⟩
section
variable {α : Type} {p : List Nat → Tk α} {e : α → List Nat} {ok : α → Prop} (gp : Good p e ok)
include gp
theorem Good.at {l pre rest : List Nat} {a : α} (h : ok a) (hl : l = pre ++ (e a ++ rest)) : p (l.drop pre.length) = (a, (e a).length, 0) := by
  rw [hl, List.drop_left]; exact gp.put a rest h
theorem Good.cutAt {l pre : List Nat} {a : α} {j : Nat} (h : ok a) (hj : j < (e a).length) (hl : l = pre ++ (e a).take j) : (p (l.drop pre.length)).2.2 = 7 := by
  rw [hl, List.drop_left]; exact gp.cut a j h hj
/-- a reader's step that went well -/
theorem Good.step {l : List Nat} {s : Rd} (hl : Bytes8 l) (hs : s.1 ≤ l.length) (h : (partR s (p (l.drop s.1)).2.1 (p (l.drop s.1)).2.2).2 = 0) :
    s.2 = 0 ∧ (p (l.drop s.1)).2.2 = 0 ∧ ok (p (l.drop s.1)).1 ∧ (partR s (p (l.drop s.1)).2.1 (p (l.drop s.1)).2.2).1 = s.1 + (p (l.drop s.1)).2.1 ∧ l.take (s.1 + (p (l.drop s.1)).2.1) = l.take s.1 ++ e (p (l.drop s.1)).1 := by
  unfold partR at h ⊢
  by_cases h0 : s.2 = 0
  · rw [if_pos h0] at h ⊢
    have h : (p (l.drop s.1)).2.2 = 0 := h
    obtain ⟨w1, w2, w3⟩ := gp.was _ (hl.drop _) h
    exact ⟨h0, h, w1, rfl, by rw [List.take_add, w3]⟩
  · rw [if_neg h0] at h; exact absurd h h0
end
theorem partR_ok {k n : Nat} {e : Int} : partR (k, 0) n e = (k + n, e) := rfl
/-! ### stamps -/
def encS (s : D.Stamp) : List Nat := enc s.time.toNat ++ enc s.rep.toNat
theorem place_ok {s : D.Stamp} (h : placeV s = true) : okN s.time ∧ okN s.rep := by
  have := placeV_fits h
  exact ⟨⟨by omega, by omega⟩, ⟨by omega, by omega⟩⟩
theorem goodS : Good tkS encS (fun s => placeV s = true) where
  put s rest h := by
    obtain ⟨h1, h2⟩ := place_ok h
    have e1 := goodN.put s.time (enc s.rep.toNat ++ rest) h1
    have e2 := goodN.put s.rep rest h2
    unfold tkS encS
    rw [List.append_assoc, e1]
    simp only [List.drop_left, e2, if_true]
    rw [if_pos h, List.length_append]
  cut s j h hj := by
    obtain ⟨h1, h2⟩ := place_ok h
    unfold encS at hj ⊢
    rw [List.length_append] at hj
    unfold tkS
    by_cases hc : j < (enc s.time.toNat).length
    · rw [List.take_append_of_le_length (by omega)]
      have := goodN.cut s.time j h1 hc
      simp only [this]
      rw [if_neg (by decide)]
    · have e : (enc s.time.toNat ++ enc s.rep.toNat).take j = enc s.time.toNat ++ (enc s.rep.toNat).take (j - (enc s.time.toNat).length) := by rw [List.take_append, List.take_of_length_le (by omega)]
      rw [e]
      have e1 := goodN.put s.time ((enc s.rep.toNat).take (j - (enc s.time.toNat).length)) h1
      have e2 := goodN.cut s.rep (j - (enc s.time.toNat).length) h2 (by omega)
      rw [e1]
      simp only [List.drop_left, if_true, e2]
      rw [if_neg (by decide)]
  was l hl h := by
    unfold tkS at h ⊢
    by_cases h1 : (tkN l).2.2 = 0
    · rw [if_pos h1] at h ⊢
      by_cases h2 : (tkN (l.drop (tkN l).2.1)).2.2 = 0
      · rw [if_pos h2] at h ⊢
        by_cases h3 : placeV ⟨(tkN l).1, (tkN (l.drop (tkN l).2.1)).1⟩ = true
        · rw [if_pos h3]
          obtain ⟨w1, w2, w3⟩ := goodN.was l hl h1
          obtain ⟨w4, w5, w6⟩ := goodN.was _ (hl.drop _) h2
          refine ⟨h3, ?_, ?_⟩
          · show (tkN l).2.1 + (tkN (l.drop (tkN l).2.1)).2.1 = _
            unfold encS
            rw [List.length_append, ← w2, ← w5]
          · show l.take ((tkN l).2.1 + (tkN (l.drop (tkN l).2.1)).2.1) = _
            rw [List.take_add, w3, w6]; rfl
        · rw [if_neg h3] at h; cases h
      · rw [if_neg h2] at h; exact absurd h h2
    · rw [if_neg h1] at h; exact absurd h h1
/-! ### texts -/
def encT (s : List Nat) : List Nat := enc s.length ++ s
def okT (s : List Nat) : Prop := s.length ≤ 65536 ∧ Bytes8 s
theorem goodT : Good tkT encT okT where
  put s rest h := by
    have h1 : okN (s.length : Int) := ⟨by omega, by have := h.1; omega⟩
    have hL := h.1
    have e1 := goodN.put (s.length : Int) (s ++ rest) h1
    rw [Int.toNat_natCast] at e1
    unfold tkT encT
    rw [List.append_assoc, e1]
    simp only [if_true, List.drop_left, Int.toNat_natCast, List.take_left]
    rw [if_neg (by omega), if_neg (by simp only [List.length_append]; omega), List.length_append]
  cut s j h hj := by
    have h1 : okN (s.length : Int) := ⟨by omega, by have := h.1; omega⟩
    have hL := h.1
    unfold encT at hj ⊢
    rw [List.length_append] at hj
    unfold tkT
    by_cases hc : j < (enc s.length).length
    · rw [List.take_append_of_le_length (by omega)]
      have := goodN.cut (s.length : Int) j h1 hc
      rw [Int.toNat_natCast] at this
      simp only [this]
      rw [if_neg (by decide)]
    · have e : (enc s.length ++ s).take j = enc s.length ++ s.take (j - (enc s.length).length) := by rw [List.take_append, List.take_of_length_le (by omega)]
      rw [e]
      have e1 := goodN.put (s.length : Int) (s.take (j - (enc s.length).length)) h1
      rw [Int.toNat_natCast] at e1
      rw [e1]
      simp only [if_true]
      rw [if_neg (by omega), if_pos]
      simp only [List.length_append, List.length_take]; omega
  was l hl h := by
    unfold tkT at h ⊢
    by_cases h1 : (tkN l).2.2 = 0
    · rw [if_pos h1] at h ⊢
      by_cases h2 : 65536 < (tkN l).1
      · rw [if_pos h2] at h; cases h
      · rw [if_neg h2] at h ⊢
        by_cases h3 : (l.length : Int) - (tkN l).2.1 < (tkN l).1
        · rw [if_pos h3] at h; cases h
        · rw [if_neg h3]
          obtain ⟨w1, w2, w3⟩ := goodN.was l hl h1
          have hL : ((l.drop (tkN l).2.1).take (tkN l).1.toNat).length = (tkN l).1.toNat := by
            rw [List.length_take, List.length_drop]; have := w1.1; omega
          refine ⟨⟨by rw [hL]; have := w1.1; omega, fun x hx => hl x (List.mem_of_mem_drop (List.mem_of_mem_take hx))⟩, ?_, ?_⟩
          · show (tkN l).2.1 + (tkN l).1.toNat = (encT _).length
            unfold encT
            rw [hL, List.length_append, hL, ← w2]
          · show l.take ((tkN l).2.1 + (tkN l).1.toNat) = encT _
            unfold encT
            rw [hL, List.take_add, w3]
    · rw [if_neg h1] at h; exact absurd h h1
/-! ### rows of numbers -/
theorem encs_cons (x : Int) (v : List Int) : encs (x :: v) = enc x.toNat ++ encs v := by simp [encs]
theorem tkNsF_put : ∀ (v : List Int) (l rest pre : List Nat) (acc : List Int), (∀ x ∈ v, okN x) → l = pre ++ (encs v ++ rest) → tkNsF v.length l acc pre.length = (acc ++ v, pre.length + (encs v).length, 0)
  | [], l, rest, pre, acc, _, hl => by simp [tkNsF, encs]
  | x :: v, l, rest, pre, acc, hv, hl => by
    rw [encs_cons] at hl
    have e1 := goodN.at (a := x) (l := l) (pre := pre) (rest := encs v ++ rest) (hv x (by simp)) (by rw [hl]; simp [List.append_assoc])
    rw [List.length_cons, tkNsF_succ, e1]
    simp only [if_true]
    have := tkNsF_put v l rest (pre ++ enc x.toNat) (acc ++ [x]) (fun y hy => hv y (by simp [hy])) (by rw [hl]; simp [List.append_assoc])
    rw [List.length_append] at this
    rw [this, encs_cons, List.length_append]
    simp [Nat.add_assoc]
theorem tkNsF_cut : ∀ (v : List Int) (l pre : List Nat) (acc : List Int) (j : Nat), (∀ x ∈ v, okN x) → j < (encs v).length → l = pre ++ (encs v).take j → (tkNsF v.length l acc pre.length).2.2 = 7
  | [], l, pre, acc, j, _, hj, hl => by simp [encs] at hj
  | x :: v, l, pre, acc, j, hv, hj, hl => by
    rw [encs_cons] at hl hj
    rw [List.length_append] at hj
    rw [List.length_cons, tkNsF_succ]
    by_cases hc : j < (enc x.toNat).length
    · rw [List.take_append_of_le_length (by omega)] at hl
      have e1 := goodN.cutAt (a := x) (hv x (by simp)) hc hl
      rw [if_neg (by rw [e1]; decide)]; exact e1
    · have e : (enc x.toNat ++ encs v).take j = enc x.toNat ++ (encs v).take (j - (enc x.toNat).length) := by rw [List.take_append, List.take_of_length_le (by omega)]
      rw [e] at hl
      have e1 := goodN.at (a := x) (hv x (by simp)) hl
      rw [e1]
      simp only [if_true]
      have := tkNsF_cut v l (pre ++ enc x.toNat) (acc ++ [x]) (j - (enc x.toNat).length) (fun y hy => hv y (by simp [hy])) (by omega) (by rw [hl]; simp [List.append_assoc])
      rw [List.length_append] at this
      exact this
theorem tkNsF_was : ∀ (m : Nat) (l : List Nat) (acc : List Int) (k : Nat), Bytes8 l → k ≤ l.length → (tkNsF m l acc k).2.2 = 0 → ∃ v, tkNsF m l acc k = (acc ++ v, k + (encs v).length, 0) ∧ v.length = m ∧ (∀ x ∈ v, okN x) ∧ l.take (k + (encs v).length) = l.take k ++ encs v
  | 0, l, acc, k, _, _, _ => ⟨[], by simp [tkNsF, encs], rfl, by simp, by simp [encs]⟩
  | m + 1, l, acc, k, hl, hk, h => by
    rw [tkNsF_succ] at h ⊢
    by_cases h1 : (tkN (l.drop k)).2.2 = 0
    · rw [if_pos h1] at h ⊢
      obtain ⟨w1, w2, w3⟩ := goodN.was _ (hl.drop k) h1
      have hlen := tkN_len (l.drop k)
      rw [List.length_drop] at hlen
      obtain ⟨v, e1, e2, e3, e4⟩ := tkNsF_was m l _ _ hl (by omega) h
      refine ⟨(tkN (l.drop k)).1 :: v, ?_, by simp [e2], fun x hx => ?_, ?_⟩
      · rw [e1, encs_cons, List.length_append, ← w2]
        simp [Nat.add_assoc]
      · rcases List.mem_cons.1 hx with rfl | hx
        · exact w1
        · exact e3 x hx
      · rw [encs_cons, List.length_append, ← w2, ← Nat.add_assoc, e4, List.take_add, w3, List.append_assoc]
    · rw [if_neg h1] at h; exact absurd h h1
def encV (v : List Int) : List Nat := enc v.length ++ encs v
theorem goodV : Good tkV encV (fun v => vecV v = true) where
  put v rest h := by
    have hv := vecV_len h
    have hN : ∀ x ∈ v, okN x := fun x hx => by
      obtain ⟨k, hk⟩ := List.getElem?_of_mem hx
      have := vecV_at h hk
      exact ⟨by omega, by omega⟩
    have e1 := goodN.put (v.length : Int) (encs v ++ rest) ⟨by omega, by omega⟩
    rw [Int.toNat_natCast] at e1
    have e2 := tkNsF_put v (enc v.length ++ (encs v ++ rest)) rest (enc v.length) [] hN rfl
    have e3 : tkNs (encV v ++ rest) = (v, (encV v).length, 0) := by
      unfold tkNs encV
      rw [List.append_assoc, e1]
      simp only [if_true, Int.toNat_natCast]
      rw [if_neg (by omega), e2, List.length_append]; rfl
    unfold tkV
    rw [e3]
    simp only [if_true]
    rw [if_pos h]
  cut v j h hj := by
    have hv := vecV_len h
    have hN : ∀ x ∈ v, okN x := fun x hx => by
      obtain ⟨k, hk⟩ := List.getElem?_of_mem hx
      have := vecV_at h hk
      exact ⟨by omega, by omega⟩
    have e3 : (tkNs ((encV v).take j)).2.2 = 7 := by
      unfold encV at hj ⊢
      rw [List.length_append] at hj
      unfold tkNs
      by_cases hc : j < (enc v.length).length
      · rw [List.take_append_of_le_length (by omega)]
        have := goodN.cut (v.length : Int) j ⟨by omega, by omega⟩ hc
        rw [Int.toNat_natCast] at this
        rw [if_neg (by rw [this]; decide)]; exact this
      · have e : (enc v.length ++ encs v).take j = enc v.length ++ (encs v).take (j - (enc v.length).length) := by rw [List.take_append, List.take_of_length_le (by omega)]
        rw [e]
        have e1 := goodN.put (v.length : Int) ((encs v).take (j - (enc v.length).length)) ⟨by omega, by omega⟩
        rw [Int.toNat_natCast] at e1
        rw [e1]
        simp only [if_true, Int.toNat_natCast]
        rw [if_neg (by omega)]
        exact tkNsF_cut v _ (enc v.length) [] _ hN (by omega) rfl
    unfold tkV
    rw [if_neg (by rw [e3]; decide)]; exact e3
  was l hl h := by
    unfold tkV at h ⊢
    by_cases h1 : (tkNs l).2.2 = 0
    · rw [if_pos h1] at h ⊢
      by_cases h2 : vecV (tkNs l).1 = true
      · rw [if_pos h2]
        refine ⟨h2, ?_⟩
        unfold tkNs at h1 ⊢
        by_cases h3 : (tkN l).2.2 = 0
        · rw [if_pos h3] at h1 ⊢
          by_cases h4 : 1024 < (tkN l).1
          · rw [if_pos h4] at h1; cases h1
          · rw [if_neg h4] at h1 ⊢
            obtain ⟨w1, w2, w3⟩ := goodN.was l hl h3
            obtain ⟨v, e1, e2, e3, e4⟩ := tkNsF_was _ l [] _ hl (tkN_len l) h1
            rw [e1]
            show (tkN l).2.1 + (encs v).length = (encV v).length ∧ l.take ((tkN l).2.1 + (encs v).length) = encV v
            unfold encV
            rw [e2, List.length_append, e4, w3, ← w2]
            exact ⟨rfl, rfl⟩
        · rw [if_neg h3] at h1; exact absurd h1 h3
      · rw [if_neg h2] at h; cases h
    · rw [if_neg h1] at h; exact absurd h h1
section
variable {l pre rest : List Nat}
theorem placeR_put {s : D.Stamp} (h : placeV s = true) (hl : l = pre ++ (encS s ++ rest)) : placeR l (pre.length, 0) = (s, ((pre ++ encS s).length, 0)) := by
  have e := goodS.at h hl
  unfold placeR
  simp only [e, partR_ok, List.length_append]
theorem numR_put {n : Int} (h : okN n) (hl : l = pre ++ (enc n.toNat ++ rest)) : numR l (pre.length, 0) = (n, ((pre ++ enc n.toNat).length, 0)) := by
  have e := goodN.at h hl
  unfold numR
  simp only [e, partR_ok, List.length_append]
theorem vecR_put {v : List Int} (h : vecV v = true) (hl : l = pre ++ (encV v ++ rest)) : vecR l (pre.length, 0) = (v, ((pre ++ encV v).length, 0)) := by
  have e := goodV.at h hl
  unfold vecR
  simp only [e, partR_ok, List.length_append]
theorem textR_put {s : List Nat} (h : okT s) (hl : l = pre ++ (encT s ++ rest)) : textR l (pre.length, 0) = (s, ((pre ++ encT s).length, 0)) := by
  have e := goodT.at h hl
  unfold textR
  simp only [e, partR_ok, List.length_append]
end
theorem opE_eq (o : D.Op) : opE o = encS o.stamp ++ (encV o.deps ++ (enc o.kind.toNat ++ (encS o.node ++ (if o.kind = 1 then encS o.parent ++ encT o.key else enc o.prop.toNat ++ enc (o.value + 1).toNat)))) := by
  unfold opE encS encV encT
  simp only [List.append_assoc]
/-- what may be, as its parts are taken -/
structure OpParts (o : D.Op) : Prop where
  stamp : placeV o.stamp = true
  deps : vecV o.deps = true
  node : placeV o.node = true
  seq : ∃ x, o.deps[o.stamp.rep.toNat]? = some x ∧ o.seq = x + 1
  kind : (o.kind = 1 ∧ placeV o.parent = true ∧ okT o.key ∧ o.prop = 0 ∧ o.value = 0) ∨ (o.kind = 2 ∧ okN o.prop ∧ okN (o.value + 1) ∧ o.parent = ⟨0, 0⟩ ∧ o.key = [])
theorem op_parts {o : D.Op} (h : mayO o = true) (hk : Bytes8 o.key) : OpParts o := by
  obtain ⟨s1, s2, s3, s4, s5⟩ := mayO_nums h
  unfold mayO at h
  simp only [Bool.and_eq_true] at h
  obtain ⟨h1, h2, h3, h4, h5⟩ := h
  have p1 : placeV o.stamp = true := by unfold placeV; rw [h1]; rfl
  have p2 : placeV o.node = true := by unfold placeV; rw [h3]; rfl
  refine ⟨p1, h2, p2, ?_, ?_⟩
  · unfold seqV at h4
    split at h4
    · rename_i x hx
      simp only [Bool.and_eq_true, decide_eq_true_eq] at h4
      exact ⟨x, hx, h4.1⟩
    · cases h4
  · unfold kindV at h5
    rcases s5 with ⟨k1, k2, k3, k4, k5, k6⟩ | ⟨k1, k2, k3, k4⟩
    · rw [if_pos k1] at h5
      simp only [Bool.and_eq_true] at h5
      exact .inl ⟨k1, h5.1, ⟨by omega, hk⟩, k5, k6⟩
    · exact .inr ⟨k1, ⟨by omega, by omega⟩, ⟨by omega, by omega⟩, k3, k4⟩
theorem readR_put {o : D.Op} (h : OpParts o) (rest : List Nat) : readR (opE o ++ rest) = ({ o with seq := 0 }, (opE o).length, 0) := by
  obtain ⟨h1, h2, h3, _, h4⟩ := h
  have hkn : okN o.kind := by rcases h4 with ⟨k, _⟩ | ⟨k, _⟩ <;> (rw [k]; exact ⟨by omega, by omega⟩)
  unfold readR
  rw [opE_eq]
  generalize hl : (encS o.stamp ++ (encV o.deps ++ (enc o.kind.toNat ++ (encS o.node ++ (if o.kind = 1 then encS o.parent ++ encT o.key else enc o.prop.toNat ++ enc (o.value + 1).toNat))))) ++ rest = l
  simp only [List.append_assoc] at hl
  have e1 : placeR l (0, 0) = (o.stamp, (encS o.stamp).length, 0) := placeR_put (pre := []) h1 hl.symm
  have e2 := vecR_put (pre := encS o.stamp) h2 hl.symm
  have e3 := numR_put (pre := encS o.stamp ++ encV o.deps) hkn (l := l) (by rw [← hl]; simp only [List.append_assoc] <;> rfl)
  have e4 := placeR_put (pre := encS o.stamp ++ encV o.deps ++ enc o.kind.toNat) h3 (l := l) (by rw [← hl]; simp only [List.append_assoc] <;> rfl)
  rw [e1, e2]
  simp only [e3]
  rcases h4 with ⟨k1, k2, k3, k4, k5⟩ | ⟨k1, k2, k3, k4, k5⟩
  · rw [if_pos k1] at hl ⊢
    have e5 := placeR_put (pre := encS o.stamp ++ encV o.deps ++ enc o.kind.toNat ++ encS o.node) k2 (l := l) (by rw [← hl]; simp only [List.append_assoc] <;> rfl)
    have e6 := textR_put (pre := encS o.stamp ++ encV o.deps ++ enc o.kind.toNat ++ encS o.node ++ encS o.parent) k3 (l := l) (by rw [← hl]; simp only [List.append_assoc] <;> rfl)
    unfold kindR bodyR
    rw [if_pos k1, if_pos k1]
    simp only [e4, e5, e6]
    refine Prod.ext ?_ (Prod.ext (by simp [Nat.add_assoc]) rfl)
    cases o; simp_all
  · rw [if_neg (by omega)] at hl ⊢
    have e5 := numR_put (pre := encS o.stamp ++ encV o.deps ++ enc o.kind.toNat ++ encS o.node) k2 (l := l) (by rw [← hl]; simp only [List.append_assoc] <;> rfl)
    have e6 := numR_put (pre := encS o.stamp ++ encV o.deps ++ enc o.kind.toNat ++ encS o.node ++ enc o.prop.toNat) k3 (l := l) (by rw [← hl]; simp only [List.append_assoc] <;> rfl)
    unfold kindR bodyR
    rw [if_neg (by omega), if_neg (by omega), if_pos k1]
    simp only [e4, e5, e6]
    refine Prod.ext ?_ (Prod.ext (by simp [Nat.add_assoc]) rfl)
    cases o
    simp_all
theorem takeO_put {o : D.Op} (h : mayO o = true) (hk : Bytes8 o.key) (rest : List Nat) : takeO (opE o ++ rest) = (o, (opE o).length, 0) := by
  have hp := op_parts h hk
  unfold takeO
  rw [readR_put hp]
  obtain ⟨x, hx, hs⟩ := hp.seq
  simp only [if_true, hx]
  have e : ({ o with seq := x + 1 } : D.Op) = o := by rw [← hs]
  rw [e, if_pos h]
theorem readR_was {l : List Nat} (hl : Bytes8 l) (h : (readR l).2.2 = 0) : l.take (readR l).2.1 = opE (readR l).1 ∧ (readR l).2.1 ≤ l.length ∧ Bytes8 (readR l).1.key := by
  unfold readR at h ⊢
  have l0 : (0 : Nat) ≤ l.length := Nat.zero_le _
  have l1 := placeR_len (l := l) (s := (0, 0)) l0
  have l2 := vecR_len l1
  have l3 := numR_len l2
  have main : ∀ s4 : Rd, s4.1 ≤ l.length → s4.2 = 0 → kindR (numR l (vecR l (placeR l (0, 0)).2).2).1 (numR l (vecR l (placeR l (0, 0)).2).2).2 = s4 → s4 = (numR l (vecR l (placeR l (0, 0)).2).2).2 ∧ l.take s4.1 = encS (placeR l (0, 0)).1 ++ (encV (vecR l (placeR l (0, 0)).2).1 ++ enc (numR l (vecR l (placeR l (0, 0)).2).2).1.toNat) := by
    intro s4 l4 h4 hk
    have hs : s4 = (numR l (vecR l (placeR l (0, 0)).2).2).2 := by
      unfold kindR at hk
      split at hk
      · exact hk.symm
      · split at hk
        · exact hk.symm
        · unfold partR at hk
          split at hk
          · rw [← hk] at h4; cases h4
          · rename_i hne; rw [hk] at hne; exact absurd h4 hne
    refine ⟨hs, ?_⟩
    rw [hs] at h4 ⊢
    obtain ⟨a1, a2, a3, a4, a5⟩ := goodN.step hl l2 h4
    obtain ⟨b1, b2, b3, b4, b5⟩ := goodV.step hl l1 a1
    obtain ⟨c1, c2, c3, c4, c5⟩ := goodS.step (s := (0, 0)) hl l0 b1
    have q1 : (placeR l (0, 0)).2.1 = 0 + (tkS (l.drop 0)).2.1 := c4
    have q2 : (vecR l (placeR l (0, 0)).2).2.1 = (placeR l (0, 0)).2.1 + (tkV (l.drop (placeR l (0, 0)).2.1)).2.1 := b4
    have q3 : (numR l (vecR l (placeR l (0, 0)).2).2).2.1 = (vecR l (placeR l (0, 0)).2).2.1 + (tkN (l.drop (vecR l (placeR l (0, 0)).2).2.1)).2.1 := a4
    rw [q3, a5]
    conv => lhs; arg 1; rw [q2, b5]
    conv => lhs; arg 1; arg 1; rw [q1, c5]
    simp only [List.take_zero, List.nil_append, List.append_assoc]
    rfl
  have l4 := kindR_len (k := (numR l (vecR l (placeR l (0, 0)).2).2).1) l3
  generalize hs4 : kindR (numR l (vecR l (placeR l (0, 0)).2).2).1 (numR l (vecR l (placeR l (0, 0)).2).2).2 = s4 at h l4 ⊢
  have l5 := placeR_len l4
  unfold bodyR at h ⊢
  by_cases k1 : (numR l (vecR l (placeR l (0, 0)).2).2).1 = 1
  · rw [if_pos k1] at h ⊢
    have l6 := placeR_len l5
    obtain ⟨a1, a2, a3, a4, a5⟩ := goodT.step hl l6 h
    obtain ⟨b1, b2, b3, b4, b5⟩ := goodS.step hl l5 a1
    obtain ⟨c1, c2, c3, c4, c5⟩ := goodS.step hl l4 b1
    obtain ⟨_, m2⟩ := main s4 l4 c1 hs4
    refine ⟨?_, textR_len l6, a3.2⟩
    have q1 : (placeR l s4).2.1 = s4.1 + (tkS (l.drop s4.1)).2.1 := c4
    have q2 : (placeR l (placeR l s4).2).2.1 = (placeR l s4).2.1 + (tkS (l.drop (placeR l s4).2.1)).2.1 := b4
    have q3 : (textR l (placeR l (placeR l s4).2).2).2.1 = (placeR l (placeR l s4).2).2.1 + (tkT (l.drop (placeR l (placeR l s4).2).2.1)).2.1 := a4
    show l.take (textR l (placeR l (placeR l s4).2).2).2.1 = _
    rw [q3, a5]
    conv => lhs; arg 1; rw [q2, b5]
    conv => lhs; arg 1; arg 1; rw [q1, c5]
    rw [m2, opE_eq]
    simp only [k1, if_true, List.append_assoc]
    rfl
  · rw [if_neg k1] at h ⊢
    have l6 := numR_len l5
    obtain ⟨a1, a2, a3, a4, a5⟩ := goodN.step hl l6 h
    obtain ⟨b1, b2, b3, b4, b5⟩ := goodN.step hl l5 a1
    obtain ⟨c1, c2, c3, c4, c5⟩ := goodS.step hl l4 b1
    obtain ⟨_, m2⟩ := main s4 l4 c1 hs4
    refine ⟨?_, numR_len l6, fun x hx => by cases hx⟩
    have q1 : (placeR l s4).2.1 = s4.1 + (tkS (l.drop s4.1)).2.1 := c4
    have q2 : (numR l (placeR l s4).2).2.1 = (placeR l s4).2.1 + (tkN (l.drop (placeR l s4).2.1)).2.1 := b4
    have q3 : (numR l (numR l (placeR l s4).2).2).2.1 = (numR l (placeR l s4).2).2.1 + (tkN (l.drop (numR l (placeR l s4).2).2.1)).2.1 := a4
    show l.take (numR l (numR l (placeR l s4).2).2).2.1 = _
    rw [q3, a5]
    conv => lhs; arg 1; rw [q2, b5]
    conv => lhs; arg 1; arg 1; rw [q1, c5]
    rw [m2, opE_eq]
    simp only [k1, if_false, List.append_assoc, Int.sub_add_cancel]
    rfl
theorem takeO_was {l : List Nat} (hl : Bytes8 l) (h : (takeO l).2.2 = 0) : mayO (takeO l).1 = true ∧ l.take (takeO l).2.1 = opE (takeO l).1 ∧ (takeO l).2.1 ≤ l.length ∧ Bytes8 (takeO l).1.key := by
  unfold takeO at h ⊢
  by_cases h1 : (readR l).2.2 = 0
  · rw [if_pos h1] at h ⊢
    obtain ⟨w1, w2, w3⟩ := readR_was hl h1
    cases hx : (readR l).1.deps[(readR l).1.stamp.rep.toNat]? with
    | none => rw [hx] at h; cases h
    | some x =>
      rw [hx] at h
      simp only at h ⊢
      by_cases h2 : mayO { (readR l).1 with seq := x + 1 } = true
      · rw [if_pos h2]
        exact ⟨h2, w1, w2, w3⟩
      · rw [if_neg h2] at h; cases h
  · rw [if_neg h1] at h; exact absurd h h1
section
variable {h : Hp} {a b : AV} {l : List Nat} {Post : AV → Hp → Prop}
theorem onTup.opii {o : D.Op} {d : AV} (hd : d.sc = true) {n m : Int} {K : Int → Int → Int → AV → Int → Int → Int → Int → Int → List Nat → Int → Int → Int → Int → Prop} (q : K o.stamp.time o.stamp.rep o.seq d o.kind o.node.time o.node.rep o.parent.time o.parent.rep o.key o.prop o.value n m) :
    onTup [Sh.agg [Kd.int .i64, Kd.int .i64, Kd.int .i64, Kd.ref, Kd.int .i64, Kd.int .i64, Kd.int .i64, Kd.int .i64, Kd.int .i64, Kd.str, Kd.int .i64, Kd.int .i64], Sh.one (Kd.int .i64), Sh.one (Kd.int .i64)] (.tup [.agg (opC o d), .i .i64 n, .i .i64 m]) K := by
  show onS [Sh.agg [Kd.int .i64, Kd.int .i64, Kd.int .i64, Kd.ref, Kd.int .i64, Kd.int .i64, Kd.int .i64, Kd.int .i64, Kd.int .i64, Kd.str, Kd.int .i64, Kd.int .i64], Sh.one (Kd.int .i64), Sh.one (Kd.int .i64)] [.agg (opC o d), .i .i64 n, .i .i64 m] K
  unfold onS
  have e : flatV [Sh.agg [Kd.int .i64, Kd.int .i64, Kd.int .i64, Kd.ref, Kd.int .i64, Kd.int .i64, Kd.int .i64, Kd.int .i64, Kd.int .i64, Kd.str, Kd.int .i64, Kd.int .i64], Sh.one (Kd.int .i64), Sh.one (Kd.int .i64)] [.agg (opC o d), .i .i64 n, .i .i64 m] = some (opC o d ++ [.i .i64 n, .i .i64 m]) := rfl
  rw [e]
  exact onRef.mk (K := fun d => K o.stamp.time o.stamp.rep o.seq d o.kind o.node.time o.node.rep o.parent.time o.parent.rep o.key o.prop o.value n m) hd q
/-- the law's own operation -/
def theO : D.Op := ⟨⟨1, 0⟩, 1, [0], 1, ⟨1, 0⟩, ⟨0, 0⟩, [107], 0, 0⟩
theorem theO_may : mayO theO = true := by decide
theorem c35 (k : ∀ d h', Kn.int.Own h h' d theO.deps → Post (.agg (opC theO d)) h') : wpC Try.prog 35 [] Post h := by
  refine call_sound (args := []) (cuts := []) trivial ?_
  rw [vc35]
  refine fun _ p e1 e2 => k _ _ ⟨h, intC [0], Hp.le_refl h, rfl, Fresh.put (css := intC [0]) (sz := 1) (len := 1) (cs := [.i .i64 0]) (Hp.le_refl h) rfl e1 e2 true (fun c hc => by simp [intC] at hc; subst hc; rfl) rfl rfl, .cons ⟨rfl, by omega, by omega⟩ .nil⟩
theorem opE_len {o : D.Op} (h : mayO o = true) : (opE o).length ≤ 400 := by
  obtain ⟨s1, s2, s3, s4, s5⟩ := mayO_nums h
  have t1 := enc_len10 (n := o.stamp.time.toNat) (by omega)
  have t2 := enc_len10 (n := o.stamp.rep.toNat) (by omega)
  have t3 := enc_len10 (n := o.deps.length) (by omega)
  have t4 := encs_len (v := o.deps) fun x hx => by have := s2 x hx; omega
  have t5 : 0 ≤ o.kind ∧ o.kind ≤ 2 := by rcases s5 with s | s <;> omega
  have t6 := enc_len10 (n := o.kind.toNat) (by omega)
  have t7 := enc_len10 (n := o.node.time.toNat) (by omega)
  have t8 := enc_len10 (n := o.node.rep.toNat) (by omega)
  unfold opE
  rcases s5 with ⟨k1, k2, k3, k4, k5, k6⟩ | ⟨k1, k2, k3, k4⟩
  · rw [if_pos k1]
    have t9 := enc_len10 (n := o.parent.time.toNat) (by omega)
    have t10 := enc_len10 (n := o.parent.rep.toNat) (by omega)
    have t11 := enc_len10 (n := o.key.length) (by omega)
    simp only [List.length_append]; omega
  · rw [if_neg (by omega)]
    have t9 := enc_len10 (n := o.prop.toNat) (by omega)
    have t10 := enc_len10 (n := (o.value + 1).toNat) (by omega)
    simp only [List.length_append]; omega
end
/- arras/sum.Sum -/
theorem vc23 (a : Int) (b : AV) (h : Hp) (Post : AV → Hp → Prop) : vcCall Try.prog [0] 23 [(SV.ii .u32 a), (SV.vv b)] h Post = (
  onO (unO UnOp.xor IntKind.u32 a) fun n0 =>
  ∃ I0 : Nat → Int → Int → Int → Int → Hp → Prop,
    (∃ p0, I0 p0 n0 0 8 0 h) ∧
      ∀ (p1 : Nat) (h0 : Hp) (n1 n2 n3 n4 : Int),
        I0 p1 n1 n2 n3 n4 h0 →
          Dup
            (onB (decide (n3 < 8))
              (onO (shO BinOp.shr IntKind.u32 n1 1) fun n5 =>
                onO (intO BinOp.and IntKind.u32 n1 1) fun n6 =>
                  onO (intO BinOp.mul IntKind.u32 3988292384 n6) fun n7 =>
                    onO (intO BinOp.xor IntKind.u32 n5 n7) fun n8 => onO (intO BinOp.add IntKind.i64 n3 1) fun n9 => ∃ p2, ltN p2 p1 ∧ I0 p2 n8 n2 n9 n4 h0)
              (onO (lenV b) fun p3 =>
                onB (decide (n2 < ↑p3))
                  (onO (idxV b n2 1) fun r0 =>
                    onO (rdH h0 r0.fst r0.snd 1) fun l0 =>
                      onL [Kd.int IntKind.u8] l0 fun n10 =>
                        onO (wrO IntKind.u32 n10) fun n11 =>
                          onO (intO BinOp.xor IntKind.u32 n1 n11) fun n12 => onO (intO BinOp.add IntKind.i64 n2 1) fun n13 => ∃ p4, ltN p4 p1 ∧ I0 p4 n12 n13 0 n4 h0)
                  (onO (unO UnOp.xor IntKind.u32 n1) fun n14 => Post (AV.i IntKind.u32 n14) h0)))) := by kernel_rfl
/- arras/arrasref5.Sum -/
theorem vc22 (a : Int) (b : AV) (h : Hp) (Post : AV → Hp → Prop) : vcCall Try.prog [] 22 [(SV.ii .u32 a), (SV.vv b)] h Post = (
  onO (intO BinOp.xor IntKind.u32 a 4294967295) fun n0 =>
  ∃ I0 : Nat → Int → Int → Hp → Prop,
    (∃ p0, I0 p0 n0 0 h) ∧
      ∀ (p1 : Nat) (h0 : Hp) (n1 n2 : Int),
        I0 p1 n1 n2 h0 →
          onO (lenV b) fun p2 =>
            onB (decide (n2 < ↑p2))
              (onO (idxV b n2 1) fun r0 =>
                onO (rdH h0 r0.fst r0.snd 1) fun l0 =>
                  onL [Kd.int IntKind.u8] l0 fun n3 =>
                    onO (wrO IntKind.u32 n3) fun n4 =>
                      onO (intO BinOp.xor IntKind.u32 n1 n4) fun n5 =>
                        ∃ I1 : Nat → Int → Int → Hp → Prop,
                          (∃ p3, I1 p3 n5 0 h0) ∧
                            ∀ (p4 : Nat) (h1 : Hp) (n6 n7 : Int),
                              I1 p4 n6 n7 h1 →
                                onB (decide (n7 < 8))
                                  (onO (intO BinOp.and IntKind.u32 n6 1) fun n8 =>
                                    onB (decide (n8 = 1))
                                      (onO (shO BinOp.shr IntKind.u32 n6 1) fun n9 =>
                                        onO (intO BinOp.xor IntKind.u32 n9 3988292384) fun n10 => onO (intO BinOp.add IntKind.i64 n7 1) fun n11 => ∃ p5, ltN p5 p4 ∧ I1 p5 n10 n11 h1)
                                      (onO (shO BinOp.shr IntKind.u32 n6 1) fun n12 => onO (intO BinOp.add IntKind.i64 n7 1) fun n13 => ∃ p6, ltN p6 p4 ∧ I1 p6 n12 n13 h1))
                                  (onO (intO BinOp.add IntKind.i64 n2 1) fun n14 => ∃ p7, ltN p7 p1 ∧ I0 p7 n6 n14 h1))
              (onO (intO BinOp.xor IntKind.u32 n1 4294967295) fun n15 => Post (AV.i IntKind.u32 n15) h0)) := by kernel_rfl
/- arras/frame.Bytes -/
theorem vc16 (a0 : Int) (a1 : Int) (a2 : Int) (a3 : AV) (a4 : AV) (h : Hp) (Post : AV → Hp → Prop) : vcCall Try.prog [] 16 [(SV.ag [(SV.ii .i64 a0), (SV.ii .i64 a1), (SV.ii .i64 a2), (SV.vv a3), (SV.vv a4)])] h Post = (
  ∀ (p0 : Nat),
  wpC Try.prog 25 [AV.agg [AV.i IntKind.i64 a0, AV.i IntKind.i64 a1, AV.i IntKind.i64 a2, a3, a4]]
    (fun a0_1 h0 =>
      onRet [Sh.one Kd.bool] a0_1 fun c0 =>
        onB (!c0) (Post (AV.tup [AV.ns, AV.i IntKind.i64 1]) h0)
          (wpC Try.prog 27 [AV.agg [AV.i IntKind.i64 a0, AV.i IntKind.i64 a1, AV.i IntKind.i64 a2, a3, a4]] (fun a1 h1 => onRet [Sh.one Kd.ref] a1 fun a2 => Post (AV.tup [a2, AV.i IntKind.i64 0]) h1)
            h0))
    h) := by kernel_rfl
/- arras/frame.numbers -/
theorem vc45 (a : AV) (b : Int) (h : Hp) (Post : AV → Hp → Prop) : vcCall Try.prog [] 45 [(SV.vv a), (SV.ii .i64 b)] h Post = (
  ∃ I0 : Nat → AV → Bool → AV → AV → Int → Hp → Prop,
  (∃ p0, I0 p0 AV.ns false AV.ns a 0 h) ∧
    ∀ (p1 : Nat) (h0 : Hp) (a0 : AV),
      a0.sc = true →
        ∀ (c0 : Bool) (a1 : AV),
          a1.sc = true →
            ∀ (a2 : AV),
              a2.sc = true →
                ∀ (n0 : Int),
                  I0 p1 a0 c0 a1 a2 n0 h0 →
                    onB (decide (n0 < b))
                      (wpC Try.prog 66 [a2]
                        (fun a3 h1 =>
                          onTup [Sh.one (Kd.int IntKind.i64), Sh.one (Kd.int IntKind.i64), Sh.one (Kd.int IntKind.i64)] a3 fun n1 n2 n3 =>
                            onB (!decide (n3 = 0)) (Post (AV.tup [AV.ns, AV.ns, AV.b false]) h1)
                              (∀ (p2 : Nat),
                                wpE (Eff.app a1 1 (Src.lit [AV.i IntKind.i64 n1]) 1)
                                  (fun x0 h2 => onO x0 fun a4 => onO (slV a2 (some n2) none none 1) fun a5 => onO (intO BinOp.add IntKind.i64 n0 1) fun n4 => ∃ p3, ltN p3 p1 ∧ I0 p3 a0 c0 a4 a5 n4 h2)
                                  h1))
                        h0)
                      (Post (AV.tup [a1, a2, AV.b true]) h0)) := by kernel_rfl
/- arras/frame.read -/
theorem vc24 (a : AV) (h : Hp) (Post : AV → Hp → Prop) : vcCall Try.prog [] 24 [(SV.vv a)] h Post = (
  ∀ (p0 : Nat),
  wpC Try.prog 45 [a, AV.i IntKind.i64 3]
    (fun a0 h0 =>
      onTup [Sh.one Kd.ref, Sh.one Kd.ref, Sh.one Kd.bool] a0 fun a1 a2 c0 =>
        onB (!c0) (Post (AV.tup [AV.agg [AV.i IntKind.i64 0, AV.i IntKind.i64 0, AV.i IntKind.i64 0, AV.ns, AV.ns], AV.b false]) h0)
          (onO (idxV a1 0 1) fun r0 =>
            onO (rdH h0 r0.fst r0.snd 1) fun l0 =>
              onL [Kd.int IntKind.i64] l0 fun n0 =>
                onO (idxV a1 1 1) fun r1 =>
                  onO (rdH h0 r1.fst r1.snd 1) fun l1 =>
                    onL [Kd.int IntKind.i64] l1 fun n1 =>
                      onO (idxV a1 2 1) fun r2 =>
                        onO (rdH h0 r2.fst r2.snd 1) fun l2 =>
                          onL [Kd.int IntKind.i64] l2 fun n2 =>
                            onB (decide (n2 = 1))
                              (wpC Try.prog 46 [a2]
                                (fun a3 h1 =>
                                  onTup [Sh.one Kd.ref, Sh.one (Kd.int IntKind.i64), Sh.one (Kd.int IntKind.i64)] a3 fun a4 n3 n4 =>
                                    Post (AV.tup [AV.agg [AV.i IntKind.i64 n0, AV.i IntKind.i64 n1, AV.i IntKind.i64 n2, a4, AV.ns], AV.b (decide (n4 = 0))]) h1)
                                h0)
                              (wpC Try.prog 45 [a2, AV.i IntKind.i64 1]
                                (fun a5 h2 =>
                                  onTup [Sh.one Kd.ref, Sh.one Kd.ref, Sh.one Kd.bool] a5 fun a6 a7 c1 =>
                                    onB (!c1) (Post (AV.tup [AV.agg [AV.i IntKind.i64 n0, AV.i IntKind.i64 n1, AV.i IntKind.i64 n2, AV.ns, AV.ns], AV.b false]) h2)
                                      (onO (idxV a6 0 1) fun r3 =>
                                        onO (rdH h2 r3.fst r3.snd 1) fun l3 =>
                                          onL [Kd.int IntKind.i64] l3 fun n5 =>
                                            onB (decide (8 < n5)) (Post (AV.tup [AV.agg [AV.i IntKind.i64 n0, AV.i IntKind.i64 n1, AV.i IntKind.i64 n2, AV.ns, AV.ns], AV.b false]) h2)
                                              (onO (idxV a6 0 1) fun r4 =>
                                                onO (rdH h2 r4.fst r4.snd 1) fun l4 =>
                                                  onL [Kd.int IntKind.i64] l4 fun n6 =>
                                                    ∃ I0 : Nat → Bool → AV → Int → Int → Int → Int → AV → AV → Hp → Prop,
                                                      (∃ p1, I0 p1 c1 a7 0 n0 n1 n2 AV.ns AV.ns h2) ∧
                                                        ∀ (p2 : Nat) (h3 : Hp) (c2 : Bool) (a8 : AV),
                                                          a8.sc = true →
                                                            ∀ (n7 n8 n9 n10 : Int) (a9 : AV),
                                                              a9.sc = true →
                                                                ∀ (a10 : AV),
                                                                  a10.sc = true →
                                                                    I0 p2 c2 a8 n7 n8 n9 n10 a9 a10 h3 →
                                                                      onB (decide (n7 < n6))
                                                                        (wpC Try.prog 47 [a8]
                                                                          (fun a11 h4 =>
                                                                            onTup
                                                                              [Sh.agg
                                                                                  [Kd.int IntKind.i64, Kd.int IntKind.i64, Kd.int IntKind.i64, Kd.ref, Kd.int IntKind.i64, Kd.int IntKind.i64,
                                                                                    Kd.int IntKind.i64, Kd.int IntKind.i64, Kd.int IntKind.i64, Kd.str, Kd.int IntKind.i64, Kd.int IntKind.i64],
                                                                                Sh.one (Kd.int IntKind.i64), Sh.one (Kd.int IntKind.i64)]
                                                                              a11 fun n11 n12 n13 a12 n14 n15 n16 n17 n18 l5 n19 n20 n21 n22 =>
                                                                              ∀ (p3 : Nat),
                                                                                onB (!decide (n22 = 0))
                                                                                  (Post (AV.tup [AV.agg [AV.i IntKind.i64 n8, AV.i IntKind.i64 n9, AV.i IntKind.i64 n10, a9, a10], AV.b false]) h4)
                                                                                  (∀ (p4 : Nat),
                                                                                    wpE
                                                                                      (Eff.app a10 1
                                                                                        (Src.lit
                                                                                          [AV.i IntKind.i64 n11, AV.i IntKind.i64 n12, AV.i IntKind.i64 n13, a12, AV.i IntKind.i64 n14,
                                                                                            AV.i IntKind.i64 n15, AV.i IntKind.i64 n16, AV.i IntKind.i64 n17, AV.i IntKind.i64 n18, AV.s l5,
                                                                                            AV.i IntKind.i64 n19, AV.i IntKind.i64 n20])
                                                                                        12)
                                                                                      (fun x0 h5 =>
                                                                                        onO x0 fun a13 =>
                                                                                          onO (slV a8 (some n21) none none 1) fun a14 =>
                                                                                            onO (intO BinOp.add IntKind.i64 n7 1) fun n23 => ∃ p5, ltN p5 p2 ∧ I0 p5 c2 a14 n23 n8 n9 n10 a9 a13 h5)
                                                                                      h4))
                                                                          h3)
                                                                        (Post (AV.tup [AV.agg [AV.i IntKind.i64 n8, AV.i IntKind.i64 n9, AV.i IntKind.i64 n10, a9, a10], AV.b true]) h3))))
                                h0)))
    h) := by kernel_rfl
/- bytes.Equal -/
theorem vc26 (a : AV) (b : AV) (h : Hp) (Post : AV → Hp → Prop) : vcCall Try.prog [] 26 [(SV.vv a), (SV.vv b)] h Post = (
  onO (strAt h a) fun r0 => onO (strAt h b) fun r1 => Post (AV.b (decide (r0.fst = r1.fst))) h) := by kernel_rfl
/- arras/frame.Parse -/
theorem vc9 (a : AV) (h : Hp) (Post : AV → Hp → Prop) : vcCall Try.prog [] 9 [(SV.vv a)] h Post = (
  ∀ (p0 : Nat),
  onO (lenV a) fun p1 =>
    onB (decide ((↑p1 : Int) < 4)) (Post (AV.tup [AV.agg [AV.i IntKind.i64 0, AV.i IntKind.i64 0, AV.i IntKind.i64 0, AV.ns, AV.ns], AV.i IntKind.i64 7]) h)
      (onO (slV a (some 4) none none 1) fun a0 =>
        wpC Try.prog 23 [AV.i IntKind.u32 0, a0]
          (fun a1 h0 =>
            onRet [Sh.one (Kd.int IntKind.u32)] a1 fun n0 =>
              onO (idxV a 0 1) fun r0 =>
                onO (rdH h0 r0.fst r0.snd 1) fun l0 =>
                  onL [Kd.int IntKind.u8] l0 fun n1 =>
                    onO (wrO IntKind.u32 n1) fun n2 =>
                      onO (shO BinOp.shl IntKind.u32 n2 24) fun n3 =>
                        onO (idxV a 1 1) fun r1 =>
                          onO (rdH h0 r1.fst r1.snd 1) fun l1 =>
                            onL [Kd.int IntKind.u8] l1 fun n4 =>
                              onO (wrO IntKind.u32 n4) fun n5 =>
                                onO (shO BinOp.shl IntKind.u32 n5 16) fun n6 =>
                                  onO (intO BinOp.or IntKind.u32 n3 n6) fun n7 =>
                                    onO (idxV a 2 1) fun r2 =>
                                      onO (rdH h0 r2.fst r2.snd 1) fun l2 =>
                                        onL [Kd.int IntKind.u8] l2 fun n8 =>
                                          onO (wrO IntKind.u32 n8) fun n9 =>
                                            onO (shO BinOp.shl IntKind.u32 n9 8) fun n10 =>
                                              onO (intO BinOp.or IntKind.u32 n7 n10) fun n11 =>
                                                onO (idxV a 3 1) fun r3 =>
                                                  onO (rdH h0 r3.fst r3.snd 1) fun l3 =>
                                                    onL [Kd.int IntKind.u8] l3 fun n12 =>
                                                      onO (wrO IntKind.u32 n12) fun n13 =>
                                                        onO (intO BinOp.or IntKind.u32 n11 n13) fun n14 =>
                                                          onB (!decide (n14 = n0))
                                                            (Post (AV.tup [AV.agg [AV.i IntKind.i64 0, AV.i IntKind.i64 0, AV.i IntKind.i64 0, AV.ns, AV.ns], AV.i IntKind.i64 8]) h0)
                                                            (onO (slV a (some 4) none none 1) fun a2 =>
                                                              wpC Try.prog 24 [a2]
                                                                (fun a3 h1 =>
                                                                  onTup [Sh.agg [Kd.int IntKind.i64, Kd.int IntKind.i64, Kd.int IntKind.i64, Kd.ref, Kd.ref], Sh.one Kd.bool] a3
                                                                    fun n15 n16 n17 a4 a5 c0 =>
                                                                    ∀ (p2 : Nat),
                                                                      onB (!c0)
                                                                        (Post (AV.tup [AV.agg [AV.i IntKind.i64 0, AV.i IntKind.i64 0, AV.i IntKind.i64 0, AV.ns, AV.ns], AV.i IntKind.i64 1]) h1)
                                                                        (wpC Try.prog 25 [AV.agg [AV.i IntKind.i64 n15, AV.i IntKind.i64 n16, AV.i IntKind.i64 n17, a4, a5]]
                                                                          (fun a6 h2 =>
                                                                            onRet [Sh.one Kd.bool] a6 fun c1 =>
                                                                              onB (!c1)
                                                                                (Post (AV.tup [AV.agg [AV.i IntKind.i64 0, AV.i IntKind.i64 0, AV.i IntKind.i64 0, AV.ns, AV.ns], AV.i IntKind.i64 1])
                                                                                  h2)
                                                                                (wpC Try.prog 27 [AV.agg [AV.i IntKind.i64 n15, AV.i IntKind.i64 n16, AV.i IntKind.i64 n17, a4, a5]]
                                                                                  (fun a7 h3 =>
                                                                                    onRet [Sh.one Kd.ref] a7 fun a8 =>
                                                                                      wpC Try.prog 26 [a8, a]
                                                                                        (fun a9 h4 =>
                                                                                          onRet [Sh.one Kd.bool] a9 fun c2 =>
                                                                                            onB (!c2)
                                                                                              (Post
                                                                                                (AV.tup
                                                                                                  [AV.agg [AV.i IntKind.i64 0, AV.i IntKind.i64 0, AV.i IntKind.i64 0, AV.ns, AV.ns],
                                                                                                    AV.i IntKind.i64 1])
                                                                                                h4)
                                                                                              (Post
                                                                                                (AV.tup
                                                                                                  [AV.agg [AV.i IntKind.i64 n15, AV.i IntKind.i64 n16, AV.i IntKind.i64 n17, a4, a5],
                                                                                                    AV.i IntKind.i64 0])
                                                                                                h4))
                                                                                        h3)
                                                                                  h2))
                                                                          h1))
                                                                h0))
          h)) := by kernel_rfl
/- arras/arraslaw11.wakes -/
theorem vc15  (h : Hp) (Post : AV → Hp → Prop) : vcCall Try.prog [] 15 [] h Post = (
  wpC Try.prog 35 []
  (fun a0 h0 =>
    onRet
      [Sh.agg
          [Kd.int IntKind.i64, Kd.int IntKind.i64, Kd.int IntKind.i64, Kd.ref, Kd.int IntKind.i64, Kd.int IntKind.i64, Kd.int IntKind.i64, Kd.int IntKind.i64, Kd.int IntKind.i64, Kd.str,
            Kd.int IntKind.i64, Kd.int IntKind.i64]]
      a0 fun n0 n1 n2 a1 n3 n4 n5 n6 n7 l0 n8 n9 =>
      ∀ (p0 p1 : Nat),
        h0.g p0 = none →
          h0.lo.le p0 →
            wpC Try.prog 16 [AV.agg [AV.i IntKind.i64 0, AV.i IntKind.i64 1, AV.i IntKind.i64 2, AV.ns, AV.sl p0 0 1 1 true 12]]
              (fun a2 h1 =>
                onTup [Sh.one Kd.ref, Sh.one (Kd.int IntKind.i64)] a2 fun a3 n10 =>
                  wpC Try.prog 9 [a3]
                    (fun a4 h2 =>
                      onTup [Sh.agg [Kd.int IntKind.i64, Kd.int IntKind.i64, Kd.int IntKind.i64, Kd.ref, Kd.ref], Sh.one (Kd.int IntKind.i64)] a4 fun n11 n12 n13 a5 a6 n14 =>
                        ∀ (p2 : Nat),
                          wpC Try.prog 11 [AV.i IntKind.i64 n10]
                            (fun a7 h3 =>
                              onRet [Sh.one (Kd.int IntKind.i64)] a7 fun n15 =>
                                onB (decide (n15 = 0))
                                  (wpC Try.prog 11 [AV.i IntKind.i64 n14]
                                    (fun a8 h4 =>
                                      onRet [Sh.one (Kd.int IntKind.i64)] a8 fun n16 =>
                                        onB (decide (n16 = 0))
                                          (wpC Try.prog 12
                                            [AV.agg [AV.i IntKind.i64 n11, AV.i IntKind.i64 n12, AV.i IntKind.i64 n13, a5, a6],
                                              AV.agg [AV.i IntKind.i64 0, AV.i IntKind.i64 1, AV.i IntKind.i64 2, AV.ns, AV.sl p0 0 1 1 true 12]]
                                            (fun a9 h5 => onRet [Sh.one Kd.bool] a9 fun c0 => Post (AV.b c0) h5) h4)
                                          (Post (AV.b false) h4))
                                    h3)
                                  (Post (AV.b false) h3))
                            h2)
                    h1)
              (h0.put p0
                [AV.i IntKind.i64 n0, AV.i IntKind.i64 n1, AV.i IntKind.i64 n2, a1, AV.i IntKind.i64 n3, AV.i IntKind.i64 n4, AV.i IntKind.i64 n5, AV.i IntKind.i64 n6, AV.i IntKind.i64 n7, AV.s l0,
                  AV.i IntKind.i64 n8, AV.i IntKind.i64 n9]))
  h) := by kernel_rfl
/- arras/arraslaw11.heavy -/
theorem vc6 (a0 : Int) (a1 : Int) (a2 : Int) (a3 : AV) (a4 : AV) (a5 : AV) (h : Hp) (Post : AV → Hp → Prop) : vcCall Try.prog [] 6 [(SV.ag [(SV.ii .i64 a0), (SV.ii .i64 a1), (SV.ii .i64 a2), (SV.vv a3), (SV.vv a4), (SV.vv a5)])] h Post = (
  ∀ (p0 : Nat),
  onO (lenV a3) fun p1 =>
    wpC Try.prog 21 [a4]
      (fun a0 h0 =>
        onRet [Sh.one (Kd.int IntKind.i64)] a0 fun n0 =>
          onO (intO BinOp.add IntKind.i64 (↑p1) n0) fun n1 => onB (decide (5000 < n1)) (Post (AV.b true) h0) (onO (lenV a5) fun p2 => Post (AV.b (decide ((5000 : Int) < ↑p2))) h0))
      h) := by kernel_rfl
/- arras/frame.Lay -/
theorem vc27 (a0 : Int) (a1 : Int) (a2 : Int) (a3 : AV) (a4 : AV) (h : Hp) (Post : AV → Hp → Prop) : vcCall Try.prog [18999999] 27 [(SV.ag [(SV.ii .i64 a0), (SV.ii .i64 a1), (SV.ii .i64 a2), (SV.vv a3), (SV.vv a4)])] h Post = (
  ∀ (p0 : Nat),
  onO (natI 4) fun p1 =>
    onO (natI 4) fun p2 =>
      onC (p1.ble p2 && (p2 * 1).ble (OfNat.ofNat 1073741824) && p2.blt 1073741824)
        (∀ (p3 : Nat),
          h.g p3 = none →
            h.lo.le p3 →
              ∃ I0 : Nat → AV → Int → Hp → Prop,
                (∃ p4, I0 p4 (AV.sl p3 0 p1 p2 true 1) 0 (h.put p3 (zerosV [AV.i IntKind.u8 0] p2))) ∧
                  ∀ (p5 : Nat) (h0 : Hp) (a0_1 : AV),
                    a0_1.sc = true →
                      ∀ (n0 : Int),
                        I0 p5 a0_1 n0 h0 →
                          onB (decide (n0 < 3))
                            (onO (natLt n0 3) fun p6 =>
                              ((True ∧
                                    (p6 = 0 →
                                      wpC Try.prog 50 [a0_1, AV.i IntKind.i64 a0]
                                        (fun a1 h1 => onRet [Sh.one Kd.ref] a1 fun a2 => onO (intO BinOp.add IntKind.i64 n0 1) fun n1 => ∃ p7, ltN p7 p5 ∧ I0 p7 a2 n1 h1) h0)) ∧
                                  (p6 = 1 →
                                    wpC Try.prog 50 [a0_1, AV.i IntKind.i64 a1]
                                      (fun a3 h2 => onRet [Sh.one Kd.ref] a3 fun a4 => onO (intO BinOp.add IntKind.i64 n0 1) fun n2 => ∃ p8, ltN p8 p5 ∧ I0 p8 a4 n2 h2) h0)) ∧
                                (p6 = 2 →
                                  wpC Try.prog 50 [a0_1, AV.i IntKind.i64 a2]
                                    (fun a5 h3 => onRet [Sh.one Kd.ref] a5 fun a6 => onO (intO BinOp.add IntKind.i64 n0 1) fun n3 => ∃ p9, ltN p9 p5 ∧ I0 p9 a6 n3 h3) h0))
                            (∃ I1 : AV → Hp → Prop,
                              onB (decide (a2 = 1)) (wpC Try.prog 51 [a0_1, a3] (fun a7 h4 => onRet [Sh.one Kd.ref] a7 fun a8 => I1 a8 h4) h0)
                                  (onO (lenV a4) fun p10 => wpC Try.prog 50 [a0_1, AV.i IntKind.i64 ↑p10] (fun a9 h5 => onRet [Sh.one Kd.ref] a9 fun a10 => I1 a10 h5) h0) ∧
                                ∀ (h6 : Hp) (a11 : AV),
                                  a11.sc = true →
                                    I1 a11 h6 →
                                      onO (lenV a4) fun p11 =>
                                        ∃ I2 : Nat → AV → Int → Hp → Prop,
                                          (∃ p12, I2 p12 a11 0 h6) ∧
                                            ∀ (p13 : Nat) (h7 : Hp) (a12 : AV),
                                              a12.sc = true →
                                                ∀ (n4 : Int),
                                                  I2 p13 a12 n4 h7 →
                                                    onB (decide (n4 < ↑p11))
                                                      (onO (idxV a4 n4 12) fun r0 =>
                                                        onO (rdH h7 r0.fst r0.snd 12) fun l0 =>
                                                          onL
                                                            [Kd.int IntKind.i64, Kd.int IntKind.i64, Kd.int IntKind.i64, Kd.ref, Kd.int IntKind.i64, Kd.int IntKind.i64, Kd.int IntKind.i64,
                                                              Kd.int IntKind.i64, Kd.int IntKind.i64, Kd.str, Kd.int IntKind.i64, Kd.int IntKind.i64]
                                                            l0 fun n5 n6 n7 a13 n8 n9 n10 n11 n12 l1 n13 n14 =>
                                                            ∀ (p14 : Nat),
                                                              wpC Try.prog 52
                                                                [a12,
                                                                  AV.agg
                                                                    [AV.i IntKind.i64 n5, AV.i IntKind.i64 n6, AV.i IntKind.i64 n7, a13, AV.i IntKind.i64 n8, AV.i IntKind.i64 n9, AV.i IntKind.i64 n10,
                                                                      AV.i IntKind.i64 n11, AV.i IntKind.i64 n12, AV.s l1, AV.i IntKind.i64 n13, AV.i IntKind.i64 n14]]
                                                                (fun a14 h8 =>
                                                                  onRet [Sh.one Kd.ref] a14 fun a15 => onO (intO BinOp.add IntKind.i64 n4 1) fun n15 => ∃ p15, ltN p15 p13 ∧ I2 p15 a15 n15 h8)
                                                                h7)
                                                      (onO (slV a12 (some 4) none none 1) fun a16 =>
                                                        wpC Try.prog 23 [AV.i IntKind.u32 0, a16]
                                                          (fun a17 h9 =>
                                                            onRet [Sh.one (Kd.int IntKind.u32)] a17 fun n16 =>
                                                              onO (shO BinOp.shr IntKind.u32 n16 24) fun n17 =>
                                                                onO (wrO IntKind.u8 n17) fun n18 =>
                                                                  onO (shO BinOp.shr IntKind.u32 n16 16) fun n19 =>
                                                                    onO (wrO IntKind.u8 n19) fun n20 =>
                                                                      onO (shO BinOp.shr IntKind.u32 n16 8) fun n21 =>
                                                                        onO (wrO IntKind.u8 n21) fun n22 =>
                                                                          onO (wrO IntKind.u8 n16) fun n23 =>
                                                                            onO (idxV a12 0 1) fun r1 =>
                                                                              wpE (Eff.w r1.fst r1.snd (Src.lit [AV.i IntKind.u8 n18]) none)
                                                                                (fun x0 h10 =>
                                                                                  onO (idxV a12 1 1) fun r2 =>
                                                                                    wpE (Eff.w r2.fst r2.snd (Src.lit [AV.i IntKind.u8 n20]) none)
                                                                                      (fun x1 h11 =>
                                                                                        onO (idxV a12 2 1) fun r3 =>
                                                                                          wpE (Eff.w r3.fst r3.snd (Src.lit [AV.i IntKind.u8 n22]) none)
                                                                                            (fun x2 h12 =>
                                                                                              onO (idxV a12 3 1) fun r4 =>
                                                                                                wpE (Eff.w r4.fst r4.snd (Src.lit [AV.i IntKind.u8 n23]) none) (fun x3 h13 => Post a12 h13) h12)
                                                                                            h11)
                                                                                      h10)
                                                                                h9)
                                                          h7)))) := by kernel_rfl
/- arras/arraslaw11.num -/
theorem vc11 (a : Int) (h : Hp) (Post : AV → Hp → Prop) : vcCall Try.prog [] 11 [(SV.ii .i64 a)] h Post = (
  Post (AV.i IntKind.i64 a) h) := by kernel_rfl
/-! ### plain -/
def bit1 (s : Nat) : Nat := if s % 2 = 1 then Nat.xor (s / 2) 3988292384 else s / 2
def bitn : Nat → Nat → Nat
  | 0, s => s
  | n + 1, s => bitn n (bit1 s)
def crcF : Nat → List Nat → Nat
  | s, [] => s
  | s, b :: l => crcF (bitn 8 (Nat.xor s b)) l
def crc (s : Nat) (l : List Nat) : Nat := Nat.xor (crcF (Nat.xor s 4294967295) l) 4294967295
theorem xor_lt32 {a b : Nat} (h1 : a < 4294967296) (h2 : b < 4294967296) : Nat.xor a b < 4294967296 := Nat.xor_lt_two_pow (n := 32) h1 h2
theorem bit1_lt {s : Nat} (h : s < 4294967296) : bit1 s < 4294967296 := by
  unfold bit1
  split
  · exact xor_lt32 (by omega) (by omega)
  · omega
theorem bitn_lt : ∀ {n s : Nat}, s < 4294967296 → bitn n s < 4294967296
  | 0, s, h => h
  | n + 1, s, h => bitn_lt (n := n) (bit1_lt h)
theorem crcF_lt : ∀ {l : List Nat} {s : Nat}, Bytes8 l → s < 4294967296 → crcF s l < 4294967296
  | [], s, _, h => h
  | b :: l, s, hl, h => crcF_lt (l := l) (fun x hx => hl x (by simp [hx])) (bitn_lt (xor_lt32 h (by have := hl b (by simp); omega)))
theorem crc_lt {l : List Nat} {s : Nat} (hl : Bytes8 l) (h : s < 4294967296) : crc s l < 4294967296 := xor_lt32 (crcF_lt hl (xor_lt32 h (by omega))) (by omega)
/-! ### words of 32 bits -/
theorem wr32n {n : Nat} (h : n < 4294967296) : wrO .u32 (n : Int) = some (n : Int) := by rw [wr32]; congr 1; omega
theorem xor32 {a b : Nat} (h1 : a < 4294967296) (h2 : b < 4294967296) : intO .xor .u32 (a : Int) (b : Int) = some ((Nat.xor a b : Nat) : Int) := by
  unfold intO
  have e : intA .xor .u32 (a : Int) (b : Int) = some (.i .u32 (wrapA .u32 (.ofNat (Nat.xor a b)))) := by
    show (cond (Nat.blt a 4294967296 && Nat.blt b 4294967296) _ none : Option AV) = _
    rw [blt_of h1, blt_of h2]; rfl
  rw [e]
  have := xor_lt32 h1 h2
  show some (wrapA .u32 ((Nat.xor a b : Nat) : Int)) = _
  rw [wrap_mod rfl]
  congr 1
  show ((Nat.xor a b : Nat) : Int) % 4294967296 = _
  omega
theorem and1 {a : Nat} (h1 : a < 4294967296) : intO .and .u32 (a : Int) 1 = some ((a % 2 : Nat) : Int) := by
  unfold intO
  have e : intA .and .u32 (a : Int) 1 = some (.i .u32 (wrapA .u32 (.ofNat (Nat.land a 1)))) := by
    show (cond (Nat.blt a 4294967296 && Nat.blt 1 4294967296) _ none : Option AV) = _
    rw [blt_of h1]; rfl
  rw [e]
  have h2 : Nat.land a 1 = a % 2 := Nat.and_two_pow_sub_one_eq_mod a 1
  rw [h2]
  show some (wrapA .u32 ((a % 2 : Nat) : Int)) = _
  rw [wrap_mod rfl]
  congr 1
  show ((a % 2 : Nat) : Int) % 4294967296 = _
  omega
theorem shr32 {a : Nat} (k : Nat) (hk : k ≤ 32) : shO .shr .u32 (a : Int) (k : Int) = some ((a / 2 ^ k : Nat) : Int) := by
  unfold shO
  have e : shiftA .shr .u32 (a : Int) (k : Int) = some (.i .u32 (Int.fdiv (a : Int) (.ofNat (Nat.pow 2 (cond (Nat.ble k 32) k 32))))) := rfl
  rw [e, Nat.ble_eq_true_of_le hk, cond_true]
  show some (Int.fdiv (a : Int) ((2 ^ k : Nat) : Int)) = _
  rw [Int.fdiv_eq_ediv_of_nonneg _ (Int.natCast_nonneg _)]; rfl
theorem mulp {a : Nat} (h : a < 2) : intO .mul .u32 3988292384 (a : Int) = some ((3988292384 * a : Nat) : Int) := by
  unfold intO intA
  show some (wrapA .u32 (3988292384 * (a : Int))) = _
  rw [wrap_mod rfl]
  congr 1
  show (3988292384 * (a : Int)) % 4294967296 = _
  omega
theorem not32 {a : Nat} (h : a < 4294967296) : unO .xor .u32 (a : Int) = some ((Nat.xor a 4294967295 : Nat) : Int) := by
  unfold unO
  have e : unA .xor (.i .u32 (a : Int)) = some (.i .u32 (wrapA .u32 (.ofNat (Nat.xor 4294967295 a)))) := by
    show (cond (Nat.beq 0 0 && Nat.blt a 4294967296) _ none : Option AV) = _
    rw [blt_of h]; rfl
  rw [e]
  have hc : Nat.xor 4294967295 a = Nat.xor a 4294967295 := Nat.xor_comm _ _
  rw [hc]
  have := xor_lt32 h (show 4294967295 < 4294967296 by omega)
  show some (wrapA .u32 ((Nat.xor a 4294967295 : Nat) : Int)) = _
  rw [wrap_mod rfl]
  congr 1
  show ((Nat.xor a 4294967295 : Nat) : Int) % 4294967296 = _
  omega
theorem bit1_mul {s : Nat} : Nat.xor (s / 2) (3988292384 * (s % 2)) = bit1 s := by
  unfold bit1
  split
  · rename_i h; rw [h]
  · rename_i h
    have : s % 2 = 0 := by omega
    rw [this, Nat.mul_zero]; exact Nat.xor_zero _
section
variable {h : Hp} {a b : AV} {l : List Nat} {Post : AV → Hp → Prop}
theorem c23 {s : Nat} (r : BR h a l) (hs : s < 4294967296) (hb : l.length < 1000000) (k : Post (.i .u32 (crc s l : Nat)) h) : wpC Try.prog 23 [.i .u32 (s : Int), a] Post h := by
  have hl : Bytes8 l := fun x hx => byte_lt r hx
  refine call_sound (args := [.ii .u32 s, .vv a]) (cuts := [0]) ⟨trivial, r.sc, trivial⟩ ?_
  rw [vc23]
  have hx := xor_lt32 hs (show 4294967295 < 4294967296 by omega)
  refine onO.mk (not32 hs) ⟨fun q n1 n2 n3 _ h' => h' = h ∧ ∃ S i j : Nat, n1 = S ∧ n2 = i ∧ n3 = j ∧ i ≤ l.length ∧ j ≤ 8 ∧ q = (l.length - i) * 10 + (8 - j) ∧ S < 4294967296 ∧ crcF (Nat.xor s 4294967295) l = crcF (bitn (8 - j) S) (l.drop i), ⟨_, rfl, Nat.xor s 4294967295, 0, 8, rfl, rfl, rfl, by omega, by omega, rfl, hx, rfl⟩, ?_⟩
  rintro q h0 _ _ _ n4 ⟨rfl, S, i, j, rfl, rfl, rfl, hi, hj, rfl, hS, hp⟩
  have hsh : shO .shr .u32 (S : Int) 1 = some ((S / 2 : Nat) : Int) := shr32 1 (by omega)
  refine Dup.mk (onB.dec (fun e => ?_) (fun e => ?_))
  · have h2 : S % 2 < 2 := Nat.mod_lt _ (by omega)
    have hm : 3988292384 * (S % 2) < 4294967296 := by omega
    refine onO.mk hsh (onO.mk (and1 hS) (onO.mk (mulp h2) (onO.mk (xor32 (by omega) hm) (onO.mk (inc64 (by omega)) ⟨_, by show (l.length - i) * 10 + (8 - (j + 1)) < (l.length - i) * 10 + (8 - j); omega, rfl, _, i, j + 1, rfl, rfl, rfl, hi, by omega, rfl, ?_, ?_⟩))))
    · exact xor_lt32 (by omega) hm
    · rw [bit1_mul, hp, show 8 - j = (8 - (j + 1)) + 1 by omega]; rfl
  · have hj8 : j = 8 := by omega
    subst hj8
    have hp : crcF (Nat.xor s 4294967295) l = crcF S (l.drop i) := hp
    refine onO.mk r.len (onB.dec (fun e1 => ?_) (fun e1 => ?_))
    · obtain ⟨x, hx⟩ := get_lt (l := l) (k := i) (by omega)
      have hx8 := hl x (List.mem_of_getElem? hx)
      rw [drop_of hx] at hp
      refine byte0 r hx (onO.mk (wr32n (by omega)) (onO.mk (xor32 hS (by omega)) (onO.mk (inc64 (by omega)) ⟨_, by show (l.length - (i + 1)) * 10 + (8 - 0) < (l.length - i) * 10 + (8 - 8); omega, rfl, _, i + 1, 0, rfl, rfl, rfl, by omega, by omega, rfl, xor_lt32 hS (by omega), hp⟩)))
    · have : i = l.length := by omega
      subst this
      rw [List.drop_length] at hp
      have hp : crcF (Nat.xor s 4294967295) l = S := hp
      refine onO.mk (not32 hS) ?_
      unfold crc at k
      rw [hp] at k; exact k
theorem c22 {s : Nat} (r : BR h a l) (hs : s < 4294967296) (hb : l.length < 1000000) (k : Post (.i .u32 (crc s l : Nat)) h) : wpC Try.prog 22 [.i .u32 (s : Int), a] Post h := by
  have hl : Bytes8 l := fun x hx => byte_lt r hx
  refine call_sound (args := [.ii .u32 s, .vv a]) (cuts := []) ⟨trivial, r.sc, trivial⟩ ?_
  rw [vc22]
  refine onO.mk (xor32 (b := 4294967295) hs (by omega)) ⟨fun q n1 n2 h' => h' = h ∧ ∃ S i : Nat, n1 = S ∧ n2 = i ∧ i ≤ l.length ∧ q = l.length - i ∧ S < 4294967296 ∧ crcF (Nat.xor s 4294967295) l = crcF S (l.drop i), ⟨_, rfl, _, 0, rfl, rfl, by omega, rfl, xor_lt32 hs (by omega), rfl⟩, ?_⟩
  rintro q h0 _ _ ⟨rfl, S, i, rfl, rfl, hi, rfl, hS, hp⟩
  refine onO.mk r.len (onB.dec (fun e => ?_) (fun e => ?_))
  · obtain ⟨x, hx⟩ := get_lt (l := l) (k := i) (by omega)
    have hx8 := hl x (List.mem_of_getElem? hx)
    rw [drop_of hx] at hp
    have hX := xor_lt32 hS (show x < 4294967296 by omega)
    refine byte0 r hx (onO.mk (wr32n (by omega)) (onO.mk (xor32 hS (by omega)) ⟨fun q n6 n7 h' => h' = h0 ∧ ∃ U j : Nat, n6 = U ∧ n7 = j ∧ j ≤ 8 ∧ q = 8 - j ∧ U < 4294967296 ∧ bitn 8 (Nat.xor S x) = bitn (8 - j) U, ⟨_, rfl, _, 0, rfl, rfl, by omega, rfl, hX, rfl⟩, ?_⟩))
    rintro q h1 _ _ ⟨rfl, U, j, rfl, rfl, hj, rfl, hU, hq⟩
    refine onB.dec (fun e1 => onO.mk (and1 hU) ?_) (fun e1 => ?_)
    · have hsh : shO .shr .u32 (U : Int) 1 = some ((U / 2 : Nat) : Int) := shr32 1 (by omega)
      rw [show 8 - j = (8 - (j + 1)) + 1 by omega] at hq
      have hq : bitn 8 (Nat.xor S x) = bitn (8 - (j + 1)) (bit1 U) := hq
      refine onB.dec (fun e2 => onO.mk hsh (onO.mk (xor32 (b := 3988292384) (by omega) (by omega)) (onO.mk (inc64 (by omega)) ⟨_, by show 8 - (j + 1) < 8 - j; omega, rfl, _, j + 1, rfl, rfl, by omega, rfl, xor_lt32 (by omega) (by omega), ?_⟩))) (fun e2 => onO.mk hsh (onO.mk (inc64 (by omega)) ⟨_, by show 8 - (j + 1) < 8 - j; omega, rfl, _, j + 1, rfl, rfl, by omega, rfl, by omega, ?_⟩))
      · rw [hq]
        unfold bit1
        rw [if_pos (by omega)]
      · rw [hq]
        unfold bit1
        rw [if_neg (by omega)]
    · have : j = 8 := by omega
      subst this
      have hq : bitn 8 (Nat.xor S x) = U := hq
      refine onO.mk (inc64 (by omega)) ⟨_, by show l.length - (i + 1) < l.length - i; omega, rfl, U, i + 1, rfl, rfl, by omega, rfl, hU, ?_⟩
      rw [hp, ← hq]; rfl
  · have : i = l.length := by omega
    subst this
    rw [List.drop_length] at hp
    have hp : crcF (Nat.xor s 4294967295) l = S := hp
    refine onO.mk (xor32 (b := 4294967295) hS (by omega)) ?_
    unfold crc at k
    rw [hp] at k; exact k
end
def opsE (l : List D.Op) : List Nat := (l.map opE).flatten
def bodyE (x y z : Int) (v : List Int) (l : List D.Op) : List Nat := encs [x, y, z] ++ ((if z = 1 then encV v else enc l.length) ++ opsE l)
/-- a sum's four bytes -/
def four (s : Nat) : List Nat := [s / 16777216 % 256, s / 65536 % 256, s / 256 % 256, s % 256]
def frmE (x y z : Int) (v : List Int) (l : List D.Op) : List Nat := four (crc 0 (bodyE x y z v l)) ++ bodyE x y z v l
/-- what a frame that may be has -/
structure FrmOk (x y z : Int) (v : List Int) (l : List D.Op) : Prop where
  src : 0 ≤ x ∧ x < 16
  dst : 0 ≤ y ∧ y < 16
  kind : (z = 1 ∧ vecV v = true ∧ l = []) ∨ (z = 2 ∧ v = [] ∧ (∀ o ∈ l, mayO o = true) ∧ 1 ≤ l.length ∧ l.length ≤ 8)
theorem frm_ok {x y z : Int} {v : List Int} {l : List D.Op} (h : frmV x y z v l = true) : FrmOk x y z v l := by
  unfold frmV at h
  simp only [Bool.and_eq_true, decide_eq_true_eq] at h
  obtain ⟨⟨h1, h2, h3, h4, h5⟩, h6⟩ := h
  refine ⟨⟨h1, h2⟩, ⟨h3, h4⟩, ?_⟩
  split at h6
  · rename_i hz
    simp only [Bool.and_eq_true, decide_eq_true_eq] at h6
    exact .inl ⟨hz, h6.1, List.length_eq_zero_iff.1 h6.2⟩
  · split at h6
    · rename_i hz
      simp only [Bool.and_eq_true, decide_eq_true_eq, List.all_eq_true] at h6
      exact .inr ⟨hz, List.length_eq_zero_iff.1 h6.1, h6.2.1, h6.2.2.1, h6.2.2.2⟩
    · cases h6
def Keys8 (l : List D.Op) : Prop := ∀ o ∈ l, Bytes8 o.key
theorem opsE_take {l : List D.Op} {k : Nat} {o : D.Op} (e : l[k]? = some o) : opsE (l.take (k + 1)) = opsE (l.take k) ++ opE o := by
  unfold opsE
  rw [take_succ' e, List.map_append, List.flatten_append]; simp
theorem opsE_len : ∀ {l : List D.Op}, (∀ o ∈ l, mayO o = true) → (opsE l).length ≤ 400 * l.length
  | [], _ => by simp [opsE]
  | o :: l, h => by
    have h1 := opE_len (h o (by simp))
    have h2 := opsE_len (l := l) fun y hy => h y (by simp [hy])
    unfold opsE at h2 ⊢
    simp only [List.map_cons, List.flatten_cons, List.length_append, List.length_cons]; omega
section
variable {g h : Hp} {a b : AV} {l m : List Nat} {Post : AV → Hp → Prop}
theorem BO.set (o : BO g h a l) {i : Nat} {x : Nat} (hi : i < l.length) (hx : x < 256) {Q : Option AV → Hp → Prop} (k : ∀ h', BO g h' a (l.set i x) → Q none h') : onO (idxV a (i : Int) 1) fun r => wpE (.w r.1 r.2 (.lit [.i .u8 (x : Int)]) none) Q h := by
  obtain ⟨p, css, h0, h01, f, h1⟩ := o
  have hl := h1.length
  obtain ⟨c, hc⟩ := get_lt (l := css) (k := i) (by omega)
  have hcl : c.length = 1 := f.row.1 c (List.mem_of_getElem? hc)
  refine f.set (sz := 1) hc 0 (new := [.i .u8 (x : Int)]) (by simp) rfl fun h' f' => k h' ⟨p, _, h0, h01, f', ?_⟩
  refine All2.of_get (by simp [hl]) fun j y d hy hd => ?_
  by_cases e : j = i
  · subst e
    rw [List.getElem?_set_self (by omega)] at hy hd
    injection hy with hy; injection hd with hd
    subst hy; subst hd
    refine ⟨?_, hx⟩
    match c, hcl with
    | [w], _ => rfl
  · rw [List.getElem?_set_ne (Ne.symm e)] at hy hd
    exact h1.get2 hy hd
theorem wr8d {n d : Nat} : wrO .u8 ((n / d : Nat) : Int) = some ((n / d % 256 : Nat) : Int) := wr8n
theorem c27 {x y z : Int} {v : List Int} {ops : List D.Op} (ra : IR h a v) (rb : OpRow h b ops) (hm : frmV x y z v ops = true) (hk : Keys8 ops) (k : ∀ r h', BO h h' r (frmE x y z v ops) → Post r h') : wpC Try.prog 27 [frmA x y z a b] Post h := by
  obtain ⟨s1, s2, s3⟩ := frm_ok hm
  have hz : 0 ≤ z ∧ z ≤ 2 := by rcases s3 with ⟨e, _⟩ | ⟨e, _⟩ <;> omega
  have hol : ops.length ≤ 8 := by
    rcases s3 with ⟨_, _, e⟩ | ⟨_, _, _, _, e⟩
    · rw [e]; simp
    · exact e
  have hall : ∀ o ∈ ops, mayO o = true := by
    rcases s3 with ⟨_, _, e⟩ | ⟨_, _, e, _⟩
    · rw [e]; intro o ho; cases ho
    · exact e
  refine call_sound (args := [.ag [.ii .i64 x, .ii .i64 y, .ii .i64 z, .vv a, .vv b]]) (cuts := [18999999]) ⟨⟨trivial, trivial, trivial, ra.sc, rb.sc, trivial⟩, trivial⟩ ?_
  rw [vc27]
  refine fun _ => onO.mk (a := 4) rfl (onO.mk (a := 4) rfl (onC.mk rfl fun p e1 e2 => ?_))
  have o0 : BO h (h.put p (zerosV [.i .u8 0] 4)) (.sl p 0 4 4 true 1) [0, 0, 0, 0] := ⟨h, [[.i .u8 0], [.i .u8 0], [.i .u8 0], [.i .u8 0]], Hp.le_refl h, rfl, Fresh.put (css := [[.i .u8 0], [.i .u8 0], [.i .u8 0], [.i .u8 0]]) (sz := 1) (len := 4) (cs := zerosV [.i .u8 0] 4) (Hp.le_refl h) rfl e1 e2 true (fun c hc => by simp at hc; subst hc; rfl) rfl rfl, .cons ⟨rfl, by omega⟩ (.cons ⟨rfl, by omega⟩ (.cons ⟨rfl, by omega⟩ (.cons ⟨rfl, by omega⟩ .nil)))⟩
  have hn3 : ∀ n ∈ [x, y, z], 0 ≤ n ∧ n < 9223372036854775808 := fun n hn => by simp at hn; omega
  have hn3l := encs_len (v := [x, y, z]) fun n hn => (hn3 n hn).2
  simp only [List.length_cons, List.length_nil] at hn3l
  refine ⟨fun m r i h' => ∃ j : Nat, i = j ∧ j ≤ 3 ∧ m = 3 - j ∧ BO h h' r ([0, 0, 0, 0] ++ encs ([x, y, z].take j)), ⟨3, 0, rfl, by omega, rfl, by simpa [encs] using o0⟩, ?_⟩
  rintro m h0 r _ _ ⟨j, rfl, hj, rfl, ow⟩
  have step : ∀ (n : Int), [x, y, z][j]? = some n → wpC Try.prog 50 [r, .i .i64 n] (fun a1 h1 => onRet [Sh.one Kd.ref] a1 fun a2 => onO (intO .add .i64 (j : Int) 1) fun n1 => ∃ p7, ltN p7 (3 - j) ∧ ∃ j' : Nat, n1 = j' ∧ j' ≤ 3 ∧ p7 = 3 - j' ∧ BO h h1 a2 ([0, 0, 0, 0] ++ encs ([x, y, z].take j'))) h0 := fun n hn => by
    have hb := hn3 n (List.mem_of_getElem? hn)
    have hjl := (List.getElem?_eq_some_iff.1 hn).1
    simp only [List.length_cons, List.length_nil] at hjl
    obtain ⟨N, rfl⟩ := Int.eq_ofNat_of_zero_le hb.1
    have hlen := encs_len (v := [x, y, z].take j) fun n hn => (hn3 n (List.mem_of_mem_take hn)).2
    rw [List.length_take] at hlen
    simp only [List.length_cons, List.length_nil] at hlen
    refine c50 ow (by omega) (by simp only [List.length_append, List.length_cons, List.length_nil]; omega) fun r3 h3 o3 => onRet.r o3.sc (onO.mk (inc64 (by omega)) ⟨_, by show 3 - (j + 1) < 3 - j; omega, j + 1, rfl, by omega, rfl, ?_⟩)
    rw [encs_take hn, ← List.append_assoc]; exact o3
  refine onB.dec (fun e => ?_) (fun e => ?_)
  · have w0 : j = 0 → [x, y, z][j]? = some x := fun e => by subst e; rfl
    have w1 : j = 1 → [x, y, z][j]? = some y := fun e => by subst e; rfl
    have w2 : j = 2 → [x, y, z][j]? = some z := fun e => by subst e; rfl
    exact onO.mk (natLt_pos (i := (j : Int)) (n := 3) (by omega) (by omega)) ⟨⟨⟨trivial, fun e0 => step x (w0 (by omega))⟩, fun e0 => step y (w1 (by omega))⟩, fun e0 => step z (w2 (by omega))⟩
  have hj3 : j = 3 := by omega
  subst hj3
  have ow : BO h h0 r ([0, 0, 0, 0] ++ encs [x, y, z]) := ow
  refine ⟨fun r' h' => BO h h' r' ([0, 0, 0, 0] ++ (encs [x, y, z] ++ (if z = 1 then encV v else enc ops.length))), onB.dec (fun e => ?_) (fun e => onO.mk rb.len ?_), ?_⟩
  · rw [if_pos e]
    obtain ⟨_, hv, _⟩ : z = 1 ∧ vecV v = true ∧ ops = [] := s3.resolve_right (by omega)
    have hvl := vecV_len hv
    refine c51 ow (ra.mono (Hp.le_refl _)) (fun n hn => by
      obtain ⟨q, hq⟩ := List.getElem?_of_mem hn
      have := vecV_at hv hq; omega) (by omega) (by simp only [List.length_append, List.length_cons, List.length_nil]; omega) fun r3 h3 o3 => onRet.r o3.sc ?_
    unfold encV
    simpa [List.append_assoc] using o3
  · rw [if_neg e]
    refine c50 ow (by omega) (by simp only [List.length_append, List.length_cons, List.length_nil]; omega) fun r3 h3 o3 => onRet.r o3.sc ?_
    simpa [List.append_assoc] using o3
  rintro h6 r6 _ o6
  have hmid : (if z = 1 then encV v else enc ops.length).length ≤ 200 := by
    split
    · rename_i e
      obtain ⟨_, hv, _⟩ : z = 1 ∧ vecV v = true ∧ ops = [] := s3.resolve_right (by omega)
      have hvl := vecV_len hv
      have := enc_len10 (n := v.length) (by omega)
      have := encs_len (v := v) fun n hn => by
        obtain ⟨q, hq⟩ := List.getElem?_of_mem hn
        have := vecV_at hv hq; omega
      unfold encV
      rw [List.length_append]; omega
    · have := enc_len10 (n := ops.length) (by omega); omega
  refine onO.mk rb.len ⟨fun m r i h' => ∃ j : Nat, i = j ∧ j ≤ ops.length ∧ m = ops.length - j ∧ BO h h' r ([0, 0, 0, 0] ++ (encs [x, y, z] ++ ((if z = 1 then encV v else enc ops.length) ++ opsE (ops.take j)))), ⟨_, 0, rfl, by omega, rfl, by simpa [opsE, List.append_assoc] using o6⟩, ?_⟩
  rintro m h7 r7 _ _ ⟨j, rfl, hj, rfl, o7⟩
  have htl := opsE_len (l := ops.take j) fun o ho => hall o (List.mem_of_mem_take ho)
  rw [List.length_take] at htl
  refine onB.dec (fun e => ?_) (fun e => ?_)
  · obtain ⟨o, ho⟩ := get_lt (l := ops) (k := j) (by omega)
    have hmem := List.mem_of_getElem? ho
    refine opW rb o7.le ho fun d rd _ _ => c52 (o := o) o7 rd (hall o hmem) (hk o hmem) (by simp only [List.length_append, List.length_cons, List.length_nil]; omega) fun r8 h8 o8 => onRet.r o8.sc (onO.mk (inc64 (by omega)) ⟨_, by show ops.length - (j + 1) < ops.length - j; omega, j + 1, rfl, by omega, rfl, ?_⟩)
    rw [opsE_take ho]
    simpa [List.append_assoc] using o8
  · have : j = ops.length := by omega
    subst this
    rw [List.take_length] at o7 htl
    have o7 : BO h h7 r7 ([0, 0, 0, 0] ++ bodyE x y z v ops) := o7
    have hbl : (bodyE x y z v ops).length ≤ 4000 := by
      unfold bodyE
      simp only [List.length_append]; omega
    have hb8 : Bytes8 (bodyE x y z v ops) := fun w hw => byte_lt o7.row (List.mem_append_right _ hw)
    have hc := crc_lt (s := 0) hb8 (by omega)
    refine Kn.Row.from (i := 4) (sz := 1) o7.row rfl (by simp only [List.length_append, List.length_cons, List.length_nil]; omega) fun r' br' => ?_
    have br' : BR h7 r' (bodyE x y z v ops) := br'
    refine c23 (s := 0) br' (by omega) (by omega) (onRet.u32 ?_)
    generalize hC : crc 0 (bodyE x y z v ops) = C at hc ⊢
    refine onO.mk (shr32 24 (by omega)) (onO.mk wr8d (onO.mk (shr32 16 (by omega)) (onO.mk wr8d (onO.mk (shr32 8 (by omega)) (onO.mk wr8d (onO.mk wr8n ?_))))))
    refine BO.set o7 (i := 0) (by simp) (by omega) fun h8 o8 => BO.set o8 (i := 1) (by simp) (by omega) fun h9 o9 => BO.set o9 (i := 2) (by simp) (by omega) fun h10 o10 => BO.set o10 (i := 3) (by simp) (by omega) fun h11 o11 => k _ _ ?_
    unfold frmE four
    rw [hC]
    exact o11
end
/-- some numbers, and how many bytes they are -/
def numsP : Nat → List Nat → Option (List Int × Nat)
  | 0, _ => some ([], 0)
  | m + 1, l => if (tkN l).2.2 = 0 then (numsP m (l.drop (tkN l).2.1)).map fun r => ((tkN l).1 :: r.1, (tkN l).2.1 + r.2) else none
def opsP : Nat → List Nat → Option (List D.Op)
  | 0, _ => some []
  | m + 1, l => if (takeO l).2.2 = 0 then (opsP m (l.drop (takeO l).2.1)).map fun r => (takeO l).1 :: r else none
abbrev Fr := Int × Int × Int × List Int × List D.Op
def restF (x y z : Int) (l : List Nat) : Option Fr :=
  if z = 1 then (if (tkV l).2.2 = 0 then some (x, y, z, (tkV l).1, []) else none)
  else match numsP 1 l with
    | some ([n], k) => if 8 < n then none else (opsP n.toNat (l.drop k)).map fun o => (x, y, z, [], o)
    | _ => none
def readF (l : List Nat) : Option Fr := match numsP 3 l with
  | some ([x, y, z], k) => restF x y z (l.drop k)
  | _ => none
theorem numsP_len : ∀ {m : Nat} {l : List Nat} {r : List Int × Nat}, numsP m l = some r → r.1.length = m ∧ r.2 ≤ l.length
  | 0, l, r, h => by simp only [numsP] at h; injection h with h; subst h; exact ⟨rfl, Nat.zero_le _⟩
  | m + 1, l, r, h => by
    simp only [numsP] at h
    split at h
    · obtain ⟨q, hq, rfl⟩ := Option.map_eq_some_iff.1 h
      have := numsP_len hq
      have h2 := tkN_len l
      rw [List.length_drop] at this
      exact ⟨by simp [this.1], by show (tkN l).2.1 + q.2 ≤ l.length; omega⟩
    · cases h
theorem takeO_len (l : List Nat) (hl : Bytes8 l) : (takeO l).2.1 ≤ l.length := by
  by_cases h : (takeO l).2.2 = 0
  · exact (takeO_was hl h).2.2.1
  · unfold takeO at h ⊢
    split
    · rename_i h1
      rw [if_pos h1] at h
      split
      · rename_i x hx
        rw [hx] at h
        simp only at h
        split
        · rename_i h2; rw [if_pos h2] at h; exact absurd rfl h
        · simp
      · simp
    · simp
theorem onTup.rrb {a b : AV} {c : Bool} (ha : a.sc = true) (hb : b.sc = true) {K : AV → AV → Bool → Prop} (k : K a b c) : onTup [Sh.one Kd.ref, Sh.one Kd.ref, Sh.one Kd.bool] (.tup [a, b, .b c]) K := by
  show onS [Sh.one Kd.ref, Sh.one Kd.ref, Sh.one Kd.bool] [a, b, .b c] K
  unfold onS
  have e : flatV [Sh.one Kd.ref, Sh.one Kd.ref, Sh.one Kd.bool] [a, b, .b c] = some [a, b, .b c] := by
    cases a <;> cases b <;> first | rfl | cases ha | cases hb
  rw [e]
  exact onRef.mk (K := fun a => onRef b fun b => K a b c) ha (onRef.mk (K := fun b => K a b c) hb k)
theorem onTup.frmb {x y z : Int} {a b : AV} {c : Bool} (ha : a.sc = true) (hb : b.sc = true) {K : Int → Int → Int → AV → AV → Bool → Prop} (k : K x y z a b c) :
    onTup [Sh.agg [Kd.int .i64, Kd.int .i64, Kd.int .i64, Kd.ref, Kd.ref], Sh.one Kd.bool] (.tup [frmA x y z a b, .b c]) K := by
  show onS [Sh.agg [Kd.int .i64, Kd.int .i64, Kd.int .i64, Kd.ref, Kd.ref], Sh.one Kd.bool] [frmA x y z a b, .b c] K
  unfold onS
  have : flatV [Sh.agg [Kd.int .i64, Kd.int .i64, Kd.int .i64, Kd.ref, Kd.ref], Sh.one Kd.bool] [frmA x y z a b, .b c] = some [.i .i64 x, .i .i64 y, .i .i64 z, a, b, .b c] := rfl
  rw [this]
  exact onRef.mk (K := fun a => onRef b fun b => K x y z a b c) ha (onRef.mk (K := fun b => K x y z a b c) hb k)
section
variable {g h : Hp} {a b : AV} {l m : List Nat} {Post : AV → Hp → Prop}
theorem c45 {M : Nat} (r : BR h a l) (hM : M < 1000) (hb : l.length < 900000) (k1 : numsP M l = none → ∀ h', h.le h' → h'.lo = h.lo → Post (.tup [.ns, .ns, .b false]) h')
    (k2 : ∀ v q, numsP M l = some (v, q) → ∀ r1 r2 h', Kn.int.Own h h' r1 v → BR h r2 (l.drop q) → Post (.tup [r1, r2, .b true]) h') : wpC Try.prog 45 [a, .i .i64 (M : Int)] Post h := by
  refine call_sound (args := [.vv a, .ii .i64 M]) (cuts := []) ⟨r.sc, trivial, trivial⟩ ?_
  rw [vc45]
  refine ⟨fun m _ _ a1 a2 n0 h' => ∃ (j K : Nat) (v : List Int), n0 = j ∧ j ≤ M ∧ m = M - j ∧ K ≤ l.length ∧ v.length = j ∧ Kn.int.Own h h' a1 v ∧ BR h a2 (l.drop K) ∧ numsP M l = (numsP (M - j) (l.drop K)).map fun r => (v ++ r.1, K + r.2), ⟨M, 0, 0, [], rfl, by omega, rfl, by omega, rfl, Kn.Own.nil _ _, by simpa using r, ?_⟩, ?_⟩
  · rw [Nat.sub_zero, List.drop_zero]
    cases numsP M l <;> simp
  rintro m h0 _ _ c0 a1 _ a2 _ _ ⟨j, K, v, rfl, hj, rfl, hK, hv, ow, br, hp⟩
  refine onB.dec (fun e => ?_) (fun e => ?_)
  · obtain ⟨d, hd⟩ : ∃ d, M - j = d + 1 := ⟨M - j - 1, by omega⟩
    rw [hd] at hp
    simp only [numsP] at hp
    have hl := tkN_len (l.drop K)
    have hn := tkN_num (l.drop K)
    rw [List.length_drop] at hl
    refine c66 (br.mono ow.le) (by simp; omega) (onTup.iii' (onB.ndec (fun e1 => ?_) (fun e1 => fun _ => ?_)))
    · rw [if_neg e1] at hp
      exact k1 (by rw [hp]; rfl) _ ow.le ow.lo
    · rw [if_pos e1] at hp
      refine ow.app1 rfl int_flat (x := (tkN (l.drop K)).1) ⟨rfl, by omega, by omega⟩ (by omega) fun r3 h3 o3 => onO.mk rfl ?_
      refine br.from rfl (by simp; omega) fun r4 br4 => onO.mk (inc64 (by omega)) ⟨_, by show M - (j + 1) < M - j; omega, j + 1, K + (tkN (l.drop K)).2.1, _, rfl, by omega, rfl, by omega, by simp [hv], o3, by rw [← List.drop_drop]; exact br4, ?_⟩
      rw [show M - (j + 1) = d by omega, hp, ← List.drop_drop, Option.map_map]
      congr 1
      funext r
      simp [Nat.add_assoc]
  · have : j = M := by omega
    subst this
    rw [Nat.sub_self] at hp
    simp only [numsP, Option.map_some, List.append_nil, Nat.add_zero] at hp
    exact k2 _ _ hp _ _ _ ow br
theorem c26 (ra : BR h a l) (rb : BR h b m) (k : Post (.b (decide (l = m))) h) : wpC Try.prog 26 [a, b] Post h := by
  refine call_sound (args := [.vv a, .vv b]) (cuts := []) ⟨ra.sc, rb.sc, trivial⟩ ?_
  rw [vc26]
  obtain ⟨b1, o1, n1, e1⟩ := strAt_row ra
  obtain ⟨b2, o2, n2, e2⟩ := strAt_row rb
  exact onO.mk e1 (onO.mk e2 k)
theorem nums_in {o : D.Op} (h : mayO o = true) (hk : Bytes8 o.key) {d : AV} {h0 : Hp} (r : IR h0 d o.deps) : D.kOp.K h0 o (opC o d) := by
  obtain ⟨s1, s2, s3, s4, s5⟩ := mayO_nums h
  obtain ⟨x, hx, hs⟩ := (op_parts h hk).seq
  have hx2 := s2 x (List.mem_of_getElem? hx)
  have i : ∀ n : Int, -1 ≤ n → n ≤ 1099511627777 → In64 n := fun n h1 h2 => ⟨by omega, by omega⟩
  rcases s5 with ⟨k1, k2, k3, k4, k5, k6⟩ | ⟨k1, k2, k3, k4⟩
  · exact op_mk (i _ (by omega) (by omega)) (i _ (by omega) (by omega)) (i _ (by omega) (by omega)) r (by omega) (i _ (by omega) (by omega)) (i _ (by omega) (by omega)) (i _ (by omega) (by omega)) (i _ (by omega) (by omega)) (i _ (by omega) (by omega)) (by omega) hk (i _ (by omega) (by omega)) (i _ (by omega) (by omega))
  · have hp : o.parent.time = 0 ∧ o.parent.rep = 0 := by rw [k3]; exact ⟨rfl, rfl⟩
    exact op_mk (i _ (by omega) (by omega)) (i _ (by omega) (by omega)) (i _ (by omega) (by omega)) r (by omega) (i _ (by omega) (by omega)) (i _ (by omega) (by omega)) (i _ (by omega) (by omega)) (i _ (by omega) (by omega)) (i _ (by omega) (by omega)) (by rw [k4]; simp) hk (i _ (by omega) (by omega)) (i _ (by omega) (by omega))
end
/-- what reading leaves: a frame of its own, or none -/
structure FrmOwn (g h : Hp) (a b : AV) (v : List Int) (l : List D.Op) : Prop where
  le : g.le h
  lo : h.lo = g.lo
  vec : (Kn.int.Own g h a v ∧ b = .ns ∧ l = []) ∨ (a = .ns ∧ v = [] ∧ OpOwn g h b l)
theorem FrmOwn.ra {g h : Hp} {a b : AV} {v : List Int} {l : List D.Op} (o : FrmOwn g h a b v l) : IR h a v := by
  rcases o.vec with ⟨h1, _, _⟩ | ⟨h1, h2, _⟩
  · exact h1.row
  · rw [h1, h2]; exact nsI
theorem FrmOwn.rb {g h : Hp} {a b : AV} {v : List Int} {l : List D.Op} (o : FrmOwn g h a b v l) : OpRow h b l := by
  rcases o.vec with ⟨_, h1, h2⟩ | ⟨_, _, h1⟩
  · rw [h1, h2]; exact nsO
  · exact h1.kn.row
theorem FrmOwn.nil {g h : Hp} (le : g.le h) (lo : h.lo = g.lo) : FrmOwn g h .ns .ns [] [] := ⟨le, lo, .inl ⟨(Kn.Own.nil _ h).mono le lo, rfl, rfl⟩⟩
theorem Fresh.up {g h h' : Hp} {a : AV} {sz : Nat} {css : List (List AV)} (f : Fresh g h a sz css) (le : h.le h') (lo : h'.lo = h.lo) : Fresh g h' a sz css :=
  ⟨Hp.le_trans f.le le, lo.trans f.lo, f.row.mono le, fun b o len l ex z e => by
    obtain ⟨n1, n2, cs, n3, n4⟩ := f.new b o len l ex z e
    exact ⟨n1, n2, cs, le b cs n3, n4⟩⟩
theorem FrmOwn.up {g h h' : Hp} {a b : AV} {v : List Int} {l : List D.Op} (o : FrmOwn g h a b v l) (le : h.le h') (lo : h'.lo = h.lo) : FrmOwn g h' a b v l := by
  refine ⟨Hp.le_trans o.le le, lo.trans o.lo, ?_⟩
  rcases o.vec with ⟨⟨p, css, q1, q2, f, q3⟩, h2⟩ | ⟨h1, h2, ⟨p, css, qs, q⟩⟩
  · exact .inl ⟨⟨p, css, q1, q2, f.up le lo, q3⟩, h2⟩
  · exact .inr ⟨h1, h2, p, css, qs, q.le, q.lo, q.fr.up le lo, q.len, q.sub, q.dj, q.dd, q.qlo, q.own, q.el⟩
theorem OwnD.more0 {α : Type} {E : Hp → α → List AV → Prop} {sz : Nat} {g h : Hp} (le : g.le h) (lo : h.lo = g.lo) : OwnD E sz g h .ns [] := (OwnD.nil h).mono le lo
theorem OpOwn.take {g h : Hp} {a : AV} {l : List D.Op} (o : OpOwn g h a l) {q : List Nat} {r : AV} (br : BR g r q) (hb : q.length < 900000) (hq : Bytes8 q) (hl : l.length < 100) {Post : AV → Hp → Prop}
    (k1 : (takeO q).2.2 ≠ 0 → ∀ d h', d.sc = true → OpOwn g h' a l → Post (.tup [.agg (opC (takeO q).1 d), .i .i64 ((takeO q).2.1 : Nat), .i .i64 (takeO q).2.2]) h')
    (k2 : (takeO q).2.2 = 0 → ∀ d h', d.sc = true → (∀ (Q : Option AV → Hp → Prop), (∀ r' h2, OpOwn g h2 r' (l ++ [(takeO q).1]) → Q (some r') h2) → wpE (.app a 1 (.lit (opC (takeO q).1 d)) 12) Q h') → Post (.tup [.agg (opC (takeO q).1 d), .i .i64 ((takeO q).2.1 : Nat), .i .i64 (takeO q).2.2]) h') : wpC Try.prog 47 [r] Post h := by
  obtain ⟨p, css, qs, oe⟩ := o
  refine (oe.fr.call (Q := fun w p' => ∃ d, w = .tup [.agg (opC (takeO q).1 d), .i .i64 ((takeO q).2.1 : Nat), .i .i64 (takeO q).2.2] ∧ Kn.int.Own p p' d (takeO q).1.deps) (c29o (br.mono oe.le) hb fun d h' o => ⟨d, rfl, o⟩)).mono ?_
  rintro w h1 ⟨p', fr, hlo, d, rfl, ow⟩
  by_cases e : (takeO q).2.2 = 0
  · obtain ⟨w1, w2, w3, w4⟩ := takeO_was hq e
    exact k2 e _ _ ow.sc fun Q kq => OpOwn.snoc oe fr hlo (nums_in w1 w4 ow.row) ow (by omega) kq
  · refine k1 e _ _ ow.sc ⟨p', css, qs, Hp.le_trans oe.le ow.le, hlo.trans oe.lo, fr, oe.len, fun i => Hp.le_trans (oe.sub i) ow.le, oe.dj, oe.dd, oe.qlo, oe.own, oe.el⟩
section
variable {g h : Hp} {a b : AV} {l m : List Nat} {Post : AV → Hp → Prop}
theorem c24 (r : BR h a l) (hb : l.length < 900000) (k1 : readF l = none → ∀ x y z a4 a5 h', h.le h' → h'.lo = h.lo → a4.sc = true → a5.sc = true → Post (.tup [frmA x y z a4 a5, .b false]) h')
    (k2 : ∀ x y z v ops, readF l = some (x, y, z, v, ops) → ∀ a4 a5 h', FrmOwn h h' a4 a5 v ops → Post (.tup [frmA x y z a4 a5, .b true]) h') : wpC Try.prog 24 [a] Post h := by
  have hl8 : Bytes8 l := fun x hx => byte_lt r hx
  refine call_sound (args := [.vv a]) (cuts := []) ⟨r.sc, trivial⟩ ?_
  rw [vc24]
  refine fun _ => c45 (M := 3) r (by omega) hb (fun e h' le lo => onTup.rrb rfl rfl (onB.pos rfl (k1 (by unfold readF; rw [e]) _ _ _ _ _ _ le lo rfl rfl))) fun v q e r1 r2 h0 o1 br2 => onTup.rrb o1.sc br2.sc (onB.neg rfl ?_)
  obtain ⟨hv, hq⟩ := numsP_len e
  simp only at hv hq
  match v, hv, o1, e with
  | [x, y, z], _, o1, e =>
  have hrd : readF l = restF x y z (l.drop q) := by unfold readF; rw [e]
  have row := o1.row
  refine int0 row (k := 0) rfl (int0 row (k := 1) rfl (int0 row (k := 2) rfl (onB.dec (fun e1 => ?_) (fun e1 => ?_))))
  · unfold restF at hrd
    rw [if_pos e1] at hrd
    refine c46 (br2.mono o1.le) (by simp; omega) fun r' h' o' => onTup.rii o'.sc ?_
    by_cases e2 : (tkV (l.drop q)).2.2 = 0
    · rw [if_pos e2] at hrd
      rw [decide_eq_true e2]
      exact k2 _ _ _ _ _ hrd _ _ _ ⟨Hp.le_trans o1.le o'.le, o'.lo.trans o1.lo, .inl ⟨o'.mono o1.le o1.lo, rfl, rfl⟩⟩
    · rw [if_neg e2] at hrd
      rw [decide_eq_false e2]
      exact k1 hrd _ _ _ _ _ _ (Hp.le_trans o1.le o'.le) (o'.lo.trans o1.lo) o'.sc rfl
  · unfold restF at hrd
    rw [if_neg e1] at hrd
    refine c45 (M := 1) (br2.mono o1.le) (by omega) (by simp; omega) (fun e2 h' le lo => onTup.rrb rfl rfl (onB.pos rfl (k1 (by rw [hrd, e2]) _ _ _ _ _ _ (Hp.le_trans o1.le le) (lo.trans o1.lo) rfl rfl))) fun v2 q2 e2 r6 r7 h2 o6 br7 => onTup.rrb o6.sc br7.sc (onB.neg rfl ?_)
    obtain ⟨hv2, hq2⟩ := numsP_len e2
    simp only at hv2 hq2
    match v2, hv2, o6, e2 with
    | [n], _, o6, e2 =>
    rw [e2] at hrd
    have hrd : readF l = if 8 < n then none else (opsP n.toNat ((l.drop q).drop q2)).map fun o => (x, y, z, [], o) := hrd
    have row6 := o6.row
    have hn0 : 0 ≤ n := by
      simp only [numsP] at e2
      split at e2
      · simp only [Option.map_some, Option.some.injEq, Prod.mk.injEq, List.cons.injEq] at e2
        have := tkN_num (l.drop q)
        omega
      · cases e2
    refine int0 row6 (k := 0) rfl (onB.dec (fun e3 => ?_) (fun e3 => int0 row6 (k := 0) rfl ?_))
    · rw [if_pos e3] at hrd
      exact k1 hrd _ _ _ _ _ _ (Hp.le_trans o1.le o6.le) (o6.lo.trans o1.lo) rfl rfl
    rw [if_neg e3] at hrd
    obtain ⟨N, rfl⟩ := Int.eq_ofNat_of_zero_le hn0
    have hb2 : Bytes8 ((l.drop q).drop q2) := (hl8.drop q).drop q2
    refine ⟨fun m _ a8 n7 n8 n9 n10 a9 a10 h3 => ∃ (j K : Nat) (acc : List D.Op), n7 = j ∧ n8 = x ∧ n9 = y ∧ n10 = z ∧ a9 = .ns ∧ j ≤ N ∧ m = N - j ∧ K ≤ ((l.drop q).drop q2).length ∧ acc.length = j ∧ OpOwn h0 h3 a10 acc ∧ BR h0 a8 (((l.drop q).drop q2).drop K) ∧ opsP N ((l.drop q).drop q2) = (opsP (N - j) (((l.drop q).drop q2).drop K)).map fun r => acc ++ r, ⟨N, 0, 0, [], rfl, rfl, rfl, rfl, rfl, by omega, rfl, by omega, rfl, OwnD.more0 o6.le o6.lo, by simpa using br7, ?_⟩, ?_⟩
    · rw [Nat.sub_zero, List.drop_zero]
      cases opsP N ((l.drop q).drop q2) <;> simp
    rintro m h3 _ a8 _ _ X Y Z a9 _ a10 _ ⟨j, K, acc, rfl, hX, hY, hZ, rfl, hj, rfl, hK, ha, ow, br, hp⟩
    subst hX hY hZ
    refine onB.dec (fun e4 => ?_) (fun e4 => ?_)
    · obtain ⟨d, hd⟩ : ∃ d, N - j = d + 1 := ⟨N - j - 1, by omega⟩
      rw [hd] at hp
      simp only [opsP] at hp
      have hkl := takeO_len (((l.drop q).drop q2).drop K) (hb2.drop K)
      rw [List.length_drop] at hkl
      refine OpOwn.take ow br (by simp; omega) (hb2.drop K) (by omega) (fun e5 d' h' sd o' => ?_) (fun e5 d' h' sd hap => ?_)
      · rw [if_neg e5] at hp
        have hp : opsP N ((l.drop q).drop q2) = none := hp
        have hno : readF l = none := by
          rw [hrd, Int.toNat_natCast, hp]; rfl
        exact onTup.opii (o := (takeO (((l.drop q).drop q2).drop K)).1) sd fun _ => onB.pos (by simpa using e5) (k1 hno _ _ _ _ _ _ (Hp.le_trans o1.le o'.kn.le) (o'.kn.lo.trans o1.lo) rfl o'.kn.sc)
      · rw [if_pos e5] at hp
        refine onTup.opii (o := (takeO (((l.drop q).drop q2).drop K)).1) sd fun _ => onB.neg (by simpa using e5) fun _ => hap _ fun r' h4 o4 => onO.mk rfl ?_
        refine br.from rfl (by rw [List.length_drop]; omega) fun r5 br5 => onO.mk (inc64 (by omega)) ⟨_, by show N - (j + 1) < N - j; omega, j + 1, K + (takeO (((l.drop q).drop q2).drop K)).2.1, _, rfl, rfl, rfl, rfl, rfl, by omega, rfl, by omega, by simp [ha], o4, by rw [← List.drop_drop]; exact br5, ?_⟩
        rw [show N - (j + 1) = d by omega, hp, ← List.drop_drop, Option.map_map]
        congr 1
        funext r
        simp
    · have : j = N := by omega
      subst this
      rw [Nat.sub_self] at hp
      simp only [opsP, Option.map_some, List.append_nil] at hp
      refine k2 X Y Z [] acc ?_ _ _ _ ⟨Hp.le_trans o1.le ow.kn.le, ow.kn.lo.trans o1.lo, .inr ⟨rfl, rfl, ow.mono o1.le o1.lo⟩⟩
      rw [hrd]
      have hp : opsP ((j : Int)).toNat ((l.drop q).drop q2) = some acc := hp
      rw [hp]; rfl
end
/-! ### plain -/
def word (l : List Nat) : Nat := l.getD 0 0 * 16777216 + l.getD 1 0 * 65536 + l.getD 2 0 * 256 + l.getD 3 0
def frmF (f : Fr) : Bool := frmV f.1 f.2.1 f.2.2.1 f.2.2.2.1 f.2.2.2.2
def frmB (f : Fr) : List Nat := frmE f.1 f.2.1 f.2.2.1 f.2.2.2.1 f.2.2.2.2
def parseP (l : List Nat) : Option Fr × Int :=
  if l.length < 4 then (none, 7) else if word l = crc 0 (l.drop 4) then (match readF (l.drop 4) with
    | some f => if frmF f = true ∧ frmB f = l then (some f, 0) else (none, 1)
    | none => (none, 1)) else (none, 8)
theorem opsP_ok : ∀ {m : Nat} {l : List Nat} {r : List D.Op}, Bytes8 l → opsP m l = some r → r.length = m ∧ ∀ o ∈ r, mayO o = true ∧ Bytes8 o.key
  | 0, l, r, hl, h => by simp only [opsP] at h; injection h with h; subst h; exact ⟨rfl, fun o ho => by cases ho⟩
  | m + 1, l, r, hl, h => by
    simp only [opsP] at h
    split at h
    · rename_i he
      obtain ⟨q, hq, rfl⟩ := Option.map_eq_some_iff.1 h
      obtain ⟨h1, h2⟩ := opsP_ok (hl.drop _) hq
      obtain ⟨w1, w2, w3, w4⟩ := takeO_was hl he
      refine ⟨by simp [h1], fun o ho => ?_⟩
      rcases List.mem_cons.1 ho with rfl | ho
      · exact ⟨w1, w4⟩
      · exact h2 o ho
    · cases h
theorem readF_ok {l : List Nat} (hl : Bytes8 l) {x y z : Int} {v : List Int} {o : List D.Op} (h : readF l = some (x, y, z, v, o)) : v.length ≤ 1024 ∧ o.length ≤ 8 ∧ ∀ p ∈ o, mayO p = true ∧ Bytes8 p.key := by
  unfold readF at h
  split at h
  · rename_i x' y' z' k e
    unfold restF at h
    split at h
    · split at h
      · rename_i e2
        simp only [Option.some.injEq, Prod.mk.injEq] at h
        obtain ⟨_, _, _, rfl, rfl⟩ := h
        obtain ⟨w1, _⟩ := goodV.was _ (hl.drop k) e2
        have := vecV_len w1
        exact ⟨by omega, by simp, fun p hp => by cases hp⟩
      · cases h
    · split at h
      · rename_i n k2 e2
        split at h
        · cases h
        · obtain ⟨q, hq, he⟩ := Option.map_eq_some_iff.1 h
          simp only [Prod.mk.injEq] at he
          obtain ⟨_, _, _, rfl, rfl⟩ := he
          obtain ⟨h1, h2⟩ := opsP_ok ((hl.drop k).drop k2) hq
          exact ⟨by simp, by omega, h2⟩
      · cases h
  · cases h
theorem word_four {c : Nat} (h : c < 4294967296) (rest : List Nat) : word (four c ++ rest) = c := by
  show c / 16777216 % 256 * 16777216 + c / 65536 % 256 * 65536 + c / 256 % 256 * 256 + c % 256 = c
  omega
theorem numsP_put : ∀ (v : List Int) (rest : List Nat), (∀ x ∈ v, okN x) → numsP v.length (encs v ++ rest) = some (v, (encs v).length)
  | [], rest, _ => rfl
  | x :: v, rest, h => by
    have e1 := goodN.put x (encs v ++ rest) (h x (by simp))
    rw [List.length_cons, encs_cons, List.append_assoc]
    simp only [numsP, e1, if_true, List.drop_left]
    rw [numsP_put v rest fun y hy => h y (by simp [hy])]
    simp
theorem opsP_put : ∀ (l : List D.Op) (rest : List Nat), (∀ o ∈ l, mayO o = true ∧ Bytes8 o.key) → opsP l.length (opsE l ++ rest) = some l
  | [], rest, _ => rfl
  | o :: l, rest, h => by
    obtain ⟨h1, h2⟩ := h o (by simp)
    have e1 := takeO_put h1 h2 (opsE l ++ rest)
    have e : opsE (o :: l) = opE o ++ opsE l := by simp [opsE]
    rw [List.length_cons, e, List.append_assoc]
    simp only [opsP, e1, if_true, List.drop_left]
    rw [opsP_put l rest fun y hy => h y (by simp [hy])]
    rfl
theorem readF_put {x y z : Int} {v : List Int} {l : List D.Op} (h : frmV x y z v l = true) (hk : Keys8 l) : readF (bodyE x y z v l) = some (x, y, z, v, l) := by
  obtain ⟨s1, s2, s3⟩ := frm_ok h
  have hz : 0 ≤ z ∧ z ≤ 2 := by rcases s3 with ⟨e, _⟩ | ⟨e, _⟩ <;> omega
  have e1 := numsP_put [x, y, z] ((if z = 1 then encV v else enc l.length) ++ opsE l) (fun n hn => by
    simp at hn
    rcases hn with rfl | rfl | rfl <;> exact ⟨by omega, by omega⟩)
  unfold readF bodyE
  have e1 : numsP 3 (encs [x, y, z] ++ ((if z = 1 then encV v else enc l.length) ++ opsE l)) = some ([x, y, z], (encs [x, y, z]).length) := e1
  rw [e1]
  simp only [List.drop_left]
  unfold restF
  rcases s3 with ⟨rfl, hv, rfl⟩ | ⟨rfl, rfl, ho, _, _⟩
  · have e2 := goodV.put v [] hv
    simp only [if_true]
    have e3 : encV v ++ opsE [] = encV v ++ [] := rfl
    rw [e3, e2]
    simp
  · have e2 := numsP_put [(l.length : Int)] (opsE l) (fun n hn => by simp at hn; subst hn; exact ⟨by omega, by omega⟩)
    have e2 : numsP 1 (enc l.length ++ opsE l) = some ([(l.length : Int)], (enc l.length).length) := by
      have q : encs [(l.length : Int)] = enc l.length := by simp [encs]
      rw [q] at e2; exact e2
    rw [if_neg (by omega), if_neg (by omega), e2]
    simp only [List.drop_left]
    have e3 := opsP_put l [] fun o hm => ⟨ho o hm, hk o hm⟩
    rw [List.append_nil] at e3
    rw [if_neg (by omega), Int.toNat_natCast, e3]; rfl
theorem bytes_enc : ∀ (n : Nat), Bytes8 (enc n) := by
  intro n
  induction n using Nat.strongRecOn with
  | ind n ih =>
    by_cases h : n < 128
    · rw [enc_small h]; intro x hx; simp at hx; omega
    · rw [enc_big (by omega)]
      intro x hx
      rcases List.mem_cons.1 hx with rfl | hx
      · omega
      · exact ih (n / 128) (by omega) x hx
theorem Bytes8.append {a b : List Nat} (ha : Bytes8 a) (hb : Bytes8 b) : Bytes8 (a ++ b) := fun x hx => (List.mem_append.1 hx).elim (ha x) (hb x)
theorem bytes_encs : ∀ (v : List Int), Bytes8 (encs v)
  | [] => fun x hx => by simp [encs] at hx
  | x :: v => by rw [encs_cons]; exact (bytes_enc _).append (bytes_encs v)
theorem bytes_opE {o : D.Op} (hk : Bytes8 o.key) : Bytes8 (opE o) := by
  unfold opE
  refine ((((bytes_enc _).append (bytes_enc _)).append ((bytes_enc _).append (bytes_encs _))).append (bytes_enc _)).append ((bytes_enc _).append (bytes_enc _)) |>.append ?_
  split
  · exact ((bytes_enc _).append (bytes_enc _)).append ((bytes_enc _).append hk)
  · exact (bytes_enc _).append (bytes_enc _)
theorem bytes_opsE : ∀ {l : List D.Op}, Keys8 l → Bytes8 (opsE l)
  | [], _ => fun x hx => by simp [opsE] at hx
  | o :: l, h => by
    have e : opsE (o :: l) = opE o ++ opsE l := by simp [opsE]
    rw [e]
    exact (bytes_opE (h o (by simp))).append (bytes_opsE fun p hp => h p (by simp [hp]))
theorem bytes_body {x y z : Int} {v : List Int} {l : List D.Op} (hk : Keys8 l) : Bytes8 (bodyE x y z v l) := by
  unfold bodyE
  refine (bytes_encs _).append (Bytes8.append ?_ (bytes_opsE hk))
  split
  · exact (bytes_enc _).append (bytes_encs _)
  · exact bytes_enc _
theorem parseP_put {x y z : Int} {v : List Int} {l : List D.Op} (h : frmV x y z v l = true) (hk : Keys8 l) : parseP (frmE x y z v l) = (some (x, y, z, v, l), 0) := by
  have hb := bytes_body (x := x) (y := y) (z := z) (v := v) hk
  have hc := crc_lt (s := 0) hb (by omega)
  have hd : (frmE x y z v l).drop 4 = bodyE x y z v l := rfl
  have hw : word (frmE x y z v l) = crc 0 (bodyE x y z v l) := word_four hc _
  unfold parseP
  rw [if_neg (by unfold frmE four; simp), hd, hw, if_pos rfl, readF_put h hk]
  simp only
  rw [if_pos ⟨h, rfl⟩]
/-! ### contracts -/
theorem shl32 {c k : Nat} (hc : c < 256) (hk : k ≤ 24) : shO .shl .u32 (c : Int) (k : Int) = some ((c * 2 ^ k : Nat) : Int) := by
  unfold shO
  have e : shiftA .shl .u32 (c : Int) (k : Int) = some (.i .u32 (wrapA .u32 (Int.mul (c : Int) (.ofNat (Nat.pow 2 (cond (Nat.ble k 32) k 32)))))) := rfl
  have hp : (2 : Nat) ^ k ≤ 16777216 := by
    have : (2 : Nat) ^ k ≤ 2 ^ 24 := Nat.pow_le_pow_right (by omega) hk
    simpa using this
  have hm : c * 2 ^ k ≤ 255 * 16777216 := Nat.mul_le_mul (by omega) hp
  rw [e, Nat.ble_eq_true_of_le (by omega), cond_true]
  have h2 : Int.mul (c : Int) (.ofNat (Nat.pow 2 k)) = ((c * 2 ^ k : Nat) : Int) := by rw [Int.natCast_mul]; rfl
  rw [h2, wrap_mod rfl]
  show some (((c * 2 ^ k : Nat) : Int) % 4294967296) = _
  congr 1; omega
theorem or32 {a b k : Nat} (hb : b < 2 ^ k) (h : a * 2 ^ k + b < 4294967296) : intO .or .u32 ((a * 2 ^ k : Nat) : Int) (b : Int) = some ((a * 2 ^ k + b : Nat) : Int) := by
  unfold intO
  have e : intA .or .u32 ((a * 2 ^ k : Nat) : Int) (b : Int) = some (.i .u32 (wrapA .u32 (.ofNat (Nat.lor (a * 2 ^ k) b)))) := by
    show (cond (Nat.blt (a * 2 ^ k) 4294967296 && Nat.blt b 4294967296) _ none : Option AV) = _
    rw [blt_of (by omega), blt_of (by omega)]; rfl
  rw [e]
  have h2 : Nat.lor (a * 2 ^ k) b = a * 2 ^ k + b := by
    have := Nat.two_pow_add_eq_or_of_lt hb a
    show (a * 2 ^ k) ||| b = _
    rw [Nat.mul_comm a, ← this]
  rw [h2]
  show some (wrapA .u32 ((a * 2 ^ k + b : Nat) : Int)) = _
  rw [wrap_mod rfl]
  show some (((a * 2 ^ k + b : Nat) : Int) % 4294967296) = _
  congr 1; omega
theorem shl32' {c k A : Nat} (hc : c < 256) (hk : k ≤ 24) (hA : A = c * 2 ^ k) : shO .shl .u32 (c : Int) (k : Int) = some (A : Int) := by subst hA; exact shl32 hc hk
theorem or32' {A a b k C : Nat} (hA : A = a * 2 ^ k) (hb : b < 2 ^ k) (hC : C = A + b) (h : C < 4294967296) : intO .or .u32 (A : Int) (b : Int) = some (C : Int) := by subst hA; subst hC; exact or32 hb h
section
variable {g h : Hp} {a b : AV} {l m : List Nat} {Post : AV → Hp → Prop}
theorem c16 {x y z : Int} {v : List Int} {ops : List D.Op} (ra : IR h a v) (rb : OpRow h b ops) (hv : v.length < 1000000) (hb : ops.length < 1000000) (ho : ∀ o ∈ ops, opOk o) (hk : Keys8 ops)
    (k : ∀ r (n : Int) h', h.le h' → h'.lo = h.lo → r.sc = true → (frmV x y z v ops = false → n = 1 ∧ r = .ns ∧ h' = h) → (frmV x y z v ops = true → n = 0 ∧ BO h h' r (frmE x y z v ops)) → Post (.tup [r, .i .i64 n]) h') : wpC Try.prog 16 [frmA x y z a b] Post h := by
  refine call_sound (args := [.ag [.ii .i64 x, .ii .i64 y, .ii .i64 z, .vv a, .vv b]]) (cuts := []) ⟨⟨trivial, trivial, trivial, ra.sc, rb.sc, trivial⟩, trivial⟩ ?_
  rw [vc16]
  refine fun _ => c25 ra rb hv hb ho (onRet.b (onB.not (fun e => k _ _ _ (Hp.le_refl h) rfl rfl (fun _ => ⟨rfl, rfl, rfl⟩) (fun e' => by rw [e] at e'; cases e')) (fun e => ?_)))
  exact c27 ra rb e hk fun r h' o => onRet.r o.sc (k _ _ _ o.le o.lo o.sc (fun e' => by rw [e] at e'; cases e') (fun _ => ⟨rfl, o⟩))
theorem c9 (r : BR h a l) (hb : l.length < 900000) (k1 : (parseP l).1 = none → ∀ h', h.le h' → h'.lo = h.lo → Post (.tup [frmA 0 0 0 .ns .ns, .i .i64 (parseP l).2]) h')
    (k2 : ∀ f, parseP l = (some f, 0) → ∀ a4 a5 h', FrmOwn h h' a4 a5 f.2.2.2.1 f.2.2.2.2 → Post (.tup [frmA f.1 f.2.1 f.2.2.1 a4 a5, .i .i64 0]) h') : wpC Try.prog 9 [a] Post h := by
  have hl8 : Bytes8 l := fun x hx => byte_lt r hx
  refine call_sound (args := [.vv a]) (cuts := []) ⟨r.sc, trivial⟩ ?_
  rw [vc9]
  have bad : ∀ e : Int, parseP l = (none, e) → ∀ h', h.le h' → h'.lo = h.lo → Post (.tup [frmA 0 0 0 .ns .ns, .i .i64 e]) h' := fun e he h' le lo => by
    have := k1 (by rw [he]) h' le lo
    rw [he] at this
    exact this
  unfold parseP at bad k2
  refine fun _ => onO.mk r.len (onB.dec (fun e => bad _ (by rw [if_pos (by omega)]) _ (Hp.le_refl h) rfl) (fun e => ?_))
  rw [if_neg (by omega)] at bad k2
  have h4 : 4 ≤ l.length := by omega
  refine r.from rfl h4 fun a0 r0 => c23 (s := 0) r0 (by omega) (by simp; omega) (onRet.u32 ?_)
  obtain ⟨x0, e0⟩ := get_lt (l := l) (k := 0) (by omega)
  obtain ⟨x1, e1⟩ := get_lt (l := l) (k := 1) (by omega)
  obtain ⟨x2, e2⟩ := get_lt (l := l) (k := 2) (by omega)
  obtain ⟨x3, e3⟩ := get_lt (l := l) (k := 3) (by omega)
  have b0 := byte_lt r (List.mem_of_getElem? e0)
  have b1 := byte_lt r (List.mem_of_getElem? e1)
  have b2 := byte_lt r (List.mem_of_getElem? e2)
  have b3 := byte_lt r (List.mem_of_getElem? e3)
  have hw : word l = x0 * 16777216 + x1 * 65536 + x2 * 256 + x3 := by
    unfold word
    simp only [List.getD_eq_getElem?_getD, e0, e1, e2, e3, Option.getD_some]
  have p24 : (2 : Nat) ^ 24 = 16777216 := rfl
  have p16 : (2 : Nat) ^ 16 = 65536 := rfl
  have p8 : (2 : Nat) ^ 8 = 256 := rfl
  obtain ⟨A, hA⟩ : ∃ A, A = x0 * 16777216 := ⟨_, rfl⟩
  obtain ⟨B, hB⟩ : ∃ B, B = x1 * 65536 := ⟨_, rfl⟩
  obtain ⟨C, hC⟩ : ∃ C, C = A + B := ⟨_, rfl⟩
  obtain ⟨D, hD⟩ : ∃ D, D = x2 * 256 := ⟨_, rfl⟩
  obtain ⟨E, hE⟩ : ∃ E, E = C + D := ⟨_, rfl⟩
  have s0 := shl32' (k := 24) (A := A) b0 (by omega) (by rw [p24]; exact hA)
  have s1 := shl32' (k := 16) (A := B) b1 (by omega) (by rw [p16]; exact hB)
  have s2 := shl32' (k := 8) (A := D) b2 (by omega) (by rw [p8]; exact hD)
  have t0 := or32' (A := A) (a := x0) (b := B) (k := 24) (C := C) (by rw [p24]; exact hA) (by rw [p24]; omega) hC (by omega)
  have t1 := or32' (A := C) (a := x0 * 256 + x1) (b := D) (k := 16) (C := E) (by rw [p16]; omega) (by rw [p16]; omega) hE (by omega)
  have t2 := or32' (A := E) (a := x0 * 65536 + x1 * 256 + x2) (b := x3) (k := 8) (C := word l) (by rw [p8]; omega) (by rw [p8]; omega) (by omega) (by omega)
  refine byte0 r (k := 0) e0 (onO.mk (wr32n (by omega)) (onO.mk s0 (byte0 r (k := 1) e1 (onO.mk (wr32n (by omega)) (onO.mk s1 (onO.mk t0 ?_))))))
  refine byte0 r (k := 2) e2 (onO.mk (wr32n (by omega)) (onO.mk s2 (onO.mk t1 ?_)))
  refine byte0 r (k := 3) e3 (onO.mk (wr32n (by omega)) (onO.mk t2 ?_))
  refine onB.ndec (fun e => bad _ (by rw [if_neg (by omega)]) _ (Hp.le_refl h) rfl) (fun e => ?_)
  rw [if_pos (by omega)] at bad k2
  refine r.from rfl h4 fun a2 r2 => c24 r2 (by simp; omega) (fun e4 x y z a4 a5 h' le lo s4 s5 => onTup.frmb s4 s5 fun _ => onB.pos rfl (bad _ (by rw [e4]) _ le lo)) (fun x y z v ops e4 a4 a5 h1 fo => onTup.frmb fo.ra.sc fo.rb.sc fun _ => onB.neg rfl ?_)
  obtain ⟨w1, w2, w3⟩ := readF_ok (hl8.drop 4) e4
  rw [e4] at bad k2
  simp only at bad k2
  refine c25 fo.ra fo.rb (by omega) (by omega) (fun o ho => by
    have := (mayO_nums (w3 o ho).1).len
    show o.deps.length < 1000000; omega) (onRet.b (onB.not (fun e5 => bad _ ?_ _ fo.le fo.lo) (fun e5 => ?_)))
  · rw [if_neg (fun hh => by have h1 := hh.1; unfold frmF at h1; simp only at h1; rw [e5] at h1; cases h1)]
  · refine c27 fo.ra fo.rb e5 (fun o ho => (w3 o ho).2) fun r8 h2 o8 => onRet.r o8.sc (c26 o8.row (r.mono (Hp.le_trans fo.le o8.le)) (onRet.b (onB.not (fun e6 => bad _ ?_ _ (Hp.le_trans fo.le o8.le) (o8.lo.trans fo.lo)) (fun e6 => ?_))))
    · rw [if_neg (fun hh => by have h1 := hh.2; unfold frmB at h1; simp only at h1; exact of_decide_eq_false e6 h1)]
    · have e6 := of_decide_eq_true e6
      have hcond : frmF (x, y, z, v, ops) = true ∧ frmB (x, y, z, v, ops) = l := ⟨e5, e6⟩
      refine k2 (x, y, z, v, ops) (by rw [if_pos hcond]) _ _ _ (fo.up o8.le o8.lo)
end
section
variable {g h : Hp} {a b : AV} {l m : List Nat} {Post : AV → Hp → Prop}
/-- a call that gives bytes, behind bytes of one's own -/
theorem BO.then {f : FuncId} {args : List AV} (o : BO g h a l) (w : ∀ p, g.le p → p.lo = g.lo → wpC Try.prog f args (fun v p' => BO p p' v m) p) {K : AV → Hp → Prop} (k : ∀ d h', d.sc = true → BR h' d m → BO g h' a l → K d h') : wpC Try.prog f args K h := by
  obtain ⟨p, css, q1, q2, fr, q3⟩ := o
  refine (fr.call (w p q1 q2)).mono ?_
  rintro d h3 ⟨p', fr', lo', o3⟩
  exact k d h3 o3.sc (o3.row.mono fr'.le) ⟨p', css, Hp.le_trans q1 o3.le, lo'.trans q2, fr', q3⟩
end
section
variable {g h : Hp} {a b : AV} {l m : List Nat} {Post : AV → Hp → Prop}
theorem c11 {x : Int} (k : Post (.i .i64 x) h) : wpC Try.prog 11 [.i .i64 x] Post h := by
  refine call_sound (args := [.ii .i64 x]) (cuts := []) ⟨trivial, trivial⟩ ?_
  rw [vc11]; exact k
end
section
variable {g h : Hp} {a b c : AV} {l m : List Nat} {Post : AV → Hp → Prop}
theorem onRet.frm {x y z : Int} {a b : AV} (ha : a.sc = true) (hb : b.sc = true) {K : Int → Int → Int → AV → AV → Prop} (k : K x y z a b) : onRet [Sh.agg [Kd.int .i64, Kd.int .i64, Kd.int .i64, Kd.ref, Kd.ref]] (frmA x y z a b) K := by
  unfold onRet onS
  have : flatV [Sh.agg [Kd.int .i64, Kd.int .i64, Kd.int .i64, Kd.ref, Kd.ref]] [frmA x y z a b] = some [.i .i64 x, .i .i64 y, .i .i64 z, a, b] := rfl
  rw [this]
  exact onRef.mk (K := fun a => onRef b fun b => K x y z a b) ha (onRef.mk (K := fun b => K x y z a b) hb k)
theorem onL.frm {x y z : Int} {a b : AV} (ha : a.sc = true) (hb : b.sc = true) {K : Int → Int → Int → AV → AV → Prop} (k : K x y z a b) : onL [Kd.int .i64, Kd.int .i64, Kd.int .i64, Kd.ref, Kd.ref] [.i .i64 x, .i .i64 y, .i .i64 z, a, b] K :=
  onRef.mk (K := fun a => onRef b fun b => K x y z a b) ha (onRef.mk (K := fun b => K x y z a b) hb k)
theorem onL.frmx {x y z : Int} {a b c : AV} (ha : a.sc = true) (hb : b.sc = true) (hc : c.sc = true) {K : Int → Int → Int → AV → AV → AV → Prop} (k : K x y z a b c) : onL [Kd.int .i64, Kd.int .i64, Kd.int .i64, Kd.ref, Kd.ref, Kd.ref] [.i .i64 x, .i .i64 y, .i .i64 z, a, b, c] K :=
  onRef.mk (K := fun a => onRef b fun b => onRef c fun c => K x y z a b c) ha (onRef.mk (K := fun b => onRef c fun c => K x y z a b c) hb (onRef.mk (K := fun c => K x y z a b c) hc k))
theorem c6 {x y z : Int} {v : List Int} {ops : List D.Op} (ra : IR h a v) (rb : OpRow h b ops) (rc : BR h c l) (hv : v.length ≤ 140737488351232) (ho : ops.length ≤ 140737488351232) (k1 : Post (.b true) h)
    (k2 : v.length ≤ 5000 → (ops.length ≤ 5000 ∧ ∀ o ∈ ops, o.deps.length ≤ 5000 ∧ o.key.length ≤ 5000) → l.length ≤ 5000 → Post (.b false) h) : wpC Try.prog 6 [.agg [.i .i64 x, .i .i64 y, .i .i64 z, a, b, c]] Post h := by
  refine call_sound (args := [.ag [.ii .i64 x, .ii .i64 y, .ii .i64 z, .vv a, .vv b, .vv c]]) (cuts := []) ⟨⟨trivial, trivial, trivial, ra.sc, rb.sc, rc.sc, trivial⟩, trivial⟩ ?_
  rw [vc6]
  refine fun _ => onO.mk ra.len (c21 rb ho fun n h0 h1 hn => onRet.i (onO.mk (add64 (by omega) (by omega)) (onB.dec (fun _ => k1) (fun e => onO.mk rc.len ?_))))
  by_cases e2 : (5000 : Int) < l.length
  · rw [decide_eq_true e2]; exact k1
  · rw [decide_eq_false e2]; exact k2 (by omega) (hn (by omega)) (by omega)
theorem theO_keys : Keys8 [theO] := fun o ho => by
  simp at ho; subst ho
  exact fun x hx => by simp [theO] at hx; omega
theorem theF_may : frmV 0 1 2 [] [theO] = true := by decide
/-- one operation in a new block -/
theorem one_op {d : AV} {p : Nat} (rd : IR h d theO.deps) (hp : h.g p = none) : OpRow (h.put p (opC theO d)) (.sl p 0 1 1 true 12) [theO] := by
  have kx : D.kOp.K (h.put p (opC theO d)) theO (opC theO d) := nums_in theO_may (theO_keys theO (by simp)) (rd.mono (Hp.le_put hp))
  refine ⟨[opC theO d], ⟨fun c hc => by simp at hc; subst hc; rfl, rfl, rfl, Nat.le_refl _, .inr ?_⟩, .cons kx .nil⟩
  unfold rdH
  rw [Hp.put_same]; rfl
theorem c15 (k : ∀ h', Post (.b true) h') : wpC Try.prog 15 [] Post h := by
  refine call_sound (args := []) (cuts := []) trivial ?_
  rw [vc15]
  refine c35 fun d h1 o1 => onRet.op (o := theO) o1.sc fun _ p hp _ => ?_
  have r1 := one_op o1.row hp
  have hok : ∀ o ∈ [theO], opOk o := fun o ho => by simp at ho; subst ho; show 1 < 1000000; omega
  refine c16 (ops := [theO]) nsI r1 (by simp) (by simp) hok theO_keys fun r2 n h2 le2 lo2 sc2 _ k2 => onTup.ri sc2 ?_
  obtain ⟨rfl, o2⟩ := k2 theF_may
  have pp := parseP_put theF_may theO_keys
  have hlen : (frmE 0 1 2 [] [theO]).length < 900000 := by
    unfold frmE bodyE four
    have h1 := encs_len (v := [0, 1, 2]) (fun x hx => by simp at hx; omega)
    have h2 := opsE_len (l := [theO]) (fun o ho => by simp at ho; subst ho; exact theO_may)
    have h3 := enc_len10 (n := 1) (by omega)
    rw [if_neg (by omega)]
    simp only [List.length_append, List.length_cons, List.length_nil] at h1 h2 ⊢
    have h3 : (enc (0 + 1)).length ≤ 9 := h3
    omega
  refine c9 o2.row hlen (fun e => by rw [pp] at e; cases e) fun f hf a4 a5 h3 fo => ?_
  rw [pp] at hf
  injection hf with hf _
  injection hf with hf
  subst hf
  refine onTup.frm fo.ra.sc fo.rb.sc fun _ => c11 (onRet.i (onB.pos rfl (c11 (onRet.i (onB.pos rfl ?_)))))
  refine c12 fo.ra fo.rb nsI (r1.mono (Hp.le_trans le2 fo.le)) (by simp) (by simp) hok (onRet.b ?_)
  simp only [decide_true, Bool.and_self]
  exact k _
theorem frmx_open {x : D.FrmX} {cs : List AV} (k : D.kFrmX.K h x cs) : ∃ a0 a1 a2, cs = [.i .i64 x.f.src, .i .i64 x.f.dst, .i .i64 x.f.kind, a0, a1, a2] ∧ IR h a0 x.f.haves ∧ x.f.haves.length ≤ 140737488351232 ∧ OpRow h a1 x.f.ops ∧ x.f.ops.length ≤ 140737488351232 ∧ Keys8 x.f.ops ∧ BR h a2 x.x := by
  obtain ⟨a0, a1, a2, e, f1, f2, f3, ⟨f4, f4'⟩, ⟨f5, f5'⟩, f6, f7⟩ := D.kFrmX_open k
  refine ⟨a0, a1, a2, e, f4, by omega, f5, by omega, fun o ho => ?_, f6⟩
  obtain ⟨c, hc⟩ := f5.all ho
  obtain ⟨d, _, _, _, _, _, _, _, _, _, _, g, _⟩ := D.kOp_open hc
  exact g.2
end
/-- what is parsed is the whole of a frame's bytes -/
theorem parse_ok {l : List Nat} (hl : Bytes8 l) (h : (parseP l).2 = 0) : ∃ x y z v ops, frmV x y z v ops = true ∧ Keys8 ops ∧ frmE x y z v ops = l := by
  unfold parseP at h
  split at h
  · exact absurd h (by decide)
  split at h
  · split at h
    · rename_i f hf
      split at h
      · rename_i e
        obtain ⟨x, y, z, v, ops⟩ := f
        exact ⟨x, y, z, v, ops, e.1, fun o ho => (readF_ok (hl.drop 4) hf).2.2 o ho |>.2, e.2⟩
      · exact absurd h (by decide)
    · exact absurd h (by decide)
  · exact absurd h (by decide)

/- arras/arrasref5.TakeNum -/
theorem vc53 (a : AV) (h : Hp) (Post : AV → Hp → Prop) : vcCall Try.prog [] 53 [(SV.vv a)] h Post = (
  ∃ I0 : Nat → Int → Int → Int → Int → Int → Hp → Prop,
  (∃ p0, I0 p0 0 0 0 0 0 h) ∧
    ∀ (p1 : Nat) (h0 : Hp) (n0 n1 n2 n3 n4 : Int),
      I0 p1 n0 n1 n2 n3 n4 h0 →
        onO (lenV a) fun p2 =>
          onB (decide ((↑p2 : Int) ≤ n4)) (Post (AV.tup [AV.i IntKind.i64 0, AV.i IntKind.i64 0, AV.i IntKind.i64 7]) h0)
            (onO (idxV a n4 1) fun r0 =>
              onO (rdH h0 r0.fst r0.snd 1) fun l0 =>
                onL [Kd.int IntKind.u8] l0 fun n5 =>
                  onO (intO BinOp.and IntKind.u8 n5 127) fun n6 =>
                    onO (wrO IntKind.u64 n6) fun n7 =>
                      onO (intO BinOp.mul IntKind.i64 7 n4) fun n8 =>
                        onO (shO BinOp.shl IntKind.u64 n7 n8) fun n9 =>
                          onO (intO BinOp.or IntKind.u64 n0 n9) fun n10 =>
                            onB (decide (128 ≤ n5))
                              (onB (decide (n4 = 8)) (Post (AV.tup [AV.i IntKind.i64 0, AV.i IntKind.i64 0, AV.i IntKind.i64 1]) h0)
                                (onO (intO BinOp.add IntKind.i64 n4 1) fun n11 => ∃ p3, ltN p3 p1 ∧ I0 p3 n10 n1 n2 n3 n11 h0))
                              (onB (decide (n5 = 0))
                                (onB (decide (0 < n4)) (Post (AV.tup [AV.i IntKind.i64 0, AV.i IntKind.i64 0, AV.i IntKind.i64 1]) h0)
                                  (onB (decide (4611686018427387904 < n10)) (Post (AV.tup [AV.i IntKind.i64 0, AV.i IntKind.i64 0, AV.i IntKind.i64 1]) h0)
                                    (onO (wrO IntKind.i64 n10) fun n12 =>
                                      onO (intO BinOp.add IntKind.i64 n4 1) fun n13 => Post (AV.tup [AV.i IntKind.i64 n12, AV.i IntKind.i64 n13, AV.i IntKind.i64 0]) h0)))
                                (onB (decide (4611686018427387904 < n10)) (Post (AV.tup [AV.i IntKind.i64 0, AV.i IntKind.i64 0, AV.i IntKind.i64 1]) h0)
                                  (onO (wrO IntKind.i64 n10) fun n14 =>
                                    onO (intO BinOp.add IntKind.i64 n4 1) fun n15 => Post (AV.tup [AV.i IntKind.i64 n14, AV.i IntKind.i64 n15, AV.i IntKind.i64 0]) h0))))) := by kernel_rfl
/- arras/arrasref5.TakeNums -/
theorem vc54 (a : AV) (h : Hp) (Post : AV → Hp → Prop) : vcCall Try.prog [] 54 [(SV.vv a)] h Post = (
  wpC Try.prog 53 [a]
  (fun a0 h0 =>
    onTup [Sh.one (Kd.int IntKind.i64), Sh.one (Kd.int IntKind.i64), Sh.one (Kd.int IntKind.i64)] a0 fun n0 n1 n2 =>
      onB (!decide (n2 = 0)) (Post (AV.tup [AV.ns, AV.i IntKind.i64 0, AV.i IntKind.i64 n2]) h0)
        (onB (decide (1024 < n0)) (Post (AV.tup [AV.ns, AV.i IntKind.i64 0, AV.i IntKind.i64 1]) h0)
          (∃ I0 : Nat → AV → Int → Int → AV → Int → Int → Hp → Prop,
            (∃ p0, I0 p0 AV.ns 0 0 AV.ns n1 0 h0) ∧
              ∀ (p1 : Nat) (h1 : Hp) (a1 : AV),
                a1.sc = true →
                  ∀ (n3 n4 : Int) (a2 : AV),
                    a2.sc = true →
                      ∀ (n5 n6 : Int),
                        I0 p1 a1 n3 n4 a2 n5 n6 h1 →
                          onB (decide (n6 < n0))
                            (onO (slV a (some n5) none none 1) fun a3 =>
                              wpC Try.prog 53 [a3]
                                (fun a4 h2 =>
                                  onTup [Sh.one (Kd.int IntKind.i64), Sh.one (Kd.int IntKind.i64), Sh.one (Kd.int IntKind.i64)] a4 fun n7 n8 n9 =>
                                    onB (!decide (n9 = 0)) (Post (AV.tup [AV.ns, AV.i IntKind.i64 0, AV.i IntKind.i64 n9]) h2)
                                      (∀ (p2 : Nat),
                                        wpE (Eff.app a2 1 (Src.lit [AV.i IntKind.i64 n7]) 1)
                                          (fun x0 h3 =>
                                            onO x0 fun a5 =>
                                              onO (intO BinOp.add IntKind.i64 n5 n8) fun n10 => onO (intO BinOp.add IntKind.i64 n6 1) fun n11 => ∃ p3, ltN p3 p1 ∧ I0 p3 a1 n3 n4 a5 n10 n11 h3)
                                          h2))
                                h1)
                            (Post (AV.tup [a2, AV.i IntKind.i64 n5, AV.i IntKind.i64 0]) h1))))
  h) := by kernel_rfl
/- arras/arrasref5.TakeText -/
theorem vc56 (a : AV) (h : Hp) (Post : AV → Hp → Prop) : vcCall Try.prog [] 56 [(SV.vv a)] h Post = (
  wpC Try.prog 53 [a]
  (fun a0 h0 =>
    onTup [Sh.one (Kd.int IntKind.i64), Sh.one (Kd.int IntKind.i64), Sh.one (Kd.int IntKind.i64)] a0 fun n0 n1 n2 =>
      onB (!decide (n2 = 0)) (Post (AV.tup [AV.s [], AV.i IntKind.i64 0, AV.i IntKind.i64 n2]) h0)
        (onB (decide (65536 < n0)) (Post (AV.tup [AV.s [], AV.i IntKind.i64 0, AV.i IntKind.i64 1]) h0)
          (onO (lenV a) fun p0 =>
            onO (intO BinOp.sub IntKind.i64 (↑p0) n1) fun n3 =>
              onB (decide (n3 < n0)) (Post (AV.tup [AV.s [], AV.i IntKind.i64 0, AV.i IntKind.i64 7]) h0)
                (onO (intO BinOp.add IntKind.i64 n1 n0) fun n4 =>
                  onO (slV a (some n1) (some n4) none 1) fun a1 =>
                    onO (strAt h0 a1) fun r0 => onO (intO BinOp.add IntKind.i64 n1 n0) fun n5 => Post (AV.tup [AV.s r0.fst, AV.i IntKind.i64 n5, AV.i IntKind.i64 0]) h0))))
  h) := by kernel_rfl
/- arras/arrasref6.Take -/
theorem vc72 (a : AV) (h : Hp) (Post : AV → Hp → Prop) : vcCall Try.prog [] 72 [(SV.vv a)] h Post = (
  ∀ (p0 : Nat),
  wpC Try.prog 53 [a]
    (fun a0 h0 =>
      onTup [Sh.one (Kd.int IntKind.i64), Sh.one (Kd.int IntKind.i64), Sh.one (Kd.int IntKind.i64)] a0 fun n0 n1 n2 =>
        onB (!decide (n2 = 0)) (Post (AV.tup [AV.agg [AV.i IntKind.i64 0, AV.i IntKind.i64 0], AV.i IntKind.i64 0, AV.i IntKind.i64 n2]) h0)
          (onO (slV a (some n1) none none 1) fun a1 =>
            wpC Try.prog 53 [a1]
              (fun a2 h1 =>
                onTup [Sh.one (Kd.int IntKind.i64), Sh.one (Kd.int IntKind.i64), Sh.one (Kd.int IntKind.i64)] a2 fun n3 n4 n5 =>
                  onB (!decide (n5 = 0)) (Post (AV.tup [AV.agg [AV.i IntKind.i64 0, AV.i IntKind.i64 0], AV.i IntKind.i64 0, AV.i IntKind.i64 n5]) h1)
                    (∀ (p1 : Nat),
                      wpC Try.prog 60 [AV.agg [AV.i IntKind.i64 n0, AV.i IntKind.i64 n3]]
                        (fun a3 h2 =>
                          onRet [Sh.one Kd.bool] a3 fun c0 =>
                            onB (!c0) (Post (AV.tup [AV.agg [AV.i IntKind.i64 0, AV.i IntKind.i64 0], AV.i IntKind.i64 0, AV.i IntKind.i64 1]) h2)
                              (onO (intO BinOp.add IntKind.i64 n1 n4) fun n6 => Post (AV.tup [AV.agg [AV.i IntKind.i64 n0, AV.i IntKind.i64 n3], AV.i IntKind.i64 n6, AV.i IntKind.i64 0]) h2))
                        h1))
              h0))
    h) := by kernel_rfl
/- arras/arrasref6.TakeVector -/
theorem vc29 (a : AV) (h : Hp) (Post : AV → Hp → Prop) : vcCall Try.prog [] 29 [(SV.vv a)] h Post = (
  wpC Try.prog 54 [a]
  (fun a0 h0 =>
    onTup [Sh.one Kd.ref, Sh.one (Kd.int IntKind.i64), Sh.one (Kd.int IntKind.i64)] a0 fun a1 n0 n1 =>
      onB (!decide (n1 = 0)) (Post (AV.tup [AV.ns, AV.i IntKind.i64 0, AV.i IntKind.i64 n1]) h0)
        (wpC Try.prog 37 [a1]
          (fun a2 h1 =>
            onRet [Sh.one Kd.bool] a2 fun c0 => onB (!c0) (Post (AV.tup [AV.ns, AV.i IntKind.i64 0, AV.i IntKind.i64 1]) h1) (Post (AV.tup [a1, AV.i IntKind.i64 n0, AV.i IntKind.i64 0]) h1))
          h0))
  h) := by kernel_rfl
/- (*arras/arrasref10.taker).num -/
theorem vc28 (a : AV) (h : Hp) (Post : AV → Hp → Prop) : vcCall Try.prog [] 28 [(SV.vv a)] h Post = (
  onO (ptrV a) fun r0 =>
  onO (rdH h r0.fst (r0.snd + 2) 1) fun l0 =>
    onL [Kd.int IntKind.i64] l0 fun n0 =>
      onB (!decide (n0 = 0)) (Post (AV.i IntKind.i64 0) h)
        (onO (ptrV a) fun r1 =>
          onO (rdH h r1.fst (r1.snd + 0) 1) fun l1 =>
            onL [Kd.ref] l1 fun a0 =>
              onO (ptrV a) fun r2 =>
                onO (rdH h r2.fst (r2.snd + 1) 1) fun l2 =>
                  onL [Kd.int IntKind.i64] l2 fun n1 =>
                    onO (slV a0 (some n1) none none 1) fun a1 =>
                      wpC Try.prog 53 [a1]
                        (fun a2 h0 =>
                          onTup [Sh.one (Kd.int IntKind.i64), Sh.one (Kd.int IntKind.i64), Sh.one (Kd.int IntKind.i64)] a2 fun n2 n3 n4 =>
                            onO (ptrV a) fun r3 =>
                              onO (rdH h0 r3.fst (r3.snd + 1) 1) fun l3 =>
                                onL [Kd.int IntKind.i64] l3 fun n5 =>
                                  onO (intO BinOp.add IntKind.i64 n5 n3) fun n6 =>
                                    onO (ptrV a) fun r4 =>
                                      wpE (Eff.w r4.fst (r4.snd + 1) (Src.lit [AV.i IntKind.i64 n6]) none)
                                        (fun x0 h1 => onO (ptrV a) fun r5 => wpE (Eff.w r5.fst (r5.snd + 2) (Src.lit [AV.i IntKind.i64 n4]) none) (fun x1 h2 => Post (AV.i IntKind.i64 n2) h2) h1) h0)
                        h)) := by kernel_rfl
/- (*arras/arrasref10.taker).stamp -/
theorem vc55 (a : AV) (h : Hp) (Post : AV → Hp → Prop) : vcCall Try.prog [] 55 [(SV.vv a)] h Post = (
  ∀ (p0 : Nat),
  onO (ptrV a) fun r0 =>
    onO (rdH h r0.fst (r0.snd + 2) 1) fun l0 =>
      onL [Kd.int IntKind.i64] l0 fun n0 =>
        onB (!decide (n0 = 0)) (Post (AV.agg [AV.i IntKind.i64 0, AV.i IntKind.i64 0]) h)
          (onO (ptrV a) fun r1 =>
            onO (rdH h r1.fst (r1.snd + 0) 1) fun l1 =>
              onL [Kd.ref] l1 fun a0 =>
                onO (ptrV a) fun r2 =>
                  onO (rdH h r2.fst (r2.snd + 1) 1) fun l2 =>
                    onL [Kd.int IntKind.i64] l2 fun n1 =>
                      onO (slV a0 (some n1) none none 1) fun a1 =>
                        wpC Try.prog 72 [a1]
                          (fun a2 h0 =>
                            onTup [Sh.agg [Kd.int IntKind.i64, Kd.int IntKind.i64], Sh.one (Kd.int IntKind.i64), Sh.one (Kd.int IntKind.i64)] a2 fun n2 n3 n4 n5 =>
                              ∀ (p1 : Nat),
                                onO (ptrV a) fun r3 =>
                                  onO (rdH h0 r3.fst (r3.snd + 1) 1) fun l3 =>
                                    onL [Kd.int IntKind.i64] l3 fun n6 =>
                                      onO (intO BinOp.add IntKind.i64 n6 n4) fun n7 =>
                                        onO (ptrV a) fun r4 =>
                                          wpE (Eff.w r4.fst (r4.snd + 1) (Src.lit [AV.i IntKind.i64 n7]) none)
                                            (fun x0 h1 =>
                                              onO (ptrV a) fun r5 =>
                                                wpE (Eff.w r5.fst (r5.snd + 2) (Src.lit [AV.i IntKind.i64 n5]) none) (fun x1 h2 => Post (AV.agg [AV.i IntKind.i64 n2, AV.i IntKind.i64 n3]) h2) h1)
                                            h0)
                          h)) := by kernel_rfl
/- arras/arrasref10.Sum -/
theorem vc8 (a : AV) (h : Hp) (Post : AV → Hp → Prop) : vcCall Try.prog [] 8 [(SV.vv a)] h Post = (
  wpC Try.prog 22 [AV.i IntKind.u32 0, a] (fun a0 h0 => onRet [Sh.one (Kd.int IntKind.u32)] a0 fun n0 => Post (AV.i IntKind.u32 n0) h0) h) := by kernel_rfl
/- arras/arrasref10.Take -/
theorem vc30 (a : AV) (h : Hp) (Post : AV → Hp → Prop) : vcCall Try.prog [10999999,
 17000067,
 20999999,
 30999999,
 26999999,
 46999999] 30 [(SV.vv a)] h Post = (
  ∀ (p0 p1 : Nat),
  h.g p1 = none →
    h.lo.le p1 →
      wpC Try.prog 55 [AV.p p1 0]
        (fun a0 h0 =>
          onRet [Sh.agg [Kd.int IntKind.i64, Kd.int IntKind.i64]] a0 fun n0 n1 =>
            ∀ (p2 : Nat),
              onO (rdH h0 p1 2 1) fun l0 =>
                onL [Kd.int IntKind.i64] l0 fun n2 =>
                  ∃ I0 : Int → Int → Int → AV → Int → Int → Int → Int → Int → List Nat → Int → Int → Hp → Prop,
                    onB (decide (n2 = 0))
                        (onO (rdH h0 p1 1 1) fun l1 =>
                          onL [Kd.int IntKind.i64] l1 fun n3 =>
                            onO (slV a (some n3) none none 1) fun a1 =>
                              wpC Try.prog 29 [a1]
                                (fun a2 h1 =>
                                  onTup [Sh.one Kd.ref, Sh.one (Kd.int IntKind.i64), Sh.one (Kd.int IntKind.i64)] a2 fun a3 n4 n5 =>
                                    onO (rdH h1 p1 1 1) fun l2 =>
                                      onL [Kd.int IntKind.i64] l2 fun n6 =>
                                        onO (intO BinOp.add IntKind.i64 n6 n4) fun n7 =>
                                          wpE (Eff.w p1 1 (Src.lit [AV.i IntKind.i64 n7]) none)
                                            (fun x0 h2 => wpE (Eff.w p1 2 (Src.lit [AV.i IntKind.i64 n5]) none) (fun x1 h3 => I0 n0 n1 0 a3 0 0 0 0 0 [] 0 0 h3) h2) h1)
                                h0)
                        (I0 n0 n1 0 AV.ns 0 0 0 0 0 [] 0 0 h0) ∧
                      ∀ (h4 : Hp) (n8 n9 n10 : Int) (a4 : AV),
                        a4.sc = true →
                          ∀ (n11 n12 n13 n14 n15 : Int) (l3 : List Nat) (n16 n17 : Int),
                            I0 n8 n9 n10 a4 n11 n12 n13 n14 n15 l3 n16 n17 h4 →
                              wpC Try.prog 28 [AV.p p1 0]
                                (fun a5 h5 =>
                                  onRet [Sh.one (Kd.int IntKind.i64)] a5 fun n18 =>
                                    ∃ I1 : Bool → Hp → Prop,
                                      (onO (rdH h5 p1 2 1) fun l4 =>
                                          onL [Kd.int IntKind.i64] l4 fun n19 => onB (decide (n19 = 0)) (onB (!decide (n18 = 1)) (I1 (!decide (n18 = 2)) h5) (I1 false h5)) (I1 false h5)) ∧
                                        ∀ (h6 : Hp) (c0 : Bool),
                                          I1 c0 h6 →
                                            ∃ I2 : Hp → Prop,
                                              onB c0 (wpE (Eff.w p1 2 (Src.lit [AV.i IntKind.i64 1]) none) (fun x2 h7 => I2 h7) h6) (I2 h6) ∧
                                                ∀ (h8 : Hp),
                                                  I2 h8 →
                                                    wpC Try.prog 55 [AV.p p1 0]
                                                      (fun a6 h9 =>
                                                        onRet [Sh.agg [Kd.int IntKind.i64, Kd.int IntKind.i64]] a6 fun n20 n21 =>
                                                          ∃ I3 : Int → Int → Int → AV → Int → Int → Int → Int → Int → List Nat → Int → Int → Hp → Prop,
                                                            onB (decide (n18 = 1))
                                                                (wpC Try.prog 55 [AV.p p1 0]
                                                                  (fun a7 h10 =>
                                                                    onRet [Sh.agg [Kd.int IntKind.i64, Kd.int IntKind.i64]] a7 fun n22 n23 =>
                                                                      onO (rdH h10 p1 2 1) fun l5 =>
                                                                        onL [Kd.int IntKind.i64] l5 fun n24 =>
                                                                          ∃ I4 : Int → Int → Int → AV → Int → Int → Int → Int → Int → List Nat → Int → Int → Hp → Prop,
                                                                            onB (decide (n24 = 0))
                                                                                (onO (rdH h10 p1 1 1) fun l6 =>
                                                                                  onL [Kd.int IntKind.i64] l6 fun n25 =>
                                                                                    onO (slV a (some n25) none none 1) fun a8 =>
                                                                                      wpC Try.prog 56 [a8]
                                                                                        (fun a9 h11 =>
                                                                                          onTup [Sh.one Kd.str, Sh.one (Kd.int IntKind.i64), Sh.one (Kd.int IntKind.i64)] a9 fun l7 n26 n27 =>
                                                                                            onO (rdH h11 p1 1 1) fun l8 =>
                                                                                              onL [Kd.int IntKind.i64] l8 fun n28 =>
                                                                                                onO (intO BinOp.add IntKind.i64 n28 n26) fun n29 =>
                                                                                                  wpE (Eff.w p1 1 (Src.lit [AV.i IntKind.i64 n29]) none)
                                                                                                    (fun x3 h12 =>
                                                                                                      wpE (Eff.w p1 2 (Src.lit [AV.i IntKind.i64 n27]) none)
                                                                                                        (fun x4 h13 => I4 n8 n9 n10 a4 n18 n20 n21 n22 n23 l7 n16 n17 h13) h12)
                                                                                                    h11)
                                                                                        h10)
                                                                                (I4 n8 n9 n10 a4 n18 n20 n21 n22 n23 l3 n16 n17 h10) ∧
                                                                              ∀ (h14 : Hp) (n30 n31 n32 : Int) (a10 : AV),
                                                                                a10.sc = true →
                                                                                  ∀ (n33 n34 n35 n36 n37 : Int) (l9 : List Nat) (n38 n39 : Int),
                                                                                    I4 n30 n31 n32 a10 n33 n34 n35 n36 n37 l9 n38 n39 h14 → I3 n30 n31 n32 a10 n33 n34 n35 n36 n37 l9 n38 n39 h14)
                                                                  h9)
                                                                (wpC Try.prog 28 [AV.p p1 0]
                                                                  (fun a11 h15 =>
                                                                    onRet [Sh.one (Kd.int IntKind.i64)] a11 fun n40 =>
                                                                      wpC Try.prog 28 [AV.p p1 0]
                                                                        (fun a12 h16 =>
                                                                          onRet [Sh.one (Kd.int IntKind.i64)] a12 fun n41 =>
                                                                            onO (intO BinOp.sub IntKind.i64 n41 1) fun n42 => I3 n8 n9 n10 a4 n18 n20 n21 n14 n15 l3 n40 n42 h16)
                                                                        h15)
                                                                  h9) ∧
                                                              ∀ (h17 : Hp) (n43 n44 n45 : Int) (a13 : AV),
                                                                a13.sc = true →
                                                                  ∀ (n46 n47 n48 n49 n50 : Int) (l10 : List Nat) (n51 n52 : Int),
                                                                    I3 n43 n44 n45 a13 n46 n47 n48 n49 n50 l10 n51 n52 h17 →
                                                                      onO (rdH h17 p1 2 1) fun l11 =>
                                                                        onL [Kd.int IntKind.i64] l11 fun n53 =>
                                                                          onB (!decide (n53 = 0))
                                                                            (onO (rdH h17 p1 2 1) fun l12 =>
                                                                              onL [Kd.int IntKind.i64] l12 fun n54 =>
                                                                                Post
                                                                                  (AV.tup
                                                                                    [AV.agg
                                                                                        [AV.i IntKind.i64 0, AV.i IntKind.i64 0, AV.i IntKind.i64 0, AV.ns, AV.i IntKind.i64 0, AV.i IntKind.i64 0,
                                                                                          AV.i IntKind.i64 0, AV.i IntKind.i64 0, AV.i IntKind.i64 0, AV.s [], AV.i IntKind.i64 0, AV.i IntKind.i64 0],
                                                                                      AV.i IntKind.i64 0, AV.i IntKind.i64 n54])
                                                                                  h17)
                                                                            (onO (lenV a13) fun p3 =>
                                                                              ∃ I5 : Int → Int → Int → AV → Int → Int → Int → Int → Int → List Nat → Int → Int → Hp → Prop,
                                                                                onB (decide (n44 < ↑p3))
                                                                                    (onO (idxV a13 n44 1) fun r0 =>
                                                                                      onO (rdH h17 r0.fst r0.snd 1) fun l13 =>
                                                                                        onL [Kd.int IntKind.i64] l13 fun n55 =>
                                                                                          onO (intO BinOp.add IntKind.i64 n55 1) fun n56 => I5 n43 n44 n56 a13 n46 n47 n48 n49 n50 l10 n51 n52 h17)
                                                                                    (I5 n43 n44 n45 a13 n46 n47 n48 n49 n50 l10 n51 n52 h17) ∧
                                                                                  ∀ (h18 : Hp) (n57 n58 n59 : Int) (a14 : AV),
                                                                                    a14.sc = true →
                                                                                      ∀ (n60 n61 n62 n63 n64 : Int) (l14 : List Nat) (n65 n66 : Int),
                                                                                        I5 n57 n58 n59 a14 n60 n61 n62 n63 n64 l14 n65 n66 h18 →
                                                                                          wpC Try.prog 38
                                                                                            [AV.agg
                                                                                                [AV.i IntKind.i64 n57, AV.i IntKind.i64 n58, AV.i IntKind.i64 n59, a14, AV.i IntKind.i64 n60,
                                                                                                  AV.i IntKind.i64 n61, AV.i IntKind.i64 n62, AV.i IntKind.i64 n63, AV.i IntKind.i64 n64, AV.s l14,
                                                                                                  AV.i IntKind.i64 n65, AV.i IntKind.i64 n66]]
                                                                                            (fun a15 h19 =>
                                                                                              onRet [Sh.one Kd.bool] a15 fun c1 =>
                                                                                                onB (!c1)
                                                                                                  (Post
                                                                                                    (AV.tup
                                                                                                      [AV.agg
                                                                                                          [AV.i IntKind.i64 0, AV.i IntKind.i64 0, AV.i IntKind.i64 0, AV.ns, AV.i IntKind.i64 0,
                                                                                                            AV.i IntKind.i64 0, AV.i IntKind.i64 0, AV.i IntKind.i64 0, AV.i IntKind.i64 0, AV.s [],
                                                                                                            AV.i IntKind.i64 0, AV.i IntKind.i64 0],
                                                                                                        AV.i IntKind.i64 0, AV.i IntKind.i64 1])
                                                                                                    h19)
                                                                                                  (onO (rdH h19 p1 1 1) fun l15 =>
                                                                                                    onL [Kd.int IntKind.i64] l15 fun n67 =>
                                                                                                      Post
                                                                                                        (AV.tup
                                                                                                          [AV.agg
                                                                                                              [AV.i IntKind.i64 n57, AV.i IntKind.i64 n58, AV.i IntKind.i64 n59, a14,
                                                                                                                AV.i IntKind.i64 n60, AV.i IntKind.i64 n61, AV.i IntKind.i64 n62, AV.i IntKind.i64 n63,
                                                                                                                AV.i IntKind.i64 n64, AV.s l14, AV.i IntKind.i64 n65, AV.i IntKind.i64 n66],
                                                                                                            AV.i IntKind.i64 n67, AV.i IntKind.i64 0])
                                                                                                        h19))
                                                                                            h18))
                                                      h8)
                                h4)
        (h.put p1 [a, AV.i IntKind.i64 0, AV.i IntKind.i64 0])) := by kernel_rfl
/- arras/arrasref10.Parse -/
theorem vc10 (a : AV) (h : Hp) (Post : AV → Hp → Prop) : vcCall Try.prog [9000054,
 17000076,
 20999999,
 29000121,
 39000178] 10 [(SV.vv a)] h Post = (
  ∀ (p0 : Nat),
  onO (lenV a) fun p1 =>
    onB (decide ((↑p1 : Int) < 4)) (Post (AV.tup [AV.agg [AV.i IntKind.i64 0, AV.i IntKind.i64 0, AV.i IntKind.i64 0, AV.ns, AV.ns], AV.i IntKind.i64 7]) h)
      (onO (slV a (some 4) none none 1) fun a0 =>
        wpC Try.prog 22 [AV.i IntKind.u32 0, a0]
          (fun a1 h0 =>
            onRet [Sh.one (Kd.int IntKind.u32)] a1 fun n0 =>
              ∃ I0 : Bool → Hp → Prop,
                (onO (idxV a 0 1) fun r0 =>
                    onO (rdH h0 r0.fst r0.snd 1) fun l0 =>
                      onL [Kd.int IntKind.u8] l0 fun n1 =>
                        onO (shO BinOp.shr IntKind.u32 n0 24) fun n2 =>
                          onO (wrO IntKind.u8 n2) fun n3 =>
                            onB (!decide (n1 = n3)) (I0 true h0)
                              (onO (idxV a 1 1) fun r1 =>
                                onO (rdH h0 r1.fst r1.snd 1) fun l1 =>
                                  onL [Kd.int IntKind.u8] l1 fun n4 =>
                                    onO (shO BinOp.shr IntKind.u32 n0 16) fun n5 =>
                                      onO (wrO IntKind.u8 n5) fun n6 =>
                                        onB (!decide (n4 = n6)) (I0 true h0)
                                          (onO (idxV a 2 1) fun r2 =>
                                            onO (rdH h0 r2.fst r2.snd 1) fun l2 =>
                                              onL [Kd.int IntKind.u8] l2 fun n7 =>
                                                onO (shO BinOp.shr IntKind.u32 n0 8) fun n8 =>
                                                  onO (wrO IntKind.u8 n8) fun n9 =>
                                                    onB (!decide (n7 = n9)) (I0 true h0)
                                                      (onO (idxV a 3 1) fun r3 =>
                                                        onO (rdH h0 r3.fst r3.snd 1) fun l3 =>
                                                          onL [Kd.int IntKind.u8] l3 fun n10 => onO (wrO IntKind.u8 n0) fun n11 => I0 (!decide (n10 = n11)) h0)))) ∧
                  ∀ (h1 : Hp) (c0 : Bool),
                    I0 c0 h1 →
                      onB c0 (Post (AV.tup [AV.agg [AV.i IntKind.i64 0, AV.i IntKind.i64 0, AV.i IntKind.i64 0, AV.ns, AV.ns], AV.i IntKind.i64 8]) h1)
                        (onO (slV a (some 4) none none 1) fun a2 =>
                          ∀ (p2 : Nat),
                            h1.g p2 = none →
                              h1.lo.le p2 →
                                wpC Try.prog 28 [AV.p p2 0]
                                  (fun a3 h2 =>
                                    onRet [Sh.one (Kd.int IntKind.i64)] a3 fun n12 =>
                                      wpC Try.prog 28 [AV.p p2 0]
                                        (fun a4 h3 =>
                                          onRet [Sh.one (Kd.int IntKind.i64)] a4 fun n13 =>
                                            wpC Try.prog 28 [AV.p p2 0]
                                              (fun a5 h4 =>
                                                onRet [Sh.one (Kd.int IntKind.i64)] a5 fun n14 =>
                                                  ∀ (p3 : Nat),
                                                    ∃ I1 : Bool → Hp → Prop,
                                                      (onO (rdH h4 p2 2 1) fun l4 => onL [Kd.int IntKind.i64] l4 fun n15 => onB (decide (n15 = 0)) (I1 (decide (n14 = 1)) h4) (I1 false h4)) ∧
                                                        ∀ (h5 : Hp) (c1 : Bool),
                                                          I1 c1 h5 →
                                                            ∃ I2 : Int → Int → Int → AV → AV → Hp → Prop,
                                                              onB c1
                                                                  (onO (rdH h5 p2 0 1) fun l5 =>
                                                                    onL [Kd.ref] l5 fun a6 =>
                                                                      onO (rdH h5 p2 1 1) fun l6 =>
                                                                        onL [Kd.int IntKind.i64] l6 fun n16 =>
                                                                          onO (slV a6 (some n16) none none 1) fun a7 =>
                                                                            wpC Try.prog 29 [a7]
                                                                              (fun a8 h6 =>
                                                                                onTup [Sh.one Kd.ref, Sh.one (Kd.int IntKind.i64), Sh.one (Kd.int IntKind.i64)] a8 fun a9 n17 n18 =>
                                                                                  onO (rdH h6 p2 1 1) fun l7 =>
                                                                                    onL [Kd.int IntKind.i64] l7 fun n19 =>
                                                                                      onO (intO BinOp.add IntKind.i64 n19 n17) fun n20 =>
                                                                                        wpE (Eff.w p2 1 (Src.lit [AV.i IntKind.i64 n20]) none)
                                                                                          (fun x0 h7 =>
                                                                                            wpE (Eff.w p2 2 (Src.lit [AV.i IntKind.i64 n18]) none) (fun x1 h8 => I2 n12 n13 n14 a9 AV.ns h8) h7)
                                                                                          h6)
                                                                              h5)
                                                                  (wpC Try.prog 28 [AV.p p2 0]
                                                                    (fun a10 h9 =>
                                                                      onRet [Sh.one (Kd.int IntKind.i64)] a10 fun n21 =>
                                                                        ∃ I3 : Nat → Int → Int → Int → Int → AV → AV → Hp → Prop,
                                                                          (∃ p4, I3 p4 0 n12 n13 n14 AV.ns AV.ns h9) ∧
                                                                            ∀ (p5 : Nat) (h10 : Hp) (n22 n23 n24 n25 : Int) (a11 : AV),
                                                                              a11.sc = true →
                                                                                ∀ (a12 : AV),
                                                                                  a12.sc = true →
                                                                                    I3 p5 n22 n23 n24 n25 a11 a12 h10 →
                                                                                      ∃ I4 : Bool → Hp → Prop,
                                                                                        onB (decide (n22 < n21))
                                                                                            (onB (decide (n22 ≤ 8))
                                                                                              (onO (rdH h10 p2 2 1) fun l8 => onL [Kd.int IntKind.i64] l8 fun n26 => I4 (decide (n26 = 0)) h10)
                                                                                              (I4 false h10))
                                                                                            (I4 false h10) ∧
                                                                                          ∀ (h11 : Hp) (c2 : Bool),
                                                                                            I4 c2 h11 →
                                                                                              onB c2
                                                                                                (onO (rdH h11 p2 0 1) fun l9 =>
                                                                                                  onL [Kd.ref] l9 fun a13 =>
                                                                                                    onO (rdH h11 p2 1 1) fun l10 =>
                                                                                                      onL [Kd.int IntKind.i64] l10 fun n27 =>
                                                                                                        onO (slV a13 (some n27) none none 1) fun a14 =>
                                                                                                          wpC Try.prog 30 [a14]
                                                                                                            (fun a15 h12 =>
                                                                                                              onTup
                                                                                                                [Sh.agg
                                                                                                                    [Kd.int IntKind.i64, Kd.int IntKind.i64, Kd.int IntKind.i64, Kd.ref,
                                                                                                                      Kd.int IntKind.i64, Kd.int IntKind.i64, Kd.int IntKind.i64, Kd.int IntKind.i64,
                                                                                                                      Kd.int IntKind.i64, Kd.str, Kd.int IntKind.i64, Kd.int IntKind.i64],
                                                                                                                  Sh.one (Kd.int IntKind.i64), Sh.one (Kd.int IntKind.i64)]
                                                                                                                a15 fun n28 n29 n30 a16 n31 n32 n33 n34 n35 l11 n36 n37 n38 n39 =>
                                                                                                                ∀ (p6 p7 : Nat),
                                                                                                                  wpE
                                                                                                                    (Eff.app a12 1
                                                                                                                      (Src.lit
                                                                                                                        [AV.i IntKind.i64 n28, AV.i IntKind.i64 n29, AV.i IntKind.i64 n30, a16,
                                                                                                                          AV.i IntKind.i64 n31, AV.i IntKind.i64 n32, AV.i IntKind.i64 n33,
                                                                                                                          AV.i IntKind.i64 n34, AV.i IntKind.i64 n35, AV.s l11, AV.i IntKind.i64 n36,
                                                                                                                          AV.i IntKind.i64 n37])
                                                                                                                      12)
                                                                                                                    (fun x2 h13 =>
                                                                                                                      onO x2 fun a17 =>
                                                                                                                        onO (rdH h13 p2 1 1) fun l12 =>
                                                                                                                          onL [Kd.int IntKind.i64] l12 fun n40 =>
                                                                                                                            onO (intO BinOp.add IntKind.i64 n40 n38) fun n41 =>
                                                                                                                              wpE (Eff.w p2 1 (Src.lit [AV.i IntKind.i64 n41]) none)
                                                                                                                                (fun x3 h14 =>
                                                                                                                                  wpE (Eff.w p2 2 (Src.lit [AV.i IntKind.i64 n39]) none)
                                                                                                                                    (fun x4 h15 =>
                                                                                                                                      onO (intO BinOp.add IntKind.i64 n22 1) fun n42 =>
                                                                                                                                        ∃ p8, ltN p8 p5 ∧ I3 p8 n42 n23 n24 n25 a11 a17 h15)
                                                                                                                                    h14)
                                                                                                                                h13)
                                                                                                                    h12)
                                                                                                            h11)
                                                                                                (I2 n23 n24 n25 a11 a12 h11))
                                                                    h5) ∧
                                                                ∀ (h16 : Hp) (n43 n44 n45 : Int) (a18 : AV),
                                                                  a18.sc = true →
                                                                    ∀ (a19 : AV),
                                                                      a19.sc = true →
                                                                        I2 n43 n44 n45 a18 a19 h16 →
                                                                          ∃ I5 : Bool → Hp → Prop,
                                                                            (onO (rdH h16 p2 2 1) fun l13 =>
                                                                                onL [Kd.int IntKind.i64] l13 fun n46 =>
                                                                                  onB (!decide (n46 = 0)) (I5 true h16)
                                                                                    (onO (rdH h16 p2 1 1) fun l14 =>
                                                                                      onL [Kd.int IntKind.i64] l14 fun n47 =>
                                                                                        onO (rdH h16 p2 0 1) fun l15 =>
                                                                                          onL [Kd.ref] l15 fun a20 =>
                                                                                            onO (lenV a20) fun p9 =>
                                                                                              onB (!decide (n47 = ↑p9)) (I5 true h16)
                                                                                                (wpC Try.prog 17 [AV.agg [AV.i IntKind.i64 n43, AV.i IntKind.i64 n44, AV.i IntKind.i64 n45, a18, a19]]
                                                                                                  (fun a21 h17 => onRet [Sh.one Kd.bool] a21 fun c3 => I5 (!c3) h17) h16))) ∧
                                                                              ∀ (h18 : Hp) (c4 : Bool),
                                                                                I5 c4 h18 →
                                                                                  onB c4
                                                                                    (Post
                                                                                      (AV.tup [AV.agg [AV.i IntKind.i64 0, AV.i IntKind.i64 0, AV.i IntKind.i64 0, AV.ns, AV.ns], AV.i IntKind.i64 1])
                                                                                      h18)
                                                                                    (Post
                                                                                      (AV.tup [AV.agg [AV.i IntKind.i64 n43, AV.i IntKind.i64 n44, AV.i IntKind.i64 n45, a18, a19], AV.i IntKind.i64 0])
                                                                                      h18))
                                              h3)
                                        h2)
                                  (h1.put p2 [a2, AV.i IntKind.i64 0, AV.i IntKind.i64 0])))
          h)) := by kernel_rfl
/- arras/arraslaw11.FrameParses -/
theorem vc3 (a : AV) (h : Hp) (Post : AV → Hp → Prop) : vcCall Try.prog [5000019,
 21000043,
 24999999] 3 [(SV.vv a)] h Post = (
  ∃ I0 : Nat → Bool → Int → Hp → Prop,
  (∃ p0, I0 p0 false 0 h) ∧
    ∀ (p1 : Nat) (h0 : Hp) (c0 : Bool) (n0 : Int),
      I0 p1 c0 n0 h0 →
        ∃ I1 : Bool → Hp → Prop,
          (onO (lenV a) fun p2 => onB (decide (n0 < ↑p2)) (I1 (decide (n0 < 8)) h0) (I1 false h0)) ∧
            ∀ (h1 : Hp) (c1 : Bool),
              I1 c1 h1 →
                onB c1
                  (onO (idxV a n0 6) fun r0 =>
                    onO (rdH h1 r0.fst r0.snd 6) fun l0 =>
                      onL [Kd.int IntKind.i64, Kd.int IntKind.i64, Kd.int IntKind.i64, Kd.ref, Kd.ref, Kd.ref] l0 fun n1 n2 n3 a0 a1 a2 =>
                        wpC Try.prog 6 [AV.agg [AV.i IntKind.i64 n1, AV.i IntKind.i64 n2, AV.i IntKind.i64 n3, a0, a1, a2]]
                          (fun a3 h2 =>
                            onRet [Sh.one Kd.bool] a3 fun c2 =>
                              onB c2 (Post (AV.b true) h2)
                                (∃ I2 : Nat → Bool → Int → Hp → Prop,
                                  (∃ p3, I2 p3 c0 0 h2) ∧
                                    ∀ (p4 : Nat) (h3 : Hp) (c3 : Bool) (n4 : Int),
                                      I2 p4 c3 n4 h3 →
                                        onB (decide (n4 < 2))
                                          (onO (idxV a n0 6) fun r1 =>
                                            onO (rdH h3 r1.fst (r1.snd + 5) 1) fun l1 =>
                                              onL [Kd.ref] l1 fun a4 =>
                                                wpC Try.prog 7 [a4]
                                                  (fun a5 h4 =>
                                                    onRet [Sh.one Kd.ref] a5 fun a6 =>
                                                      ∃ I3 : Bool → Hp → Prop,
                                                        onB (decide (n4 = 1)) (onO (lenV a6) fun p5 => I3 (decide ((4 : Int) ≤ ↑p5)) h4) (I3 false h4) ∧
                                                          ∀ (h5 : Hp) (c4 : Bool),
                                                            I3 c4 h5 →
                                                              ∃ I4 : Hp → Prop,
                                                                onB c4
                                                                    (onO (slV a6 (some 4) none none 1) fun a7 =>
                                                                      wpC Try.prog 8 [a7]
                                                                        (fun a8 h6 =>
                                                                          onRet [Sh.one (Kd.int IntKind.u32)] a8 fun n5 =>
                                                                            onO (shO BinOp.shr IntKind.u32 n5 24) fun n6 =>
                                                                              onO (wrO IntKind.u8 n6) fun n7 =>
                                                                                onO (shO BinOp.shr IntKind.u32 n5 16) fun n8 =>
                                                                                  onO (wrO IntKind.u8 n8) fun n9 =>
                                                                                    onO (shO BinOp.shr IntKind.u32 n5 8) fun n10 =>
                                                                                      onO (wrO IntKind.u8 n10) fun n11 =>
                                                                                        onO (wrO IntKind.u8 n5) fun n12 =>
                                                                                          onO (idxV a6 0 1) fun r2 =>
                                                                                            wpE (Eff.w r2.fst r2.snd (Src.lit [AV.i IntKind.u8 n7]) none)
                                                                                              (fun x0 h7 =>
                                                                                                onO (idxV a6 1 1) fun r3 =>
                                                                                                  wpE (Eff.w r3.fst r3.snd (Src.lit [AV.i IntKind.u8 n9]) none)
                                                                                                    (fun x1 h8 =>
                                                                                                      onO (idxV a6 2 1) fun r4 =>
                                                                                                        wpE (Eff.w r4.fst r4.snd (Src.lit [AV.i IntKind.u8 n11]) none)
                                                                                                          (fun x2 h9 =>
                                                                                                            onO (idxV a6 3 1) fun r5 =>
                                                                                                              wpE (Eff.w r5.fst r5.snd (Src.lit [AV.i IntKind.u8 n12]) none) (fun x3 h10 => I4 h10) h9)
                                                                                                          h8)
                                                                                                    h7)
                                                                                              h6)
                                                                        h5)
                                                                    (I4 h5) ∧
                                                                  ∀ (h11 : Hp),
                                                                    I4 h11 →
                                                                      wpC Try.prog 7 [a6]
                                                                        (fun a9 h12 =>
                                                                          onRet [Sh.one Kd.ref] a9 fun a10 =>
                                                                            wpC Try.prog 9 [a10]
                                                                              (fun a11 h13 =>
                                                                                onTup [Sh.agg [Kd.int IntKind.i64, Kd.int IntKind.i64, Kd.int IntKind.i64, Kd.ref, Kd.ref], Sh.one (Kd.int IntKind.i64)]
                                                                                  a11 fun n13 n14 n15 a12 a13 n16 =>
                                                                                  ∀ (p6 : Nat),
                                                                                    wpC Try.prog 10 [a6]
                                                                                      (fun a14 h14 =>
                                                                                        onTup
                                                                                          [Sh.agg [Kd.int IntKind.i64, Kd.int IntKind.i64, Kd.int IntKind.i64, Kd.ref, Kd.ref],
                                                                                            Sh.one (Kd.int IntKind.i64)]
                                                                                          a14 fun n17 n18 n19 a15 a16 n20 =>
                                                                                          ∀ (p7 : Nat),
                                                                                            wpC Try.prog 11 [AV.i IntKind.i64 n16]
                                                                                              (fun a17 h15 =>
                                                                                                onRet [Sh.one (Kd.int IntKind.i64)] a17 fun n21 =>
                                                                                                  onB (!decide (n21 = n20)) (Post (AV.b false) h15)
                                                                                                    (wpC Try.prog 12
                                                                                                      [AV.agg [AV.i IntKind.i64 n13, AV.i IntKind.i64 n14, AV.i IntKind.i64 n15, a12, a13],
                                                                                                        AV.agg [AV.i IntKind.i64 n17, AV.i IntKind.i64 n18, AV.i IntKind.i64 n19, a15, a16]]
                                                                                                      (fun a18 h16 =>
                                                                                                        onRet [Sh.one Kd.bool] a18 fun c5 =>
                                                                                                          onB (!c5) (Post (AV.b false) h16)
                                                                                                            (wpC Try.prog 13 [a10, a6]
                                                                                                              (fun a19 h17 =>
                                                                                                                onRet [Sh.one Kd.bool] a19 fun c6 =>
                                                                                                                  onB (!c6) (Post (AV.b false) h17)
                                                                                                                    (wpC Try.prog 14
                                                                                                                      [AV.agg
                                                                                                                          [AV.i IntKind.i64 n13, AV.i IntKind.i64 n14, AV.i IntKind.i64 n15, a12, a13]]
                                                                                                                      (fun a20 h18 =>
                                                                                                                        onTup [] a20
                                                                                                                          (onO (intO BinOp.add IntKind.i64 n4 1) fun n22 =>
                                                                                                                            ∃ p8, ltN p8 p4 ∧ I2 p8 c3 n22 h18))
                                                                                                                      h17))
                                                                                                              h16))
                                                                                                      h15))
                                                                                              h14)
                                                                                      h13)
                                                                              h12)
                                                                        h11)
                                                  h3)
                                          (onO (intO BinOp.add IntKind.i64 n0 1) fun n23 => ∃ p9, ltN p9 p1 ∧ I0 p9 c3 n23 h3)))
                          h1)
                  (wpC Try.prog 15 [] (fun a21 h19 => onRet [Sh.one Kd.bool] a21 fun c7 => Post (AV.b c7) h19) h1)) := by kernel_rfl
theorem shl7u {c i : Nat} (hc : c < 128) (hi : i ≤ 8) : shO .shl .u64 (c : Int) ((7 * i : Nat) : Int) = some ((c * 2 ^ (7 * i) : Nat) : Int) := by
  unfold shO
  have hb : Nat.ble (7 * i) 64 = true := Nat.ble_eq_true_of_le (by omega)
  have e : shiftA .shl .u64 (c : Int) ((7 * i : Nat) : Int) = some (.i .u64 (wrapA .u64 (Int.mul (c : Int) (.ofNat (Nat.pow 2 (cond (Nat.ble (7 * i) 64) (7 * i) 64)))))) := rfl
  rw [e, hb, cond_true]
  have h1 := mul_lt128 hc (pow7 hi)
  have h2 : Int.mul (c : Int) (.ofNat (Nat.pow 2 (7 * i))) = ((c * 2 ^ (7 * i) : Nat) : Int) := by
    rw [Int.natCast_mul]; rfl
  rw [h2, wrap_mod rfl]
  show some (((c * 2 ^ (7 * i) : Nat) : Int) % 18446744073709551616) = _
  congr 1; omega
theorem or64u {a c i : Nat} (ha : a < 2 ^ (7 * i)) (hc : c < 128) (hi : i ≤ 8) : intO .or .u64 (a : Int) ((c * 2 ^ (7 * i) : Nat) : Int) = some ((a + c * 2 ^ (7 * i) : Nat) : Int) := by
  have h1 := mul_lt128 hc (pow7 hi)
  have h0 := pow7 hi
  unfold intO
  have e : intA .or .u64 (a : Int) ((c * 2 ^ (7 * i) : Nat) : Int) = some (.i .u64 (wrapA .u64 (.ofNat (Nat.lor a (c * 2 ^ (7 * i)))))) := by
    show (cond (Nat.blt a 18446744073709551616 && Nat.blt (c * 2 ^ (7 * i)) 18446744073709551616) _ none : Option AV) = _
    rw [blt_of (by omega), blt_of (by omega)]; rfl
  rw [e]
  have h2 : Nat.lor a (c * 2 ^ (7 * i)) = a + c * 2 ^ (7 * i) := by
    have := Nat.two_pow_add_eq_or_of_lt ha c
    show a ||| (c * 2 ^ (7 * i)) = _
    rw [Nat.or_comm, Nat.mul_comm c, ← this]; omega
  rw [h2]
  have hs : a + c * 2 ^ (7 * i) < 9223372036854775808 := by
    have : a + c * 2 ^ (7 * i) < 72057594037927936 + 9151314442816847872 := by omega
    omega
  show some (wrapA .u64 ((a + c * 2 ^ (7 * i) : Nat) : Int)) = _
  rw [wrap_mod rfl]
  show some (((a + c * 2 ^ (7 * i) : Nat) : Int) % 18446744073709551616) = _
  congr 1; omega
theorem wru64n {n : Nat} (h : n < 18446744073709551616) : wrO .u64 (n : Int) = some (n : Int) := by rw [wru64]; congr 1; omega
section
variable {g h : Hp} {a b c : AV} {l m : List Nat} {Post : AV → Hp → Prop}
theorem c53 (r : BR h a l) (hb : l.length < 1000000) (k : Post (.tup [.i .i64 (tkN l).1, .i .i64 ((tkN l).2.1 : Nat), .i .i64 (tkN l).2.2]) h) : wpC Try.prog 53 [a] Post h := by
  refine call_sound (args := [.vv a]) (cuts := []) ⟨r.sc, trivial⟩ ?_
  rw [vc53]
  refine ⟨fun q n0 _ _ _ n1 h' => h' = h ∧ ∃ i acc : Nat, n1 = i ∧ n0 = acc ∧ i ≤ l.length ∧ i ≤ 8 ∧ q = l.length - i ∧ acc < 2 ^ (7 * i) ∧ tkN l = tkF (l.drop i) i acc, ⟨l.length, rfl, 0, 0, rfl, rfl, by omega, by omega, rfl, by simp, rfl⟩, ?_⟩
  rintro q h0 _ _ _ _ _ ⟨rfl, i, acc, rfl, rfl, hi, hi8, rfl, hacc, hp⟩
  refine onO.mk r.len (onB.dec (fun e => ?_) (fun e => ?_))
  · have : i = l.length := by omega
    rw [hp, this, List.drop_length] at k
    exact k
  · obtain ⟨x, hx⟩ := get_lt (l := l) (k := i) (by omega)
    have hx8 := byte_lt r (List.mem_of_getElem? hx)
    rw [drop_of hx] at hp
    unfold tkF at hp
    have hm7 : intO .mul .i64 7 (i : Int) = some ((7 * i : Nat) : Int) := by rw [mul64 (by omega) (by omega)]; rfl
    have hc := Nat.mod_lt x (show 128 > 0 by omega)
    have hp0 := pow7 hi8
    have hlt := mul_lt128 hc hp0
    refine byte0 r hx (onO.mk (and127 hx8) (onO.mk (wru64n (by omega)) (onO.mk hm7 (onO.mk (shl7u hc hi8) (onO.mk (or64u hacc hc hi8) (onB.dec (fun e1 => ?_) (fun e1 => ?_)))))))
    · refine onB.dec (fun e2 => ?_) (fun e2 => ?_)
      · rw [if_pos ⟨by omega, by omega⟩] at hp
        rw [hp] at k; exact k
      · rw [if_neg (by omega), if_pos (by omega)] at hp
        refine onO.mk (inc64 (by omega)) ⟨_, by show l.length - (i + 1) < l.length - i; omega, rfl, i + 1, _, rfl, rfl, by omega, by omega, rfl, ?_, hp⟩
        have : 2 ^ (7 * (i + 1)) = 128 * 2 ^ (7 * i) := by rw [Nat.mul_succ, Nat.pow_add]; omega
        have h3 : x % 128 * 2 ^ (7 * i) + 2 ^ (7 * i) ≤ 128 * 2 ^ (7 * i) := by
          rw [← Nat.succ_mul]; exact Nat.mul_le_mul_right _ hc
        omega
    · rw [if_neg (by omega), if_neg (by omega)] at hp
      have hx7 : x % 128 = x := by omega
      rw [hx7] at hc hlt ⊢
      have fin : (¬ (x = 0 ∧ 0 < i)) → onB (decide ((4611686018427387904 : Int) < ((acc + x * 2 ^ (7 * i) : Nat) : Int))) (Post (.tup [.i .i64 0, .i .i64 0, .i .i64 1]) h0) (onO (wrO .i64 ((acc + x * 2 ^ (7 * i) : Nat) : Int)) fun m => onO (intO .add .i64 (i : Int) 1) fun n => Post (.tup [.i .i64 m, .i .i64 n, .i .i64 0]) h0) := fun hz => by
        refine onB.dec (fun e3 => ?_) (fun e3 => ?_)
        · rw [if_pos (.inr (by omega))] at hp
          rw [hp] at k; exact k
        · rw [if_neg (by omega)] at hp
          rw [hp] at k
          exact onO.mk (wr64 (by omega) (by omega)) (onO.mk (inc64 (by omega)) k)
      refine onB.dec (fun e2 => onB.dec (fun e3 => ?_) (fun e3 => fin (by omega))) (fun e2 => fin (by omega))
      rw [if_pos (.inl ⟨by omega, by omega⟩)] at hp
      rw [hp] at k; exact k
theorem c54 (r : BR h a l) (hb : l.length < 1000000) (k : ∀ r' h', Kn.int.Own h h' r' (tkNs l).1 → Post (.tup [r', .i .i64 ((tkNs l).2.1 : Nat), .i .i64 (tkNs l).2.2]) h') : wpC Try.prog 54 [a] Post h := by
  refine call_sound (args := [.vv a]) (cuts := []) ⟨r.sc, trivial⟩ ?_
  rw [vc54]
  have hn := tkN_num l
  have hnl := tkN_len l
  unfold tkNs at k
  refine c53 r hb (onTup.iii' (onB.ndec (fun e => ?_) (fun e => onB.dec (fun e1 => ?_) (fun e1 => ?_))))
  · rw [if_neg e] at k; exact k _ _ (Kn.Own.nil _ _)
  · rw [if_pos e, if_pos e1] at k; exact k _ _ (Kn.Own.nil _ _)
  · rw [if_pos e, if_neg e1] at k
    obtain ⟨M, hM⟩ := Int.eq_ofNat_of_zero_le hn.1
    rw [hM] at k e1 ⊢
    refine ⟨fun q _ _ _ b kk j h' => ∃ (c : Nat) (acc : List Int) (K : Nat), j = c ∧ kk = K ∧ c ≤ M ∧ q = M - c ∧ K ≤ l.length ∧ acc.length = c ∧ Kn.int.Own h h' b acc ∧ tkNsF M l [] (tkN l).2.1 = tkNsF (M - c) l acc K, ⟨M, 0, [], _, rfl, rfl, by omega, rfl, hnl, rfl, Kn.Own.nil _ _, rfl⟩, ?_⟩
    rintro q h1 _ _ _ _ b _ _ _ ⟨c, acc, K, rfl, rfl, hc, rfl, hK, ha, ow, hp⟩
    refine onB.dec (fun e2 => ?_) (fun e2 => ?_)
    · obtain ⟨d, hd⟩ : ∃ d, M - c = d + 1 := ⟨M - c - 1, by omega⟩
      rw [hd, tkNsF_succ] at hp
      have hn2 := tkN_num (l.drop K)
      have hl2 := tkN_len (l.drop K)
      rw [List.length_drop] at hl2
      refine (r.mono ow.le).from rfl hK fun r2 br2 => c53 br2 (by simp; omega) (onTup.iii' (onB.ndec (fun e3 => ?_) (fun e3 => fun _ => ?_)))
      · rw [if_neg e3] at hp
        have hp : tkNsF ((M : Int)).toNat l [] (tkN l).2.1 = _ := hp
        rw [hp] at k
        exact k _ _ ((Kn.Own.nil _ h1).mono ow.le ow.lo)
      · rw [if_pos e3] at hp
        refine ow.app1 rfl int_flat (x := (tkN (l.drop K)).1) ⟨rfl, by omega, by omega⟩ (by omega) fun r3 h3 o3 => onO.mk rfl (onO.mk (add64 (by omega) (by omega)) (onO.mk (inc64 (by omega)) ⟨_, by show M - (c + 1) < M - c; omega, c + 1, _, K + (tkN (l.drop K)).2.1, rfl, by omega, by omega, rfl, by omega, by simp [ha], o3, ?_⟩))
        rw [show M - (c + 1) = d by omega]; exact hp
    · have : c = M := by omega
      subst this
      rw [Nat.sub_self] at hp
      have hp : tkNsF ((c : Int)).toNat l [] (tkN l).2.1 = (acc, K, 0) := hp
      rw [hp] at k
      exact k _ _ ow
theorem c56 (r : BR h a l) (hb : l.length < 1000000) (k : Post (.tup [.s (tkT l).1, .i .i64 ((tkT l).2.1 : Nat), .i .i64 (tkT l).2.2]) h) : wpC Try.prog 56 [a] Post h := by
  refine call_sound (args := [.vv a]) (cuts := []) ⟨r.sc, trivial⟩ ?_
  rw [vc56]
  have hn := tkN_num l
  have hnl := tkN_len l
  unfold tkT at k
  refine c53 r hb (onTup.iii' (onB.ndec (fun e => ?_) (fun e => onB.dec (fun e1 => ?_) (fun e1 => onO.mk r.len (onO.mk (sub64 (by omega) (by omega)) (onB.dec (fun e2 => ?_) (fun e2 => ?_)))))))
  · rw [if_neg e] at k; exact k
  · rw [if_pos e, if_pos e1] at k; exact k
  · rw [if_pos e, if_neg e1, if_pos e2] at k; exact k
  · rw [if_pos e, if_neg e1, if_neg e2] at k
    obtain ⟨M, hM⟩ := Int.eq_ofNat_of_zero_le hn.1
    rw [hM] at k e2 e1 ⊢
    have hadd : intO .add .i64 (((tkN l).2.1 : Nat) : Int) (M : Int) = some (((tkN l).2.1 + M : Nat) : Int) := by rw [add64 (by omega) (by omega)]; rfl
    obtain ⟨r', e3, e4⟩ := r.cut (lo := some (((tkN l).2.1 : Nat) : Int)) (hi := some (((tkN l).2.1 + M : Nat) : Int)) (sz := 1) rfl rfl rfl (by omega) (by omega)
    rw [Nat.add_sub_cancel_left] at e4
    obtain ⟨b, o, n, e5⟩ := strAt_row e4
    exact onO.mk hadd (onO.mk e3 (onO.mk e5 (onO.mk hadd k)))
theorem c72 (r : BR h a l) (hb : l.length < 1000000) (k : Post (.tup [.agg [.i .i64 (tkS l).1.time, .i .i64 (tkS l).1.rep], .i .i64 ((tkS l).2.1 : Nat), .i .i64 (tkS l).2.2]) h) : wpC Try.prog 72 [a] Post h := by
  refine call_sound (args := [.vv a]) (cuts := []) ⟨r.sc, trivial⟩ ?_
  rw [vc72]
  have hnl := tkN_len l
  have hn2 := tkN_len (l.drop (tkN l).2.1)
  rw [List.length_drop] at hn2
  unfold tkS at k
  refine fun _ => c53 r hb (onTup.iii' (onB.ndec (fun e => ?_) (fun e => r.from rfl hnl fun r2 br2 => c53 br2 (by simp; omega) (onTup.iii' (onB.ndec (fun e1 => ?_) (fun e1 => fun _ => c60 (s := ⟨(tkN l).1, (tkN (l.drop (tkN l).2.1)).1⟩) (onRet.b (onB.not (fun e2 => ?_) (fun e2 => ?_)))))))))
  · rw [if_neg e] at k; exact k
  · rw [if_pos e, if_neg e1] at k; exact k
  · rw [if_pos e, if_pos e1, e2] at k; exact k
  · rw [if_pos e, if_pos e1, if_pos e2] at k
    exact onO.mk (add64 (by omega) (by omega)) k
theorem c8 (r : BR h a l) (hb : l.length < 900000) (k : Post (.i .u32 (crc 0 l : Nat)) h) : wpC Try.prog 8 [a] Post h := by
  refine call_sound (args := [.vv a]) (cuts := []) ⟨r.sc, trivial⟩ ?_
  rw [vc8]
  exact c22 (s := 0) r (by omega) (by omega) (onRet.u32 k)
theorem c29 (r : BR h a l) (hb : l.length < 1000000) (k : ∀ r' h', Kn.int.Own h h' r' (tkV l).1 → Post (.tup [r', .i .i64 ((tkV l).2.1 : Nat), .i .i64 (tkV l).2.2]) h') : wpC Try.prog 29 [a] Post h := by
  refine call_sound (args := [.vv a]) (cuts := []) ⟨r.sc, trivial⟩ ?_
  rw [vc29]
  have hc := tkNs_cnt l
  unfold tkV at k
  refine c54 r hb fun r2 h2 o2 => onTup.rii o2.sc (onB.ndec (fun e => ?_) (fun e => c37 o2.row (by omega) (onRet.b (onB.not (fun e1 => ?_) (fun e1 => ?_)))))
  · rw [if_neg e] at k; exact k _ _ ((Kn.Own.nil _ h2).mono o2.le o2.lo)
  · rw [if_pos e, e1] at k; exact k _ _ ((Kn.Own.nil _ h2).mono o2.le o2.lo)
  · rw [if_pos e, if_pos e1] at k
    rw [e] at k
    have e : (tkNs l).2.2 = 0 := e
    exact k _ _ o2
end
/-- the document's taker: nothing behind an error -/
def numD (l : List Nat) (s : Rd) : Int × Rd := if s.2 = 0 then numR l s else (0, s)
def placeD (l : List Nat) (s : Rd) : D.Stamp × Rd := if s.2 = 0 then placeR l s else (⟨0, 0⟩, s)
theorem numD_len {l : List Nat} {s : Rd} (h : s.1 ≤ l.length) : (numD l s).2.1 ≤ l.length := by
  unfold numD
  split
  · exact numR_len h
  · exact h
theorem placeD_len {l : List Nat} {s : Rd} (h : s.1 ≤ l.length) : (placeD l s).2.1 ≤ l.length := by
  unfold placeD
  split
  · exact placeR_len h
  · exact h
section
variable {G : Hp} {p : Nat} {a : AV} {l : List Nat} {s : Rd} {Post : AV → Hp → Prop}
variable (br : BR G a l) (hlo : G.lo ≤ p) (hp : G.g p = none) (hs : s.1 ≤ l.length) (hb : l.length < 900000)
include br hlo hp hs hb
theorem c28 (k : Post (.i .i64 (numD l s).1) (G.put p (rdC a (numD l s).2))) : wpC Try.prog 28 [.p p 0] Post (G.put p (rdC a s)) := by
  refine call_sound (args := [.vv (.p p 0)]) (cuts := []) ⟨rfl, trivial⟩ ?_
  rw [vc28]
  have hl := tkN_len (l.drop s.1)
  rw [List.length_drop] at hl
  unfold numD numR partR at k
  refine onO.mk (a := (p, 0)) rfl (onO.mk rdc2 (onL.i1 (onB.ndec (fun e1 => ?_) (fun e1 => ?_))))
  · rw [if_neg e1] at k; exact k
  · rw [if_pos e1, if_pos e1] at k
    refine onO.mk (a := (p, 0)) rfl (onO.mk rdc0 (onL.r1 br.sc (onO.mk (a := (p, 0)) rfl (onO.mk rdc1 (onL.i1 ((br.mono (Hp.le_put hp)).from rfl hs fun r' b' => c53 b' (by simp; omega) (onTup.iii' ?_)))))))
    refine onO.mk (a := (p, 0)) rfl (onO.mk rdc1 (onL.i1 (onO.mk (add64 (by omega) (by omega)) (onO.mk (a := (p, 0)) rfl ?_))))
    refine wpE.w (Hp.put_same _ _ _) hlo rfl (by show 0 + 1 + 1 ≤ 3; omega) rfl ?_
    rw [put_put]
    refine onO.mk (a := (p, 0)) rfl (wpE.w (Hp.put_same _ _ _) hlo rfl (by show 0 + 2 + 1 ≤ 3; omega) rfl ?_)
    rw [put_put]
    exact k
theorem c55 (k : Post (.agg [.i .i64 (placeD l s).1.time, .i .i64 (placeD l s).1.rep]) (G.put p (rdC a (placeD l s).2))) : wpC Try.prog 55 [.p p 0] Post (G.put p (rdC a s)) := by
  refine call_sound (args := [.vv (.p p 0)]) (cuts := []) ⟨rfl, trivial⟩ ?_
  rw [vc55]
  have hl := tkS_len (l.drop s.1)
  rw [List.length_drop] at hl
  unfold placeD placeR partR at k
  refine fun _ => onO.mk (a := (p, 0)) rfl (onO.mk rdc2 (onL.i1 (onB.ndec (fun e1 => ?_) (fun e1 => ?_))))
  · rw [if_neg e1] at k; exact k
  · rw [if_pos e1, if_pos e1] at k
    refine onO.mk (a := (p, 0)) rfl (onO.mk rdc0 (onL.r1 br.sc (onO.mk (a := (p, 0)) rfl (onO.mk rdc1 (onL.i1 ((br.mono (Hp.le_put hp)).from rfl hs fun r' b' => c72 b' (by simp; omega) (onTup.aii fun _ => ?_)))))))
    refine onO.mk (a := (p, 0)) rfl (onO.mk rdc1 (onL.i1 (onO.mk (add64 (by omega) (by omega)) (onO.mk (a := (p, 0)) rfl ?_))))
    refine wpE.w (Hp.put_same _ _ _) hlo rfl (by show 0 + 1 + 1 ≤ 3; omega) rfl ?_
    rw [put_put]
    refine onO.mk (a := (p, 0)) rfl (wpE.w (Hp.put_same _ _ _) hlo rfl (by show 0 + 2 + 1 ≤ 3; omega) rfl ?_)
    rw [put_put]
    exact k
end
def vecD (l : List Nat) (s : Rd) : List Int × Rd := if s.2 = 0 then vecR l s else ([], s)
def textD (l : List Nat) (s : Rd) : List Nat × Rd := if s.2 = 0 then textR l s else ([], s)
theorem partR_bad {s : Rd} (h : s.2 ≠ 0) (n : Nat) (e : Int) : partR s n e = s := by unfold partR; rw [if_neg h]
theorem numD_st (l : List Nat) (s : Rd) : (numD l s).2 = (numR l s).2 := by
  unfold numD; split
  · rfl
  · rename_i h; exact (partR_bad h _ _).symm
theorem placeD_st (l : List Nat) (s : Rd) : (placeD l s).2 = (placeR l s).2 := by
  unfold placeD; split
  · rfl
  · rename_i h; exact (partR_bad h _ _).symm
theorem vecD_st (l : List Nat) (s : Rd) : (vecD l s).2 = (vecR l s).2 := by
  unfold vecD; split
  · rfl
  · rename_i h; exact (partR_bad h _ _).symm
theorem textD_st (l : List Nat) (s : Rd) : (textD l s).2 = (textR l s).2 := by
  unfold textD; split
  · rfl
  · rename_i h; exact (partR_bad h _ _).symm
theorem partR_zero {s : Rd} {n : Nat} {e : Int} (h : (partR s n e).2 = 0) : s.2 = 0 := by
  by_cases h' : s.2 = 0
  · exact h'
  · rw [partR_bad h'] at h; exact h
theorem kindR_zero {k : Int} {s : Rd} (h : (kindR k s).2 = 0) : s.2 = 0 ∧ (k = 1 ∨ k = 2) := by
  unfold kindR at h
  split at h
  · exact ⟨h, .inl ‹_›⟩
  split at h
  · exact ⟨h, .inr ‹_›⟩
  · have h0 := partR_zero h
    unfold partR at h; rw [if_pos h0] at h; exact absurd h (by show ¬ ((1 : Int) = 0); decide)
theorem kindR_bad {k : Int} {s : Rd} (h : s.2 ≠ 0) : kindR k s = s := by
  unfold kindR
  split
  · rfl
  split
  · rfl
  · exact partR_bad h _ _
def bodyD (l : List Nat) (st : D.Stamp) (v : List Int) (k : Int) (s : Rd) : D.Op × Rd :=
  if k = 1 then (⟨st, 0, v, k, (placeD l s).1, (placeD l (placeD l s).2).1, (textD l (placeD l (placeD l s).2).2).1, 0, 0⟩, (textD l (placeD l (placeD l s).2).2).2)
  else (⟨st, 0, v, k, (placeD l s).1, ⟨0, 0⟩, [], (numD l (placeD l s).2).1, (numD l (numD l (placeD l s).2).2).1 - 1⟩, (numD l (numD l (placeD l s).2).2).2)
def readD (l : List Nat) : D.Op × Rd :=
  bodyD l (placeD l (0, 0)).1 (vecD l (placeD l (0, 0)).2).1 (numD l (vecD l (placeD l (0, 0)).2).2).1 (kindR (numD l (vecD l (placeD l (0, 0)).2).2).1 (numD l (vecD l (placeD l (0, 0)).2).2).2)
theorem bodyD_ok {l : List Nat} {st : D.Stamp} {v : List Int} {k : Int} {s : Rd} (h : (bodyR l st v k s).2.2 = 0) : bodyD l st v k s = bodyR l st v k s := by
  unfold bodyR at h
  unfold bodyD bodyR
  split at h
  · rename_i hk
    rw [if_pos hk, if_pos hk]
    have h1 : (placeR l (placeR l s).2).2.2 = 0 := partR_zero h
    have h2 : (placeR l s).2.2 = 0 := partR_zero h1
    have h3 : s.2 = 0 := partR_zero h2
    have e1 : placeD l s = placeR l s := by unfold placeD; rw [if_pos h3]
    have e2 : placeD l (placeR l s).2 = placeR l (placeR l s).2 := by unfold placeD; rw [if_pos h2]
    have e3 : textD l (placeR l (placeR l s).2).2 = textR l (placeR l (placeR l s).2).2 := by unfold textD; rw [if_pos h1]
    rw [e1, e2, e3]
  · rename_i hk
    rw [if_neg hk, if_neg hk]
    have h1 : (numR l (placeR l s).2).2.2 = 0 := partR_zero h
    have h2 : (placeR l s).2.2 = 0 := partR_zero h1
    have h3 : s.2 = 0 := partR_zero h2
    have e1 : placeD l s = placeR l s := by unfold placeD; rw [if_pos h3]
    have e2 : numD l (placeR l s).2 = numR l (placeR l s).2 := by unfold numD; rw [if_pos h2]
    have e3 : numD l (numR l (placeR l s).2).2 = numR l (numR l (placeR l s).2).2 := by unfold numD; rw [if_pos h1]
    rw [e1, e2, e3]
theorem bodyR_zero {l : List Nat} {st : D.Stamp} {v : List Int} {k : Int} {s : Rd} (h : (bodyR l st v k s).2.2 = 0) : s.2 = 0 := by
  unfold bodyR at h
  split at h <;> exact partR_zero (partR_zero (partR_zero h))
theorem bodyD_st {l : List Nat} {st : D.Stamp} {v : List Int} {k : Int} {s : Rd} : (bodyD l st v k s).2 = (bodyR l st v k s).2 := by
  unfold bodyR bodyD
  split
  · show (textD _ _).2 = (textR _ _).2
    rw [textD_st, placeD_st, placeD_st]
  · show (numD _ _).2 = (numR _ _).2
    rw [numD_st, numD_st, placeD_st]
theorem bodyR_bad {l : List Nat} {st : D.Stamp} {v : List Int} {k : Int} {s : Rd} (h : s.2 ≠ 0) : (bodyR l st v k s).2 = s := by
  unfold bodyR
  split
  · show (textR _ _).2 = s
    have e1 : (placeR l s).2 = s := partR_bad h _ _
    rw [e1, e1]; exact partR_bad h _ _
  · show (numR _ _).2 = s
    have e1 : (placeR l s).2 = s := partR_bad h _ _
    have e2 : (numR l s).2 = s := partR_bad h _ _
    rw [e1, e2]; exact partR_bad h _ _
/-- the two readers: where ours is not refused, the document's says the same -/
theorem readD_ok {l : List Nat} (h : (readR l).2.2 = 0) : readD l = readR l := by
  have h4 := kindR_zero (bodyR_zero h)
  have h3 : (numR l (vecR l (placeR l (0, 0)).2).2).2.2 = 0 := h4.1
  have h2 : (vecR l (placeR l (0, 0)).2).2.2 = 0 := partR_zero h3
  have h1 : (placeR l (0, 0)).2.2 = 0 := partR_zero h2
  have e0 : placeD l (0, 0) = placeR l (0, 0) := rfl
  have e1 : vecD l (placeR l (0, 0)).2 = vecR l (placeR l (0, 0)).2 := by unfold vecD; rw [if_pos h1]
  have e2 : numD l (vecR l (placeR l (0, 0)).2).2 = numR l (vecR l (placeR l (0, 0)).2).2 := by unfold numD; rw [if_pos h2]
  unfold readD
  rw [e0, e1, e2]
  exact bodyD_ok h
/-- and where ours is refused, the document's is, with the same word -/
theorem readD_bad {l : List Nat} (h : (readR l).2.2 ≠ 0) : (readD l).2.2 = (readR l).2.2 := by
  by_cases h2 : (vecR l (placeR l (0, 0)).2).2.2 = 0
  · have h1 : (placeR l (0, 0)).2.2 = 0 := partR_zero h2
    have e0 : placeD l (0, 0) = placeR l (0, 0) := rfl
    have e1 : vecD l (placeR l (0, 0)).2 = vecR l (placeR l (0, 0)).2 := by unfold vecD; rw [if_pos h1]
    have e2 : numD l (vecR l (placeR l (0, 0)).2).2 = numR l (vecR l (placeR l (0, 0)).2).2 := by unfold numD; rw [if_pos h2]
    unfold readD
    rw [e0, e1, e2, bodyD_st]; rfl
  · have e0 : placeD l (0, 0) = placeR l (0, 0) := rfl
    have e3 : (numR l (vecR l (placeR l (0, 0)).2).2).2 = (vecR l (placeR l (0, 0)).2).2 := partR_bad h2 _ _
    unfold readD readR
    rw [bodyD_st, e0, numD_st, vecD_st, e3, kindR_bad h2, kindR_bad h2, bodyR_bad h2, bodyR_bad h2]
def seqD (o : D.Op) : D.Op := { o with seq := match o.deps[o.stamp.rep.toNat]? with
  | some x => x + 1
  | none => 0 }
def takeD (l : List Nat) : Tk D.Op := if (readD l).2.2 = 0 then (if mayO (seqD (readD l).1) = true then (seqD (readD l).1, (readD l).2.1, 0) else (zeroO, 0, 1)) else (zeroO, 0, (readD l).2.2)
theorem takeD_bad {l : List Nat} (h : (readR l).2.2 ≠ 0) : takeD l = takeO l := by
  have e := readD_bad h
  unfold takeD takeO
  rw [if_neg (by rw [e]; exact h), if_neg h, e]
/-- the document takes what ours takes -/
theorem takeD_eq (l : List Nat) : takeD l = takeO l := by
  by_cases h : (readR l).2.2 = 0
  · have e := readD_ok h
    unfold takeD takeO
    rw [e, if_pos h, if_pos h]
    unfold seqD
    cases hd : (readR l).1.deps[(readR l).1.stamp.rep.toNat]? with
    | some x => rfl
    | none =>
      have hm : mayO { (readR l).1 with seq := 0 } = false := by
        cases hh : mayO { (readR l).1 with seq := 0 } with
        | false => rfl
        | true =>
          unfold mayO at hh
          simp only [Bool.and_eq_true] at hh
          have hs := hh.2.2.2.1
          unfold seqV at hs
          simp only [hd] at hs
          cases hs
      simp only [hm, if_false, Bool.false_eq_true]
  · exact takeD_bad h
theorem vecD_len {l : List Nat} {s : Rd} (h : s.1 ≤ l.length) : (vecD l s).2.1 ≤ l.length := by rw [vecD_st]; exact vecR_len h
section
variable {G : Hp} {p : Nat} {a : AV} {l : List Nat} {Post : AV → Hp → Prop}
/-- the reader goes on by n, with error e, written field by field -/
theorem wr_part {s : Rd} {n : Nat} {e : Int} (hlo : G.lo ≤ p) (hn : s.1 + n < 1000000) (h0 : s.2 = 0) {K : Hp → Prop} (k : K (G.put p (rdC a (partR s n e)))) :
    onO (rdH (G.put p (rdC a s)) p 1 1) fun l2 => onL [Kd.int IntKind.i64] l2 fun n6 => onO (intO BinOp.add IntKind.i64 n6 (n : Nat)) fun n7 =>
      wpE (Eff.w p 1 (Src.lit [AV.i IntKind.i64 n7]) none) (fun x0 h2 => wpE (Eff.w p 2 (Src.lit [AV.i IntKind.i64 e]) none) (fun x1 h3 => K h3) h2) (G.put p (rdC a s)) := by
  unfold partR at k
  rw [if_pos h0] at k
  refine onO.mk rdc1 (onL.i1 (onO.mk (add64 (by omega) (by omega)) ?_))
  refine wpE.w (Hp.put_same _ _ _) hlo rfl (by show 0 + 1 + 1 ≤ 3; omega) rfl ?_
  rw [put_put]
  refine wpE.w (Hp.put_same _ _ _) hlo rfl (by show 0 + 2 + 1 ≤ 3; omega) rfl ?_
  rw [put_put]
  exact k
/-- the row taken, where no error is -/
theorem vec_part {s : Rd} (br : BR G a l) (hlo : G.lo ≤ p) (hp : G.g p = none) (hs : s.1 ≤ l.length) (hb : l.length < 900000) (h0 : s.2 = 0) {K : AV → Hp → Prop}
    (k : ∀ d G', Kn.int.Own G G' d (vecR l s).1 → G'.g p = none → G'.lo = G.lo → K d (G'.put p (rdC a (vecR l s).2))) :
    onO (rdH (G.put p (rdC a s)) p 1 1) fun l1 => onL [Kd.int IntKind.i64] l1 fun n3 => onO (slV a (some n3) none none 1) fun a1 =>
      wpC Try.prog 29 [a1] (fun a2 h1 => onTup [Sh.one Kd.ref, Sh.one (Kd.int IntKind.i64), Sh.one (Kd.int IntKind.i64)] a2 fun a3 n4 n5 =>
        onO (rdH h1 p 1 1) fun l2 => onL [Kd.int IntKind.i64] l2 fun n6 => onO (intO BinOp.add IntKind.i64 n6 n4) fun n7 =>
          wpE (Eff.w p 1 (Src.lit [AV.i IntKind.i64 n7]) none) (fun x0 h2 => wpE (Eff.w p 2 (Src.lit [AV.i IntKind.i64 n5]) none) (fun x1 h3 => K a3 h3) h2) h1) (G.put p (rdC a s)) := by
  have hv := tkV_len (l.drop s.1)
  rw [List.length_drop] at hv
  refine onO.mk rdc1 (onL.i1 ?_)
  obtain ⟨r', e1, b'⟩ := br.cut (lo := some ((s.1 : Nat) : Int)) (hi := none) (sz := 1) rfl rfl rfl hs (Nat.le_refl _)
  rw [List.take_of_length_le (by simp)] at b'
  refine onO.mk e1 ?_
  have w : wpC Try.prog 29 [r'] (fun v G' => ∃ d, v = .tup [d, .i .i64 ((tkV (l.drop s.1)).2.1 : Nat), .i .i64 (tkV (l.drop s.1)).2.2] ∧ Kn.int.Own G G' d (tkV (l.drop s.1)).1) G := c29 b' (by simp; omega) fun d G' o => ⟨d, rfl, o⟩
  refine (wpC.putp hp (rdC a s) w).mono ?_
  rintro _ _ ⟨G', rfl, hp', hlo', d, rfl, ow⟩
  exact onTup.rii ow.sc (wr_part (by rw [hlo']; exact hlo) (by omega) h0 (k _ _ ow hp' hlo'))
/-- the text taken, where no error is -/
theorem text_part {s : Rd} (br : BR G a l) (hlo : G.lo ≤ p) (hp : G.g p = none) (hs : s.1 ≤ l.length) (hb : l.length < 900000) (h0 : s.2 = 0) {K : List Nat → Hp → Prop}
    (k : K (textR l s).1 (G.put p (rdC a (textR l s).2))) :
    onO (rdH (G.put p (rdC a s)) p 1 1) fun l1 => onL [Kd.int IntKind.i64] l1 fun n3 => onO (slV a (some n3) none none 1) fun a1 =>
      wpC Try.prog 56 [a1] (fun a2 h1 => onTup [Sh.one Kd.str, Sh.one (Kd.int IntKind.i64), Sh.one (Kd.int IntKind.i64)] a2 fun a3 n4 n5 =>
        onO (rdH h1 p 1 1) fun l2 => onL [Kd.int IntKind.i64] l2 fun n6 => onO (intO BinOp.add IntKind.i64 n6 n4) fun n7 =>
          wpE (Eff.w p 1 (Src.lit [AV.i IntKind.i64 n7]) none) (fun x0 h2 => wpE (Eff.w p 2 (Src.lit [AV.i IntKind.i64 n5]) none) (fun x1 h3 => K a3 h3) h2) h1) (G.put p (rdC a s)) := by
  have ht := tkT_len (l.drop s.1)
  rw [List.length_drop] at ht
  refine onO.mk rdc1 (onL.i1 ?_)
  exact (br.mono (Hp.le_put hp)).from rfl hs fun r2 b2 => c56 b2 (by simp; omega) (onTup.sii (wr_part hlo (by omega) h0 k))
theorem c30 {h : Hp} (br : BR h a l) (hb : l.length < 900000) (k : ∀ d h', Kn.int.Own h h' d (takeD l).1.deps → Post (.tup [.agg (opC (takeD l).1 d), .i .i64 ((takeD l).2.1 : Nat), .i .i64 (takeD l).2.2]) h') : wpC Try.prog 30 [a] Post h := by
  refine call_sound (args := [.vv a]) (cuts := [10999999, 17000067, 20999999, 30999999, 26999999, 46999999]) ⟨br.sc, trivial⟩ ?_
  rw [vc30]
  intro _ p hp hlo
  have l1 := placeD_len (l := l) (s := (0, 0)) (Nat.zero_le _)
  obtain ⟨st, hst⟩ : ∃ st, st = placeD l (0, 0) := ⟨_, rfl⟩
  obtain ⟨v, hv⟩ : ∃ v, v = vecD l st.2 := ⟨_, rfl⟩
  obtain ⟨kd, hkd⟩ : ∃ kd, kd = numD l v.2 := ⟨_, rfl⟩
  obtain ⟨s3, hs3⟩ : ∃ s3, s3 = kindR kd.1 kd.2 := ⟨_, rfl⟩
  rw [← hst] at l1
  have l2 := vecD_len l1
  rw [← hv] at l2
  have l3 := numD_len l2
  rw [← hkd] at l3
  have l4 := kindR_len (k := kd.1) l3
  rw [← hs3] at l4
  have hrd : readD l = bodyD l st.1 v.1 kd.1 s3 := by unfold readD; rw [← hst, ← hv, ← hkd, ← hs3]
  refine c55 br hlo hp (s := (0, 0)) (Nat.zero_le _) hb (onRet.a2 fun _ => onO.mk rdc2 (onL.i1 ?_))
  rw [← hst]
  refine ⟨fun t r q d k nt nr pt pr ky pv vv h' => t = st.1.time ∧ r = st.1.rep ∧ q = 0 ∧ pt = 0 ∧ pr = 0 ∧ ky = [] ∧ pv = 0 ∧ vv = 0 ∧ ∃ G', h' = G'.put p (rdC a v.2) ∧ Kn.int.Own h G' d v.1 ∧ G'.g p = none ∧ G'.lo = h.lo, onB.dec (fun e => ?_) (fun e => ?_), ?_⟩
  · have e1 : v = vecR l st.2 := by rw [hv]; unfold vecD; rw [if_pos e]
    exact vec_part br hlo hp l1 hb e fun d G' ow hp' hlo' => ⟨rfl, rfl, rfl, rfl, rfl, rfl, rfl, rfl, G', by rw [e1], by rw [e1]; exact ow, hp', hlo'⟩
  · have e1 : v = ([], st.2) := by rw [hv]; unfold vecD; rw [if_neg e]
    exact ⟨rfl, rfl, rfl, rfl, rfl, rfl, rfl, rfl, h, by rw [e1], by rw [e1]; exact Kn.Own.nil _ _, hp, rfl⟩
  rintro _ _ _ _ d scd _ _ _ _ _ _ _ _ ⟨rfl, rfl, rfl, rfl, rfl, rfl, rfl, rfl, G', rfl, ow, hp', hlo'⟩
  have br' := br.mono ow.le
  have hlo2 : G'.lo ≤ p := by rw [hlo']; exact hlo
  refine c28 br' hlo2 hp' l2 hb (onRet.i ?_)
  rw [← hkd]
  refine ⟨fun c h' => h' = G'.put p (rdC a kd.2) ∧ (c = true ↔ kd.2.2 = 0 ∧ kd.1 ≠ 1 ∧ kd.1 ≠ 2), onO.mk rdc2 (onL.i1 (onB.dec (fun e => onB.ndec (fun e1 => ⟨rfl, by simp [e, e1]⟩) (fun e1 => ⟨rfl, by simp [e1]⟩)) (fun e => ⟨rfl, by simp [e]⟩))), ?_⟩
  rintro _ c ⟨rfl, hc⟩
  refine ⟨fun h' => h' = G'.put p (rdC a s3), onB.mk (fun e => ?_) (fun e => ?_), ?_⟩
  · obtain ⟨x1, x2, x3⟩ := hc.1 e
    refine wpE.w (Hp.put_same _ _ _) hlo2 rfl (by show 0 + 2 + 1 ≤ 3; omega) rfl ?_
    rw [put_put, hs3]
    unfold kindR partR
    rw [if_neg x2, if_neg x3, if_pos x1]; rfl
  · have : s3 = kd.2 := by
      rw [hs3]
      by_cases x1 : kd.2.2 = 0
      · by_cases x2 : kd.1 = 1
        · unfold kindR; rw [if_pos x2]
        · by_cases x3 : kd.1 = 2
          · unfold kindR; rw [if_neg x2, if_pos x3]
          · rw [hc.2 ⟨x1, x2, x3⟩] at e; cases e
      · exact kindR_bad x1
    rw [this]
  rintro _ rfl
  refine c55 br' hlo2 hp' l4 hb (onRet.a2 ?_)
  have l5 := placeD_len l4
  have hdeps : ∀ o s, readD l = (o, s) → o.deps = v.1 ∧ o.stamp = st.1 := fun o s hr => by
    rw [hrd] at hr
    unfold bodyD at hr
    split at hr <;> (injection hr with hr _; rw [← hr]; exact ⟨rfl, rfl⟩)
  have hvv : v.1 = [] ∨ vecV v.1 = true := by
    rw [hv]
    unfold vecD
    split
    · show (tkV _).1 = [] ∨ vecV (tkV _).1 = true
      unfold tkV
      split
      · split
        · rename_i h; exact .inr h
        · exact .inl rfl
      · exact .inl rfl
    · exact .inl rfl
  have hrep : 0 ≤ st.1.rep := by rw [hst]; exact tkS_rep _
  refine ⟨fun t r q d' kk nt nr pt pr ky pv vv h' => ∃ (o : D.Op) (s : Rd), readD l = (o, s) ∧ t = o.stamp.time ∧ r = o.stamp.rep ∧ q = o.seq ∧ d' = d ∧ kk = o.kind ∧ nt = o.node.time ∧ nr = o.node.rep ∧ pt = o.parent.time ∧ pr = o.parent.rep ∧ ky = o.key ∧ pv = o.prop ∧ vv = o.value ∧ h' = G'.put p (rdC a s), onB.dec (fun e => ?_) (fun e => ?_), ?_⟩
  · unfold bodyD at hrd
    rw [if_pos e] at hrd
    have l6 := placeD_len l5
    refine c55 br' hlo2 hp' l5 hb (onRet.a2 (onO.mk rdc2 (onL.i1 ⟨_, onB.dec (fun e1 => ?_) (fun e1 => ?_), fun _ _ _ _ _ _ _ _ _ _ _ _ _ _ hh => hh⟩)))
    · have e2 : textD l (placeD l (placeD l s3).2).2 = textR l (placeD l (placeD l s3).2).2 := by unfold textD; rw [if_pos e1]
      rw [e2] at hrd
      exact text_part br' hlo2 hp' l6 hb e1 ⟨_, _, hrd, rfl, rfl, rfl, rfl, rfl, rfl, rfl, rfl, rfl, rfl, rfl, rfl, rfl⟩
    · have e2 : textD l (placeD l (placeD l s3).2).2 = ([], (placeD l (placeD l s3).2).2) := by unfold textD; rw [if_neg e1]
      rw [e2] at hrd
      exact ⟨_, _, hrd, rfl, rfl, rfl, rfl, rfl, rfl, rfl, rfl, rfl, rfl, rfl, rfl, rfl⟩
  · unfold bodyD at hrd
    rw [if_neg e] at hrd
    have l6 := numD_len l5
    refine c28 br' hlo2 hp' l5 hb (onRet.i (c28 br' hlo2 hp' l6 hb (onRet.i ?_)))
    have hn : 0 ≤ (numD l (numD l (placeD l s3).2).2).1 ∧ (numD l (numD l (placeD l s3).2).2).1 ≤ 4611686018427387904 := by
      generalize (numD l (placeD l s3).2).2 = s
      unfold numD
      split
      · exact tkN_num _
      · exact ⟨by show (0 : Int) ≤ 0; omega, by show (0 : Int) ≤ _; omega⟩
    exact onO.mk (sub64 (by omega) (by omega)) ⟨_, _, hrd, rfl, rfl, rfl, rfl, rfl, rfl, rfl, rfl, rfl, rfl, rfl, rfl, rfl⟩
  rintro _ _ _ _ d _ _ _ _ _ _ _ _ _ ⟨o, s, hr, rfl, rfl, rfl, rfl, rfl, rfl, rfl, rfl, rfl, rfl, rfl, rfl, rfl⟩
  obtain ⟨hd, hs⟩ := hdeps o s hr
  have le' : h.le (G'.put p (rdC a s)) := Hp.le_trans ow.le (Hp.le_put hp')
  have lo' : (G'.put p (rdC a s)).lo = h.lo := ow.lo
  have rd' : IR (G'.put p (rdC a s)) d o.deps := by rw [hd]; exact ow.row.mono (Hp.le_put hp')
  have kz : ∀ e : Int, takeD l = (zeroO, 0, e) → Post (.tup [.agg (opC zeroO .ns), .i .i64 0, .i .i64 e]) (G'.put p (rdC a s)) := fun e he => by
    have := k .ns _ (by rw [he]; exact (Kn.Own.nil _ _).mono le' lo')
    rw [he] at this
    exact this
  unfold takeD at kz k
  rw [hr] at kz k
  simp only at kz k
  refine onO.mk rdc2 (onL.i1 (onB.ndec (fun e => onO.mk rdc2 (onL.i1 (kz _ (by rw [if_neg e])))) (fun e => onO.mk rd'.len ?_)))
  rw [if_pos e] at kz k
  have hlen : o.deps.length < 1000000 := by
    rw [hd]
    rcases hvv with x | x
    · rw [x]; simp
    · have := vecV_len x; omega
  have hseq0 : o.seq = 0 := by
    rw [hrd] at hr
    unfold bodyD at hr
    split at hr <;> (injection hr with hr _; rw [← hr])
  refine ⟨fun t r q d' kk nt nr pt pr ky pv vv h' => t = o.stamp.time ∧ r = o.stamp.rep ∧ q = (seqD o).seq ∧ d' = d ∧ kk = o.kind ∧ nt = o.node.time ∧ nr = o.node.rep ∧ pt = o.parent.time ∧ pr = o.parent.rep ∧ ky = o.key ∧ pv = o.prop ∧ vv = o.value ∧ h' = G'.put p (rdC a s), onB.dec (fun e2 => ?_) (fun e2 => ?_), ?_⟩
  · obtain ⟨q, hq⟩ := Int.eq_ofNat_of_zero_le (show 0 ≤ o.stamp.rep by rw [hs]; exact hrep)
    obtain ⟨x, hx⟩ := get_lt (l := o.deps) (k := q) (by omega)
    have hxx : 0 ≤ x ∧ x ≤ 1099511627776 := by
      rcases hvv with y | y
      · rw [hd, y] at hx; simp at hx
      · exact vecV_at y (by rw [hd] at hx; exact hx)
    have hsq : (seqD o).seq = x + 1 := by
      show (match o.deps[o.stamp.rep.toNat]? with | some x => x + 1 | none => 0) = x + 1
      rw [show o.stamp.rep.toNat = q by omega, hx]
    rw [hsq, hq]
    exact int0 rd' hx (onO.mk (add64 (by omega) (by omega)) ⟨rfl, rfl, rfl, rfl, rfl, rfl, rfl, rfl, rfl, rfl, rfl, rfl, rfl⟩)
  · have hsq : (seqD o).seq = o.seq := by
      show (match o.deps[o.stamp.rep.toNat]? with | some x => x + 1 | none => 0) = o.seq
      rw [List.getElem?_eq_none (by omega), hseq0]
    rw [hsq]
    exact ⟨rfl, rfl, rfl, rfl, rfl, rfl, rfl, rfl, rfl, rfl, rfl, rfl, rfl⟩
  rintro _ _ _ _ d _ _ _ _ _ _ _ _ _ ⟨rfl, rfl, rfl, rfl, rfl, rfl, rfl, rfl, rfl, rfl, rfl, rfl, rfl⟩
  refine c38 (o := seqD o) rd' hlen (onRet.b (onB.not (fun e3 => kz _ (by rw [e3]; rfl)) (fun e3 => ?_)))
  rw [if_pos e3] at k
  exact onO.mk rdc1 (onL.i1 (k d _ ((show Kn.int.Own h G' d (seqD o).deps by show Kn.int.Own h G' d o.deps; rw [hd]; exact ow).moren hp' _)))
end
end Go.Proofs.YtaekfjokdbiihaaAn
