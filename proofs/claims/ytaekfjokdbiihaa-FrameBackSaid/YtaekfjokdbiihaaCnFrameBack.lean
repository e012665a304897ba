/- What the functions that the law reaches come to, down to the law itself. -/
import Derived.Test.YtaekfjokdbiihaaCnFrameBackp0
import Derived.Test.YtaekfjokdbiihaaProg
set_option linter.unusedVariables false
set_option linter.unusedSimpArgs false
set_option maxRecDepth 100000
namespace Go.Proofs.YtaekfjokdbiihaaAn
open Go
/-! ### plain -/
def bit1 (s : Nat) : Nat := if s % 2 = 1 then Nat.xor (s / 2) 3988292384 else s / 2
def bitn : Nat → Nat → Nat
  | 0, s => s
  | n + 1, s => bitn n (bit1 s)
def crcF : Nat → List Nat → Nat
  | s, [] => s
  | s, b :: l => crcF (bitn 8 (Nat.xor s b)) l
def crc (s : Nat) (l : List Nat) : Nat := Nat.xor (crcF (Nat.xor s 4294967295) l) 4294967295
theorem xor_lt32 {a b : Nat} (h1 : a < 4294967296) (h2 : b < 4294967296) : Nat.xor a b < 4294967296 := Nat.xor_lt_two_pow (n := 32) h1 h2
theorem bit1_lt {s : Nat} (h : s < 4294967296) : bit1 s < 4294967296 := by
  unfold bit1
  split
  · exact xor_lt32 (by omega) (by omega)
  · omega
theorem bitn_lt : ∀ {n s : Nat}, s < 4294967296 → bitn n s < 4294967296
  | 0, s, h => h
  | n + 1, s, h => bitn_lt (n := n) (bit1_lt h)
theorem crcF_lt : ∀ {l : List Nat} {s : Nat}, Bytes8 l → s < 4294967296 → crcF s l < 4294967296
  | [], s, _, h => h
  | b :: l, s, hl, h => crcF_lt (l := l) (fun x hx => hl x (by simp [hx])) (bitn_lt (xor_lt32 h (by have := hl b (by simp); omega)))
theorem crc_lt {l : List Nat} {s : Nat} (hl : Bytes8 l) (h : s < 4294967296) : crc s l < 4294967296 := xor_lt32 (crcF_lt hl (xor_lt32 h (by omega))) (by omega)
/-! ### words of 32 bits -/
theorem wr32n {n : Nat} (h : n < 4294967296) : wrO .u32 (n : Int) = some (n : Int) := by rw [wr32]; congr 1; omega
theorem xor32 {a b : Nat} (h1 : a < 4294967296) (h2 : b < 4294967296) : intO .xor .u32 (a : Int) (b : Int) = some ((Nat.xor a b : Nat) : Int) := by
  unfold intO
  have e : intA .xor .u32 (a : Int) (b : Int) = some (.i .u32 (wrapA .u32 (.ofNat (Nat.xor a b)))) := by
    show (cond (Nat.blt a 4294967296 && Nat.blt b 4294967296) _ none : Option AV) = _
    rw [blt_of h1, blt_of h2]; rfl
  rw [e]
  have := xor_lt32 h1 h2
  show some (wrapA .u32 ((Nat.xor a b : Nat) : Int)) = _
  rw [wrap_mod rfl]
  congr 1
  show ((Nat.xor a b : Nat) : Int) % 4294967296 = _
  omega
theorem and1 {a : Nat} (h1 : a < 4294967296) : intO .and .u32 (a : Int) 1 = some ((a % 2 : Nat) : Int) := by
  unfold intO
  have e : intA .and .u32 (a : Int) 1 = some (.i .u32 (wrapA .u32 (.ofNat (Nat.land a 1)))) := by
    show (cond (Nat.blt a 4294967296 && Nat.blt 1 4294967296) _ none : Option AV) = _
    rw [blt_of h1]; rfl
  rw [e]
  have h2 : Nat.land a 1 = a % 2 := Nat.and_two_pow_sub_one_eq_mod a 1
  rw [h2]
  show some (wrapA .u32 ((a % 2 : Nat) : Int)) = _
  rw [wrap_mod rfl]
  congr 1
  show ((a % 2 : Nat) : Int) % 4294967296 = _
  omega
theorem shr32 {a : Nat} (k : Nat) (hk : k ≤ 32) : shO .shr .u32 (a : Int) (k : Int) = some ((a / 2 ^ k : Nat) : Int) := by
  unfold shO
  have e : shiftA .shr .u32 (a : Int) (k : Int) = some (.i .u32 (Int.fdiv (a : Int) (.ofNat (Nat.pow 2 (cond (Nat.ble k 32) k 32))))) := rfl
  rw [e, Nat.ble_eq_true_of_le hk, cond_true]
  show some (Int.fdiv (a : Int) ((2 ^ k : Nat) : Int)) = _
  rw [Int.fdiv_eq_ediv_of_nonneg _ (Int.natCast_nonneg _)]; rfl
theorem mulp {a : Nat} (h : a < 2) : intO .mul .u32 3988292384 (a : Int) = some ((3988292384 * a : Nat) : Int) := by
  unfold intO intA
  show some (wrapA .u32 (3988292384 * (a : Int))) = _
  rw [wrap_mod rfl]
  congr 1
  show (3988292384 * (a : Int)) % 4294967296 = _
  omega
theorem not32 {a : Nat} (h : a < 4294967296) : unO .xor .u32 (a : Int) = some ((Nat.xor a 4294967295 : Nat) : Int) := by
  unfold unO
  have e : unA .xor (.i .u32 (a : Int)) = some (.i .u32 (wrapA .u32 (.ofNat (Nat.xor 4294967295 a)))) := by
    show (cond (Nat.beq 0 0 && Nat.blt a 4294967296) _ none : Option AV) = _
    rw [blt_of h]; rfl
  rw [e]
  have hc : Nat.xor 4294967295 a = Nat.xor a 4294967295 := Nat.xor_comm _ _
  rw [hc]
  have := xor_lt32 h (show 4294967295 < 4294967296 by omega)
  show some (wrapA .u32 ((Nat.xor a 4294967295 : Nat) : Int)) = _
  rw [wrap_mod rfl]
  congr 1
  show ((Nat.xor a 4294967295 : Nat) : Int) % 4294967296 = _
  omega
theorem bit1_mul {s : Nat} : Nat.xor (s / 2) (3988292384 * (s % 2)) = bit1 s := by
  unfold bit1
  split
  · rename_i h; rw [h]
  · rename_i h
    have : s % 2 = 0 := by omega
    rw [this, Nat.mul_zero]; exact Nat.xor_zero _
section
variable {h : Hp} {a b : AV} {l : List Nat} {Post : AV → Hp → Prop}
theorem c23 {s : Nat} (r : BR h a l) (hs : s < 4294967296) (hb : l.length < 1000000) (k : Post (.i .u32 (crc s l : Nat)) h) : wpC Try.prog 23 [.i .u32 (s : Int), a] Post h := by
  have hl : Bytes8 l := fun x hx => byte_lt r hx
  refine call_sound (args := [.ii .u32 s, .vv a]) (cuts := [0]) ⟨trivial, r.sc, trivial⟩ ?_
  rw [vc23]
  have hx := xor_lt32 hs (show 4294967295 < 4294967296 by omega)
  refine onO.mk (not32 hs) ⟨fun q n1 n2 n3 _ h' => h' = h ∧ ∃ S i j : Nat, n1 = S ∧ n2 = i ∧ n3 = j ∧ i ≤ l.length ∧ j ≤ 8 ∧ q = (l.length - i) * 10 + (8 - j) ∧ S < 4294967296 ∧ crcF (Nat.xor s 4294967295) l = crcF (bitn (8 - j) S) (l.drop i), ⟨_, rfl, Nat.xor s 4294967295, 0, 8, rfl, rfl, rfl, by omega, by omega, rfl, hx, rfl⟩, ?_⟩
  rintro q h0 _ _ _ n4 ⟨rfl, S, i, j, rfl, rfl, rfl, hi, hj, rfl, hS, hp⟩
  have hsh : shO .shr .u32 (S : Int) 1 = some ((S / 2 : Nat) : Int) := shr32 1 (by omega)
  refine Dup.mk (onB.dec (fun e => ?_) (fun e => ?_))
  · have h2 : S % 2 < 2 := Nat.mod_lt _ (by omega)
    have hm : 3988292384 * (S % 2) < 4294967296 := by omega
    refine onO.mk hsh (onO.mk (and1 hS) (onO.mk (mulp h2) (onO.mk (xor32 (by omega) hm) (onO.mk (inc64 (by omega)) ⟨_, by show (l.length - i) * 10 + (8 - (j + 1)) < (l.length - i) * 10 + (8 - j); omega, rfl, _, i, j + 1, rfl, rfl, rfl, hi, by omega, rfl, ?_, ?_⟩))))
    · exact xor_lt32 (by omega) hm
    · rw [bit1_mul, hp, show 8 - j = (8 - (j + 1)) + 1 by omega]; rfl
  · have hj8 : j = 8 := by omega
    subst hj8
    have hp : crcF (Nat.xor s 4294967295) l = crcF S (l.drop i) := hp
    refine onO.mk r.len (onB.dec (fun e1 => ?_) (fun e1 => ?_))
    · obtain ⟨x, hx⟩ := get_lt (l := l) (k := i) (by omega)
      have hx8 := hl x (List.mem_of_getElem? hx)
      rw [drop_of hx] at hp
      refine byte0 r hx (onO.mk (wr32n (by omega)) (onO.mk (xor32 hS (by omega)) (onO.mk (inc64 (by omega)) ⟨_, by show (l.length - (i + 1)) * 10 + (8 - 0) < (l.length - i) * 10 + (8 - 8); omega, rfl, _, i + 1, 0, rfl, rfl, rfl, by omega, by omega, rfl, xor_lt32 hS (by omega), hp⟩)))
    · have : i = l.length := by omega
      subst this
      rw [List.drop_length] at hp
      have hp : crcF (Nat.xor s 4294967295) l = S := hp
      refine onO.mk (not32 hS) ?_
      unfold crc at k
      rw [hp] at k; exact k
end
def opsE (l : List D.Op) : List Nat := (l.map opE).flatten
def bodyE (x y z : Int) (v : List Int) (l : List D.Op) : List Nat := encs [x, y, z] ++ ((if z = 1 then encV v else enc l.length) ++ opsE l)
/-- a sum's four bytes -/
def four (s : Nat) : List Nat := [s / 16777216 % 256, s / 65536 % 256, s / 256 % 256, s % 256]
def frmE (x y z : Int) (v : List Int) (l : List D.Op) : List Nat := four (crc 0 (bodyE x y z v l)) ++ bodyE x y z v l
/-- what a frame that may be has -/
structure FrmOk (x y z : Int) (v : List Int) (l : List D.Op) : Prop where
  src : 0 ≤ x ∧ x < 16
  dst : 0 ≤ y ∧ y < 16
  kind : (z = 1 ∧ vecV v = true ∧ l = []) ∨ (z = 2 ∧ v = [] ∧ (∀ o ∈ l, mayO o = true) ∧ 1 ≤ l.length ∧ l.length ≤ 8)
theorem frm_ok {x y z : Int} {v : List Int} {l : List D.Op} (h : frmV x y z v l = true) : FrmOk x y z v l := by
  unfold frmV at h
  simp only [Bool.and_eq_true, decide_eq_true_eq] at h
  obtain ⟨⟨h1, h2, h3, h4, h5⟩, h6⟩ := h
  refine ⟨⟨h1, h2⟩, ⟨h3, h4⟩, ?_⟩
  split at h6
  · rename_i hz
    simp only [Bool.and_eq_true, decide_eq_true_eq] at h6
    exact .inl ⟨hz, h6.1, List.length_eq_zero_iff.1 h6.2⟩
  · split at h6
    · rename_i hz
      simp only [Bool.and_eq_true, decide_eq_true_eq, List.all_eq_true] at h6
      exact .inr ⟨hz, List.length_eq_zero_iff.1 h6.1, h6.2.1, h6.2.2.1, h6.2.2.2⟩
    · cases h6
def Keys8 (l : List D.Op) : Prop := ∀ o ∈ l, Bytes8 o.key
theorem opsE_take {l : List D.Op} {k : Nat} {o : D.Op} (e : l[k]? = some o) : opsE (l.take (k + 1)) = opsE (l.take k) ++ opE o := by
  unfold opsE
  rw [take_succ' e, List.map_append, List.flatten_append]; simp
theorem opsE_len : ∀ {l : List D.Op}, (∀ o ∈ l, mayO o = true) → (opsE l).length ≤ 400 * l.length
  | [], _ => by simp [opsE]
  | o :: l, h => by
    have h1 := opE_len (h o (by simp))
    have h2 := opsE_len (l := l) fun y hy => h y (by simp [hy])
    unfold opsE at h2 ⊢
    simp only [List.map_cons, List.flatten_cons, List.length_append, List.length_cons]; omega
section
variable {g h : Hp} {a b : AV} {l m : List Nat} {Post : AV → Hp → Prop}
theorem BO.set (o : BO g h a l) {i : Nat} {x : Nat} (hi : i < l.length) (hx : x < 256) {Q : Option AV → Hp → Prop} (k : ∀ h', BO g h' a (l.set i x) → Q none h') : onO (idxV a (i : Int) 1) fun r => wpE (.w r.1 r.2 (.lit [.i .u8 (x : Int)]) none) Q h := by
  obtain ⟨p, css, h0, h01, f, h1⟩ := o
  have hl := h1.length
  obtain ⟨c, hc⟩ := get_lt (l := css) (k := i) (by omega)
  have hcl : c.length = 1 := f.row.1 c (List.mem_of_getElem? hc)
  refine f.set (sz := 1) hc 0 (new := [.i .u8 (x : Int)]) (by simp) rfl fun h' f' => k h' ⟨p, _, h0, h01, f', ?_⟩
  refine All2.of_get (by simp [hl]) fun j y d hy hd => ?_
  by_cases e : j = i
  · subst e
    rw [List.getElem?_set_self (by omega)] at hy hd
    injection hy with hy; injection hd with hd
    subst hy; subst hd
    refine ⟨?_, hx⟩
    match c, hcl with
    | [w], _ => rfl
  · rw [List.getElem?_set_ne (Ne.symm e)] at hy hd
    exact h1.get2 hy hd
theorem wr8d {n d : Nat} : wrO .u8 ((n / d : Nat) : Int) = some ((n / d % 256 : Nat) : Int) := wr8n
theorem c27 {x y z : Int} {v : List Int} {ops : List D.Op} (ra : IR h a v) (rb : OpRow h b ops) (hm : frmV x y z v ops = true) (hk : Keys8 ops) (k : ∀ r h', BO h h' r (frmE x y z v ops) → Post r h') : wpC Try.prog 27 [frmA x y z a b] Post h := by
  obtain ⟨s1, s2, s3⟩ := frm_ok hm
  have hz : 0 ≤ z ∧ z ≤ 2 := by rcases s3 with ⟨e, _⟩ | ⟨e, _⟩ <;> omega
  have hol : ops.length ≤ 8 := by
    rcases s3 with ⟨_, _, e⟩ | ⟨_, _, _, _, e⟩
    · rw [e]; simp
    · exact e
  have hall : ∀ o ∈ ops, mayO o = true := by
    rcases s3 with ⟨_, _, e⟩ | ⟨_, _, e, _⟩
    · rw [e]; intro o ho; cases ho
    · exact e
  refine call_sound (args := [.ag [.ii .i64 x, .ii .i64 y, .ii .i64 z, .vv a, .vv b]]) (cuts := [18999999]) ⟨⟨trivial, trivial, trivial, ra.sc, rb.sc, trivial⟩, trivial⟩ ?_
  rw [vc27]
  refine fun _ => onO.mk (a := 4) rfl (onO.mk (a := 4) rfl (onC.mk rfl fun p e1 e2 => ?_))
  have o0 : BO h (h.put p (zerosV [.i .u8 0] 4)) (.sl p 0 4 4 true 1) [0, 0, 0, 0] := ⟨h, [[.i .u8 0], [.i .u8 0], [.i .u8 0], [.i .u8 0]], Hp.le_refl h, rfl, Fresh.put (css := [[.i .u8 0], [.i .u8 0], [.i .u8 0], [.i .u8 0]]) (sz := 1) (len := 4) (cs := zerosV [.i .u8 0] 4) (Hp.le_refl h) rfl e1 e2 true (fun c hc => by simp at hc; subst hc; rfl) rfl rfl, .cons ⟨rfl, by omega⟩ (.cons ⟨rfl, by omega⟩ (.cons ⟨rfl, by omega⟩ (.cons ⟨rfl, by omega⟩ .nil)))⟩
  have hn3 : ∀ n ∈ [x, y, z], 0 ≤ n ∧ n < 9223372036854775808 := fun n hn => by simp at hn; omega
  have hn3l := encs_len (v := [x, y, z]) fun n hn => (hn3 n hn).2
  simp only [List.length_cons, List.length_nil] at hn3l
  refine ⟨fun m r i h' => ∃ j : Nat, i = j ∧ j ≤ 3 ∧ m = 3 - j ∧ BO h h' r ([0, 0, 0, 0] ++ encs ([x, y, z].take j)), ⟨3, 0, rfl, by omega, rfl, by simpa [encs] using o0⟩, ?_⟩
  rintro m h0 r _ _ ⟨j, rfl, hj, rfl, ow⟩
  have step : ∀ (n : Int), [x, y, z][j]? = some n → wpC Try.prog 50 [r, .i .i64 n] (fun a1 h1 => onRet [Sh.one Kd.ref] a1 fun a2 => onO (intO .add .i64 (j : Int) 1) fun n1 => ∃ p7, ltN p7 (3 - j) ∧ ∃ j' : Nat, n1 = j' ∧ j' ≤ 3 ∧ p7 = 3 - j' ∧ BO h h1 a2 ([0, 0, 0, 0] ++ encs ([x, y, z].take j'))) h0 := fun n hn => by
    have hb := hn3 n (List.mem_of_getElem? hn)
    have hjl := (List.getElem?_eq_some_iff.1 hn).1
    simp only [List.length_cons, List.length_nil] at hjl
    obtain ⟨N, rfl⟩ := Int.eq_ofNat_of_zero_le hb.1
    have hlen := encs_len (v := [x, y, z].take j) fun n hn => (hn3 n (List.mem_of_mem_take hn)).2
    rw [List.length_take] at hlen
    simp only [List.length_cons, List.length_nil] at hlen
    refine c50 ow (by omega) (by simp only [List.length_append, List.length_cons, List.length_nil]; omega) fun r3 h3 o3 => onRet.r o3.sc (onO.mk (inc64 (by omega)) ⟨_, by show 3 - (j + 1) < 3 - j; omega, j + 1, rfl, by omega, rfl, ?_⟩)
    rw [encs_take hn, ← List.append_assoc]; exact o3
  refine onB.dec (fun e => ?_) (fun e => ?_)
  · have w0 : j = 0 → [x, y, z][j]? = some x := fun e => by subst e; rfl
    have w1 : j = 1 → [x, y, z][j]? = some y := fun e => by subst e; rfl
    have w2 : j = 2 → [x, y, z][j]? = some z := fun e => by subst e; rfl
    exact onO.mk (natLt_pos (i := (j : Int)) (n := 3) (by omega) (by omega)) ⟨⟨⟨trivial, fun e0 => step x (w0 (by omega))⟩, fun e0 => step y (w1 (by omega))⟩, fun e0 => step z (w2 (by omega))⟩
  have hj3 : j = 3 := by omega
  subst hj3
  have ow : BO h h0 r ([0, 0, 0, 0] ++ encs [x, y, z]) := ow
  refine ⟨fun r' h' => BO h h' r' ([0, 0, 0, 0] ++ (encs [x, y, z] ++ (if z = 1 then encV v else enc ops.length))), onB.dec (fun e => ?_) (fun e => onO.mk rb.len ?_), ?_⟩
  · rw [if_pos e]
    obtain ⟨_, hv, _⟩ : z = 1 ∧ vecV v = true ∧ ops = [] := s3.resolve_right (by omega)
    have hvl := vecV_len hv
    refine c51 ow (ra.mono (Hp.le_refl _)) (fun n hn => by
      obtain ⟨q, hq⟩ := List.getElem?_of_mem hn
      have := vecV_at hv hq; omega) (by omega) (by simp only [List.length_append, List.length_cons, List.length_nil]; omega) fun r3 h3 o3 => onRet.r o3.sc ?_
    unfold encV
    simpa [List.append_assoc] using o3
  · rw [if_neg e]
    refine c50 ow (by omega) (by simp only [List.length_append, List.length_cons, List.length_nil]; omega) fun r3 h3 o3 => onRet.r o3.sc ?_
    simpa [List.append_assoc] using o3
  rintro h6 r6 _ o6
  have hmid : (if z = 1 then encV v else enc ops.length).length ≤ 200 := by
    split
    · rename_i e
      obtain ⟨_, hv, _⟩ : z = 1 ∧ vecV v = true ∧ ops = [] := s3.resolve_right (by omega)
      have hvl := vecV_len hv
      have := enc_len10 (n := v.length) (by omega)
      have := encs_len (v := v) fun n hn => by
        obtain ⟨q, hq⟩ := List.getElem?_of_mem hn
        have := vecV_at hv hq; omega
      unfold encV
      rw [List.length_append]; omega
    · have := enc_len10 (n := ops.length) (by omega); omega
  refine onO.mk rb.len ⟨fun m r i h' => ∃ j : Nat, i = j ∧ j ≤ ops.length ∧ m = ops.length - j ∧ BO h h' r ([0, 0, 0, 0] ++ (encs [x, y, z] ++ ((if z = 1 then encV v else enc ops.length) ++ opsE (ops.take j)))), ⟨_, 0, rfl, by omega, rfl, by simpa [opsE, List.append_assoc] using o6⟩, ?_⟩
  rintro m h7 r7 _ _ ⟨j, rfl, hj, rfl, o7⟩
  have htl := opsE_len (l := ops.take j) fun o ho => hall o (List.mem_of_mem_take ho)
  rw [List.length_take] at htl
  refine onB.dec (fun e => ?_) (fun e => ?_)
  · obtain ⟨o, ho⟩ := get_lt (l := ops) (k := j) (by omega)
    have hmem := List.mem_of_getElem? ho
    refine opW rb o7.le ho fun d rd _ _ => c52 (o := o) o7 rd (hall o hmem) (hk o hmem) (by simp only [List.length_append, List.length_cons, List.length_nil]; omega) fun r8 h8 o8 => onRet.r o8.sc (onO.mk (inc64 (by omega)) ⟨_, by show ops.length - (j + 1) < ops.length - j; omega, j + 1, rfl, by omega, rfl, ?_⟩)
    rw [opsE_take ho]
    simpa [List.append_assoc] using o8
  · have : j = ops.length := by omega
    subst this
    rw [List.take_length] at o7 htl
    have o7 : BO h h7 r7 ([0, 0, 0, 0] ++ bodyE x y z v ops) := o7
    have hbl : (bodyE x y z v ops).length ≤ 4000 := by
      unfold bodyE
      simp only [List.length_append]; omega
    have hb8 : Bytes8 (bodyE x y z v ops) := fun w hw => byte_lt o7.row (List.mem_append_right _ hw)
    have hc := crc_lt (s := 0) hb8 (by omega)
    refine Kn.Row.from (i := 4) (sz := 1) o7.row rfl (by simp only [List.length_append, List.length_cons, List.length_nil]; omega) fun r' br' => ?_
    have br' : BR h7 r' (bodyE x y z v ops) := br'
    refine c23 (s := 0) br' (by omega) (by omega) (onRet.u32 ?_)
    generalize hC : crc 0 (bodyE x y z v ops) = C at hc ⊢
    refine onO.mk (shr32 24 (by omega)) (onO.mk wr8d (onO.mk (shr32 16 (by omega)) (onO.mk wr8d (onO.mk (shr32 8 (by omega)) (onO.mk wr8d (onO.mk wr8n ?_))))))
    refine BO.set o7 (i := 0) (by simp) (by omega) fun h8 o8 => BO.set o8 (i := 1) (by simp) (by omega) fun h9 o9 => BO.set o9 (i := 2) (by simp) (by omega) fun h10 o10 => BO.set o10 (i := 3) (by simp) (by omega) fun h11 o11 => k _ _ ?_
    unfold frmE four
    rw [hC]
    exact o11
end
/-- some numbers, and how many bytes they are -/
def numsP : Nat → List Nat → Option (List Int × Nat)
  | 0, _ => some ([], 0)
  | m + 1, l => if (tkN l).2.2 = 0 then (numsP m (l.drop (tkN l).2.1)).map fun r => ((tkN l).1 :: r.1, (tkN l).2.1 + r.2) else none
def opsP : Nat → List Nat → Option (List D.Op)
  | 0, _ => some []
  | m + 1, l => if (takeO l).2.2 = 0 then (opsP m (l.drop (takeO l).2.1)).map fun r => (takeO l).1 :: r else none
abbrev Fr := Int × Int × Int × List Int × List D.Op
def restF (x y z : Int) (l : List Nat) : Option Fr :=
  if z = 1 then (if (tkV l).2.2 = 0 then some (x, y, z, (tkV l).1, []) else none)
  else match numsP 1 l with
    | some ([n], k) => if 8 < n then none else (opsP n.toNat (l.drop k)).map fun o => (x, y, z, [], o)
    | _ => none
def readF (l : List Nat) : Option Fr := match numsP 3 l with
  | some ([x, y, z], k) => restF x y z (l.drop k)
  | _ => none
theorem numsP_len : ∀ {m : Nat} {l : List Nat} {r : List Int × Nat}, numsP m l = some r → r.1.length = m ∧ r.2 ≤ l.length
  | 0, l, r, h => by simp only [numsP] at h; injection h with h; subst h; exact ⟨rfl, Nat.zero_le _⟩
  | m + 1, l, r, h => by
    simp only [numsP] at h
    split at h
    · obtain ⟨q, hq, rfl⟩ := Option.map_eq_some_iff.1 h
      have := numsP_len hq
      have h2 := tkN_len l
      rw [List.length_drop] at this
      exact ⟨by simp [this.1], by show (tkN l).2.1 + q.2 ≤ l.length; omega⟩
    · cases h
theorem takeO_len (l : List Nat) (hl : Bytes8 l) : (takeO l).2.1 ≤ l.length := by
  by_cases h : (takeO l).2.2 = 0
  · exact (takeO_was hl h).2.2.1
  · unfold takeO at h ⊢
    split
    · rename_i h1
      rw [if_pos h1] at h
      split
      · rename_i x hx
        rw [hx] at h
        simp only at h
        split
        · rename_i h2; rw [if_pos h2] at h; exact absurd rfl h
        · simp
      · simp
    · simp
theorem onTup.rrb {a b : AV} {c : Bool} (ha : a.sc = true) (hb : b.sc = true) {K : AV → AV → Bool → Prop} (k : K a b c) : onTup [Sh.one Kd.ref, Sh.one Kd.ref, Sh.one Kd.bool] (.tup [a, b, .b c]) K := by
  show onS [Sh.one Kd.ref, Sh.one Kd.ref, Sh.one Kd.bool] [a, b, .b c] K
  unfold onS
  have e : flatV [Sh.one Kd.ref, Sh.one Kd.ref, Sh.one Kd.bool] [a, b, .b c] = some [a, b, .b c] := by
    cases a <;> cases b <;> first | rfl | cases ha | cases hb
  rw [e]
  exact onRef.mk (K := fun a => onRef b fun b => K a b c) ha (onRef.mk (K := fun b => K a b c) hb k)
theorem onTup.frmb {x y z : Int} {a b : AV} {c : Bool} (ha : a.sc = true) (hb : b.sc = true) {K : Int → Int → Int → AV → AV → Bool → Prop} (k : K x y z a b c) :
    onTup [Sh.agg [Kd.int .i64, Kd.int .i64, Kd.int .i64, Kd.ref, Kd.ref], Sh.one Kd.bool] (.tup [frmA x y z a b, .b c]) K := by
  show onS [Sh.agg [Kd.int .i64, Kd.int .i64, Kd.int .i64, Kd.ref, Kd.ref], Sh.one Kd.bool] [frmA x y z a b, .b c] K
  unfold onS
  have : flatV [Sh.agg [Kd.int .i64, Kd.int .i64, Kd.int .i64, Kd.ref, Kd.ref], Sh.one Kd.bool] [frmA x y z a b, .b c] = some [.i .i64 x, .i .i64 y, .i .i64 z, a, b, .b c] := rfl
  rw [this]
  exact onRef.mk (K := fun a => onRef b fun b => K x y z a b c) ha (onRef.mk (K := fun b => K x y z a b c) hb k)
section
variable {g h : Hp} {a b : AV} {l m : List Nat} {Post : AV → Hp → Prop}
theorem c45 {M : Nat} (r : BR h a l) (hM : M < 1000) (hb : l.length < 900000) (k1 : numsP M l = none → ∀ h', h.le h' → h'.lo = h.lo → Post (.tup [.ns, .ns, .b false]) h')
    (k2 : ∀ v q, numsP M l = some (v, q) → ∀ r1 r2 h', Kn.int.Own h h' r1 v → BR h r2 (l.drop q) → Post (.tup [r1, r2, .b true]) h') : wpC Try.prog 45 [a, .i .i64 (M : Int)] Post h := by
  refine call_sound (args := [.vv a, .ii .i64 M]) (cuts := []) ⟨r.sc, trivial, trivial⟩ ?_
  rw [vc45]
  refine ⟨fun m _ _ a1 a2 n0 h' => ∃ (j K : Nat) (v : List Int), n0 = j ∧ j ≤ M ∧ m = M - j ∧ K ≤ l.length ∧ v.length = j ∧ Kn.int.Own h h' a1 v ∧ BR h a2 (l.drop K) ∧ numsP M l = (numsP (M - j) (l.drop K)).map fun r => (v ++ r.1, K + r.2), ⟨M, 0, 0, [], rfl, by omega, rfl, by omega, rfl, Kn.Own.nil _ _, by simpa using r, ?_⟩, ?_⟩
  · rw [Nat.sub_zero, List.drop_zero]
    cases numsP M l <;> simp
  rintro m h0 _ _ c0 a1 _ a2 _ _ ⟨j, K, v, rfl, hj, rfl, hK, hv, ow, br, hp⟩
  refine onB.dec (fun e => ?_) (fun e => ?_)
  · obtain ⟨d, hd⟩ : ∃ d, M - j = d + 1 := ⟨M - j - 1, by omega⟩
    rw [hd] at hp
    simp only [numsP] at hp
    have hl := tkN_len (l.drop K)
    have hn := tkN_num (l.drop K)
    rw [List.length_drop] at hl
    refine c66 (br.mono ow.le) (by simp; omega) (onTup.iii' (onB.ndec (fun e1 => ?_) (fun e1 => fun _ => ?_)))
    · rw [if_neg e1] at hp
      exact k1 (by rw [hp]; rfl) _ ow.le ow.lo
    · rw [if_pos e1] at hp
      refine ow.app1 rfl int_flat (x := (tkN (l.drop K)).1) ⟨rfl, by omega, by omega⟩ (by omega) fun r3 h3 o3 => onO.mk rfl ?_
      refine br.from rfl (by simp; omega) fun r4 br4 => onO.mk (inc64 (by omega)) ⟨_, by show M - (j + 1) < M - j; omega, j + 1, K + (tkN (l.drop K)).2.1, _, rfl, by omega, rfl, by omega, by simp [hv], o3, by rw [← List.drop_drop]; exact br4, ?_⟩
      rw [show M - (j + 1) = d by omega, hp, ← List.drop_drop, Option.map_map]
      congr 1
      funext r
      simp [Nat.add_assoc]
  · have : j = M := by omega
    subst this
    rw [Nat.sub_self] at hp
    simp only [numsP, Option.map_some, List.append_nil, Nat.add_zero] at hp
    exact k2 _ _ hp _ _ _ ow br
theorem c26 (ra : BR h a l) (rb : BR h b m) (k : Post (.b (decide (l = m))) h) : wpC Try.prog 26 [a, b] Post h := by
  refine call_sound (args := [.vv a, .vv b]) (cuts := []) ⟨ra.sc, rb.sc, trivial⟩ ?_
  rw [vc26]
  obtain ⟨b1, o1, n1, e1⟩ := strAt_row ra
  obtain ⟨b2, o2, n2, e2⟩ := strAt_row rb
  exact onO.mk e1 (onO.mk e2 k)
theorem nums_in {o : D.Op} (h : mayO o = true) (hk : Bytes8 o.key) {d : AV} {h0 : Hp} (r : IR h0 d o.deps) : D.kOp.K h0 o (opC o d) := by
  obtain ⟨s1, s2, s3, s4, s5⟩ := mayO_nums h
  obtain ⟨x, hx, hs⟩ := (op_parts h hk).seq
  have hx2 := s2 x (List.mem_of_getElem? hx)
  have i : ∀ n : Int, -1 ≤ n → n ≤ 1099511627777 → In64 n := fun n h1 h2 => ⟨by omega, by omega⟩
  rcases s5 with ⟨k1, k2, k3, k4, k5, k6⟩ | ⟨k1, k2, k3, k4⟩
  · exact op_mk (i _ (by omega) (by omega)) (i _ (by omega) (by omega)) (i _ (by omega) (by omega)) r (by omega) (i _ (by omega) (by omega)) (i _ (by omega) (by omega)) (i _ (by omega) (by omega)) (i _ (by omega) (by omega)) (i _ (by omega) (by omega)) (by omega) hk (i _ (by omega) (by omega)) (i _ (by omega) (by omega))
  · have hp : o.parent.time = 0 ∧ o.parent.rep = 0 := by rw [k3]; exact ⟨rfl, rfl⟩
    exact op_mk (i _ (by omega) (by omega)) (i _ (by omega) (by omega)) (i _ (by omega) (by omega)) r (by omega) (i _ (by omega) (by omega)) (i _ (by omega) (by omega)) (i _ (by omega) (by omega)) (i _ (by omega) (by omega)) (i _ (by omega) (by omega)) (by rw [k4]; simp) hk (i _ (by omega) (by omega)) (i _ (by omega) (by omega))
end
/-- what reading leaves: a frame of its own, or none -/
structure FrmOwn (g h : Hp) (a b : AV) (v : List Int) (l : List D.Op) : Prop where
  le : g.le h
  lo : h.lo = g.lo
  vec : (Kn.int.Own g h a v ∧ b = .ns ∧ l = []) ∨ (a = .ns ∧ v = [] ∧ OpOwn g h b l)
theorem FrmOwn.ra {g h : Hp} {a b : AV} {v : List Int} {l : List D.Op} (o : FrmOwn g h a b v l) : IR h a v := by
  rcases o.vec with ⟨h1, _, _⟩ | ⟨h1, h2, _⟩
  · exact h1.row
  · rw [h1, h2]; exact nsI
theorem FrmOwn.rb {g h : Hp} {a b : AV} {v : List Int} {l : List D.Op} (o : FrmOwn g h a b v l) : OpRow h b l := by
  rcases o.vec with ⟨_, h1, h2⟩ | ⟨_, _, h1⟩
  · rw [h1, h2]; exact nsO
  · exact h1.kn.row
theorem FrmOwn.nil {g h : Hp} (le : g.le h) (lo : h.lo = g.lo) : FrmOwn g h .ns .ns [] [] := ⟨le, lo, .inl ⟨(Kn.Own.nil _ h).mono le lo, rfl, rfl⟩⟩
theorem Fresh.up {g h h' : Hp} {a : AV} {sz : Nat} {css : List (List AV)} (f : Fresh g h a sz css) (le : h.le h') (lo : h'.lo = h.lo) : Fresh g h' a sz css :=
  ⟨Hp.le_trans f.le le, lo.trans f.lo, f.row.mono le, fun b o len l ex z e => by
    obtain ⟨n1, n2, cs, n3, n4⟩ := f.new b o len l ex z e
    exact ⟨n1, n2, cs, le b cs n3, n4⟩⟩
theorem FrmOwn.up {g h h' : Hp} {a b : AV} {v : List Int} {l : List D.Op} (o : FrmOwn g h a b v l) (le : h.le h') (lo : h'.lo = h.lo) : FrmOwn g h' a b v l := by
  refine ⟨Hp.le_trans o.le le, lo.trans o.lo, ?_⟩
  rcases o.vec with ⟨⟨p, css, q1, q2, f, q3⟩, h2⟩ | ⟨h1, h2, ⟨p, css, qs, q⟩⟩
  · exact .inl ⟨⟨p, css, q1, q2, f.up le lo, q3⟩, h2⟩
  · exact .inr ⟨h1, h2, p, css, qs, q.le, q.lo, q.fr.up le lo, q.len, q.sub, q.dj, q.dd, q.qlo, q.own, q.el⟩
theorem OwnD.more0 {α : Type} {E : Hp → α → List AV → Prop} {sz : Nat} {g h : Hp} (le : g.le h) (lo : h.lo = g.lo) : OwnD E sz g h .ns [] := (OwnD.nil h).mono le lo
theorem OpOwn.take {g h : Hp} {a : AV} {l : List D.Op} (o : OpOwn g h a l) {q : List Nat} {r : AV} (br : BR g r q) (hb : q.length < 900000) (hq : Bytes8 q) (hl : l.length < 100) {Post : AV → Hp → Prop}
    (k1 : (takeO q).2.2 ≠ 0 → ∀ d h', d.sc = true → OpOwn g h' a l → Post (.tup [.agg (opC (takeO q).1 d), .i .i64 ((takeO q).2.1 : Nat), .i .i64 (takeO q).2.2]) h')
    (k2 : (takeO q).2.2 = 0 → ∀ d h', d.sc = true → (∀ (Q : Option AV → Hp → Prop), (∀ r' h2, OpOwn g h2 r' (l ++ [(takeO q).1]) → Q (some r') h2) → wpE (.app a 1 (.lit (opC (takeO q).1 d)) 12) Q h') → Post (.tup [.agg (opC (takeO q).1 d), .i .i64 ((takeO q).2.1 : Nat), .i .i64 (takeO q).2.2]) h') : wpC Try.prog 47 [r] Post h := by
  obtain ⟨p, css, qs, oe⟩ := o
  refine (oe.fr.call (Q := fun w p' => ∃ d, w = .tup [.agg (opC (takeO q).1 d), .i .i64 ((takeO q).2.1 : Nat), .i .i64 (takeO q).2.2] ∧ Kn.int.Own p p' d (takeO q).1.deps) (c29o (br.mono oe.le) hb fun d h' o => ⟨d, rfl, o⟩)).mono ?_
  rintro w h1 ⟨p', fr, hlo, d, rfl, ow⟩
  by_cases e : (takeO q).2.2 = 0
  · obtain ⟨w1, w2, w3, w4⟩ := takeO_was hq e
    exact k2 e _ _ ow.sc fun Q kq => OpOwn.snoc oe fr hlo (nums_in w1 w4 ow.row) ow (by omega) kq
  · refine k1 e _ _ ow.sc ⟨p', css, qs, Hp.le_trans oe.le ow.le, hlo.trans oe.lo, fr, oe.len, fun i => Hp.le_trans (oe.sub i) ow.le, oe.dj, oe.dd, oe.qlo, oe.own, oe.el⟩
section
variable {g h : Hp} {a b : AV} {l m : List Nat} {Post : AV → Hp → Prop}
theorem c24 (r : BR h a l) (hb : l.length < 900000) (k1 : readF l = none → ∀ x y z a4 a5 h', h.le h' → h'.lo = h.lo → a4.sc = true → a5.sc = true → Post (.tup [frmA x y z a4 a5, .b false]) h')
    (k2 : ∀ x y z v ops, readF l = some (x, y, z, v, ops) → ∀ a4 a5 h', FrmOwn h h' a4 a5 v ops → Post (.tup [frmA x y z a4 a5, .b true]) h') : wpC Try.prog 24 [a] Post h := by
  have hl8 : Bytes8 l := fun x hx => byte_lt r hx
  refine call_sound (args := [.vv a]) (cuts := []) ⟨r.sc, trivial⟩ ?_
  rw [vc24]
  refine fun _ => c45 (M := 3) r (by omega) hb (fun e h' le lo => onTup.rrb rfl rfl (onB.pos rfl (k1 (by unfold readF; rw [e]) _ _ _ _ _ _ le lo rfl rfl))) fun v q e r1 r2 h0 o1 br2 => onTup.rrb o1.sc br2.sc (onB.neg rfl ?_)
  obtain ⟨hv, hq⟩ := numsP_len e
  simp only at hv hq
  match v, hv, o1, e with
  | [x, y, z], _, o1, e =>
  have hrd : readF l = restF x y z (l.drop q) := by unfold readF; rw [e]
  have row := o1.row
  refine int0 row (k := 0) rfl (int0 row (k := 1) rfl (int0 row (k := 2) rfl (onB.dec (fun e1 => ?_) (fun e1 => ?_))))
  · unfold restF at hrd
    rw [if_pos e1] at hrd
    refine c46 (br2.mono o1.le) (by simp; omega) fun r' h' o' => onTup.rii o'.sc ?_
    by_cases e2 : (tkV (l.drop q)).2.2 = 0
    · rw [if_pos e2] at hrd
      rw [decide_eq_true e2]
      exact k2 _ _ _ _ _ hrd _ _ _ ⟨Hp.le_trans o1.le o'.le, o'.lo.trans o1.lo, .inl ⟨o'.mono o1.le o1.lo, rfl, rfl⟩⟩
    · rw [if_neg e2] at hrd
      rw [decide_eq_false e2]
      exact k1 hrd _ _ _ _ _ _ (Hp.le_trans o1.le o'.le) (o'.lo.trans o1.lo) o'.sc rfl
  · unfold restF at hrd
    rw [if_neg e1] at hrd
    refine c45 (M := 1) (br2.mono o1.le) (by omega) (by simp; omega) (fun e2 h' le lo => onTup.rrb rfl rfl (onB.pos rfl (k1 (by rw [hrd, e2]) _ _ _ _ _ _ (Hp.le_trans o1.le le) (lo.trans o1.lo) rfl rfl))) fun v2 q2 e2 r6 r7 h2 o6 br7 => onTup.rrb o6.sc br7.sc (onB.neg rfl ?_)
    obtain ⟨hv2, hq2⟩ := numsP_len e2
    simp only at hv2 hq2
    match v2, hv2, o6, e2 with
    | [n], _, o6, e2 =>
    rw [e2] at hrd
    have hrd : readF l = if 8 < n then none else (opsP n.toNat ((l.drop q).drop q2)).map fun o => (x, y, z, [], o) := hrd
    have row6 := o6.row
    have hn0 : 0 ≤ n := by
      simp only [numsP] at e2
      split at e2
      · simp only [Option.map_some, Option.some.injEq, Prod.mk.injEq, List.cons.injEq] at e2
        have := tkN_num (l.drop q)
        omega
      · cases e2
    refine int0 row6 (k := 0) rfl (onB.dec (fun e3 => ?_) (fun e3 => int0 row6 (k := 0) rfl ?_))
    · rw [if_pos e3] at hrd
      exact k1 hrd _ _ _ _ _ _ (Hp.le_trans o1.le o6.le) (o6.lo.trans o1.lo) rfl rfl
    rw [if_neg e3] at hrd
    obtain ⟨N, rfl⟩ := Int.eq_ofNat_of_zero_le hn0
    have hb2 : Bytes8 ((l.drop q).drop q2) := (hl8.drop q).drop q2
    refine ⟨fun m _ a8 n7 n8 n9 n10 a9 a10 h3 => ∃ (j K : Nat) (acc : List D.Op), n7 = j ∧ n8 = x ∧ n9 = y ∧ n10 = z ∧ a9 = .ns ∧ j ≤ N ∧ m = N - j ∧ K ≤ ((l.drop q).drop q2).length ∧ acc.length = j ∧ OpOwn h0 h3 a10 acc ∧ BR h0 a8 (((l.drop q).drop q2).drop K) ∧ opsP N ((l.drop q).drop q2) = (opsP (N - j) (((l.drop q).drop q2).drop K)).map fun r => acc ++ r, ⟨N, 0, 0, [], rfl, rfl, rfl, rfl, rfl, by omega, rfl, by omega, rfl, OwnD.more0 o6.le o6.lo, by simpa using br7, ?_⟩, ?_⟩
    · rw [Nat.sub_zero, List.drop_zero]
      cases opsP N ((l.drop q).drop q2) <;> simp
    rintro m h3 _ a8 _ _ X Y Z a9 _ a10 _ ⟨j, K, acc, rfl, hX, hY, hZ, rfl, hj, rfl, hK, ha, ow, br, hp⟩
    subst hX hY hZ
    refine onB.dec (fun e4 => ?_) (fun e4 => ?_)
    · obtain ⟨d, hd⟩ : ∃ d, N - j = d + 1 := ⟨N - j - 1, by omega⟩
      rw [hd] at hp
      simp only [opsP] at hp
      have hkl := takeO_len (((l.drop q).drop q2).drop K) (hb2.drop K)
      rw [List.length_drop] at hkl
      refine OpOwn.take ow br (by simp; omega) (hb2.drop K) (by omega) (fun e5 d' h' sd o' => ?_) (fun e5 d' h' sd hap => ?_)
      · rw [if_neg e5] at hp
        have hp : opsP N ((l.drop q).drop q2) = none := hp
        have hno : readF l = none := by
          rw [hrd, Int.toNat_natCast, hp]; rfl
        exact onTup.opii (o := (takeO (((l.drop q).drop q2).drop K)).1) sd fun _ => onB.pos (by simpa using e5) (k1 hno _ _ _ _ _ _ (Hp.le_trans o1.le o'.kn.le) (o'.kn.lo.trans o1.lo) rfl o'.kn.sc)
      · rw [if_pos e5] at hp
        refine onTup.opii (o := (takeO (((l.drop q).drop q2).drop K)).1) sd fun _ => onB.neg (by simpa using e5) fun _ => hap _ fun r' h4 o4 => onO.mk rfl ?_
        refine br.from rfl (by rw [List.length_drop]; omega) fun r5 br5 => onO.mk (inc64 (by omega)) ⟨_, by show N - (j + 1) < N - j; omega, j + 1, K + (takeO (((l.drop q).drop q2).drop K)).2.1, _, rfl, rfl, rfl, rfl, rfl, by omega, rfl, by omega, by simp [ha], o4, by rw [← List.drop_drop]; exact br5, ?_⟩
        rw [show N - (j + 1) = d by omega, hp, ← List.drop_drop, Option.map_map]
        congr 1
        funext r
        simp
    · have : j = N := by omega
      subst this
      rw [Nat.sub_self] at hp
      simp only [opsP, Option.map_some, List.append_nil] at hp
      refine k2 X Y Z [] acc ?_ _ _ _ ⟨Hp.le_trans o1.le ow.kn.le, ow.kn.lo.trans o1.lo, .inr ⟨rfl, rfl, ow.mono o1.le o1.lo⟩⟩
      rw [hrd]
      have hp : opsP ((j : Int)).toNat ((l.drop q).drop q2) = some acc := hp
      rw [hp]; rfl
end
/-! ### plain -/
def word (l : List Nat) : Nat := l.getD 0 0 * 16777216 + l.getD 1 0 * 65536 + l.getD 2 0 * 256 + l.getD 3 0
def frmF (f : Fr) : Bool := frmV f.1 f.2.1 f.2.2.1 f.2.2.2.1 f.2.2.2.2
def frmB (f : Fr) : List Nat := frmE f.1 f.2.1 f.2.2.1 f.2.2.2.1 f.2.2.2.2
def parseP (l : List Nat) : Option Fr × Int :=
  if l.length < 4 then (none, 7) else if word l = crc 0 (l.drop 4) then (match readF (l.drop 4) with
    | some f => if frmF f = true ∧ frmB f = l then (some f, 0) else (none, 1)
    | none => (none, 1)) else (none, 8)
theorem opsP_ok : ∀ {m : Nat} {l : List Nat} {r : List D.Op}, Bytes8 l → opsP m l = some r → r.length = m ∧ ∀ o ∈ r, mayO o = true ∧ Bytes8 o.key
  | 0, l, r, hl, h => by simp only [opsP] at h; injection h with h; subst h; exact ⟨rfl, fun o ho => by cases ho⟩
  | m + 1, l, r, hl, h => by
    simp only [opsP] at h
    split at h
    · rename_i he
      obtain ⟨q, hq, rfl⟩ := Option.map_eq_some_iff.1 h
      obtain ⟨h1, h2⟩ := opsP_ok (hl.drop _) hq
      obtain ⟨w1, w2, w3, w4⟩ := takeO_was hl he
      refine ⟨by simp [h1], fun o ho => ?_⟩
      rcases List.mem_cons.1 ho with rfl | ho
      · exact ⟨w1, w4⟩
      · exact h2 o ho
    · cases h
theorem readF_ok {l : List Nat} (hl : Bytes8 l) {x y z : Int} {v : List Int} {o : List D.Op} (h : readF l = some (x, y, z, v, o)) : v.length ≤ 1024 ∧ o.length ≤ 8 ∧ ∀ p ∈ o, mayO p = true ∧ Bytes8 p.key := by
  unfold readF at h
  split at h
  · rename_i x' y' z' k e
    unfold restF at h
    split at h
    · split at h
      · rename_i e2
        simp only [Option.some.injEq, Prod.mk.injEq] at h
        obtain ⟨_, _, _, rfl, rfl⟩ := h
        obtain ⟨w1, _⟩ := goodV.was _ (hl.drop k) e2
        have := vecV_len w1
        exact ⟨by omega, by simp, fun p hp => by cases hp⟩
      · cases h
    · split at h
      · rename_i n k2 e2
        split at h
        · cases h
        · obtain ⟨q, hq, he⟩ := Option.map_eq_some_iff.1 h
          simp only [Prod.mk.injEq] at he
          obtain ⟨_, _, _, rfl, rfl⟩ := he
          obtain ⟨h1, h2⟩ := opsP_ok ((hl.drop k).drop k2) hq
          exact ⟨by simp, by omega, h2⟩
      · cases h
  · cases h
theorem word_four {c : Nat} (h : c < 4294967296) (rest : List Nat) : word (four c ++ rest) = c := by
  show c / 16777216 % 256 * 16777216 + c / 65536 % 256 * 65536 + c / 256 % 256 * 256 + c % 256 = c
  omega
theorem numsP_put : ∀ (v : List Int) (rest : List Nat), (∀ x ∈ v, okN x) → numsP v.length (encs v ++ rest) = some (v, (encs v).length)
  | [], rest, _ => rfl
  | x :: v, rest, h => by
    have e1 := goodN.put x (encs v ++ rest) (h x (by simp))
    rw [List.length_cons, encs_cons, List.append_assoc]
    simp only [numsP, e1, if_true, List.drop_left]
    rw [numsP_put v rest fun y hy => h y (by simp [hy])]
    simp
theorem opsP_put : ∀ (l : List D.Op) (rest : List Nat), (∀ o ∈ l, mayO o = true ∧ Bytes8 o.key) → opsP l.length (opsE l ++ rest) = some l
  | [], rest, _ => rfl
  | o :: l, rest, h => by
    obtain ⟨h1, h2⟩ := h o (by simp)
    have e1 := takeO_put h1 h2 (opsE l ++ rest)
    have e : opsE (o :: l) = opE o ++ opsE l := by simp [opsE]
    rw [List.length_cons, e, List.append_assoc]
    simp only [opsP, e1, if_true, List.drop_left]
    rw [opsP_put l rest fun y hy => h y (by simp [hy])]
    rfl
theorem readF_put {x y z : Int} {v : List Int} {l : List D.Op} (h : frmV x y z v l = true) (hk : Keys8 l) : readF (bodyE x y z v l) = some (x, y, z, v, l) := by
  obtain ⟨s1, s2, s3⟩ := frm_ok h
  have hz : 0 ≤ z ∧ z ≤ 2 := by rcases s3 with ⟨e, _⟩ | ⟨e, _⟩ <;> omega
  have e1 := numsP_put [x, y, z] ((if z = 1 then encV v else enc l.length) ++ opsE l) (fun n hn => by
    simp at hn
    rcases hn with rfl | rfl | rfl <;> exact ⟨by omega, by omega⟩)
  unfold readF bodyE
  have e1 : numsP 3 (encs [x, y, z] ++ ((if z = 1 then encV v else enc l.length) ++ opsE l)) = some ([x, y, z], (encs [x, y, z]).length) := e1
  rw [e1]
  simp only [List.drop_left]
  unfold restF
  rcases s3 with ⟨rfl, hv, rfl⟩ | ⟨rfl, rfl, ho, _, _⟩
  · have e2 := goodV.put v [] hv
    simp only [if_true]
    have e3 : encV v ++ opsE [] = encV v ++ [] := rfl
    rw [e3, e2]
    simp
  · have e2 := numsP_put [(l.length : Int)] (opsE l) (fun n hn => by simp at hn; subst hn; exact ⟨by omega, by omega⟩)
    have e2 : numsP 1 (enc l.length ++ opsE l) = some ([(l.length : Int)], (enc l.length).length) := by
      have q : encs [(l.length : Int)] = enc l.length := by simp [encs]
      rw [q] at e2; exact e2
    rw [if_neg (by omega), if_neg (by omega), e2]
    simp only [List.drop_left]
    have e3 := opsP_put l [] fun o hm => ⟨ho o hm, hk o hm⟩
    rw [List.append_nil] at e3
    rw [if_neg (by omega), Int.toNat_natCast, e3]; rfl
theorem bytes_enc : ∀ (n : Nat), Bytes8 (enc n) := by
  intro n
  induction n using Nat.strongRecOn with
  | ind n ih =>
    by_cases h : n < 128
    · rw [enc_small h]; intro x hx; simp at hx; omega
    · rw [enc_big (by omega)]
      intro x hx
      rcases List.mem_cons.1 hx with rfl | hx
      · omega
      · exact ih (n / 128) (by omega) x hx
theorem Bytes8.append {a b : List Nat} (ha : Bytes8 a) (hb : Bytes8 b) : Bytes8 (a ++ b) := fun x hx => (List.mem_append.1 hx).elim (ha x) (hb x)
theorem bytes_encs : ∀ (v : List Int), Bytes8 (encs v)
  | [] => fun x hx => by simp [encs] at hx
  | x :: v => by rw [encs_cons]; exact (bytes_enc _).append (bytes_encs v)
theorem bytes_opE {o : D.Op} (hk : Bytes8 o.key) : Bytes8 (opE o) := by
  unfold opE
  refine ((((bytes_enc _).append (bytes_enc _)).append ((bytes_enc _).append (bytes_encs _))).append (bytes_enc _)).append ((bytes_enc _).append (bytes_enc _)) |>.append ?_
  split
  · exact ((bytes_enc _).append (bytes_enc _)).append ((bytes_enc _).append hk)
  · exact (bytes_enc _).append (bytes_enc _)
theorem bytes_opsE : ∀ {l : List D.Op}, Keys8 l → Bytes8 (opsE l)
  | [], _ => fun x hx => by simp [opsE] at hx
  | o :: l, h => by
    have e : opsE (o :: l) = opE o ++ opsE l := by simp [opsE]
    rw [e]
    exact (bytes_opE (h o (by simp))).append (bytes_opsE fun p hp => h p (by simp [hp]))
theorem bytes_body {x y z : Int} {v : List Int} {l : List D.Op} (hk : Keys8 l) : Bytes8 (bodyE x y z v l) := by
  unfold bodyE
  refine (bytes_encs _).append (Bytes8.append ?_ (bytes_opsE hk))
  split
  · exact (bytes_enc _).append (bytes_encs _)
  · exact bytes_enc _
theorem parseP_put {x y z : Int} {v : List Int} {l : List D.Op} (h : frmV x y z v l = true) (hk : Keys8 l) : parseP (frmE x y z v l) = (some (x, y, z, v, l), 0) := by
  have hb := bytes_body (x := x) (y := y) (z := z) (v := v) hk
  have hc := crc_lt (s := 0) hb (by omega)
  have hd : (frmE x y z v l).drop 4 = bodyE x y z v l := rfl
  have hw : word (frmE x y z v l) = crc 0 (bodyE x y z v l) := word_four hc _
  unfold parseP
  rw [if_neg (by unfold frmE four; simp), hd, hw, if_pos rfl, readF_put h hk]
  simp only
  rw [if_pos ⟨h, rfl⟩]
/-! ### contracts -/
theorem shl32 {c k : Nat} (hc : c < 256) (hk : k ≤ 24) : shO .shl .u32 (c : Int) (k : Int) = some ((c * 2 ^ k : Nat) : Int) := by
  unfold shO
  have e : shiftA .shl .u32 (c : Int) (k : Int) = some (.i .u32 (wrapA .u32 (Int.mul (c : Int) (.ofNat (Nat.pow 2 (cond (Nat.ble k 32) k 32)))))) := rfl
  have hp : (2 : Nat) ^ k ≤ 16777216 := by
    have : (2 : Nat) ^ k ≤ 2 ^ 24 := Nat.pow_le_pow_right (by omega) hk
    simpa using this
  have hm : c * 2 ^ k ≤ 255 * 16777216 := Nat.mul_le_mul (by omega) hp
  rw [e, Nat.ble_eq_true_of_le (by omega), cond_true]
  have h2 : Int.mul (c : Int) (.ofNat (Nat.pow 2 k)) = ((c * 2 ^ k : Nat) : Int) := by rw [Int.natCast_mul]; rfl
  rw [h2, wrap_mod rfl]
  show some (((c * 2 ^ k : Nat) : Int) % 4294967296) = _
  congr 1; omega
theorem or32 {a b k : Nat} (hb : b < 2 ^ k) (h : a * 2 ^ k + b < 4294967296) : intO .or .u32 ((a * 2 ^ k : Nat) : Int) (b : Int) = some ((a * 2 ^ k + b : Nat) : Int) := by
  unfold intO
  have e : intA .or .u32 ((a * 2 ^ k : Nat) : Int) (b : Int) = some (.i .u32 (wrapA .u32 (.ofNat (Nat.lor (a * 2 ^ k) b)))) := by
    show (cond (Nat.blt (a * 2 ^ k) 4294967296 && Nat.blt b 4294967296) _ none : Option AV) = _
    rw [blt_of (by omega), blt_of (by omega)]; rfl
  rw [e]
  have h2 : Nat.lor (a * 2 ^ k) b = a * 2 ^ k + b := by
    have := Nat.two_pow_add_eq_or_of_lt hb a
    show (a * 2 ^ k) ||| b = _
    rw [Nat.mul_comm a, ← this]
  rw [h2]
  show some (wrapA .u32 ((a * 2 ^ k + b : Nat) : Int)) = _
  rw [wrap_mod rfl]
  show some (((a * 2 ^ k + b : Nat) : Int) % 4294967296) = _
  congr 1; omega
theorem shl32' {c k A : Nat} (hc : c < 256) (hk : k ≤ 24) (hA : A = c * 2 ^ k) : shO .shl .u32 (c : Int) (k : Int) = some (A : Int) := by subst hA; exact shl32 hc hk
theorem or32' {A a b k C : Nat} (hA : A = a * 2 ^ k) (hb : b < 2 ^ k) (hC : C = A + b) (h : C < 4294967296) : intO .or .u32 (A : Int) (b : Int) = some (C : Int) := by subst hA; subst hC; exact or32 hb h
section
variable {g h : Hp} {a b : AV} {l m : List Nat} {Post : AV → Hp → Prop}
theorem c16 {x y z : Int} {v : List Int} {ops : List D.Op} (ra : IR h a v) (rb : OpRow h b ops) (hv : v.length < 1000000) (hb : ops.length < 1000000) (ho : ∀ o ∈ ops, opOk o) (hk : Keys8 ops)
    (k : ∀ r (n : Int) h', h.le h' → h'.lo = h.lo → r.sc = true → (frmV x y z v ops = false → n = 1 ∧ r = .ns ∧ h' = h) → (frmV x y z v ops = true → n = 0 ∧ BO h h' r (frmE x y z v ops)) → Post (.tup [r, .i .i64 n]) h') : wpC Try.prog 16 [frmA x y z a b] Post h := by
  refine call_sound (args := [.ag [.ii .i64 x, .ii .i64 y, .ii .i64 z, .vv a, .vv b]]) (cuts := []) ⟨⟨trivial, trivial, trivial, ra.sc, rb.sc, trivial⟩, trivial⟩ ?_
  rw [vc16]
  refine fun _ => c25 ra rb hv hb ho (onRet.b (onB.not (fun e => k _ _ _ (Hp.le_refl h) rfl rfl (fun _ => ⟨rfl, rfl, rfl⟩) (fun e' => by rw [e] at e'; cases e')) (fun e => ?_)))
  exact c27 ra rb e hk fun r h' o => onRet.r o.sc (k _ _ _ o.le o.lo o.sc (fun e' => by rw [e] at e'; cases e') (fun _ => ⟨rfl, o⟩))
theorem c9 (r : BR h a l) (hb : l.length < 900000) (k1 : (parseP l).1 = none → ∀ h', h.le h' → h'.lo = h.lo → Post (.tup [frmA 0 0 0 .ns .ns, .i .i64 (parseP l).2]) h')
    (k2 : ∀ f, parseP l = (some f, 0) → ∀ a4 a5 h', FrmOwn h h' a4 a5 f.2.2.2.1 f.2.2.2.2 → Post (.tup [frmA f.1 f.2.1 f.2.2.1 a4 a5, .i .i64 0]) h') : wpC Try.prog 9 [a] Post h := by
  have hl8 : Bytes8 l := fun x hx => byte_lt r hx
  refine call_sound (args := [.vv a]) (cuts := []) ⟨r.sc, trivial⟩ ?_
  rw [vc9]
  have bad : ∀ e : Int, parseP l = (none, e) → ∀ h', h.le h' → h'.lo = h.lo → Post (.tup [frmA 0 0 0 .ns .ns, .i .i64 e]) h' := fun e he h' le lo => by
    have := k1 (by rw [he]) h' le lo
    rw [he] at this
    exact this
  unfold parseP at bad k2
  refine fun _ => onO.mk r.len (onB.dec (fun e => bad _ (by rw [if_pos (by omega)]) _ (Hp.le_refl h) rfl) (fun e => ?_))
  rw [if_neg (by omega)] at bad k2
  have h4 : 4 ≤ l.length := by omega
  refine r.from rfl h4 fun a0 r0 => c23 (s := 0) r0 (by omega) (by simp; omega) (onRet.u32 ?_)
  obtain ⟨x0, e0⟩ := get_lt (l := l) (k := 0) (by omega)
  obtain ⟨x1, e1⟩ := get_lt (l := l) (k := 1) (by omega)
  obtain ⟨x2, e2⟩ := get_lt (l := l) (k := 2) (by omega)
  obtain ⟨x3, e3⟩ := get_lt (l := l) (k := 3) (by omega)
  have b0 := byte_lt r (List.mem_of_getElem? e0)
  have b1 := byte_lt r (List.mem_of_getElem? e1)
  have b2 := byte_lt r (List.mem_of_getElem? e2)
  have b3 := byte_lt r (List.mem_of_getElem? e3)
  have hw : word l = x0 * 16777216 + x1 * 65536 + x2 * 256 + x3 := by
    unfold word
    simp only [List.getD_eq_getElem?_getD, e0, e1, e2, e3, Option.getD_some]
  have p24 : (2 : Nat) ^ 24 = 16777216 := rfl
  have p16 : (2 : Nat) ^ 16 = 65536 := rfl
  have p8 : (2 : Nat) ^ 8 = 256 := rfl
  obtain ⟨A, hA⟩ : ∃ A, A = x0 * 16777216 := ⟨_, rfl⟩
  obtain ⟨B, hB⟩ : ∃ B, B = x1 * 65536 := ⟨_, rfl⟩
  obtain ⟨C, hC⟩ : ∃ C, C = A + B := ⟨_, rfl⟩
  obtain ⟨D, hD⟩ : ∃ D, D = x2 * 256 := ⟨_, rfl⟩
  obtain ⟨E, hE⟩ : ∃ E, E = C + D := ⟨_, rfl⟩
  have s0 := shl32' (k := 24) (A := A) b0 (by omega) (by rw [p24]; exact hA)
  have s1 := shl32' (k := 16) (A := B) b1 (by omega) (by rw [p16]; exact hB)
  have s2 := shl32' (k := 8) (A := D) b2 (by omega) (by rw [p8]; exact hD)
  have t0 := or32' (A := A) (a := x0) (b := B) (k := 24) (C := C) (by rw [p24]; exact hA) (by rw [p24]; omega) hC (by omega)
  have t1 := or32' (A := C) (a := x0 * 256 + x1) (b := D) (k := 16) (C := E) (by rw [p16]; omega) (by rw [p16]; omega) hE (by omega)
  have t2 := or32' (A := E) (a := x0 * 65536 + x1 * 256 + x2) (b := x3) (k := 8) (C := word l) (by rw [p8]; omega) (by rw [p8]; omega) (by omega) (by omega)
  refine byte0 r (k := 0) e0 (onO.mk (wr32n (by omega)) (onO.mk s0 (byte0 r (k := 1) e1 (onO.mk (wr32n (by omega)) (onO.mk s1 (onO.mk t0 ?_))))))
  refine byte0 r (k := 2) e2 (onO.mk (wr32n (by omega)) (onO.mk s2 (onO.mk t1 ?_)))
  refine byte0 r (k := 3) e3 (onO.mk (wr32n (by omega)) (onO.mk t2 ?_))
  refine onB.ndec (fun e => bad _ (by rw [if_neg (by omega)]) _ (Hp.le_refl h) rfl) (fun e => ?_)
  rw [if_pos (by omega)] at bad k2
  refine r.from rfl h4 fun a2 r2 => c24 r2 (by simp; omega) (fun e4 x y z a4 a5 h' le lo s4 s5 => onTup.frmb s4 s5 fun _ => onB.pos rfl (bad _ (by rw [e4]) _ le lo)) (fun x y z v ops e4 a4 a5 h1 fo => onTup.frmb fo.ra.sc fo.rb.sc fun _ => onB.neg rfl ?_)
  obtain ⟨w1, w2, w3⟩ := readF_ok (hl8.drop 4) e4
  rw [e4] at bad k2
  simp only at bad k2
  refine c25 fo.ra fo.rb (by omega) (by omega) (fun o ho => by
    have := (mayO_nums (w3 o ho).1).len
    show o.deps.length < 1000000; omega) (onRet.b (onB.not (fun e5 => bad _ ?_ _ fo.le fo.lo) (fun e5 => ?_)))
  · rw [if_neg (fun hh => by have h1 := hh.1; unfold frmF at h1; simp only at h1; rw [e5] at h1; cases h1)]
  · refine c27 fo.ra fo.rb e5 (fun o ho => (w3 o ho).2) fun r8 h2 o8 => onRet.r o8.sc (c26 o8.row (r.mono (Hp.le_trans fo.le o8.le)) (onRet.b (onB.not (fun e6 => bad _ ?_ _ (Hp.le_trans fo.le o8.le) (o8.lo.trans fo.lo)) (fun e6 => ?_))))
    · rw [if_neg (fun hh => by have h1 := hh.2; unfold frmB at h1; simp only at h1; exact of_decide_eq_false e6 h1)]
    · have e6 := of_decide_eq_true e6
      have hcond : frmF (x, y, z, v, ops) = true ∧ frmB (x, y, z, v, ops) = l := ⟨e5, e6⟩
      refine k2 (x, y, z, v, ops) (by rw [if_pos hcond]) _ _ _ (fo.up o8.le o8.lo)
end
section
variable {g h : Hp} {a b : AV} {l m : List Nat} {Post : AV → Hp → Prop}
/-- a call that gives bytes, behind bytes of one's own -/
theorem BO.then {f : FuncId} {args : List AV} (o : BO g h a l) (w : ∀ p, g.le p → p.lo = g.lo → wpC Try.prog f args (fun v p' => BO p p' v m) p) {K : AV → Hp → Prop} (k : ∀ d h', d.sc = true → BR h' d m → BO g h' a l → K d h') : wpC Try.prog f args K h := by
  obtain ⟨p, css, q1, q2, fr, q3⟩ := o
  refine (fr.call (w p q1 q2)).mono ?_
  rintro d h3 ⟨p', fr', lo', o3⟩
  exact k d h3 o3.sc (o3.row.mono fr'.le) ⟨p', css, Hp.le_trans q1 o3.le, lo'.trans q2, fr', q3⟩
end
section
variable {g h : Hp} {a b : AV} {l m : List Nat} {Post : AV → Hp → Prop}
theorem c11 {x : Int} (k : Post (.i .i64 x) h) : wpC Try.prog 11 [.i .i64 x] Post h := by
  refine call_sound (args := [.ii .i64 x]) (cuts := []) ⟨trivial, trivial⟩ ?_
  rw [vc11]; exact k
end
section
variable {g h : Hp} {a b c : AV} {l m : List Nat} {Post : AV → Hp → Prop}
theorem onRet.frm {x y z : Int} {a b : AV} (ha : a.sc = true) (hb : b.sc = true) {K : Int → Int → Int → AV → AV → Prop} (k : K x y z a b) : onRet [Sh.agg [Kd.int .i64, Kd.int .i64, Kd.int .i64, Kd.ref, Kd.ref]] (frmA x y z a b) K := by
  unfold onRet onS
  have : flatV [Sh.agg [Kd.int .i64, Kd.int .i64, Kd.int .i64, Kd.ref, Kd.ref]] [frmA x y z a b] = some [.i .i64 x, .i .i64 y, .i .i64 z, a, b] := rfl
  rw [this]
  exact onRef.mk (K := fun a => onRef b fun b => K x y z a b) ha (onRef.mk (K := fun b => K x y z a b) hb k)
theorem onL.frm {x y z : Int} {a b : AV} (ha : a.sc = true) (hb : b.sc = true) {K : Int → Int → Int → AV → AV → Prop} (k : K x y z a b) : onL [Kd.int .i64, Kd.int .i64, Kd.int .i64, Kd.ref, Kd.ref] [.i .i64 x, .i .i64 y, .i .i64 z, a, b] K :=
  onRef.mk (K := fun a => onRef b fun b => K x y z a b) ha (onRef.mk (K := fun b => K x y z a b) hb k)
theorem onL.frmx {x y z : Int} {a b c : AV} (ha : a.sc = true) (hb : b.sc = true) (hc : c.sc = true) {K : Int → Int → Int → AV → AV → AV → Prop} (k : K x y z a b c) : onL [Kd.int .i64, Kd.int .i64, Kd.int .i64, Kd.ref, Kd.ref, Kd.ref] [.i .i64 x, .i .i64 y, .i .i64 z, a, b, c] K :=
  onRef.mk (K := fun a => onRef b fun b => onRef c fun c => K x y z a b c) ha (onRef.mk (K := fun b => onRef c fun c => K x y z a b c) hb (onRef.mk (K := fun c => K x y z a b c) hc k))
theorem c6 {x y z : Int} {v : List Int} {ops : List D.Op} (ra : IR h a v) (rb : OpRow h b ops) (rc : BR h c l) (hv : v.length ≤ 140737488351232) (ho : ops.length ≤ 140737488351232) (k1 : Post (.b true) h)
    (k2 : v.length ≤ 5000 → (ops.length ≤ 5000 ∧ ∀ o ∈ ops, o.deps.length ≤ 5000 ∧ o.key.length ≤ 5000) → l.length ≤ 5000 → Post (.b false) h) : wpC Try.prog 6 [.agg [.i .i64 x, .i .i64 y, .i .i64 z, a, b, c]] Post h := by
  refine call_sound (args := [.ag [.ii .i64 x, .ii .i64 y, .ii .i64 z, .vv a, .vv b, .vv c]]) (cuts := []) ⟨⟨trivial, trivial, trivial, ra.sc, rb.sc, rc.sc, trivial⟩, trivial⟩ ?_
  rw [vc6]
  refine fun _ => onO.mk ra.len (c21 rb ho fun n h0 h1 hn => onRet.i (onO.mk (add64 (by omega) (by omega)) (onB.dec (fun _ => k1) (fun e => onO.mk rc.len ?_))))
  by_cases e2 : (5000 : Int) < l.length
  · rw [decide_eq_true e2]; exact k1
  · rw [decide_eq_false e2]; exact k2 (by omega) (hn (by omega)) (by omega)
theorem frmE_len {x y z : Int} {v : List Int} {ops : List D.Op} (hm : frmV x y z v ops = true) : (frmE x y z v ops).length ≤ 4100 := by
  obtain ⟨s1, s2, s3⟩ := frm_ok hm
  have hz : 0 ≤ z ∧ z ≤ 2 := by rcases s3 with ⟨e, _⟩ | ⟨e, _⟩ <;> omega
  have hol : ops.length ≤ 8 := by
    rcases s3 with ⟨_, _, e⟩ | ⟨_, _, _, _, e⟩
    · rw [e]; simp
    · exact e
  have hall : ∀ o ∈ ops, mayO o = true := by
    rcases s3 with ⟨_, _, e⟩ | ⟨_, _, e, _⟩
    · rw [e]; intro o ho; cases ho
    · exact e
  have h1 := encs_len (v := [x, y, z]) (fun n hn => by simp at hn; omega)
  have h2 := opsE_len hall
  have h3 := enc_len10 (n := ops.length) (by omega)
  simp only [List.length_cons, List.length_nil] at h1
  unfold frmE bodyE four
  simp only [List.length_append, List.length_cons, List.length_nil]
  split
  · rename_i e
    obtain ⟨_, hv, ho⟩ : z = 1 ∧ vecV v = true ∧ ops = [] := s3.resolve_right (by omega)
    have hvl := vecV_len hv
    have hl1 := enc_len10 (n := v.length) (by omega)
    have hl2 := encs_len (v := v) fun n hn => by
      obtain ⟨q, hq⟩ := List.getElem?_of_mem hn
      have := vecV_at hv hq; omega
    unfold encV
    rw [List.length_append]; omega
  · omega
theorem theO_keys : Keys8 [theO] := fun o ho => by
  simp at ho; subst ho
  exact fun x hx => by simp [theO] at hx; omega
theorem theF_may : frmV 0 1 2 [] [theO] = true := by decide
/-- one operation in a new block -/
theorem one_op {d : AV} {p : Nat} (rd : IR h d theO.deps) (hp : h.g p = none) : OpRow (h.put p (opC theO d)) (.sl p 0 1 1 true 12) [theO] := by
  have kx : D.kOp.K (h.put p (opC theO d)) theO (opC theO d) := nums_in theO_may (theO_keys theO (by simp)) (rd.mono (Hp.le_put hp))
  refine ⟨[opC theO d], ⟨fun c hc => by simp at hc; subst hc; rfl, rfl, rfl, Nat.le_refl _, .inr ?_⟩, .cons kx .nil⟩
  unfold rdH
  rw [Hp.put_same]; rfl
theorem c15 (k : ∀ h', Post (.b true) h') : wpC Try.prog 15 [] Post h := by
  refine call_sound (args := []) (cuts := []) trivial ?_
  rw [vc15]
  refine c35 fun d h1 o1 => onRet.op (o := theO) o1.sc fun _ p hp _ => ?_
  have r1 := one_op o1.row hp
  have hok : ∀ o ∈ [theO], opOk o := fun o ho => by simp at ho; subst ho; show 1 < 1000000; omega
  refine c16 (ops := [theO]) nsI r1 (by simp) (by simp) hok theO_keys fun r2 n h2 le2 lo2 sc2 _ k2 => onTup.ri sc2 ?_
  obtain ⟨rfl, o2⟩ := k2 theF_may
  have pp := parseP_put theF_may theO_keys
  have hlen : (frmE 0 1 2 [] [theO]).length < 900000 := by
    unfold frmE bodyE four
    have h1 := encs_len (v := [0, 1, 2]) (fun x hx => by simp at hx; omega)
    have h2 := opsE_len (l := [theO]) (fun o ho => by simp at ho; subst ho; exact theO_may)
    have h3 := enc_len10 (n := 1) (by omega)
    rw [if_neg (by omega)]
    simp only [List.length_append, List.length_cons, List.length_nil] at h1 h2 ⊢
    have h3 : (enc (0 + 1)).length ≤ 9 := h3
    omega
  refine c9 o2.row hlen (fun e => by rw [pp] at e; cases e) fun f hf a4 a5 h3 fo => ?_
  rw [pp] at hf
  injection hf with hf _
  injection hf with hf
  subst hf
  refine onTup.frm fo.ra.sc fo.rb.sc fun _ => c11 (onRet.i (onB.pos rfl (c11 (onRet.i (onB.pos rfl ?_)))))
  refine c12 fo.ra fo.rb nsI (r1.mono (Hp.le_trans le2 fo.le)) (by simp) (by simp) hok (onRet.b ?_)
  simp only [decide_true, Bool.and_self]
  exact k _
theorem frmx_open {x : D.FrmX} {cs : List AV} (k : D.kFrmX.K h x cs) : ∃ a0 a1 a2, cs = [.i .i64 x.f.src, .i .i64 x.f.dst, .i .i64 x.f.kind, a0, a1, a2] ∧ IR h a0 x.f.haves ∧ x.f.haves.length ≤ 140737488351232 ∧ OpRow h a1 x.f.ops ∧ x.f.ops.length ≤ 140737488351232 ∧ Keys8 x.f.ops ∧ BR h a2 x.x := by
  obtain ⟨a0, a1, a2, e, f1, f2, f3, ⟨f4, f4'⟩, ⟨f5, f5'⟩, f6, f7⟩ := D.kFrmX_open k
  refine ⟨a0, a1, a2, e, f4, by omega, f5, by omega, fun o ho => ?_, f6⟩
  obtain ⟨c, hc⟩ := f5.all ho
  obtain ⟨d, _, _, _, _, _, _, _, _, _, _, g, _⟩ := D.kOp_open hc
  exact g.2
theorem frmx1 {h1 : Hp} {a : AV} {L : List D.FrmX} (r : D.kFrmX.Row h a L) (le : h.le h1) {i : Nat} {p : D.FrmX} (hp : L[i]? = some p) {K : Int → Int → Int → AV → AV → Prop} (q : ∀ a0 a1, IR h a0 p.f.haves → OpRow h a1 p.f.ops → K p.f.src p.f.dst p.f.kind a0 a1) :
    onO (idxV a (i : Int) 6) fun r0 => onO (rdH h1 r0.1 (r0.2 + 0) 5) fun l0 => onL [Kd.int .i64, Kd.int .i64, Kd.int .i64, Kd.ref, Kd.ref] l0 K := by
  obtain ⟨bb, oo, c, e1, e2, e3⟩ := r.idx (i := (i : Int)) (Int.natCast_nonneg i) (by simpa using hp)
  obtain ⟨a0, a1, a2, rfl, r0, _, r1, _⟩ := frmx_open e3
  exact onO.mk e1 (onO.mk (rdH_sub (rdH_le le e2) (o' := 0) (n' := 5) rfl) (onL.frm r0.sc r1.sc (q a0 a1 r0 r1)))
end
theorem xor_cancel {a b c : Nat} (h : Nat.xor a c = Nat.xor b c) : a = b := by
  have h : a ^^^ c = b ^^^ c := h
  have e : a ^^^ c ^^^ c = b ^^^ c ^^^ c := by rw [h]
  simpa [Nat.xor_assoc, Nat.xor_self, Nat.xor_zero] using e
theorem xor_cancel' {a b c : Nat} (h : Nat.xor c a = Nat.xor c b) : a = b := by
  have h : c ^^^ a = c ^^^ b := h
  refine xor_cancel (c := c) ?_
  show a ^^^ c = b ^^^ c
  rw [Nat.xor_comm a c, Nat.xor_comm b c]; exact h
theorem bit1_odd {s t : Nat} (hs : s < 4294967296) (ht : t < 4294967296) (h : Nat.xor (s / 2) 3988292384 = t / 2) : False := by
  have e : Nat.xor 3988292384 (s / 2) = Nat.xor (Nat.xor (t / 2) (s / 2)) (s / 2) := by
    show 3988292384 ^^^ (s / 2) = (t / 2) ^^^ (s / 2) ^^^ (s / 2)
    rw [Nat.xor_assoc, Nat.xor_self, Nat.xor_zero, Nat.xor_comm]; exact h
  have e := xor_cancel e
  have : Nat.xor (t / 2) (s / 2) < 2 ^ 31 := Nat.xor_lt_two_pow (n := 31) (by omega) (by omega)
  omega
theorem bit1_inj {s t : Nat} (hs : s < 4294967296) (ht : t < 4294967296) (h : bit1 s = bit1 t) : s = t := by
  unfold bit1 at h
  split at h <;> split at h
  · have := xor_cancel h; omega
  · exact (bit1_odd hs ht h).elim
  · exact (bit1_odd ht hs h.symm).elim
  · omega
theorem bitn_inj : ∀ {n s t : Nat}, s < 4294967296 → t < 4294967296 → bitn n s = bitn n t → s = t
  | 0, s, t, _, _, h => h
  | n + 1, s, t, hs, ht, h => bit1_inj hs ht (bitn_inj (n := n) (bit1_lt hs) (bit1_lt ht) h)
theorem crcF_inj : ∀ {l : List Nat} {s t : Nat}, Bytes8 l → s < 4294967296 → t < 4294967296 → crcF s l = crcF t l → s = t
  | [], s, t, _, _, _, h => h
  | b :: l, s, t, hl, hs, ht, h => by
    have hb : b < 256 := hl b (by simp)
    have h1 : Nat.xor s b < 4294967296 := xor_lt32 hs (by omega)
    have h2 : Nat.xor t b < 4294967296 := xor_lt32 ht (by omega)
    exact xor_cancel (bitn_inj h1 h2 (crcF_inj (l := l) (fun x hx => hl x (by simp [hx])) (bitn_lt h1) (bitn_lt h2) h))
theorem crcF_set : ∀ {l : List Nat} {s k x y : Nat}, Bytes8 l → s < 4294967296 → x < 256 → l[k]? = some y → crcF s (l.set k x) = crcF s l → x = y
  | [], s, k, x, y, _, _, _, e, _ => by simp at e
  | b :: l, s, 0, x, y, hl, hs, hx, e, h => by
    simp at e; subst e
    have hb : b < 256 := hl b (by simp)
    have h1 : Nat.xor s x < 4294967296 := xor_lt32 hs (by omega)
    have h2 : Nat.xor s b < 4294967296 := xor_lt32 hs (by omega)
    have h : crcF (bitn 8 (Nat.xor s x)) l = crcF (bitn 8 (Nat.xor s b)) l := h
    exact xor_cancel' (bitn_inj h1 h2 (crcF_inj (l := l) (fun x hx => hl x (by simp [hx])) (bitn_lt h1) (bitn_lt h2) h))
  | b :: l, s, k + 1, x, y, hl, hs, hx, e, h => by
    have hb : b < 256 := hl b (by simp)
    exact crcF_set (l := l) (k := k) (fun x hx => hl x (by simp [hx])) (bitn_lt (xor_lt32 hs (by omega))) hx (by simpa using e) h
theorem crc_set {l : List Nat} {s k x y : Nat} (hl : Bytes8 l) (hs : s < 4294967296) (hx : x < 256) (e : l[k]? = some y) (h : crc s (l.set k x) = crc s l) : x = y :=
  crcF_set hl (xor_lt32 hs (by omega)) hx e (xor_cancel h)
theorem readF_more {x y z : Int} {v : List Int} {l : List D.Op} (h : frmV x y z v l = true) (hk : Keys8 l) (rest : List Nat) : readF (bodyE x y z v l ++ rest) = some (x, y, z, v, l) := by
  obtain ⟨s1, s2, s3⟩ := frm_ok h
  have hz : 0 ≤ z ∧ z ≤ 2 := by rcases s3 with ⟨e, _⟩ | ⟨e, _⟩ <;> omega
  have e1 := numsP_put [x, y, z] (((if z = 1 then encV v else enc l.length) ++ opsE l) ++ rest) (fun n hn => by
    simp at hn
    rcases hn with rfl | rfl | rfl <;> exact ⟨by omega, by omega⟩)
  unfold readF bodyE
  rw [List.append_assoc]
  have e1 : numsP 3 (encs [x, y, z] ++ (((if z = 1 then encV v else enc l.length) ++ opsE l) ++ rest)) = some ([x, y, z], (encs [x, y, z]).length) := e1
  rw [e1]
  simp only [List.drop_left]
  unfold restF
  rcases s3 with ⟨rfl, hv, rfl⟩ | ⟨rfl, rfl, ho, _, _⟩
  · have e2 := goodV.put v rest hv
    simp only [if_true]
    have e3 : (encV v ++ opsE []) ++ rest = encV v ++ rest := by simp [opsE]
    rw [e3, e2]
    simp
  · have e2 := numsP_put [(l.length : Int)] (opsE l ++ rest) (fun n hn => by simp at hn; subst hn; exact ⟨by omega, by omega⟩)
    have e2 : numsP 1 (enc l.length ++ (opsE l ++ rest)) = some ([(l.length : Int)], (enc l.length).length) := by
      have q : encs [(l.length : Int)] = enc l.length := by simp [encs]
      rw [q] at e2; exact e2
    rw [if_neg (by omega), if_neg (by omega), List.append_assoc, e2]
    simp only [List.drop_left]
    have e3 := opsP_put l rest fun o hm => ⟨ho o hm, hk o hm⟩
    rw [if_neg (by omega), Int.toNat_natCast, e3]; rfl
/-- what is parsed is the whole of a frame's bytes -/
theorem parse_ok {l : List Nat} (hl : Bytes8 l) (h : (parseP l).2 = 0) : ∃ x y z v ops, frmV x y z v ops = true ∧ Keys8 ops ∧ frmE x y z v ops = l := by
  unfold parseP at h
  split at h
  · exact absurd h (by decide)
  split at h
  · split at h
    · rename_i f hf
      split at h
      · rename_i e
        obtain ⟨x, y, z, v, ops⟩ := f
        exact ⟨x, y, z, v, ops, e.1, fun o ho => (readF_ok (hl.drop 4) hf).2.2 o ho |>.2, e.2⟩
      · exact absurd h (by decide)
    · exact absurd h (by decide)
  · exact absurd h (by decide)
/-- no frame's bytes begin another's -/
theorem frm_prefix {x y z x' y' z' : Int} {v v' : List Int} {l l' : List D.Op} {rest : List Nat} (h : frmV x y z v l = true) (hk : Keys8 l) (h' : frmV x' y' z' v' l' = true) (hk' : Keys8 l')
    (e : frmE x' y' z' v' l' = frmE x y z v l ++ rest) : rest = [] := by
  have e4 : (frmE x' y' z' v' l').drop 4 = (frmE x y z v l ++ rest).drop 4 := by rw [e]
  have e4 : bodyE x' y' z' v' l' = bodyE x y z v l ++ rest := e4
  have r1 := readF_more h hk rest
  rw [← e4, readF_put h' hk'] at r1
  simp only [Option.some.injEq, Prod.mk.injEq] at r1
  obtain ⟨rfl, rfl, rfl, rfl, rfl⟩ := r1
  have := congrArg List.length e
  rw [List.length_append] at this
  exact List.eq_nil_of_length_eq_zero (by omega)
section
variable {x y z : Int} {v : List Int} {l : List D.Op}
theorem bytes_frm (hk : Keys8 l) : Bytes8 (frmE x y z v l) := by
  unfold frmE
  refine Bytes8.append (fun n hn => ?_) (bytes_body hk)
  unfold four at hn
  simp only [List.mem_cons, List.not_mem_nil, or_false] at hn
  rcases hn with rfl | rfl | rfl | rfl <;> omega
theorem parse_more (h : frmV x y z v l = true) (hk : Keys8 l) {rest : List Nat} (hr : Bytes8 rest) (hn : rest ≠ []) : (parseP (frmE x y z v l ++ rest)).2 ≠ 0 := fun e => by
  obtain ⟨x', y', z', v', l', h', hk', e'⟩ := parse_ok ((bytes_frm hk).append hr) e
  exact hn (frm_prefix h hk h' hk' e')
theorem parse_cut (h : frmV x y z v l = true) (hk : Keys8 l) {k : Nat} (hn : k < (frmE x y z v l).length) : (parseP ((frmE x y z v l).take k)).2 ≠ 0 := fun e => by
  obtain ⟨x', y', z', v', l', h', hk', e'⟩ := parse_ok (fun n hn => bytes_frm hk n (List.mem_of_mem_take hn)) e
  have e2 : frmE x y z v l = frmE x' y' z' v' l' ++ (frmE x y z v l).drop k := by rw [e', List.take_append_drop]
  have := congrArg List.length (frm_prefix h' hk' h hk e2)
  rw [List.length_drop, List.length_nil] at this
  omega
theorem parse_turn (h : frmV x y z v l = true) (hk : Keys8 l) {k b c : Nat} (hb : (frmE x y z v l)[k]? = some b) (hc : c < 256) (hne : c ≠ b) : parseP ((frmE x y z v l).set k c) = (none, 8) := by
  have hB := bytes_body (x := x) (y := y) (z := z) (v := v) hk
  have hcr := crc_lt (s := 0) hB (by omega)
  have hlen : 4 ≤ (frmE x y z v l).length := by unfold frmE four; simp
  have hw : word ((frmE x y z v l).set k c) ≠ crc 0 (((frmE x y z v l).set k c).drop 4) := by
    have hw0 : word (frmE x y z v l) = crc 0 (bodyE x y z v l) := word_four hcr _
    have hcons : ∃ b0 b1 b2 b3, four (crc 0 (bodyE x y z v l)) = [b0, b1, b2, b3] ∧ b0 < 256 ∧ b1 < 256 ∧ b2 < 256 ∧ b3 < 256 := ⟨_, _, _, _, rfl, by omega, by omega, by omega, by omega⟩
    obtain ⟨b0, b1, b2, b3, h4, l0, l1, l2, l3⟩ := hcons
    unfold frmE at hb hw0 ⊢
    rw [h4] at hb hw0 ⊢
    generalize bodyE x y z v l = B at *
    have hw0 : b0 * 16777216 + b1 * 65536 + b2 * 256 + b3 = crc 0 B := hw0
    match k, hb with
    | 0, hb =>
      have hb : b0 = b := by simpa using hb
      show c * 16777216 + b1 * 65536 + b2 * 256 + b3 ≠ crc 0 B
      omega
    | 1, hb =>
      have hb : b1 = b := by simpa using hb
      show b0 * 16777216 + c * 65536 + b2 * 256 + b3 ≠ crc 0 B
      omega
    | 2, hb =>
      have hb : b2 = b := by simpa using hb
      show b0 * 16777216 + b1 * 65536 + c * 256 + b3 ≠ crc 0 B
      omega
    | 3, hb =>
      have hb : b3 = b := by simpa using hb
      show b0 * 16777216 + b1 * 65536 + b2 * 256 + c ≠ crc 0 B
      omega
    | k + 4, hb =>
      have hb : B[k]? = some b := by simpa using hb
      show b0 * 16777216 + b1 * 65536 + b2 * 256 + b3 ≠ crc 0 (B.set k c)
      rw [hw0]
      exact fun e => hne (crc_set hB (by omega) hc hb e.symm)
  unfold parseP
  rw [if_neg (by rw [List.length_set]; omega), if_neg hw]
end

theorem xor8 {a b : Nat} (h1 : a < 256) (h2 : b < 256) : intO .xor .u8 (a : Int) (b : Int) = some ((Nat.xor a b : Nat) : Int) := by
  unfold intO
  have e : intA .xor .u8 (a : Int) (b : Int) = some (.i .u8 (wrapA .u8 (.ofNat (Nat.xor a b)))) := by
    show (cond (Nat.blt a 256 && Nat.blt b 256) _ none : Option AV) = _
    rw [blt_of h1, blt_of h2]; rfl
  rw [e]
  have : Nat.xor a b < 2 ^ 8 := Nat.xor_lt_two_pow (n := 8) h1 h2
  show some (wrapA .u8 ((Nat.xor a b : Nat) : Int)) = _
  rw [wrap_mod rfl]
  congr 1
  show ((Nat.xor a b : Nat) : Int) % 256 = _
  omega
theorem shl8 {k : Nat} (hk : k < 8) : ∃ b : Nat, b < 256 ∧ b ≠ 0 ∧ shO .shl .u8 1 (k : Int) = some (b : Int) := by
  match k, hk with
  | 0, _ => exact ⟨1, by omega, by omega, rfl⟩
  | 1, _ => exact ⟨2, by omega, by omega, rfl⟩
  | 2, _ => exact ⟨4, by omega, by omega, rfl⟩
  | 3, _ => exact ⟨8, by omega, by omega, rfl⟩
  | 4, _ => exact ⟨16, by omega, by omega, rfl⟩
  | 5, _ => exact ⟨32, by omega, by omega, rfl⟩
  | 6, _ => exact ⟨64, by omega, by omega, rfl⟩
  | 7, _ => exact ⟨128, by omega, by omega, rfl⟩
theorem rem8 {n : Nat} (h : n < 1000000000000) : intO .rem .i64 (n : Int) 8 = some ((n % 8 : Nat) : Int) := by
  have e : intO .rem .i64 (n : Int) 8 = some (((n : Int)).tmod 8) := rfl
  rw [e]; congr 1
theorem quoJ {a b : Int} (h0 : 0 ≤ a) (h1 : a < 9223372036854775808) (hb : 0 < b) : intO .quo .i64 a b = some (a / b) := by
  have : eqI b 0 = false := by
    cases b with
    | ofNat n => cases n with
      | zero => exact absurd hb (by simp)
      | succ n => rfl
    | negSucc n => rfl
  unfold intO intA
  simp only [this, cond_false]
  have e : Int.tdiv a b = a / b := Int.tdiv_eq_ediv_of_nonneg h0
  have h2 : 0 ≤ a / b := Int.ediv_nonneg h0 (by omega)
  have h3 : a / b ≤ a := Int.ediv_le_self b h0
  rw [e, wrap64 (by omega) (by omega)]
theorem xor_ne {a b : Nat} (h : b ≠ 0) : Nat.xor a b ≠ a := fun e => h (by
  have e : a ^^^ b = a := e
  have e2 : a ^^^ (a ^^^ b) = a ^^^ a := by rw [e]
  rw [← Nat.xor_assoc, Nat.xor_self, Nat.zero_xor] at e2; exact e2)
section
variable {g h : Hp} {a b c : AV} {l m : List Nat} {Post : AV → Hp → Prop}
theorem D.lawFrameBack {L : List D.FrmX} {c : AV} (kx : (Kn.slice D.kFrmX 96).K h L [c]) : wpC Try.prog 4 [c] (fun v _ => v = .b true) h := by
  obtain ⟨a, e, r, hL⟩ := kx
  injection e with e _; subst e
  refine call_sound (args := [.vv c]) (cuts := [5000023, 19000060, 37000105]) ⟨r.sc, trivial⟩ ?_
  rw [vc4]
  refine ⟨fun m _ i h' => h.le h' ∧ ∃ k : Nat, i = k ∧ k ≤ L.length ∧ m = L.length - k, ⟨_, Hp.le_refl h, 0, rfl, by omega, rfl⟩, ?_⟩
  rintro m h0 c0 _ ⟨le0, i, rfl, hi, rfl⟩
  refine ⟨fun b h' => h' = h0 ∧ (b = true → i < L.length ∧ i < 8), onO.mk r.len (onB.dec (fun e => ⟨rfl, fun e2 => ⟨by omega, by have := of_decide_eq_true e2; omega⟩⟩) (fun e => ⟨rfl, fun e => by cases e⟩)), ?_⟩
  rintro h1 c1 ⟨rfl, hc1⟩
  refine onB.mk (fun e => ?_) (fun _ => c15 fun h' => onRet.b rfl)
  obtain ⟨hlt, h12⟩ := hc1 e
  obtain ⟨p, hp⟩ := get_lt (l := L) (k := i) hlt
  obtain ⟨bb, oo, cc, e1, e2, e3⟩ := r.idx (i := (i : Int)) (Int.natCast_nonneg i) (by simpa using hp)
  obtain ⟨a0, a1, a2, rfl, r0, hl0, r1, hl1, hk, r2⟩ := frmx_open e3
  refine onO.mk e1 (onO.mk (rdH_le le0 e2) (onL.frmx r0.sc r1.sc r2.sc ?_))
  refine c6 (r0.mono le0) (r1.mono le0) (r2.mono le0) hl0 hl1 (onRet.b (onB.pos rfl rfl)) fun hv ho hx => onRet.b (onB.neg rfl ?_)
  have hok : ∀ o ∈ p.f.ops, opOk o := fun o hm => by have := (ho.2 o hm).1; show o.deps.length < 1000000; omega
  refine frmx1 r le0 hp fun b0 b1 s0 s1 => c16 (s0.mono le0) (s1.mono le0) (by omega) (by omega) hok hk fun a7 n7 h3 le3 lo3 sc7 k1 k2 => onTup.ri sc7 (c11 (onRet.i ?_))
  have fin : ∀ h', h.le h' → onO (intO .add .i64 (i : Int) 1) fun n9 => ∃ p3, ltN p3 (L.length - i) ∧ (h.le h' ∧ ∃ k : Nat, n9 = k ∧ k ≤ L.length ∧ p3 = L.length - k) := fun h' le =>
    onO.mk (inc64 (by omega)) ⟨_, by show L.length - (i + 1) < L.length - i; omega, le, i + 1, rfl, by omega, rfl⟩
  cases hm : frmV p.f.src p.f.dst p.f.kind p.f.haves p.f.ops with
  | false =>
    obtain ⟨rfl, -, rfl⟩ := k1 hm
    exact onB.pos rfl (fin _ le0)
  | true =>
  obtain ⟨rfl, o7⟩ := k2 hm
  have hlen := frmE_len hm
  have pp := parseP_put hm hk
  obtain ⟨B, hB⟩ : ∃ B, B = frmE p.f.src p.f.dst p.f.kind p.f.haves p.f.ops := ⟨_, rfl⟩
  have turn : ∀ {k b c : Nat}, B[k]? = some b → c < 256 → c ≠ b → parseP (B.set k c) = (none, 8) := by rw [hB]; exact fun h1 h2 h3 => parse_turn hm hk h1 h2 h3
  have cut : ∀ {k : Nat}, k < B.length → (parseP (B.take k)).2 ≠ 0 := by rw [hB]; exact fun h1 => parse_cut hm hk h1
  have more : ∀ {rest : List Nat}, Bytes8 rest → rest ≠ [] → (parseP (B ++ rest)).2 ≠ 0 := by rw [hB]; exact fun h1 h2 => parse_more hm hk h1 h2
  rw [← hB] at o7 hlen pp
  have r7 := o7.row
  refine onB.neg rfl (c9 r7 (by omega) (fun e => by rw [pp] at e; cases e) fun f hf a10 a11 h5 fo => ?_)
  rw [pp] at hf
  injection hf with hf _
  injection hf with hf
  subst hf
  have le5 : h.le h5 := Hp.le_trans le0 (Hp.le_trans le3 fo.le)
  refine onTup.frm fo.ra.sc fo.rb.sc fun _ => ⟨fun c h' => c = false ∧ h' = h5, c11 (onRet.i (onB.neg rfl ?_)), ?_⟩
  · exact frmx1 r le5 hp fun b0 b1 s0 s1 => c12 fo.ra fo.rb (s0.mono le5) (s1.mono le5) (by show p.f.haves.length < _; omega) (by show p.f.ops.length < _; omega) hok (onRet.b ⟨by simp, rfl⟩)
  rintro h8 c4 ⟨rfl, rfl⟩
  refine onB.neg rfl ⟨fun m _ j h' => h8.le h' ∧ ∃ k : Nat, j = k ∧ m = 10000 - k, ⟨_, Hp.le_refl _, 0, rfl, rfl⟩, ?_⟩
  rintro m h9 c5 _ ⟨le9, j, rfl, rfl⟩
  have r9 := r7.mono (Hp.le_trans fo.le le9)
  have le9' := Hp.le_trans le5 le9
  refine onO.mk r9.len (onB.dec (fun e => ?_) (fun e => ?_))
  · have hj : j < B.length := by omega
    obtain ⟨x, hx⟩ := get_lt hj
    have hx8 := byte_lt r9 (List.mem_of_getElem? hx)
    obtain ⟨t, ht, ht0, hs⟩ := shl8 (k := (i + j) % 8) (by omega)
    have hX : Nat.xor x t < 256 := Nat.xor_lt_two_pow (n := 8) hx8 ht
    refine c7 r9 (by omega) fun a17 h10 o10 => onRet.r o10.sc (byte0 o10.row hx ?_)
    refine onO.mk (add64 (by omega) (by omega)) ?_
    rw [← Int.natCast_add]
    refine onO.mk (rem8 (by omega)) (onO.mk hs (onO.mk (xor8 hx8 ht) (o10.set hj hX fun h11 o11 => ?_)))
    have tt := turn hx hX (xor_ne ht0)
    refine c9 o11.row (by rw [List.length_set]; omega) (fun _ h12 le12 lo12 => ?_) (fun f hf => by rw [tt] at hf; cases hf)
    rw [tt]
    have le12' := Hp.le_trans o11.le le12
    have r12 := r9.mono le12'
    refine onTup.frm rfl rfl fun _ => r12.upto rfl (Nat.le_of_lt hj) fun a21 r21 => ?_
    have cc := cut hj
    have fin2 : ∀ (n31 : Int) h13, n31 ≠ 0 → h12.le h13 → ∃ I4 : Bool → Hp → Prop,
        wpC Try.prog 11 [AV.i IntKind.i64 8] (fun a25 h14 => onRet [Sh.one (Kd.int IntKind.i64)] a25 fun n32 => onB (!decide (n32 = 8)) (I4 true h14) (wpC Try.prog 11 [AV.i IntKind.i64 n31] (fun a26 h15 => onRet [Sh.one (Kd.int IntKind.i64)] a26 fun n33 => I4 (decide (n33 = 0)) h15) h14)) h13 ∧
        ∀ (h16 : Hp) (c6 : Bool), I4 c6 h16 → onB c6 ((fun v _ => v = AV.b true) (AV.b false) h16) (onO (intO BinOp.add IntKind.i64 (j : Int) 1) fun n34 => onO (lenV a7) fun p10 => onO (intO BinOp.quo IntKind.i64 (↑p10) 40) fun n35 => onO (intO BinOp.add IntKind.i64 n34 n35) fun n36 => ∃ p11, ltN p11 (10000 - j) ∧ (h8.le h16 ∧ ∃ k : Nat, n36 = k ∧ p11 = 10000 - k)) := fun n31 h13 hn le13 => by
      refine ⟨fun c h' => c = false ∧ h' = h13, c11 (onRet.i (onB.neg rfl (c11 (onRet.i ⟨decide_eq_false hn, rfl⟩)))), ?_⟩
      rintro h16 c6 ⟨rfl, rfl⟩
      refine onB.neg rfl (onO.mk (inc64 (by omega)) (onO.mk r9.len (onO.mk (quoJ (by omega) (by omega) (by omega)) ?_)))
      refine onO.mk (add64 (by omega) (by omega)) ⟨10000 - (j + 1 + B.length / 40), by show _ < _; omega, Hp.le_trans le9 (Hp.le_trans le12' le13), j + 1 + B.length / 40, by omega, rfl⟩
    refine c9 r21 (by rw [List.length_take]; omega) (fun _ h13 le13 lo13 => onTup.frm rfl rfl fun _ => fin2 _ h13 cc le13) (fun f hf a23 a24 h13 fo13 => absurd (by rw [hf]) cc)
  · refine c7 r9 (by omega) fun a28 h17 o17 => onRet.r o17.sc (onO.mk wr8n fun _ => app_byte o17 (by omega) (by omega) fun a29 h18 o18 => ?_)
    have mm := more (rest := [i % 256]) (fun x hx => by simp at hx; omega) (by simp)
    have le18 := Hp.le_trans le9' o18.le
    refine c9 o18.row (by simp; omega) (fun _ h19 le19 lo19 => onTup.frm rfl rfl fun _ => c11 (onRet.i (onB.neg (decide_eq_false mm) (fin _ (Hp.le_trans le18 le19))))) (fun f hf => absurd (by rw [hf]) mm)
end
end Go.Proofs.YtaekfjokdbiihaaAn
