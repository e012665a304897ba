/- Own texts and the words of this seat, as far as this claim reads them: LibR, LibP, LibO, LibQ, LibW, PureOpOrders, PCx8, PCx9, PCx1, PCx10, PCx11, PCx12, PCx13, PCx14, PCx15, PCx16, PCx17, PCx18, PCx19, PCx20. -/
import Derived.Test.YtddnlnjmikcgfaaPkOrd0
import Derived.Laws.Bits128
import Derived.Laws.BitsLemmas
import Derived.Lib.SlBytesConst
section
set_option linter.unusedVariables false
set_option linter.unusedSimpArgs false
namespace Go.Proofs.Ytddnlnjmikcgfaa.PC
open Go.RowKit Go.WB.PrintWords Go.WB.PrintLast Go.WB.PrintMore
theorem w64_l {x : Int} (h0 : -9223372036854775808 ≤ x) (h1 : x < 9223372036854775808) : wrap64 x = x := by unfold wrap64; omega
theorem w64s {x : Int} (h0 : 0 ≤ x) (h1 : x < 9223372036854775807) : wrap64 (x + 1) = x + 1 := w64_l (by omega) (by omega)
theorem rd_nat (l : List Int) (i : Nat) (h : i < l.length) : rd l (i : Int) = l[i] := by simp [rd, h]
theorem eqNumbers_L (a b : List Int) (hab : a.length = b.length) (hl : a.length < 9223372036854775807) : ∀ (d i : Nat), i ≤ a.length → a.length - i = d → ak.L0 a b (i : Int) = some (decide (a.drop i = b.drop i)) := by
  intro d
  induction d with
  | zero =>
    intro i hi hd
    rw [ak.L0_eq, if_neg (by omega), List.drop_of_length_le (by omega), List.drop_of_length_le (by omega)]
    simp
  | succ d ih =>
    intro i hi hd
    have ha : i < a.length := by omega
    have hb : i < b.length := by omega
    rw [ak.L0_eq, if_pos (by omega), if_pos (by omega), if_pos (by omega), rd_nat a i ha, rd_nat b i hb, w64s (by omega) (by omega), List.drop_eq_getElem_cons ha, List.drop_eq_getElem_cons hb]
    by_cases h : a[i] = b[i]
    · rw [if_pos h, show ((i : Int) + 1) = ((i + 1 : Nat) : Int) from rfl, ih (i + 1) (by omega) (by omega)]
      exact congrArg some (decide_eq_decide.2 (by rw [List.cons.injEq]; exact ⟨fun e => ⟨h, e⟩, fun e => e.2⟩))
    · rw [if_neg h]
      exact congrArg some (decide_eq_false (fun e => h (List.cons.inj e).1)).symm
theorem eqNumbers (a b : List Int) (hl : a.length < 9223372036854775807) : ak.F a b = some (decide (a = b)) := by
  rw [ak.F_eq]
  by_cases h : a.length = b.length
  · rw [if_pos (by omega)]
    exact eqNumbers_L a b h hl a.length 0 (by omega) (by omega)
  · rw [if_neg (by omega)]
    have : ¬ a = b := fun e => h (by rw [e])
    simp [this]
def bM (n : Nat) : List Int := if h : n < 128 then [(n : Int)] else ((n % 128 + 128 : Nat) : Int) :: bM (n / 128)
 termination_by n
 decreasing_by omega
theorem enc_small {n : Nat} (h : n < 128) : bM n = [(n : Int)] := by rw [bM, dif_pos h]
theorem enc_big {n : Nat} (h : ¬ n < 128) : bM n = ((n % 128 + 128 : Nat) : Int) :: bM (n / 128) := by rw [bM, dif_neg h]
theorem enc_length_pos (n : Nat) : 0 < (bM n).length := by
  by_cases h : n < 128
  · simp [enc_small h]
  · simp [enc_big h]
theorem enc_length (n : Nat) : ∀ m, n < 128 ^ m → 0 < m → (bM n).length ≤ m := by
  induction n using Nat.strongRecOn with
  | _ n ih =>
    intro m hm h0
    by_cases h : n < 128
    · simp [enc_small h]; omega
    · obtain ⟨q, rfl⟩ : ∃ q, m = q + 1 := ⟨m - 1, by omega⟩
      rw [Nat.pow_succ] at hm
      have hq : 0 < q := by
        rcases Nat.eq_zero_or_pos q with rfl | hq
        · simp at hm; omega
        · exact hq
      have := ih (n / 128) (by omega) q (Nat.div_lt_of_lt_mul (by rw [Nat.mul_comm]; exact hm)) hq
      rw [enc_big h]
      simp
      omega
theorem d9 {n : Nat} (h : n ≤ 4611686018427387904) : (bM n).length ≤ 9 := enc_length n 9 (by omega) (by omega)
theorem put_L : ∀ (n : Nat) (acc : List Int), n ≤ 4611686018427387904 → acc.length + (bM n).length < 140737488355328 → aV.L0 acc (n : Int) = some (acc ++ bM n) := by
  intro n
  induction n using Nat.strongRecOn with
  | _ n ih =>
    intro acc hn hl
    have := enc_length_pos n
    rw [aV.L0_eq]
    by_cases h : n < 128
    · rw [if_neg (by omega), if_pos (by omega), enc_small h, Int.emod_eq_of_lt (by omega) (by omega)]
    · rw [enc_big h] at hl ⊢
      simp only [List.length_cons] at hl
      rw [if_pos (by omega), if_pos (by omega)]
      have e1 : bits .or .u8 ((n : Int) % 256) 128 = ((n % 128 + 128 : Nat) : Int) := by
        by_cases hb : (n : Int) % 256 < 128
        · rw [u8_or128_right _ (by omega) hb]; omega
        · have e2 : (n : Int) % 256 = 128 + ((n % 128 : Nat) : Int) := by omega
          have hx : n % 256 < 256 := by omega
          have e3 := (bits_nat .u8 8 (by decide) wraps_u8 (n % 256) 128 (by omega) (by decide)).2
          rw [show ((n : Int) % 256) = ((n % 256 : Nat) : Int) by omega, show (128 : Int) = ((128 : Nat) : Int) from rfl, e3]
          have e4 : n % 256 ||| 128 = n % 256 := by
            have e5 : n % 256 = 2 ^ 7 * 1 + n % 128 := by omega
            rw [e5, Nat.two_pow_add_eq_or_of_lt (by omega) 1]
            apply Nat.eq_of_testBit_eq
            intro i
            simp only [Nat.testBit_or]
            cases Nat.testBit (2 ^ 7 * 1) i <;> cases Nat.testBit (n % 128) i <;> cases h : Nat.testBit 128 i <;> simp_all
          rw [e4]; omega
      rw [e1, show (n : Int) / 128 = ((n / 128 : Nat) : Int) by omega, ih (n / 128) (by omega) _ (by omega) (by simp; omega)]
      simp
theorem put_F (n : Nat) (acc : List Int) (hn : n ≤ 4611686018427387904) (hl : acc.length + (bM n).length < 140737488355328) : aV.F acc (n : Int) = some (acc ++ bM n) := by
  rw [aV.F_eq]; exact put_L n acc hn hl
theorem bits_or_comm (k : IntKind) (x y : Int) : bits .or k x y = bits .or k y x := by
  unfold bits
  simp only [BitVec.or_comm]
theorem wraps_i64 (n : Int) (h₀ : 0 ≤ n) (h₁ : n < 2 ^ 63) : IntKind.i64.wrap n = n := by rw [IntKind.wrap_i64]; omega
theorem and127 (c : Int) (h0 : 0 ≤ c) (h1 : c < 256) : bits .and .u8 c 127 = c % 128 := bits_mask .u8 8 (by decide) wraps_u8 7 (by decide) c h0 h1
theorem pow128 (i : Nat) : 128 ^ i = 2 ^ (7 * i) := by rw [Nat.pow_mul]
theorem pow128_le {i : Nat} (h : i ≤ 8) : 128 ^ i ≤ 72057594037927936 := Nat.le_trans (Nat.pow_le_pow_right (by decide) h) (by decide)
theorem shl_i64 (c : Int) (i : Nat) (hi : i ≤ 8) (h0 : 0 ≤ c) (h1 : c < 128) : shl .i64 c (7 * (i : Int)) = c * (128 ^ i : Nat) := by
  have hp := pow128_le hi
  have hp0 : 0 < 128 ^ i := Nat.pow_pos (by decide)
  unfold shl
  have e1 : min (7 * (i : Int)).toNat IntKind.i64.bits = 7 * i := by
    have : IntKind.i64.bits = 64 := rfl
    omega
  rw [e1]
  have e2 : ((2 : Int) ^ (7 * i)) = ((128 ^ i : Nat) : Int) := by rw [pow128]; simp
  rw [e2]
  obtain ⟨q, rfl⟩ := Int.eq_ofNat_of_zero_le h0
  have hq : q * 128 ^ i ≤ 127 * 72057594037927936 := Nat.mul_le_mul (by omega) hp
  exact wraps_i64 _ (by rw [← Int.natCast_mul]; exact Int.natCast_nonneg _) (by rw [← Int.natCast_mul]; omega)
theorem or_shift (k : IntKind) (j : Nat) (hj : j ≤ k.bits) (hk : ∀ n : Int, 0 ≤ n → n < 2 ^ j → k.wrap n = n) (hj63 : 63 ≤ j) (n q i : Nat) (hi : i ≤ 8) (hn : n < 128 ^ i) (hq : q < 128) :
    bits .or k (n : Int) ((q : Int) * (128 ^ i : Nat)) = ((n + q * 128 ^ i : Nat) : Int) := by
  have hp := pow128_le hi
  have hb : q * 128 ^ i ≤ 127 * 72057594037927936 := Nat.mul_le_mul (by omega) hp
  have h63 : (2 : Int) ^ 63 ≤ 2 ^ j := by exact_mod_cast Nat.pow_le_pow_right (show 0 < 2 by decide) hj63
  rw [bits_or_comm, bits_join k j hj hk (7 * i) ((q : Int) * (128 ^ i : Nat)) (n : Int)]
  · rw [← Int.natCast_mul]; omega
  · rw [← Int.natCast_mul]; exact Int.natCast_nonneg _
  · rw [pow128]
    exact_mod_cast Nat.mul_mod_left q (2 ^ (7 * i))
  · rw [← Int.natCast_mul]
    have : ((q * 128 ^ i : Nat) : Int) < 2 ^ 63 := by omega
    omega
  · omega
  · rw [pow128] at hn
    exact_mod_cast hn
  · have : (n : Int) < 2 ^ 63 := by omega
    omega
/-- Which number the bytes from here on tell, n being what the i bytes ahead have told. -/
def tk : List Int → Nat → Nat → Int × Int × Int
  | [], _, _ => (0, 0, 7)
  | c :: r, n, i => if 128 ≤ c then (if i = 8 then (0, 0, 1) else tk r (n + (c.toNat - 128) * 128 ^ i) (i + 1))
    else if (c = 0 ∧ 0 < i) ∨ 4611686018427387904 < n + c.toNat * 128 ^ i then (0, 0, 1) else (((n + c.toNat * 128 ^ i : Nat) : Int), (i : Int) + 1, 0)
def cz (l : List Int) : Prop := ∀ x ∈ l, 0 ≤ x ∧ x < 256
theorem step_lt {n q i : Nat} (hn : n < 128 ^ i) (hq : q < 128) : n + q * 128 ^ i < 128 ^ (i + 1) := by
  rw [Nat.pow_succ]
  have : q * 128 ^ i ≤ 127 * 128 ^ i := Nat.mul_le_mul_right _ (by omega)
  omega
theorem takeNum_L (l : List Int) (hb : cz l) (hl : l.length < 4611686018427387904) : ∀ (d i n : Nat), i ≤ l.length → l.length - i = d → i ≤ 8 → n < 128 ^ i →
    af.L0 l (n : Int) (i : Int) = some (tk (l.drop i) n i) := by
  intro d
  induction d with
  | zero =>
    intro i n hi hd h8 hn
    rw [af.L0_eq, if_pos (by omega), List.drop_of_length_le (by omega)]
    rfl
  | succ d ih =>
    intro i n hi hd h8 hn
    have hil : i < l.length := by omega
    obtain ⟨c0, c1⟩ := hb l[i] (List.getElem_mem hil)
    rw [af.L0_eq, if_neg (by omega), if_pos (by omega), if_pos (by omega), rd_nat l i hil, List.drop_eq_getElem_cons hil]
    have hs : wrap64 (7 * (i : Int)) = 7 * (i : Int) := w64_l (by omega) (by omega)
    have hm : wrap64 (bits .and .u8 l[i] 127) = ((l[i].toNat % 128 : Nat) : Int) := by rw [and127 _ c0 c1, w64_l (by omega) (by omega)]; omega
    have ho : bits .or .i64 (n : Int) (shl .i64 (wrap64 (bits .and .u8 l[i] 127)) (wrap64 (7 * (i : Int)))) = ((n + l[i].toNat % 128 * 128 ^ i : Nat) : Int) := by
      rw [hm, hs, shl_i64 _ i h8 (by omega) (by omega)]
      exact or_shift .i64 63 (by decide) wraps_i64 (by decide) n _ i h8 hn (by omega)
    have hi8 : ((i : Int) == 8) = decide (i = 8) := by
      by_cases h : i = 8
      · subst h; rfl
      · simp [h]; omega
    have hJ : ∀ b, b = false → af.J1 l (n : Int) (i : Int) b = (if l[i] ≥ 128 then af.L0 l ((n + l[i].toNat % 128 * 128 ^ i : Nat) : Int) ((i : Int) + 1) else
        some (if (l[i] = 0 ∧ 0 < i) ∨ 4611686018427387904 < n + l[i].toNat % 128 * 128 ^ i then (0, 0, 1) else (((n + l[i].toNat % 128 * 128 ^ i : Nat) : Int), (i : Int) + 1, 0))) := by
      rintro b rfl
      rw [af.J1_eq, if_neg (by simp), if_pos (by omega), if_pos (by omega), if_pos (by rw [hs]; omega), rd_nat l i hil, ho, w64s (by omega) (by omega)]
      by_cases hc : l[i] ≥ 128
      · rw [if_pos hc, if_pos hc]
      · rw [if_neg hc, if_neg hc]
        by_cases hz : l[i] = 0
        · rw [if_pos hz]
          by_cases hi0 : (i : Int) > 0
          · rw [if_pos hi0, af.J2_eq, if_pos rfl, if_pos (.inl ⟨hz, by omega⟩)]
          · rw [if_neg hi0, af.J2_eq, w64s (by omega) (by omega)]
            by_cases hq : 4611686018427387904 < n + l[i].toNat % 128 * 128 ^ i
            · rw [if_pos (decide_eq_true (by omega)), if_pos (.inr hq)]
            · rw [if_neg (by rw [decide_eq_true_eq]; omega), if_neg (by omega)]
        · rw [if_neg hz, af.J2_eq, w64s (by omega) (by omega)]
          by_cases hq : 4611686018427387904 < n + l[i].toNat % 128 * 128 ^ i
          · rw [if_pos (decide_eq_true (by omega)), if_pos (.inr hq)]
          · rw [if_neg (by rw [decide_eq_true_eq]; omega), if_neg (by omega)]
    unfold tk
    by_cases hc : l[i] ≥ 128
    · rw [if_pos hc, if_pos (show 128 ≤ l[i] from hc), hi8]
      by_cases h : i = 8
      · rw [if_pos h, af.J1_eq, if_pos (by simp [h])]
      · rw [if_neg h, hJ _ (by simp [h]), if_pos hc, show ((i : Int) + 1) = ((i + 1 : Nat) : Int) from rfl, ih (i + 1) _ (by omega) (by omega) (by omega) (step_lt hn (by omega)),
          show l[i].toNat % 128 = l[i].toNat - 128 by omega]
    · rw [if_neg hc, if_neg (show ¬ 128 ≤ l[i] by omega), hJ _ rfl, if_neg hc, show l[i].toNat % 128 = l[i].toNat by omega]
theorem takeNum (l : List Int) (hb : cz l) (hl : l.length < 4611686018427387904) : af.F l = some (tk l 0 0) := by
  rw [af.F_eq]
  exact takeNum_L l hb hl l.length 0 0 (by omega) (by omega) (by omega) (by omega)
theorem cz.drop {l : List Int} (h : cz l) (i : Nat) : cz (l.drop i) := fun x hx => h x (List.mem_of_mem_drop hx)
theorem cz.take {l : List Int} (h : cz l) (i : Nat) : cz (l.take i) := fun x hx => h x (List.mem_of_mem_take hx)
theorem cz.append {l m : List Int} (h : cz l) (k : cz m) : cz (l ++ m) := fun x hx => (List.mem_append.1 hx).elim (h x) (k x)
theorem tk_ok : ∀ (l : List Int) (n i : Nat), (tk l n i).2.2 = 0 → 0 ≤ (tk l n i).1 ∧ (tk l n i).1 ≤ 4611686018427387904 ∧ (i : Int) + 1 ≤ (tk l n i).2.1 ∧ (tk l n i).2.1 ≤ i + l.length
  | [], n, i, h => by simp [tk] at h
  | c :: r, n, i, h => by
    unfold tk at h ⊢
    by_cases h1 : 128 ≤ c
    · rw [if_pos h1] at h ⊢
      by_cases h2 : i = 8
      · rw [if_pos h2] at h
        simp at h
      · rw [if_neg h2] at h ⊢
        have := tk_ok r _ _ h
        simp only [List.length_cons]
        exact ⟨this.1, this.2.1, by omega, by omega⟩
    · rw [if_neg h1] at h ⊢
      by_cases h2 : (c = 0 ∧ 0 < i) ∨ 4611686018427387904 < n + c.toNat * 128 ^ i
      · rw [if_pos h2] at h
        simp at h
      · rw [if_neg h2]
        have h3 : ¬ 4611686018427387904 < n + c.toNat * 128 ^ i := fun h => h2 (.inr h)
        simp only [List.length_cons]
        omega
def fo (l : List Int) : ByteArray × Int × Int :=
  if (tk l 0 0).2.2 = 0 then (if (tk l 0 0).1 > 65536 then ((⟨#[]⟩ : ByteArray), 0, 1) else (if (tk l 0 0).1 > (l.length : Int) - (tk l 0 0).2.1 then ((⟨#[]⟩ : ByteArray), 0, 7) else
    (strOfNums ((l.take ((tk l 0 0).2.1 + (tk l 0 0).1).toNat).drop (tk l 0 0).2.1.toNat), (tk l 0 0).2.1 + (tk l 0 0).1, 0))) else ((⟨#[]⟩ : ByteArray), 0, (tk l 0 0).2.2)
theorem takeText (l : List Int) (hb : cz l) (hl : l.length < 4611686018427387904) : bA.F l = some (fo l) := by
  rw [bA.F_eq, takeNum l hb hl, Option.bind_some]
  unfold fo
  by_cases h : (tk l 0 0).2.2 = 0
  · obtain ⟨h1, h2, h3, h4⟩ := tk_ok l 0 0 h
    rw [if_pos h, if_pos h]
    by_cases hm : (tk l 0 0).1 > 65536
    · rw [if_pos hm, if_pos hm]
    · rw [if_neg hm, if_neg hm, w64_l (x := (l.length : Int) - (tk l 0 0).2.1) (by omega) (by omega)]
      by_cases hc : (tk l 0 0).1 > (l.length : Int) - (tk l 0 0).2.1
      · rw [if_pos hc, if_pos hc]
      · rw [if_neg hc, if_neg hc, w64_l (by omega) (by omega), if_pos (by omega), if_pos (by omega), if_pos (by omega)]
  · rw [if_neg h, if_neg h]
def tkNs (l : List Int) : Nat → Int → List Int → List Int × Int × Int
  | 0, k, acc => (acc, k, 0)
  | m + 1, k, acc => if (tk (l.drop k.toNat) 0 0).2.2 = 0 then tkNs l m (k + (tk (l.drop k.toNat) 0 0).2.1) (acc ++ [(tk (l.drop k.toNat) 0 0).1]) else ([], 0, (tk (l.drop k.toNat) 0 0).2.2)
def gJ (l : List Int) : List Int × Int × Int :=
  if (tk l 0 0).2.2 = 0 then (if (tk l 0 0).1 > 1024 then ([], 0, 1) else tkNs l (tk l 0 0).1.toNat (tk l 0 0).2.1 []) else ([], 0, (tk l 0 0).2.2)
theorem takeNums_L (l : List Int) (hb : cz l) (hl : l.length < 4611686018427387904) (many : Nat) (hm : many ≤ 1024) : ∀ (d j : Nat) (k : Int) (acc : List Int), j ≤ many → many - j = d → 0 ≤ k → k ≤ l.length → acc.length + d < 17592186044416 →
    aJ.L0 l acc k many j = some (tkNs l d k acc) := by
  intro d
  induction d with
  | zero =>
    intro j k acc hj hd h0 h1 ha
    rw [aJ.L0_eq, if_neg (by omega)]
    rfl
  | succ d ih =>
    intro j k acc hj hd h0 h1 ha
    have hdl : (l.drop k.toNat).length < 4611686018427387904 := by rw [List.length_drop]; omega
    rw [aJ.L0_eq, if_pos (by omega), if_pos h0, if_pos h1, takeNum _ (hb.drop _) hdl, Option.bind_some, tkNs]
    by_cases h : (tk (l.drop k.toNat) 0 0).2.2 = 0
    · obtain ⟨a1, a2, a3, a4⟩ := tk_ok _ 0 0 h
      rw [List.length_drop] at a4
      rw [if_pos h, if_pos h, if_pos (by omega), w64_l (by omega) (by omega), w64s (by omega) (by omega)]
      exact ih (j + 1) _ _ (by omega) (by omega) (by omega) (by omega) (by simp; omega)
    · rw [if_neg h, if_neg h]
theorem takeNums (l : List Int) (hb : cz l) (hl : l.length < 4611686018427387904) : aJ.F l = some (gJ l) := by
  rw [aJ.F_eq, takeNum l hb hl, Option.bind_some]
  unfold gJ
  by_cases h : (tk l 0 0).2.2 = 0
  · obtain ⟨h1, h2, h3, h4⟩ := tk_ok l 0 0 h
    rw [if_pos h, if_pos h]
    by_cases hm : (tk l 0 0).1 > 1024
    · rw [if_pos hm, if_pos hm]
    · rw [if_neg hm, if_neg hm]
      have e : (tk l 0 0).1 = (((tk l 0 0).1.toNat : Nat) : Int) := by omega
      have := takeNums_L l hb hl (tk l 0 0).1.toNat (by omega) (tk l 0 0).1.toNat 0 (tk l 0 0).2.1 [] (by omega) (by omega) (by omega) (by omega) (by simp; omega)
      rw [← e] at this
      exact this
  · rw [if_neg h, if_neg h]
theorem tkNs_length (l : List Int) : ∀ (m : Nat) (k : Int) (acc : List Int), (tkNs l m k acc).1.length ≤ m + acc.length
  | 0, k, acc => by simp [tkNs]
  | m + 1, k, acc => by
    unfold tkNs
    split
    · have := tkNs_length l m (k + (tk (l.drop k.toNat) 0 0).2.1) (acc ++ [(tk (l.drop k.toNat) 0 0).1])
      simp at this
      omega
    · simp
theorem tkNums_length (l : List Int) : (gJ l).1.length ≤ 1024 := by
  unfold gJ
  split
  · split
    · simp
    · have := tkNs_length l (tk l 0 0).1.toNat (tk l 0 0).2.1 []
      simp at this
      omega
  · simp
theorem enc_bytes : ∀ n, cz (bM n) := by
  intro n
  induction n using Nat.strongRecOn with
  | _ n ih =>
    by_cases h : n < 128
    · rw [enc_small h]
      intro x hx
      simp at hx
      omega
    · rw [enc_big h]
      intro x hx
      rcases List.mem_cons.1 hx with h1 | h1
      · omega
      · exact ih (n / 128) (by omega) x h1
/-- What is written is taken, whatever stands behind it. -/
theorem tk_enc : ∀ (m n i : Nat) (rest : List Int), n + m * 128 ^ i ≤ 4611686018427387904 → i + (bM m).length ≤ 9 → (0 < i → 0 < m) →
    tk (bM m ++ rest) n i = (((n + m * 128 ^ i : Nat) : Int), ((i + (bM m).length : Nat) : Int), 0) := by
  intro m
  induction m using Nat.strongRecOn with
  | _ m ih =>
    intro n i rest h1 h2 h3
    by_cases h : m < 128
    · rw [enc_small h, List.cons_append, List.nil_append]
      unfold tk
      rw [if_neg (by omega), Int.toNat_natCast, if_neg (by
        intro hh
        rcases hh with ⟨a, b⟩ | a
        · have := h3 b
          omega
        · omega)]
      simp
    · rw [enc_big h] at h2 ⊢
      have hl := enc_length_pos (m / 128)
      simp only [List.length_cons] at h2
      rw [List.cons_append]
      unfold tk
      have e : ((m % 128 + 128 : Nat) : Int).toNat - 128 = m % 128 := by omega
      have e2 : n + m % 128 * 128 ^ i + m / 128 * 128 ^ (i + 1) = n + m * 128 ^ i := by
        have e3 : m * 128 ^ i = (128 * (m / 128) + m % 128) * 128 ^ i := by rw [Nat.div_add_mod]
        rw [e3, Nat.pow_succ, Nat.add_mul, Nat.mul_comm (128 ^ i) 128, ← Nat.mul_assoc, Nat.mul_comm (m / 128) 128]
        omega
      rw [if_pos (by omega), if_neg (by omega), e, ih (m / 128) (by omega) _ _ rest (by rw [e2]; exact h1) (by omega) (by omega), e2]
      simp only [List.length_cons]
      have e4 : i + 1 + (bM (m / 128)).length = i + ((bM (m / 128)).length + 1) := by omega
      rw [e4]
theorem tk_put (m : Nat) (rest : List Int) (h : m ≤ 4611686018427387904) : tk (bM m ++ rest) 0 0 = ((m : Int), ((bM m).length : Int), 0) := by
  have := tk_enc m 0 0 rest (by omega) (by have := d9 h; omega) (by omega)
  simpa using this
/-- Cut off anywhere it is cut off. -/
theorem tk_cut : ∀ (m n i j : Nat), i + (bM m).length ≤ 9 → j < (bM m).length → tk ((bM m).take j) n i = (0, 0, 7) := by
  intro m
  induction m using Nat.strongRecOn with
  | _ m ih =>
    intro n i j h2 hj
    by_cases h : m < 128
    · rw [enc_small h] at hj ⊢
      have : j = 0 := by simp at hj; omega
      subst this
      rfl
    · rw [enc_big h] at h2 hj ⊢
      have hl := enc_length_pos (m / 128)
      simp only [List.length_cons] at h2 hj
      match j with
      | 0 => rfl
      | j + 1 =>
        rw [List.take_succ_cons]
        unfold tk
        rw [if_pos (by omega), if_neg (by omega)]
        exact ih (m / 128) (by omega) _ _ j (by omega) (by omega)
/-- What is taken was written so. -/
theorem tk_back : ∀ (l : List Int) (n i : Nat), cz l → (tk l n i).2.2 = 0 → ∃ m : Nat, (tk l n i).1 = ((n + m * 128 ^ i : Nat) : Int) ∧ (tk l n i).2.1 = ((i + (bM m).length : Nat) : Int) ∧ l.take (bM m).length = bM m ∧ (0 < i → 0 < m)
  | [], n, i, _, h => by simp [tk] at h
  | c :: r, n, i, hb, h => by
    have hc := hb c List.mem_cons_self
    have hr : cz r := fun x hx => hb x (List.mem_cons_of_mem _ hx)
    unfold tk at h ⊢
    by_cases h1 : 128 ≤ c
    · rw [if_pos h1] at h ⊢
      by_cases h2 : i = 8
      · rw [if_pos h2] at h
        simp at h
      · rw [if_neg h2] at h ⊢
        obtain ⟨m, e1, e2, e3, e4⟩ := tk_back r _ _ hr h
        have hm := e4 (by omega)
        have hbig : ¬ c.toNat - 128 + 128 * m < 128 := by omega
        have ed : (c.toNat - 128 + 128 * m) / 128 = m := by omega
        have em : (c.toNat - 128 + 128 * m) % 128 = c.toNat - 128 := by omega
        refine ⟨c.toNat - 128 + 128 * m, ?_, ?_, ?_, by omega⟩
        · rw [e1, Nat.pow_succ, Nat.add_mul, Nat.mul_comm (128 ^ i) 128, ← Nat.mul_assoc, Nat.mul_comm m 128]
          congr 1
          omega
        · rw [e2, enc_big hbig, ed]
          simp only [List.length_cons]
          congr 1
          omega
        · rw [enc_big hbig, ed, em, List.length_cons, List.take_succ_cons, e3]
          congr 1
          omega
    · rw [if_neg h1] at h ⊢
      by_cases h2 : (c = 0 ∧ 0 < i) ∨ 4611686018427387904 < n + c.toNat * 128 ^ i
      · rw [if_pos h2] at h
        simp at h
      · rw [if_neg h2]
        refine ⟨c.toNat, rfl, ?_, ?_, fun hi => ?_⟩
        · rw [enc_small (by omega)]
          simp
        · rw [enc_small (by omega)]
          simp
          omega
        · have h3 : ¬ (c = 0 ∧ 0 < i) := fun h => h2 (.inl h)
          omega
def gG (t r : Int) : Bool := decide (1 ≤ t ∧ t ≤ 1099511627776 ∧ 0 ≤ r ∧ r < 16)
def eY (t r : Int) : Bool := gG t r || (t == 0 && r == 0) || (t == 0 && r == 1)
theorem stampIs (t r : Int) : dM.f t r = some (gG t r) := by
  unfold dM.f gG
  split
  · split
    · split
      · exact congrArg some (decide_eq_decide.2 (by omega))
      · exact congrArg some (decide_eq_false (by omega)).symm
    · exact congrArg some (decide_eq_false (by omega)).symm
  · exact congrArg some (decide_eq_false (by omega)).symm
theorem stampPlace (t r : Int) : bP.f t r = some (eY t r) := by
  unfold bP.f eY
  rw [stampIs]
  simp only [Option.bind_some, dO.f, fQ.f]
  cases gG t r <;> simp
  split <;> simp_all
def cmpS (a b c d : Int) : Int := if a < c then -1 else if c < a then 1 else if b < d then -1 else if d < b then 1 else 0
theorem compare_int (a b : Int) : cmp_Compare_int.f a b = some (if a < b then -1 else if b < a then 1 else 0) := by
  unfold cmp_Compare_int.f cmp_isNaN_int.f
  simp only [bne_self_eq_false, Option.bind_some, if_neg Bool.false_ne_true]
  split
  · rfl
  · split <;> rfl
theorem or_two (x y : Int) : aZ.F [x, y] = some (if x = 0 then y else x) := by
  have hl : (([x, y] : List Int).length : Int) = 2 := rfl
  have e0 : rd [x, y] 0 = x := rfl
  have e1 : rd [x, y] 1 = y := rfl
  rw [aZ.F_eq, aZ.L0_eq, hl, if_pos (by decide), if_pos (by decide), if_pos (by decide), e0, w64s (by decide) (by decide)]
  split
  · rw [aZ.L0_eq, hl, if_pos (by decide), if_pos (by decide), if_pos (by decide), Int.zero_add, e1]
    split
    · rename_i h
      rw [w64s (by decide) (by decide), aZ.L0_eq, hl, if_neg (by decide), h]
    · rfl
  · rfl
theorem stampCmp (a b c d : Int) : bY.F a b c d = some (cmpS a b c d) := by
  rw [bY.F_eq, compare_int, Option.bind_some, compare_int, Option.bind_some, or_two, Option.bind_some]
  unfold cmpS
  by_cases h1 : a < c
  · simp [h1]
  · by_cases h2 : c < a
    · simp [h1, h2]
    · simp [h1, h2]
theorem refCmp (a b c d : Int) : aG.F a b c d = some (cmpS a b c d) := by
  rw [aG.F_eq]
  unfold cmpS
  simp only [aG.J0_eq]
  by_cases h1 : a < c
  · simp [h1]
  · by_cases h2 : c < a
    · have h3 : ¬ a = c := by omega
      simp [h1, h2, h3]
    · have h3 : a = c := by omega
      subst h3
      by_cases h4 : b < d
      · simp [h4]
      · by_cases h5 : d < b
        · have h6 : ¬ b = d := by omega
          simp [h4, h5, h6]
        · have h6 : b = d := by omega
          simp [h6]
theorem gF {t r : Int} (h : eY t r = true) : 0 ≤ t ∧ t ≤ 1099511627776 ∧ 0 ≤ r ∧ r < 16 := by
  unfold eY gG at h
  simp at h
  omega
def eF (t r : Int) : List Int := bM t.toNat ++ bM r.toNat
theorem fq {t r : Int} (h : eY t r = true) : (eF t r).length ≤ 18 := by
  have := gF h
  have h1 := d9 (n := t.toNat) (by omega)
  have h2 := d9 (n := r.toNat) (by omega)
  unfold eF
  rw [List.length_append]
  omega
theorem stampEnc_bytes (t r : Int) : cz (eF t r) := (enc_bytes _).append (enc_bytes _)
theorem stampPut (acc : List Int) {t r : Int} (ht : 0 ≤ t ∧ t ≤ 4611686018427387904) (hr : 0 ≤ r ∧ r ≤ 4611686018427387904) (ha : acc.length < 140737488355000) : bF.F acc t r = some (acc ++ eF t r) := by
  have h1 := d9 (n := t.toNat) (by omega)
  have h2 := d9 (n := r.toNat) (by omega)
  have e1 : t = (t.toNat : Int) := by omega
  have e2 : r = (r.toNat : Int) := by omega
  rw [bF.F_eq, e1, e2, put_F _ _ (by omega) (by omega), Option.bind_some, put_F _ _ (by omega) (by rw [List.length_append]; omega), Option.bind_some, List.append_assoc]
  rfl
def fF (l : List Int) : Int × Int × Int × Int :=
  if (tk l 0 0).2.2 = 0 then (if (tk (l.drop (tk l 0 0).2.1.toNat) 0 0).2.2 = 0 then
    (if eY (tk l 0 0).1 (tk (l.drop (tk l 0 0).2.1.toNat) 0 0).1 = true then ((tk l 0 0).1, (tk (l.drop (tk l 0 0).2.1.toNat) 0 0).1, (tk l 0 0).2.1 + (tk (l.drop (tk l 0 0).2.1.toNat) 0 0).2.1, 0) else (0, 0, 0, 1))
    else (0, 0, 0, (tk (l.drop (tk l 0 0).2.1.toNat) 0 0).2.2)) else (0, 0, 0, (tk l 0 0).2.2)
theorem stampTake (l : List Int) (hb : cz l) (hl : l.length < 4611686018427387904) : cK.F l = some (fF l) := by
  rw [cK.F_eq, takeNum l hb hl, Option.bind_some]
  unfold fF
  by_cases h : (tk l 0 0).2.2 = 0
  · obtain ⟨h1, h2, h3, h4⟩ := tk_ok l 0 0 h
    rw [if_pos h, if_pos h, if_pos (by omega), if_pos (by omega), takeNum _ (hb.drop _) (by rw [List.length_drop]; omega), Option.bind_some]
    by_cases h' : (tk (l.drop (tk l 0 0).2.1.toNat) 0 0).2.2 = 0
    · obtain ⟨g1, g2, g3, g4⟩ := tk_ok _ 0 0 h'
      rw [List.length_drop] at g4
      rw [if_pos h', if_pos h', stampPlace, Option.bind_some, w64_l (by omega) (by omega)]
      by_cases hp : eY (tk l 0 0).1 (tk (l.drop (tk l 0 0).2.1.toNat) 0 0).1 = true
      · rw [if_pos hp, if_pos hp]
      · rw [if_neg hp, if_neg hp]
    · rw [if_neg h', if_neg h']
  · rw [if_neg h, if_neg h]
theorem tkStamp_put {t r : Int} (h : eY t r = true) (rest : List Int) : fF (eF t r ++ rest) = (t, r, ((eF t r).length : Int), 0) := by
  have hr := gF h
  have e1 : ((t.toNat : Nat) : Int) = t := by omega
  have e2 : ((r.toNat : Nat) : Int) = r := by omega
  unfold fF eF
  rw [List.append_assoc, tk_put t.toNat _ (by omega)]
  simp only [Int.toNat_natCast, List.drop_left]
  rw [tk_put r.toNat _ (by omega)]
  simp only [if_true, e1, e2, h, List.length_append]
  simp
def encs : List Int → List Int
  | [] => []
  | x :: r => bM x.toNat ++ encs r
def fE (x : Int) : Prop := 0 ≤ x ∧ x ≤ 4611686018427387904
def encN (l : List Int) : List Int := bM l.length ++ encs l
theorem encs_bytes : ∀ l, cz (encs l)
  | [] => fun _ h => nomatch h
  | x :: r => (enc_bytes _).append (encs_bytes r)
theorem encN_bytes (l : List Int) : cz (encN l) := (enc_bytes _).append (encs_bytes l)
theorem encs_length : ∀ l : List Int, (∀ x ∈ l, fE x) → (encs l).length ≤ 9 * l.length
  | [], _ => by simp [encs]
  | x :: r, h => by
    have h1 := encs_length r (fun y hy => h y (List.mem_cons_of_mem _ hy))
    have hx := h x List.mem_cons_self
    unfold fE at hx
    have h2 := d9 (n := x.toNat) (by omega)
    unfold encs
    rw [List.length_append, List.length_cons]
    omega
theorem encN_length (l : List Int) (hl : l.length ≤ 1024) (h : ∀ x ∈ l, fE x) : (encN l).length ≤ 9225 := by
  have h1 := encs_length l h
  have h2 := d9 (n := l.length) (by omega)
  unfold encN
  rw [List.length_append]
  omega
theorem putAll_L (l : List Int) (hl : l.length ≤ 1024) (h : ∀ x ∈ l, fE x) : ∀ (d i : Nat) (acc : List Int), i ≤ l.length → l.length - i = d → acc.length + 9 * d < 140737488355328 →
    aW.L0 acc l (l.length : Int) (i : Int) = some (acc ++ encs (l.drop i)) := by
  intro d
  induction d with
  | zero =>
    intro i acc hi hd ha
    rw [aW.L0_eq, if_neg (by omega), List.drop_of_length_le (by omega)]
    simp [encs]
  | succ d ih =>
    intro i acc hi hd ha
    have hil : i < l.length := by omega
    have hx := h l[i] (List.getElem_mem hil)
    unfold fE at hx
    have h9 := d9 (n := l[i].toNat) (by omega)
    have e : l[i] = (l[i].toNat : Int) := by omega
    rw [aW.L0_eq, if_pos (by omega), if_pos (by omega), if_pos (by omega), rd_nat l i hil, List.drop_eq_getElem_cons hil]
    show (aV.F acc l[i]).bind _ = some (acc ++ (bM l[i].toNat ++ encs (l.drop (i + 1))))
    rw [e, put_F _ _ (by omega) (by omega), Option.bind_some, w64s (by omega) (by omega), ← List.append_assoc, Int.toNat_natCast]
    exact ih (i + 1) _ (by omega) (by omega) (by rw [List.length_append]; omega)
theorem tkNs_put : ∀ (r : List Int) (L pre rest acc : List Int), L = pre ++ (encs r ++ rest) → (∀ x ∈ r, fE x) → tkNs L r.length (pre.length : Int) acc = (acc ++ r, ((pre.length + (encs r).length : Nat) : Int), 0)
  | [], L, pre, rest, acc, _, _ => by simp [tkNs, encs]
  | x :: r, L, pre, rest, acc, e, h => by
    have hx := h x List.mem_cons_self
    unfold fE at hx
    have e1 : L.drop ((pre.length : Int)).toNat = bM x.toNat ++ (encs r ++ rest) := by
      rw [e, Int.toNat_natCast, List.drop_left]
      show bM x.toNat ++ encs r ++ rest = _
      rw [List.append_assoc]
    have e2 : L = (pre ++ bM x.toNat) ++ (encs r ++ rest) := by
      rw [e]
      show pre ++ (bM x.toNat ++ encs r ++ rest) = _
      simp only [List.append_assoc]
    have e3 : ((x.toNat : Nat) : Int) = x := by omega
    have ih := tkNs_put r L (pre ++ bM x.toNat) rest (acc ++ [x]) e2 (fun y hy => h y (List.mem_cons_of_mem _ hy))
    rw [List.length_cons]
    unfold tkNs
    rw [e1, tk_put x.toNat _ (by omega)]
    simp only [if_true, e3]
    rw [List.length_append] at ih
    rw [← Int.natCast_add, ih]
    simp only [List.append_assoc, List.cons_append, List.nil_append]
    congr 2
    show _ = ((pre.length + (bM x.toNat ++ encs r).length : Nat) : Int)
    rw [List.length_append]
    omega
theorem tkNums_put (l rest : List Int) (hl : l.length ≤ 1024) (h : ∀ x ∈ l, fE x) : gJ (encN l ++ rest) = (l, ((encN l).length : Int), 0) := by
  have e : encN l ++ rest = bM l.length ++ (encs l ++ rest) := by unfold encN; rw [List.append_assoc]
  have := tkNs_put l (encN l ++ rest) (bM l.length) rest [] e h
  unfold gJ
  rw [e] at this ⊢
  rw [tk_put l.length _ (by omega)]
  simp only [if_true, Int.toNat_natCast]
  rw [if_neg (by omega), this]
  unfold encN
  simp [List.length_append]
theorem str_back (s : ByteArray) : strOfNums (bytesOf s) = s := by
  unfold strOfNums bytesOf
  rw [List.map_map]
  have e : ((fun n : Int => UInt8.ofNat n.toNat) ∘ fun b : UInt8 => (b.toNat : Int)) = id := by
    funext b
    simp
  first
    | (rw [e, List.map_id]; done)
    | (simp [e]; done)
    | (simp [Function.comp_def]; done)
theorem bytesOf_bytes (s : ByteArray) : cz (bytesOf s) := by
  intro x hx
  unfold bytesOf at hx
  obtain ⟨b, _, rfl⟩ := List.mem_map.1 hx
  have := b.toNat_lt
  omega
def encT (s : ByteArray) : List Int := bM s.size ++ bytesOf s
theorem encT_bytes (s : ByteArray) : cz (encT s) := (enc_bytes _).append (bytesOf_bytes s)
theorem encT_length (s : ByteArray) (h : s.size ≤ 65536) : (encT s).length ≤ 65545 := by
  have h2 := d9 (n := s.size) (by omega)
  unfold encT
  rw [List.length_append, bytesOf_length]
  omega
theorem tkText_put (s : ByteArray) (rest : List Int) (h : s.size ≤ 65536) : fo (encT s ++ rest) = (s, ((encT s).length : Int), 0) := by
  have e : encT s ++ rest = bM s.size ++ (bytesOf s ++ rest) := by unfold encT; rw [List.append_assoc]
  have hb := bytesOf_length s
  unfold fo
  rw [e, tk_put s.size _ (by omega)]
  simp only [if_true]
  rw [if_neg (by omega), if_neg (by simp only [List.length_append]; omega)]
  have e1 : ((bM s.size).length : Int) + (s.size : Int) = (((bM s.size).length + s.size : Nat) : Int) := by omega
  have e2 : (List.take ((bM s.size).length + s.size) (bM s.size ++ (bytesOf s ++ rest))).drop (bM s.size).length = bytesOf s := by
    rw [List.take_length_add_append, List.drop_left, ← hb, List.take_left]
  rw [e1, Int.toNat_natCast, Int.toNat_natCast, e2, str_back]
  unfold encT
  rw [List.length_append, hb]
theorem tkText_cut (s : ByteArray) (j : Nat) (h : s.size ≤ 65536) (hj : j < (encT s).length) : (fo ((encT s).take j)).2.2 = 7 := by
  have h9 := d9 (n := s.size) (by omega)
  have hb := bytesOf_length s
  unfold fo
  by_cases hc : j < (bM s.size).length
  · have e : (encT s).take j = (bM s.size).take j := by
      unfold encT
      rw [List.take_append_of_le_length (by omega)]
    rw [e, tk_cut s.size 0 0 j (by omega) hc]
    simp
  · have e : (encT s).take j = bM s.size ++ (bytesOf s).take (j - (bM s.size).length) := by
      unfold encT
      rw [List.take_append, List.take_of_length_le (by omega)]
    have hl : (encT s).length = (bM s.size).length + s.size := by unfold encT; rw [List.length_append, hb]
    rw [e, tk_put s.size _ (by omega)]
    simp only [if_true]
    rw [if_neg (by omega), if_pos (by simp only [List.length_append, List.length_take, hb]; omega)]
def inVec (x : Int) : Prop := 0 ≤ x ∧ x ≤ 1099511627776
instance (x : Int) : Decidable (inVec x) := inferInstanceAs (Decidable (_ ∧ _))
def isVec (v : List Int) : Bool := decide (1 ≤ v.length ∧ v.length ≤ 16 ∧ ∀ x ∈ v, inVec x)
theorem isVec_iff {v : List Int} : isVec v = true ↔ 1 ≤ v.length ∧ v.length ≤ 16 ∧ ∀ x ∈ v, inVec x := by unfold isVec; rw [decide_eq_true_eq]
theorem all_drop {p : Int → Prop} {v : List Int} {i : Nat} (h : i < v.length) : (∀ x ∈ v.drop i, p x) ↔ p v[i] ∧ ∀ x ∈ v.drop (i + 1), p x := by
  rw [List.drop_eq_getElem_cons h, List.forall_mem_cons]
theorem haveIs_L (v : List Int) (hl : v.length < 9223372036854775807) : ∀ (d i : Nat), i ≤ v.length → v.length - i = d → bD.L0 v (i : Int) = some (decide (1 ≤ v.length ∧ v.length ≤ 16 ∧ ∀ x ∈ v.drop i, inVec x)) := by
  intro d
  induction d with
  | zero =>
    intro i hi hd
    have hi' : i = v.length := by omega
    subst hi'
    rw [bD.L0_eq, if_pos (by omega)]
    simp only [List.drop_length]
    by_cases h : (v.length : Int) ≥ 1
    · rw [if_pos h]
      exact congrArg some (decide_eq_decide.2 (by simp; omega))
    · rw [if_neg h]
      exact congrArg some (decide_eq_false (by omega)).symm
  | succ d ih =>
    intro i hi hd
    have hil : i < v.length := by omega
    rw [bD.L0_eq, if_neg (by omega), if_pos (by omega), if_pos (by omega), rd_nat v i hil]
    have hall := all_drop (p := inVec) hil
    by_cases h1 : v[i] ≥ 0
    · rw [if_pos h1]
      by_cases h2 : v[i] ≤ 1099511627776
      · rw [if_pos h2, w64s (by omega) (by omega), show ((i : Int) + 1) = ((i + 1 : Nat) : Int) from rfl, ih (i + 1) (by omega) (by omega)]
        refine congrArg some (decide_eq_decide.2 ?_)
        rw [hall]
        exact ⟨fun h => ⟨h.1, h.2.1, ⟨h1, h2⟩, h.2.2⟩, fun h => ⟨h.1, h.2.1, h.2.2.2⟩⟩
      · rw [if_neg h2]
        exact congrArg some (decide_eq_false (fun h => h2 (hall.1 h.2.2).1.2)).symm
    · rw [if_neg h1]
      exact congrArg some (decide_eq_false (fun h => h1 (hall.1 h.2.2).1.1)).symm
theorem haveIs (v : List Int) (hl : v.length < 9223372036854775807) : bD.F v = some (isVec v) := by
  rw [bD.F_eq]
  exact haveIs_L v hl v.length 0 (by omega) (by omega)
theorem vec_get {v : List Int} (h : isVec v = true) (i : Nat) (hi : i < v.length) : 0 ≤ v[i] ∧ v[i] ≤ 1099511627776 := (isVec_iff.1 h).2.2 _ (List.getElem_mem hi)
theorem vec_nums {v : List Int} (h : isVec v = true) : v.length ≤ 1024 ∧ ∀ x ∈ v, fE x := by
  obtain ⟨_, h2, h3⟩ := isVec_iff.1 h
  refine ⟨by omega, fun x hx => ?_⟩
  have := h3 x hx
  unfold inVec at this
  unfold fE
  omega
def dK (l : List Int) : List Int × Int × Int :=
  if (gJ l).2.2 = 0 then (if isVec (gJ l).1 = true then ((gJ l).1, (gJ l).2.1, 0) else ([], 0, 1)) else ([], 0, (gJ l).2.2)
theorem haveTake (l : List Int) (hb : cz l) (hl : l.length < 4611686018427387904) : cB.F l = some (dK l) := by
  have hn := tkNums_length l
  rw [cB.F_eq, takeNums l hb hl, Option.bind_some]
  unfold dK
  by_cases h : (gJ l).2.2 = 0
  · rw [if_pos h, if_pos h, haveIs _ (by omega), Option.bind_some]
    by_cases g : isVec (gJ l).1 = true
    · rw [if_pos g, if_pos g]
    · rw [if_neg g, if_neg g]
  · rw [if_neg h, if_neg h]
end Go.Proofs.Ytddnlnjmikcgfaa.PC
end
section
set_option linter.unusedVariables false
set_option linter.unusedSimpArgs false
namespace Go.Proofs.Ytddnlnjmikcgfaa.PC
open Go.RowKit Go.WB.PrintWords Go.WB.PrintLast Go.WB.PrintMore
structure Good {α : Type} (p : List Int → α × Int × Int) (bM : α → List Int) (ok : α → Prop) : Prop where
  put : ∀ a rest, ok a → p (bM a ++ rest) = (a, ((bM a).length : Int), 0)
  cut : ∀ a j, ok a → j < (bM a).length → (p ((bM a).take j)).2.2 = 7
  was : ∀ l, cz l → (p l).2.2 = 0 → ok (p l).1 ∧ (p l).2.1 = ((bM (p l).1).length : Int) ∧ (bM (p l).1).length ≤ l.length ∧ l.take (bM (p l).1).length = bM (p l).1
theorem Good.ran {α : Type} {p : List Int → α × Int × Int} {bM : α → List Int} {ok : α → Prop} (g : Good p bM ok) (l : List Int) (hb : cz l) (h : (p l).2.2 = 0) : 0 ≤ (p l).2.1 ∧ (p l).2.1 ≤ l.length := by
  obtain ⟨_, h1, h2, _⟩ := g.was l hb h
  omega
theorem gH : Good (fun l => tk l 0 0) (fun n => bM n.toNat) fE where
  put a rest h := by
    unfold fE at h
    have e : ((a.toNat : Nat) : Int) = a := by omega
    show tk _ 0 0 = _
    rw [tk_put _ _ (by omega), e]
  cut a j h hj := by
    unfold fE at h
    have := d9 (n := a.toNat) (by omega)
    show (tk _ 0 0).2.2 = 7
    rw [tk_cut a.toNat 0 0 j (by omega) hj]
  was l hb h := by
    obtain ⟨h1, h2, h3, h4⟩ := tk_ok l 0 0 h
    obtain ⟨m, e1, e2, e3, _⟩ := tk_back l 0 0 hb h
    simp only [Nat.pow_zero, Nat.mul_one, Nat.zero_add] at e1 e2
    refine ⟨⟨h1, h2⟩, ?_, ?_, ?_⟩
    · show (tk l 0 0).2.1 = ((bM (tk l 0 0).1.toNat).length : Int)
      rw [e1, Int.toNat_natCast, e2]
    · show (bM (tk l 0 0).1.toNat).length ≤ l.length
      rw [e1, Int.toNat_natCast]
      omega
    · show l.take (bM (tk l 0 0).1.toNat).length = bM (tk l 0 0).1.toNat
      rw [e1, Int.toNat_natCast, e3]
def seqP {α β : Type} (p : List Int → α × Int × Int) (q : α → List Int → β × Int × Int) (l : List Int) : (α × β) × Int × Int :=
  if (p l).2.2 = 0 then (((p l).1, (q (p l).1 (l.drop (p l).2.1.toNat)).1), (if (q (p l).1 (l.drop (p l).2.1.toNat)).2.2 = 0 then (p l).2.1 + (q (p l).1 (l.drop (p l).2.1.toNat)).2.1 else 0), (q (p l).1 (l.drop (p l).2.1.toNat)).2.2)
  else (((p l).1, (q (p l).1 l).1), 0, (p l).2.2)
theorem Good.seq {α β : Type} {p : List Int → α × Int × Int} {ea : α → List Int} {oka : α → Prop} (gp : Good p ea oka) {q : α → List Int → β × Int × Int} {eb : α → β → List Int} {okb : α → β → Prop}
    (gq : ∀ a, oka a → Good (q a) (eb a) (okb a)) : Good (seqP p q) (fun x => ea x.1 ++ eb x.1 x.2) (fun x => oka x.1 ∧ okb x.1 x.2) where
  put x rest h := by
    obtain ⟨a, b⟩ := x
    have e1 := gp.put a (eb a b ++ rest) h.1
    have e2 := (gq a h.1).put b rest h.2
    unfold seqP
    simp only [List.append_assoc]
    rw [e1]
    simp only [Int.toNat_natCast, List.drop_left, e2, if_true, List.length_append]
    simp
  cut x j h hj := by
    obtain ⟨a, b⟩ := x
    simp only [List.length_append] at hj
    unfold seqP
    simp only
    by_cases hc : j < (ea a).length
    · have e : (ea a ++ eb a b).take j = (ea a).take j := List.take_append_of_le_length (by omega)
      have := gp.cut a j h.1 hc
      rw [e]
      rw [this]
      simp
    · have e : (ea a ++ eb a b).take j = ea a ++ (eb a b).take (j - (ea a).length) := by rw [List.take_append, List.take_of_length_le (by omega)]
      have e1 := gp.put a ((eb a b).take (j - (ea a).length)) h.1
      have e2 := (gq a h.1).cut b (j - (ea a).length) h.2 (by omega)
      rw [e, e1]
      simp only [Int.toNat_natCast, List.drop_left, if_true]
      exact e2
  was l hb h := by
    unfold seqP at h ⊢
    by_cases h1 : (p l).2.2 = 0
    · rw [if_pos h1] at h ⊢
      simp only at h ⊢
      obtain ⟨a1, a2, a3, a4⟩ := gp.was l hb h1
      obtain ⟨b1, b2, b3, b4⟩ := (gq _ a1).was _ (hb.drop _) h
      rw [if_pos h]
      rw [a2, Int.toNat_natCast] at b1 b2 b3 b4 h ⊢
      rw [List.length_drop] at b3
      refine ⟨⟨a1, b1⟩, ?_, ?_, ?_⟩
      · rw [b2, List.length_append]; omega
      · rw [List.length_append]; omega
      · rw [List.length_append, List.take_add, a4, b4]
    · rw [if_neg h1] at h
      exact absurd h h1
def mapP {α β : Type} (f : α → β) (p : List Int → α × Int × Int) (l : List Int) : β × Int × Int := (f (p l).1, (p l).2)
theorem Good.map {α β : Type} {p : List Int → α × Int × Int} {e : α → List Int} {ok : α → Prop} (gp : Good p e ok) (f : α → β) (g : β → α) (hg : ∀ a, ok a → g (f a) = a) : Good (mapP f p) (fun b => e (g b)) (fun b => ok (g b) ∧ f (g b) = b) where
  put b rest h := by
    unfold mapP
    rw [gp.put _ _ h.1, h.2]
  cut b j h hj := gp.cut (g b) j h.1 hj
  was l hb h := by
    obtain ⟨h1, h2, h3, h4⟩ := gp.was l hb h
    unfold mapP
    simp only [hg _ h1]
    exact ⟨⟨h1, trivial⟩, h2, h3, h4⟩
/-- What else is asked of what was taken. -/
def onlyP {α : Type} (c : α → Bool) (p : List Int → α × Int × Int) (l : List Int) : α × Int × Int := if (p l).2.2 = 0 then (if c (p l).1 = true then p l else ((p l).1, 0, 1)) else p l
theorem Good.only {α : Type} {p : List Int → α × Int × Int} {e : α → List Int} {ok : α → Prop} (gp : Good p e ok) (c : α → Bool) : Good (onlyP c p) e (fun a => ok a ∧ c a = true) where
  put a rest h := by
    unfold onlyP
    rw [gp.put _ _ h.1]
    simp [h.2]
  cut a j h hj := by
    have := gp.cut a j h.1 hj
    unfold onlyP
    rw [if_neg (by rw [this]; decide), this]
  was l hb h := by
    unfold onlyP at h ⊢
    by_cases h1 : (p l).2.2 = 0
    · rw [if_pos h1] at h ⊢
      by_cases h2 : c (p l).1 = true
      · rw [if_pos h2] at h ⊢
        obtain ⟨g1, g2⟩ := gp.was l hb h1
        exact ⟨⟨g1, h2⟩, g2⟩
      · rw [if_neg h2] at h
        simp at h
    · rw [if_neg h1] at h
      exact absurd h h1
theorem Good.weak {α : Type} {p : List Int → α × Int × Int} {e : α → List Int} {ok ok' : α → Prop} (gp : Good p e ok) (h : ∀ a, ok' a ↔ ok a) : Good p e ok' where
  put a rest k := gp.put a rest ((h a).1 k)
  cut a j k hj := gp.cut a j ((h a).1 k) hj
  was l hb k := by
    obtain ⟨h1, h2⟩ := gp.was l hb k
    exact ⟨(h _).2 h1, h2⟩
theorem goodStamp : Good (fun l => ((((fF l).1, (fF l).2.1) : Int × Int), (fF l).2.2)) (fun s => eF s.1 s.2) (fun s => eY s.1 s.2 = true) where
  put a rest h := by
    simp only [tkStamp_put h]
  cut a j h hj := by
    have hr := gF h
    have g := (gH.seq (q := fun _ l => tk l 0 0) (eb := fun _ n => bM n.toNat) (okb := fun _ => fE) (fun _ _ => gH)).cut a j ⟨⟨by omega, by omega⟩, ⟨by omega, by omega⟩⟩ hj
    show (fF ((bM a.1.toNat ++ bM a.2.toNat).take j)).2.2.2 = 7
    revert g
    generalize (bM a.1.toNat ++ bM a.2.toNat).take j = L
    unfold seqP fF
    intro g
    split at g
    · rename_i h1
      try simp only at g
      rw [if_pos h1, if_neg (by rw [g]; decide)]
      exact g
    · rename_i h1
      rw [if_neg h1]
      exact g
  was l hb h := by
    have g := (gH.seq (q := fun _ l => tk l 0 0) (eb := fun _ n => bM n.toNat) (okb := fun _ => fE) (fun _ _ => gH)).was l hb
    simp only at h ⊢
    revert h
    unfold fF
    unfold seqP at g
    by_cases h1 : (tk l 0 0).2.2 = 0
    · rw [if_pos h1]
      by_cases h2 : (tk (l.drop (tk l 0 0).2.1.toNat) 0 0).2.2 = 0
      · rw [if_pos h2]
        by_cases h3 : eY (tk l 0 0).1 (tk (l.drop (tk l 0 0).2.1.toNat) 0 0).1 = true
        · rw [if_pos h3]
          intro _
          simp only [if_pos h1, if_pos h2] at g
          obtain ⟨_, g2, g3, g4⟩ := g h2
          exact ⟨h3, g2, g3, g4⟩
        · rw [if_neg h3]
          intro h; exact absurd h (by decide)
      · rw [if_neg h2]
        intro h; exact absurd h h2
    · rw [if_neg h1]
      intro h; exact absurd h h1
theorem bytesOf_str (l : List Int) (hb : cz l) : bytesOf (strOfNums l) = l := by
  unfold strOfNums bytesOf
  rw [List.map_map]
  have e : ∀ x ∈ l, ((fun b : UInt8 => (b.toNat : Int)) ∘ fun n : Int => UInt8.ofNat n.toNat) x = x := by
    intro x hx
    have := hb x hx
    show ((UInt8.ofNat x.toNat).toNat : Int) = x
    rw [UInt8.toNat_ofNat_of_lt' (by show x.toNat < 256; omega)]
    omega
  first
    | (exact (List.map_congr_left e).trans (List.map_id' l))
    | (rw [List.map_congr_left e]; simp)
theorem strOfNums_size (l : List Int) : (strOfNums l).size = l.length := by
  unfold strOfNums
  show Array.size _ = _
  simp
theorem goodText : Good fo encT (fun s => s.size ≤ 65536) where
  put a rest h := tkText_put a rest h
  cut a j h hj := tkText_cut a j h hj
  was l hb h := by
    unfold fo at h ⊢
    by_cases h1 : (tk l 0 0).2.2 = 0
    · rw [if_pos h1] at h ⊢
      obtain ⟨a1, a2, a3, a4⟩ := gH.was l hb h1
      try simp only at a1 a2 a3 a4
      unfold fE at a1
      by_cases h2 : (tk l 0 0).1 > 65536
      · rw [if_pos h2] at h; exact absurd h (by decide)
      · rw [if_neg h2] at h ⊢
        by_cases h3 : (tk l 0 0).1 > (l.length : Int) - (tk l 0 0).2.1
        · rw [if_pos h3] at h; exact absurd h (by decide)
        · rw [if_neg h3]
          simp only
          generalize (tk l 0 0).1 = m at *
          generalize (tk l 0 0).2.1 = k at *
          subst a2
          have e1 : (((bM m.toNat).length : Int) + m).toNat = (bM m.toNat).length + m.toNat := by omega
          rw [e1, Int.toNat_natCast]
          have hs : (strOfNums ((l.take ((bM m.toNat).length + m.toNat)).drop (bM m.toNat).length)).size = m.toNat := by
            rw [strOfNums_size, List.length_drop, List.length_take]
            omega
          have hbs : bytesOf (strOfNums ((l.take ((bM m.toNat).length + m.toNat)).drop (bM m.toNat).length)) = (l.take ((bM m.toNat).length + m.toNat)).drop (bM m.toNat).length := bytesOf_str _ ((hb.take _).drop _)
          have hE : encT (strOfNums ((l.take ((bM m.toNat).length + m.toNat)).drop (bM m.toNat).length)) = l.take ((bM m.toNat).length + m.toNat) := by
            unfold encT
            rw [hs, hbs]
            have e2 : bM m.toNat = (l.take ((bM m.toNat).length + m.toNat)).take (bM m.toNat).length := by rw [List.take_take, Nat.min_eq_left (by omega), a4]
            conv => lhs; arg 1; rw [e2]
            exact List.take_append_drop _ _
          rw [hE, hs, List.length_take]
          refine ⟨by omega, by omega, by omega, ?_⟩
          congr 1
          omega
    · rw [if_neg h1] at h
      exact absurd h h1
theorem takeMore (L pre : List Int) (n : Nat) (h : pre.length ≤ L.length) (h1 : L.take pre.length = pre) : L.take (pre.length + n) = pre ++ (L.drop pre.length).take n := by
  rw [List.take_add, h1]
theorem tkNs_cut : ∀ (r : List Int) (L pre acc : List Int) (j : Nat), L = pre ++ (encs r).take j → j < (encs r).length → (∀ x ∈ r, fE x) → (tkNs L r.length (pre.length : Int) acc).2.2 = 7
  | [], L, pre, acc, j, e, hj, h => by simp [encs] at hj
  | x :: r, L, pre, acc, j, e, hj, h => by
    have hx := h x List.mem_cons_self
    have e0 : encs (x :: r) = bM x.toNat ++ encs r := rfl
    rw [e0] at hj e
    rw [List.length_append] at hj
    rw [List.length_cons]
    unfold tkNs
    have e1 : L.drop ((pre.length : Int)).toNat = (bM x.toNat ++ encs r).take j := by rw [e, Int.toNat_natCast, List.drop_left]
    rw [e1]
    by_cases hc : j < (bM x.toNat).length
    · have e2 : (bM x.toNat ++ encs r).take j = (bM x.toNat).take j := List.take_append_of_le_length (by omega)
      have := gH.cut x j hx hc
      try simp only at this
      rw [e2, if_neg (by rw [this]; decide)]
      exact this
    · have e2 : (bM x.toNat ++ encs r).take j = bM x.toNat ++ (encs r).take (j - (bM x.toNat).length) := by rw [List.take_append, List.take_of_length_le (by omega)]
      have g := gH.put x ((encs r).take (j - (bM x.toNat).length)) hx
      try simp only at g
      rw [e2, g]
      simp only [if_true]
      rw [← Int.natCast_add, ← List.length_append]
      exact tkNs_cut r L (pre ++ bM x.toNat) _ (j - (bM x.toNat).length) (by rw [e, e2, List.append_assoc]) (by omega) (fun y hy => h y (List.mem_cons_of_mem _ hy))
theorem tkNs_was (L : List Int) (hb : cz L) : ∀ (m : Nat) (pre acc : List Int), pre.length ≤ L.length → L.take pre.length = pre → (tkNs L m (pre.length : Int) acc).2.2 = 0 →
    ∃ r : List Int, r.length = m ∧ (tkNs L m (pre.length : Int) acc).1 = acc ++ r ∧ (∀ x ∈ r, fE x) ∧ (tkNs L m (pre.length : Int) acc).2.1 = ((pre.length + (encs r).length : Nat) : Int) ∧ pre.length + (encs r).length ≤ L.length ∧ L.take (pre.length + (encs r).length) = pre ++ encs r
  | 0, pre, acc, hl, hp, _ => ⟨[], rfl, by simp [tkNs], by simp, by simp [tkNs, encs], by simpa [encs] using hl, by simpa [encs] using hp⟩
  | m + 1, pre, acc, hl, hp, h => by
    unfold tkNs at h ⊢
    by_cases h1 : (tk (L.drop ((pre.length : Int)).toNat) 0 0).2.2 = 0
    · rw [if_pos h1] at h ⊢
      obtain ⟨a1, a2, a3, a4⟩ := gH.was _ (hb.drop _) h1
      try simp only at a1 a2 a3 a4
      rw [Int.toNat_natCast] at a1 a2 a3 a4 h ⊢
      generalize (tk (L.drop pre.length) 0 0).1 = x at *
      rw [a2] at h ⊢
      rw [← Int.natCast_add, ← List.length_append] at h ⊢
      rw [List.length_drop] at a3
      obtain ⟨r, h2, h3, h4, h5, h6, h7⟩ := tkNs_was L hb m (pre ++ bM x.toNat) (acc ++ [x]) (by rw [List.length_append]; omega) (by rw [List.length_append, takeMore L pre _ hl hp, a4]) h
      have e0 : encs (x :: r) = bM x.toNat ++ encs r := rfl
      refine ⟨x :: r, by simp [h2], by rw [h3, List.append_assoc]; rfl, ?_, ?_, ?_, ?_⟩
      · intro y hy
        rcases List.mem_cons.1 hy with rfl | hy
        · exact a1
        · exact h4 y hy
      · rw [h5, e0, List.length_append, List.length_append]; omega
      · rw [e0, List.length_append]; rw [List.length_append] at h6; omega
      · rw [e0, List.length_append, ← Nat.add_assoc, ← List.length_append, h7, List.append_assoc]
    · rw [if_neg h1] at h
      exact absurd h h1
theorem goodNums : Good gJ encN (fun l => l.length ≤ 1024 ∧ ∀ x ∈ l, fE x) where
  put a rest h := tkNums_put a rest h.1 h.2
  cut a j h hj := by
    have hn : fE (a.length : Int) := by unfold fE; omega
    unfold gJ
    unfold encN at hj ⊢
    rw [List.length_append] at hj
    by_cases hc : j < (bM a.length).length
    · have e2 : (bM a.length ++ encs a).take j = (bM a.length).take j := List.take_append_of_le_length (by omega)
      have := gH.cut (a.length : Int) j hn (by simpa using hc)
      simp only [Int.toNat_natCast] at this
      rw [e2, if_neg (by rw [this]; decide)]
      exact this
    · have e2 : (bM a.length ++ encs a).take j = bM a.length ++ (encs a).take (j - (bM a.length).length) := by rw [List.take_append, List.take_of_length_le (by omega)]
      have g := gH.put (a.length : Int) ((encs a).take (j - (bM a.length).length)) hn
      simp only [Int.toNat_natCast] at g
      rw [e2, g]
      simp only [if_true, Int.toNat_natCast]
      rw [if_neg (by omega)]
      exact tkNs_cut a _ (bM a.length) [] (j - (bM a.length).length) rfl (by omega) h.2
  was l hb h := by
    unfold gJ at h ⊢
    by_cases h1 : (tk l 0 0).2.2 = 0
    · rw [if_pos h1] at h ⊢
      obtain ⟨a1, a2, a3, a4⟩ := gH.was l hb h1
      try simp only at a1 a2 a3 a4
      unfold fE at a1
      by_cases h2 : (tk l 0 0).1 > 1024
      · rw [if_pos h2] at h; exact absurd h (by decide)
      · rw [if_neg h2] at h ⊢
        generalize (tk l 0 0).1 = m at *
        rw [a2] at h ⊢
        obtain ⟨r, g2, g3, g4, g5, g6, g7⟩ := tkNs_was l hb m.toNat (bM m.toNat) [] a3 a4 h
        rw [g3, g5, List.nil_append]
        unfold encN
        rw [g2]
        refine ⟨⟨by omega, g4⟩, ?_, ?_, ?_⟩
        · rw [List.length_append]
        · rw [List.length_append]; exact g6
        · rw [List.length_append, g7]
    · rw [if_neg h1] at h
      exact absurd h h1
theorem goodVec : Good dK encN (fun v => isVec v = true) := by
  have g := (goodNums.only isVec).weak (ok' := fun v => isVec v = true) (fun v => ⟨fun h => ⟨vec_nums h, h⟩, fun h => h.2⟩)
  have e : ∀ l, (dK l).2.2 = (onlyP isVec gJ l).2.2 ∧ ((dK l).2.2 = 0 → dK l = onlyP isVec gJ l) := by
    intro l
    unfold dK onlyP
    by_cases h1 : (gJ l).2.2 = 0
    · rw [if_pos h1, if_pos h1]
      by_cases h2 : isVec (gJ l).1 = true
      · rw [if_pos h2, if_pos h2]
        exact ⟨h1.symm, fun _ => by rw [← h1]⟩
      · rw [if_neg h2, if_neg h2]
        exact ⟨rfl, fun h => by simp at h⟩
    · rw [if_neg h1, if_neg h1]
      exact ⟨rfl, fun h => absurd h h1⟩
  constructor
  · intro a rest h
    have := g.put a rest h
    rw [(e _).2 (by rw [(e _).1, this]), this]
  · intro a j h hj
    rw [(e _).1]
    exact g.cut a j h hj
  · intro l hb h
    have := g.was l hb (by rw [← (e _).1]; exact h)
    rw [(e _).2 h]
    exact this
end Go.Proofs.Ytddnlnjmikcgfaa.PC
end
section
set_option linter.unusedVariables false
set_option linter.unusedSimpArgs false
namespace Go.Proofs.Ytddnlnjmikcgfaa.PC
open Go.RowKit Go.WB.PrintWords Go.WB.PrintLast Go.WB.PrintMore
theorem tk_bad : ∀ (l : List Int) (n i : Nat), (tk l n i).2.2 ≠ 0 → (tk l n i).2.1 = 0
  | [], _, _, _ => rfl
  | c :: r, n, i, h => by
    unfold tk at h ⊢
    split at h
    · rename_i h1
      rw [if_pos h1]
      split at h
      · rename_i h2; rw [if_pos h2]
      · rename_i h2; rw [if_neg h2]; exact tk_bad r _ _ h
    · rename_i h1
      rw [if_neg h1]
      split at h
      · rename_i h2; rw [if_pos h2]
      · exact absurd rfl h
theorem num_ran (l : List Int) (hb : cz l) : 0 ≤ (tk l 0 0).2.1 ∧ (tk l 0 0).2.1 ≤ l.length := by
  by_cases h : (tk l 0 0).2.2 = 0
  · exact gH.ran l hb h
  · rw [tk_bad l 0 0 h]; omega
theorem stamp_ran (l : List Int) (hb : cz l) : 0 ≤ (fF l).2.2.1 ∧ (fF l).2.2.1 ≤ l.length := by
  by_cases h : (fF l).2.2.2 = 0
  · exact goodStamp.ran l hb h
  · have : (fF l).2.2.1 = 0 := by
      revert h
      unfold fF
      split
      · split
        · split
          · intro h; exact absurd rfl h
          · intro _; rfl
        · intro _; rfl
      · intro _; rfl
    omega
theorem text_ran (l : List Int) (hb : cz l) : 0 ≤ (fo l).2.1 ∧ (fo l).2.1 ≤ l.length := by
  by_cases h : (fo l).2.2 = 0
  · exact goodText.ran l hb h
  · have : (fo l).2.1 = 0 := by
      revert h
      unfold fo
      split
      · split
        · intro _; rfl
        · split
          · intro _; rfl
          · intro h; exact absurd rfl h
      · intro _; rfl
    omega
theorem vec_ran (l : List Int) (hb : cz l) : 0 ≤ (dK l).2.1 ∧ (dK l).2.1 ≤ l.length := by
  by_cases h : (dK l).2.2 = 0
  · exact goodVec.ran l hb h
  · have : (dK l).2.1 = 0 := by
      revert h
      unfold dK
      split
      · split
        · intro h; exact absurd rfl h
        · intro _; rfl
      · intro _; rfl
    omega
abbrev aX (l : List Int) : (Int × Int) × Int × Int := (((fF l).1, (fF l).2.1), (fF l).2.2)
abbrev fI (l : List Int) : Int × Int × Int := tk l 0 0
theorem part_F (l : List Int) (k e dk de : Int) (h0 : 0 ≤ k) (h1 : k ≤ l.length) (h2 : 0 ≤ dk) (h3 : dk ≤ l.length) (hl : l.length < 4611686018427387904) :
    bz.f l k e dk de = some (if e = 0 then k + dk else k, if e = 0 then de else e) := by
  unfold bz.f
  split
  · rw [w64_l (by omega) (by omega)]
  · rfl
theorem place_F (l : List Int) (hb : cz l) (hl : l.length < 4611686018427387904) (k e : Int) (h0 : 0 ≤ k) (h1 : k ≤ l.length) :
    aM.F l k e = some ((aX (l.drop k.toNat)).1.1, (aX (l.drop k.toNat)).1.2, (if e = 0 then k + (aX (l.drop k.toNat)).2.1 else k), (if e = 0 then (aX (l.drop k.toNat)).2.2 else e)) := by
  have hr := stamp_ran _ (hb.drop k.toNat)
  have hd : (l.drop k.toNat).length ≤ l.length := by rw [List.length_drop]; omega
  rw [aM.F_eq, if_pos h0, if_pos h1, stampTake _ (hb.drop _) (by omega), Option.bind_some, part_F _ _ _ _ _ h0 h1 (by omega) (by omega) hl, Option.bind_some]
theorem number_F (l : List Int) (hb : cz l) (hl : l.length < 4611686018427387904) (k e : Int) (h0 : 0 ≤ k) (h1 : k ≤ l.length) :
    aU.F l k e = some ((fI (l.drop k.toNat)).1, (if e = 0 then k + (fI (l.drop k.toNat)).2.1 else k), (if e = 0 then (fI (l.drop k.toNat)).2.2 else e)) := by
  have hr := num_ran _ (hb.drop k.toNat)
  have hd : (l.drop k.toNat).length ≤ l.length := by rw [List.length_drop]; omega
  rw [aU.F_eq, if_pos h0, if_pos h1, takeNum _ (hb.drop _) (by omega), Option.bind_some, part_F _ _ _ _ _ h0 h1 (by omega) (by omega) hl, Option.bind_some]
abbrev Rest : Type := (Int × Int) × ByteArray × Int × Int
def noKey : ByteArray := ⟨#[]⟩
def fA (k : Int) (l : List Int) : Rest × Int × Int :=
  if k = 1 then mapP (fun x : (Int × Int) × ByteArray => ((x.1, x.2, 0, 0) : Rest)) (seqP aX (fun _ => fo)) l
  else mapP (fun x : Int × Int => (((0, 0), noKey, x.1, x.2 - 1) : Rest)) (seqP fI (fun _ => fI)) l
def restE (k : Int) (b : Rest) : List Int := if k = 1 then eF b.1.1 b.1.2 ++ encT b.2.1 else bM b.2.2.1.toNat ++ bM (b.2.2.2 + 1).toNat
def restOk (k : Int) (b : Rest) : Prop := if k = 1 then (eY b.1.1 b.1.2 = true ∧ b.2.1.size ≤ 65536) ∧ b.2.2 = (0, 0) else (fE b.2.2.1 ∧ fE (b.2.2.2 + 1)) ∧ b.1 = (0, 0) ∧ b.2.1 = noKey
theorem goodRest (k : Int) : Good (fA k) (restE k) (restOk k) := by
  by_cases hk : k = 1
  · have g := ((goodStamp.seq (q := fun _ => fo) (eb := fun _ => encT) (okb := fun _ s => s.size ≤ 65536) (fun _ _ => goodText)).map (fun x : (Int × Int) × ByteArray => ((x.1, x.2, 0, 0) : Rest)) (fun b => (b.1, b.2.1)) (fun _ _ => rfl))
    have e1 : fA k = mapP (fun x : (Int × Int) × ByteArray => ((x.1, x.2, 0, 0) : Rest)) (seqP aX (fun _ => fo)) := by funext l; unfold fA; rw [if_pos hk]
    have e2 : restE k = fun b => eF b.1.1 b.1.2 ++ encT b.2.1 := by funext b; unfold restE; rw [if_pos hk]
    rw [e1, e2]
    refine g.weak (fun b => ?_)
    unfold restOk
    rw [if_pos hk]
    obtain ⟨a, s, p, v⟩ := b
    simp
    intro _ _
    exact ⟨fun ⟨h1, h2⟩ => ⟨h1.symm, h2.symm⟩, fun ⟨h1, h2⟩ => ⟨h1.symm, h2.symm⟩⟩
  · have g := ((gH.seq (q := fun _ => fI) (eb := fun _ n => bM n.toNat) (okb := fun _ => fE) (fun _ _ => gH)).map (fun x : Int × Int => (((0, 0), noKey, x.1, x.2 - 1) : Rest)) (fun b => (b.2.2.1, b.2.2.2 + 1)) (fun a _ => by simp))
    have e1 : fA k = mapP (fun x : Int × Int => (((0, 0), noKey, x.1, x.2 - 1) : Rest)) (seqP fI (fun _ => fI)) := by funext l; unfold fA; rw [if_neg hk]
    have e2 : restE k = fun b => bM b.2.2.1.toNat ++ bM (b.2.2.2 + 1).toNat := by funext b; unfold restE; rw [if_neg hk]
    rw [e1, e2]
    refine g.weak (fun b => ?_)
    unfold restOk
    rw [if_neg hk]
    obtain ⟨⟨a1, a2⟩, s, p, v⟩ := b
    simp
    intro _ _
    exact ⟨fun ⟨h1, h2⟩ => ⟨⟨h1.1.symm, h1.2.symm⟩, h2.symm⟩, fun ⟨h1, h2⟩ => ⟨⟨h1.1.symm, h1.2.symm⟩, h2.symm⟩⟩
abbrev Body : Type := (Int × Int) × List Int × Int × (Int × Int) × Rest
def tailP (k : Int) (l : List Int) : ((Int × Int) × Rest) × Int × Int := seqP aX (fun _ => fA k) l
def kindP (l : List Int) : Int × Int × Int := onlyP (fun k => k == 1 || k == 2) fI l
def opP (l : List Int) : Body × Int × Int := seqP aX (fun _ => seqP dK (fun _ => seqP kindP (fun k => seqP aX (fun _ => fA k)))) l
def opE (b : Body) : List Int := eF b.1.1 b.1.2 ++ (encN b.2.1 ++ (bM b.2.2.1.toNat ++ (eF b.2.2.2.1.1 b.2.2.2.1.2 ++ restE b.2.2.1 b.2.2.2.2)))
def opOk (b : Body) : Prop := eY b.1.1 b.1.2 = true ∧ isVec b.2.1 = true ∧ (fE b.2.2.1 ∧ (b.2.2.1 == 1 || b.2.2.1 == 2) = true) ∧ eY b.2.2.2.1.1 b.2.2.2.1.2 = true ∧ restOk b.2.2.1 b.2.2.2.2
theorem goodTail (k : Int) : Good (tailP k) (fun x => eF x.1.1 x.1.2 ++ restE k x.2) (fun x => eY x.1.1 x.1.2 = true ∧ restOk k x.2) :=
  goodStamp.seq (q := fun _ => fA k) (eb := fun _ => restE k) (okb := fun _ => restOk k) (fun _ _ => goodRest k)
theorem goodOp : Good opP opE opOk :=
  goodStamp.seq (q := fun _ => seqP dK (fun _ => seqP kindP (fun k => seqP aX (fun _ => fA k)))) (eb := fun _ b => encN b.1 ++ (bM b.2.1.toNat ++ (eF b.2.2.1.1 b.2.2.1.2 ++ restE b.2.1 b.2.2.2)))
    (okb := fun _ b => isVec b.1 = true ∧ (fE b.2.1 ∧ (b.2.1 == 1 || b.2.1 == 2) = true) ∧ eY b.2.2.1.1 b.2.2.1.2 = true ∧ restOk b.2.1 b.2.2.2)
    (fun _ _ => goodVec.seq (q := fun _ => seqP kindP (fun k => seqP aX (fun _ => fA k))) (eb := fun _ b => bM b.1.toNat ++ (eF b.2.1.1 b.2.1.2 ++ restE b.1 b.2.2))
      (okb := fun _ b => (fE b.1 ∧ (b.1 == 1 || b.1 == 2) = true) ∧ eY b.2.1.1 b.2.1.2 = true ∧ restOk b.1 b.2.2)
      (fun _ _ => (gH.only (fun k => k == 1 || k == 2)).seq (q := fun k => seqP aX (fun _ => fA k)) (eb := fun k b => eF b.1.1 b.1.2 ++ restE k b.2)
        (okb := fun k b => eY b.1.1 b.1.2 = true ∧ restOk k b.2) (fun k _ => goodTail k)))
end Go.Proofs.Ytddnlnjmikcgfaa.PC
end
section
set_option linter.unusedVariables false
set_option linter.unusedSimpArgs false
namespace Go.Proofs.Ytddnlnjmikcgfaa.PC
open Go.RowKit Go.WB.PrintWords Go.WB.PrintLast Go.WB.PrintMore
def nk {α : Type} (p : List Int → α × Int × Int) (l : List Int) (k e : Int) : Int := if e = 0 then k + (p (l.drop k.toNat)).2.1 else k
def ne {α : Type} (p : List Int → α × Int × Int) (l : List Int) (k e : Int) : Int := if e = 0 then (p (l.drop k.toNat)).2.2 else e
def nv {α : Type} (p : List Int → α × Int × Int) (l : List Int) (k : Int) : α := (p (l.drop k.toNat)).1
def Ran {α : Type} (p : List Int → α × Int × Int) : Prop := ∀ l, cz l → 0 ≤ (p l).2.1 ∧ (p l).2.1 ≤ l.length
theorem nk_ran {α : Type} {p : List Int → α × Int × Int} (hp : Ran p) {l : List Int} (hb : cz l) {k e : Int} (h : 0 ≤ k ∧ k ≤ l.length) : 0 ≤ nk p l k e ∧ nk p l k e ≤ l.length := by
  have := hp _ (hb.drop k.toNat)
  rw [List.length_drop] at this
  unfold nk
  split <;> omega
theorem chain_e {α β : Type} {p : List Int → α × Int × Int} {q : α → List Int → β × Int × Int} (hp : Ran p) {l : List Int} (hb : cz l) {k e : Int} (h : 0 ≤ k ∧ k ≤ l.length) :
    ne (q (nv p l k)) l (nk p l k e) (ne p l k e) = ne (seqP p q) l k e := by
  have hr := hp _ (hb.drop k.toNat)
  unfold ne nk nv seqP
  by_cases he : e = 0
  · simp only [if_pos he]
    by_cases h1 : (p (l.drop k.toNat)).2.2 = 0
    · simp only [if_pos h1]
      rw [List.drop_drop, show (k + (p (l.drop k.toNat)).2.1).toNat = k.toNat + (p (l.drop k.toNat)).2.1.toNat by omega]
    · simp only [if_neg h1]
  · simp only [if_neg he]
theorem chain_v {α β : Type} {p : List Int → α × Int × Int} {q : α → List Int → β × Int × Int} (hp : Ran p) {l : List Int} (hb : cz l) {k : Int} (h : 0 ≤ k ∧ k ≤ l.length) (h0 : ne (seqP p q) l k 0 = 0) :
    ne p l k 0 = 0 ∧ nk (q (nv p l k)) l (nk p l k 0) 0 = nk (seqP p q) l k 0 ∧ nv (seqP p q) l k = (nv p l k, nv (q (nv p l k)) l (nk p l k 0)) := by
  have hr := hp _ (hb.drop k.toNat)
  unfold ne nk nv seqP at *
  simp only [if_true] at *
  by_cases h1 : (p (l.drop k.toNat)).2.2 = 0
  · simp only [if_pos h1] at h0 ⊢
    have e : l.drop (k + (p (l.drop k.toNat)).2.1).toNat = (l.drop k.toNat).drop (p (l.drop k.toNat)).2.1.toNat := by
      rw [List.drop_drop, show (k + (p (l.drop k.toNat)).2.1).toNat = k.toNat + (p (l.drop k.toNat)).2.1.toNat by omega]
    rw [e, if_pos h0]
    exact ⟨h1, by omega, rfl⟩
  · simp only [if_neg h1] at h0
    exact absurd h0 h1
theorem gz : Ran aX := fun l hb => stamp_ran l hb
theorem ran_num : Ran fI := fun l hb => num_ran l hb
theorem ran_text : Ran fo := fun l hb => text_ran l hb
theorem ran_vec : Ran dK := fun l hb => vec_ran l hb
theorem place_N (l : List Int) (hb : cz l) (hl : l.length < 4611686018427387904) (k e : Int) (h : 0 ≤ k ∧ k ≤ l.length) :
    aM.F l k e = some ((nv aX l k).1, (nv aX l k).2, nk aX l k e, ne aX l k e) := place_F l hb hl k e h.1 h.2
theorem number_N (l : List Int) (hb : cz l) (hl : l.length < 4611686018427387904) (k e : Int) (h : 0 ≤ k ∧ k ≤ l.length) :
    aU.F l k e = some (nv fI l k, nk fI l k e, ne fI l k e) := number_F l hb hl k e h.1 h.2
theorem text_N (l : List Int) (hb : cz l) (hl : l.length < 4611686018427387904) (k : Int) : bA.F (l.drop k.toNat) = some (fo (l.drop k.toNat)) :=
  takeText _ (hb.drop _) (by rw [List.length_drop]; omega)
theorem part_N {α : Type} (p : List Int → α × Int × Int) (hp : Ran p) (l : List Int) (hb : cz l) (hl : l.length < 4611686018427387904) (k e : Int) (h : 0 ≤ k ∧ k ≤ l.length) :
    bz.f l k e (p (l.drop k.toNat)).2.1 (p (l.drop k.toNat)).2.2 = some (nk p l k e, ne p l k e) := by
  have := hp _ (hb.drop k.toNat)
  rw [List.length_drop] at this
  exact part_F l k e _ _ h.1 h.2 (by omega) (by omega) hl
abbrev T14 : Type := Int × Int × Int × List Int × Int × Int × Int × Int × Int × ByteArray × Int × Int × Int × Int
def errOf (z : T14) : Int := z.2.2.2.2.2.2.2.2.2.2.2.2.2
theorem tail_J1 (l : List Int) (hb : cz l) (hl : l.length < 4611686018427387904) (k e : Int) (h : 0 ≤ k ∧ k ≤ l.length) (s1 s2 s3 : Int) (d : List Int) (kk : Int) :
    ∃ z : T14, ag.J1 l k e s1 s2 s3 d kk 0 0 0 0 (⟨#[]⟩ : ByteArray) 0 0 = some z ∧ errOf z = ne (tailP kk) l k e ∧
      (e = 0 → ne (tailP kk) l k 0 = 0 → z = (s1, s2, s3, d, kk, (nv (tailP kk) l k).1.1, (nv (tailP kk) l k).1.2, (nv (tailP kk) l k).2.1.1, (nv (tailP kk) l k).2.1.2, (nv (tailP kk) l k).2.2.1, (nv (tailP kk) l k).2.2.2.1, (nv (tailP kk) l k).2.2.2.2, nk (tailP kk) l k 0, 0)) := by
  have h1 := nk_ran gz hb (e := e) h
  have c1 : ne (fA kk) l (nk aX l k e) (ne aX l k e) = ne (tailP kk) l k e := chain_e (q := fun _ => fA kk) gz hb h
  rw [ag.J1_eq, place_N l hb hl k e h, Option.bind_some]
  by_cases hk : kk = 1
  · have h2 := nk_ran gz hb (e := ne aX l k e) h1
    have eR : fA kk = mapP (fun x : (Int × Int) × ByteArray => ((x.1, x.2, 0, 0) : Rest)) (seqP aX (fun _ => fo)) := by funext l; unfold fA; rw [if_pos hk]
    have c2 : ne fo l (nk aX l (nk aX l k e) (ne aX l k e)) (ne aX l (nk aX l k e) (ne aX l k e)) = ne (fA kk) l (nk aX l k e) (ne aX l k e) := by
      rw [eR]
      exact chain_e (q := fun _ => fo) gz hb h1
    rw [if_pos hk, place_N l hb hl _ _ h1, Option.bind_some, if_pos h2.1, if_pos h2.2, text_N l hb hl, Option.bind_some, part_N fo ran_text l hb hl _ _ h2, Option.bind_some]
    refine ⟨_, rfl, c2.trans c1, ?_⟩
    intro he h0
    subst he
    obtain ⟨g1, g2, g3⟩ := chain_v (q := fun _ => fA kk) gz hb h h0
    rw [g1] at c1 c2 ⊢
    have h0' : ne (fA kk) l (nk aX l k 0) 0 = 0 := c1.trans h0
    rw [eR] at h0'
    obtain ⟨f1, f2, f3⟩ := chain_v (q := fun _ => fo) gz hb h1 h0'
    rw [f1] at c2 ⊢
    have e1 : nv (tailP kk) l k = (nv aX l k, nv (fA kk) l (nk aX l k 0)) := g3
    have e2 : nv (fA kk) l (nk aX l k 0) = (nv aX l (nk aX l k 0), nv fo l (nk aX l (nk aX l k 0) 0), 0, 0) := by
      rw [eR]
      exact congrArg (fun x : (Int × Int) × ByteArray => ((x.1, x.2, 0, 0) : Rest)) f3
    have e3 : nk fo l (nk aX l (nk aX l k 0) 0) 0 = nk (tailP kk) l k 0 := by
      have t : nk (fA kk) l (nk aX l k 0) 0 = nk (seqP aX (fun _ => fo)) l (nk aX l k 0) 0 := by rw [eR]; rfl
      exact f2.trans (t.symm.trans g2)
    have e4 : ne fo l (nk aX l (nk aX l k 0) 0) 0 = 0 := by rw [c2, eR]; exact h0'
    rw [e1, e2, e3, e4]
    rfl
  · have h2 := nk_ran ran_num hb (e := ne aX l k e) h1
    have eR : fA kk = mapP (fun x : Int × Int => (((0, 0), noKey, x.1, x.2 - 1) : Rest)) (seqP fI (fun _ => fI)) := by funext l; unfold fA; rw [if_neg hk]
    have c2 : ne fI l (nk fI l (nk aX l k e) (ne aX l k e)) (ne fI l (nk aX l k e) (ne aX l k e)) = ne (fA kk) l (nk aX l k e) (ne aX l k e) := by
      rw [eR]
      exact chain_e (q := fun _ => fI) ran_num hb h1
    rw [if_neg hk, number_N l hb hl _ _ h1, Option.bind_some, number_N l hb hl _ _ h2, Option.bind_some]
    refine ⟨_, rfl, c2.trans c1, ?_⟩
    intro he h0
    subst he
    obtain ⟨g1, g2, g3⟩ := chain_v (q := fun _ => fA kk) gz hb h h0
    rw [g1] at c1 c2 ⊢
    have h0' : ne (fA kk) l (nk aX l k 0) 0 = 0 := c1.trans h0
    rw [eR] at h0'
    obtain ⟨f1, f2, f3⟩ := chain_v (q := fun _ => fI) ran_num hb h1 h0'
    rw [f1] at c2 ⊢
    have e1 : nv (tailP kk) l k = (nv aX l k, nv (fA kk) l (nk aX l k 0)) := g3
    have e2 : nv (fA kk) l (nk aX l k 0) = ((0, 0), noKey, nv fI l (nk aX l k 0), nv fI l (nk fI l (nk aX l k 0) 0) - 1) := by
      rw [eR]
      exact congrArg (fun x : Int × Int => (((0, 0), noKey, x.1, x.2 - 1) : Rest)) f3
    have e3 : nk fI l (nk fI l (nk aX l k 0) 0) 0 = nk (tailP kk) l k 0 := by
      have t : nk (fA kk) l (nk aX l k 0) 0 = nk (seqP fI (fun _ => fI)) l (nk aX l k 0) 0 := by rw [eR]; rfl
      exact f2.trans (t.symm.trans g2)
    have e4 : ne fI l (nk fI l (nk aX l k 0) 0) 0 = 0 := by rw [c2, eR]; exact h0'
    have e5 := tk_ok (l.drop (nk fI l (nk aX l k 0) 0).toNat) 0 0 (by simpa [ne] using e4)
    have e6 : wrap64 (nv fI l (nk fI l (nk aX l k 0) 0) - 1) = nv fI l (nk fI l (nk aX l k 0) 0) - 1 := by
      have q1 : 0 ≤ nv fI l (nk fI l (nk aX l k 0) 0) := e5.1
      have q2 : nv fI l (nk fI l (nk aX l k 0) 0) ≤ 4611686018427387904 := e5.2.1
      exact w64_l (by omega) (by omega)
    rw [e1, e2, e3, e4, e6]
    rfl
def c12_l (k : Int) : Bool := k == 1 || k == 2
theorem bad_J0 (l : List Int) (hb : cz l) (hl : l.length < 4611686018427387904) (k e : Int) (h : 0 ≤ k ∧ k ≤ l.length) (s1 s2 s3 : Int) (d : List Int) (kk : Int) (b : Bool) (hbk : b = !c12_l kk) :
    ∃ z : T14, ag.J0 b l k e s1 s2 s3 d kk 0 0 0 0 (⟨#[]⟩ : ByteArray) 0 0 = some z ∧ errOf z = (if e = 0 then (if c12_l kk = true then ne (tailP kk) l k 0 else 1) else e) ∧
      (e = 0 → c12_l kk = true → ne (tailP kk) l k 0 = 0 → z = (s1, s2, s3, d, kk, (nv (tailP kk) l k).1.1, (nv (tailP kk) l k).1.2, (nv (tailP kk) l k).2.1.1, (nv (tailP kk) l k).2.1.2, (nv (tailP kk) l k).2.2.1, (nv (tailP kk) l k).2.2.2.1, (nv (tailP kk) l k).2.2.2.2, nk (tailP kk) l k 0, 0)) := by
  rw [ag.J0_eq]
  by_cases hc : c12_l kk = true
  · have : b = false := by rw [hbk, hc]; rfl
    rw [this, if_neg (by decide)]
    obtain ⟨z, z1, z2, z3⟩ := tail_J1 l hb hl k e h s1 s2 s3 d kk
    refine ⟨z, z1, ?_, fun he _ => z3 he⟩
    rw [z2, if_pos hc]
    by_cases he : e = 0
    · rw [if_pos he, he]
    · rw [if_neg he]; unfold ne; rw [if_neg he]
  · have : b = true := by rw [hbk]; simp at hc; rw [hc]; rfl
    rw [this, if_pos rfl, part_F l k e 0 1 h.1 h.2 (by omega) (by omega) hl, Option.bind_some]
    have e0 : (if e = 0 then k + 0 else k) = k := by split <;> omega
    simp only [e0]
    obtain ⟨z, z1, z2, z3⟩ := tail_J1 l hb hl k (if e = 0 then 1 else e) h s1 s2 s3 d kk
    refine ⟨z, z1, ?_, fun _ h => absurd h hc⟩
    rw [z2, if_neg hc]
    unfold ne
    by_cases he : e = 0
    · simp [he]
    · simp [he]
theorem take_F1 (l : List Int) (hb : cz l) (hl : l.length < 4611686018427387904) :
    ∃ z : T14, ag.F l 0 0 = some z ∧ errOf z = (opP l).2.2 ∧
      ((opP l).2.2 = 0 → z = ((opP l).1.1.1, (opP l).1.1.2, 0, (opP l).1.2.1, (opP l).1.2.2.1, (opP l).1.2.2.2.1.1, (opP l).1.2.2.2.1.2, (opP l).1.2.2.2.2.1.1, (opP l).1.2.2.2.2.1.2, (opP l).1.2.2.2.2.2.1, (opP l).1.2.2.2.2.2.2.1, (opP l).1.2.2.2.2.2.2.2, (opP l).2.1, 0)) := by
  have h : (0 : Int) ≤ 0 ∧ (0 : Int) ≤ l.length := by omega
  have h1 := nk_ran gz hb (e := 0) h
  have h2 := nk_ran ran_vec hb (e := ne aX l 0 0) h1
  have h3 := nk_ran ran_num hb (e := ne dK l (nk aX l 0 0) (ne aX l 0 0)) h2
  rw [ag.F_eq, place_N l hb hl 0 0 h, Option.bind_some, if_pos h1.1, if_pos h1.2, haveTake _ (hb.drop _) (by rw [List.length_drop]; omega), Option.bind_some, part_N dK ran_vec l hb hl _ _ h1, Option.bind_some, number_N l hb hl _ _ h2, Option.bind_some]
  simp only
  -- the kind's number
  generalize hK : nv fI l (nk dK l (nk aX l 0 0) (ne aX l 0 0)) = kk
  have hJ : (if kk = 1 then ag.J0 false l (nk fI l (nk dK l (nk aX l 0 0) (ne aX l 0 0)) (ne dK l (nk aX l 0 0) (ne aX l 0 0))) (ne fI l (nk dK l (nk aX l 0 0) (ne aX l 0 0)) (ne dK l (nk aX l 0 0) (ne aX l 0 0))) (nv aX l 0).1 (nv aX l 0).2 0 (dK (l.drop (nk aX l 0 0).toNat)).1 kk 0 0 0 0 (⟨#[]⟩ : ByteArray) 0 0
      else ag.J0 (kk != 2) l (nk fI l (nk dK l (nk aX l 0 0) (ne aX l 0 0)) (ne dK l (nk aX l 0 0) (ne aX l 0 0))) (ne fI l (nk dK l (nk aX l 0 0) (ne aX l 0 0)) (ne dK l (nk aX l 0 0) (ne aX l 0 0))) (nv aX l 0).1 (nv aX l 0).2 0 (dK (l.drop (nk aX l 0 0).toNat)).1 kk 0 0 0 0 (⟨#[]⟩ : ByteArray) 0 0)
      = ag.J0 (!c12_l kk) l (nk fI l (nk dK l (nk aX l 0 0) (ne aX l 0 0)) (ne dK l (nk aX l 0 0) (ne aX l 0 0))) (ne fI l (nk dK l (nk aX l 0 0) (ne aX l 0 0)) (ne dK l (nk aX l 0 0) (ne aX l 0 0))) (nv aX l 0).1 (nv aX l 0).2 0 (dK (l.drop (nk aX l 0 0).toNat)).1 kk 0 0 0 0 (⟨#[]⟩ : ByteArray) 0 0 := by
    unfold c12_l
    by_cases hk1 : kk = 1
    · subst hk1; rfl
    · rw [if_neg hk1]
      have : (kk == 1) = false := by simpa using hk1
      rw [this, Bool.false_or]; rfl
  rw [hJ]
  obtain ⟨z, z1, z2, z3⟩ := bad_J0 l hb hl (nk fI l (nk dK l (nk aX l 0 0) (ne aX l 0 0)) (ne dK l (nk aX l 0 0) (ne aX l 0 0))) (ne fI l (nk dK l (nk aX l 0 0) (ne aX l 0 0)) (ne dK l (nk aX l 0 0) (ne aX l 0 0))) h3 (nv aX l 0).1 (nv aX l 0).2 0 (dK (l.drop (nk aX l 0 0).toNat)).1 kk _ rfl
  -- the chain
  have a1 : ne (seqP dK (fun _ => seqP kindP (fun k => seqP aX (fun _ => fA k)))) l (nk aX l 0 0) (ne aX l 0 0) = ne opP l 0 0 := chain_e (q := fun _ => seqP dK (fun _ => seqP kindP (fun k => seqP aX (fun _ => fA k)))) gz hb h
  have a2 : ne (seqP kindP (fun k => seqP aX (fun _ => fA k))) l (nk dK l (nk aX l 0 0) (ne aX l 0 0)) (ne dK l (nk aX l 0 0) (ne aX l 0 0)) = ne opP l 0 0 := (chain_e (q := fun _ => seqP kindP (fun k => seqP aX (fun _ => fA k))) ran_vec hb h1).trans a1
  have eo : ne opP l 0 0 = (opP l).2.2 := by unfold ne; simp
  have key : ∀ k e, ne (seqP kindP (fun k => seqP aX (fun _ => fA k))) l k e = (if ne fI l k e = 0 then (if c12_l (nv fI l k) = true then (if 0 ≤ k ∧ k ≤ l.length then ne (tailP (nv fI l k)) l (nk fI l k e) 0 else ne (seqP kindP (fun k => seqP aX (fun _ => fA k))) l k e) else 1) else ne fI l k e) := by
    intro k e
    unfold ne nv nk seqP kindP onlyP
    by_cases he : e = 0
    · simp only [if_pos he]
      by_cases hn : (fI (l.drop k.toNat)).2.2 = 0
      · by_cases hc : c12_l (fI (l.drop k.toNat)).1 = true
        · have hc' : ((fI (l.drop k.toNat)).1 == 1 || (fI (l.drop k.toNat)).1 == 2) = true := hc
          simp only [if_pos hn, hc, hc', if_true]
          by_cases hr : 0 ≤ k ∧ k ≤ (l.length : Int)
          · rw [if_pos hr]
            have hq := num_ran _ (hb.drop k.toNat)
            have hq1 : 0 ≤ (fI (l.drop k.toNat)).2.1 := hq.1
            rw [List.drop_drop, show (k + (fI (l.drop k.toNat)).2.1).toNat = k.toNat + (fI (l.drop k.toNat)).2.1.toNat by omega]
            rfl
          · rw [if_neg hr]
        · have hc' : ¬ ((fI (l.drop k.toNat)).1 == 1 || (fI (l.drop k.toNat)).1 == 2) = true := hc
          simp only [if_pos hn, if_neg hc, if_neg hc', if_neg (show ¬ ((1 : Int) = 0) by decide)]
      · simp only [if_neg hn]
    · simp only [if_neg he]
  have a3 := key (nk dK l (nk aX l 0 0) (ne aX l 0 0)) (ne dK l (nk aX l 0 0) (ne aX l 0 0))
  rw [if_pos h2, hK, a2] at a3
  refine ⟨z, z1, by rw [z2, ← eo, a3], ?_⟩
  intro h0
  rw [← eo] at h0
  obtain ⟨b1, b2, b3⟩ := chain_v (q := fun _ => seqP dK (fun _ => seqP kindP (fun k => seqP aX (fun _ => fA k)))) gz hb h h0
  rw [b1] at a1 a2 a3 z3 z1 h2 h3 hK
  obtain ⟨d1, d2, d3⟩ := chain_v (q := fun _ => seqP kindP (fun k => seqP aX (fun _ => fA k))) ran_vec hb h1 (a1.trans h0)
  rw [d1] at a2 a3 z3 z1 h3
  rw [h0] at a3
  have n0 : ne fI l (nk dK l (nk aX l 0 0) 0) 0 = 0 := by
    by_cases hn : ne fI l (nk dK l (nk aX l 0 0) 0) 0 = 0
    · exact hn
    · rw [if_neg hn] at a3; exact absurd a3.symm hn
  rw [if_pos n0] at a3
  have cc : c12_l kk = true := by
    by_cases hc : c12_l kk = true
    · exact hc
    · rw [if_neg hc] at a3; exact absurd a3 (by decide)
  rw [if_pos cc] at a3
  rw [z3 n0 cc a3.symm]
  -- the values
  have hkind : kindP (l.drop (nk dK l (nk aX l 0 0) 0).toNat) = fI (l.drop (nk dK l (nk aX l 0 0) 0).toNat) := by
    unfold kindP onlyP
    have e1 : (fI (l.drop (nk dK l (nk aX l 0 0) 0).toNat)).2.2 = 0 := by have := n0; unfold ne at this; simpa using this
    have e2 : ((fI (l.drop (nk dK l (nk aX l 0 0) 0).toNat)).1 == 1 || (fI (l.drop (nk dK l (nk aX l 0 0) 0).toNat)).1 == 2) = true := by
      have : nv fI l (nk dK l (nk aX l 0 0) 0) = kk := hK
      unfold nv at this
      rw [this]; exact cc
    rw [if_pos e1, if_pos e2]
  have rk : Ran kindP := by
    intro l hb
    have := num_ran l hb
    unfold kindP onlyP
    split
    · split
      · exact this
      · exact ⟨Int.le_refl 0, by show (0 : Int) ≤ l.length; omega⟩
    · exact this
  have hv : nv kindP l (nk dK l (nk aX l 0 0) 0) = kk := by
    show (kindP (l.drop (nk dK l (nk aX l 0 0) 0).toNat)).1 = kk
    rw [hkind]
    exact hK
  have hkk : nk kindP l (nk dK l (nk aX l 0 0) 0) 0 = nk fI l (nk dK l (nk aX l 0 0) 0) 0 := by
    show (if (0 : Int) = 0 then nk dK l (nk aX l 0 0) 0 + (kindP (l.drop (nk dK l (nk aX l 0 0) 0).toNat)).2.1 else _) = _
    rw [hkind]
    rfl
  obtain ⟨f1, f2, f3⟩ := chain_v (p := kindP) (q := fun k => seqP aX (fun _ => fA k)) rk hb h2 (a2.trans h0)
  rw [hv, hkk] at f2 f3
  have e1 : (opP l).1 = (nv aX l 0, nv dK l (nk aX l 0 0), kk, nv (tailP kk) l (nk fI l (nk dK l (nk aX l 0 0) 0) 0)) := by
    have : (opP l).1 = nv opP l 0 := by unfold nv; simp
    rw [this]
    exact b3.trans (by rw [d3, f3]; rfl)
  have e2 : (opP l).2.1 = nk (tailP kk) l (nk fI l (nk dK l (nk aX l 0 0) 0) 0) 0 := by
    have : (opP l).2.1 = nk opP l 0 0 := by unfold nk; simp
    rw [this]
    exact (f2.trans (d2.trans b2)).symm
  rw [e1, e2]
  rfl
end Go.Proofs.Ytddnlnjmikcgfaa.PC
end
section
set_option linter.unusedVariables false
set_option linter.unusedSimpArgs false
namespace Go.Proofs.Ytddnlnjmikcgfaa.PC
open Go.RowKit Go.WB.PrintWords Go.WB.PrintLast Go.WB.PrintMore
def isKey (s : ByteArray) : Bool := decide (1 ≤ s.size ∧ s.size ≤ 64) && (bt s ((s.size : Int) - 1) != 0)
theorem keyIs (s : ByteArray) : key_Is.f s = some (isKey s) := by
  unfold key_Is.f isKey
  by_cases h1 : (s.size : Int) ≥ 1
  · by_cases h2 : (s.size : Int) ≤ 64
    · rw [if_pos h1, if_pos h2, w64_l (by omega) (by omega), if_pos (by omega), if_pos (by omega), decide_eq_true (show 1 ≤ s.size ∧ s.size ≤ 64 by omega), Bool.true_and]
    · rw [if_pos h1, if_neg h2, decide_eq_false (show ¬ (1 ≤ s.size ∧ s.size ≤ 64) by omega), Bool.false_and]
  · rw [if_neg h1, decide_eq_false (show ¬ (1 ≤ s.size ∧ s.size ≤ 64) by omega), Bool.false_and]
def RuleOk (o : Option (Int × Int × Int × Bool)) : Prop := ∃ v, o = some v ∧ -1 ≤ v.1 ∧ v.2.1 ≤ 1099511627776
theorem RuleOk.of (a b c : Int) (d : Bool) (h : -1 ≤ a) (k : b ≤ 1099511627776) : RuleOk (some (a, b, c, d)) := ⟨_, rfl, h, k⟩
theorem RuleOk.ite {c : Prop} [Decidable c] {a b : Option (Int × Int × Int × Bool)} (h : RuleOk a) (k : RuleOk b) : RuleOk (if c then a else b) := by
  split
  · exact h
  · exact k
theorem rule_J2 (x : Int) (b : Bool) : RuleOk (ah.J2 x b) := by
  rw [ah.J2_eq]
  repeat' (first | exact RuleOk.of _ _ _ _ (by decide) (by decide) | refine RuleOk.ite ?_ ?_)
theorem rule_J1 (x : Int) (b : Bool) : RuleOk (ah.J1 x b) := by
  rw [ah.J1_eq]
  repeat' (first | exact RuleOk.of _ _ _ _ (by decide) (by decide) | exact rule_J2 _ _ | refine RuleOk.ite ?_ ?_)
theorem rule_J0 (x : Int) (b : Bool) : RuleOk (ah.J0 x b) := by
  rw [ah.J0_eq]
  repeat' (first | exact RuleOk.of _ _ _ _ (by decide) (by decide) | exact rule_J1 _ _ | refine RuleOk.ite ?_ ?_)
theorem rule_all (x : Int) : RuleOk (ah.F x) := by
  rw [ah.F_eq]
  repeat' (first | exact RuleOk.of _ _ _ _ (by decide) (by decide) | exact rule_J0 _ _ | refine RuleOk.ite ?_ ?_)
noncomputable def ruleV (p : Int) : Int × Int × Int × Bool := (ah.F p).getD (0, 0, 0, false)
theorem rule_F (p : Int) : ah.F p = some (ruleV p) ∧ -1 ≤ (ruleV p).1 ∧ (ruleV p).2.1 ≤ 1099511627776 := by
  obtain ⟨v, h, h1, h2⟩ := rule_all p
  have e : ruleV p = v := by unfold ruleV; rw [h]; rfl
  rw [e]
  exact ⟨h, h1, h2⟩
noncomputable def propMay (p v : Int) : Bool := decide (0 ≤ p ∧ p < 19) && decide ((ruleV p).1 ≤ v ∧ v ≤ (ruleV p).2.1)
theorem propMay_F (p v : Int) : dF.F p v = some (propMay p v) := by
  rw [dF.F_eq]
  unfold prop_Is.f propMay
  by_cases h : p ≥ 0
  · rw [if_pos h, Option.bind_some]
    by_cases h2 : p < 19
    · rw [if_pos (decide_eq_true h2), (rule_F p).1, Option.bind_some, decide_eq_true (show 0 ≤ p ∧ p < 19 by omega), Bool.true_and]
      split
      · rename_i h3
        rw [Option.bind_some]
        exact congrArg some (decide_eq_decide.2 ⟨fun h4 => ⟨h3, h4⟩, fun h4 => h4.2⟩)
      · rename_i h3
        exact congrArg some (decide_eq_false (fun h4 => h3 h4.1)).symm
    · rw [if_neg (by simpa using h2), decide_eq_false (show ¬ (0 ≤ p ∧ p < 19) by omega), Bool.false_and]
  · rw [if_neg h, Option.bind_some, if_neg (by decide), decide_eq_false (show ¬ (0 ≤ p ∧ p < 19) by omega), Bool.false_and]
theorem propMay_ran {p v : Int} (h : propMay p v = true) : 0 ≤ p ∧ p < 19 ∧ -1 ≤ v ∧ v ≤ 1099511627776 := by
  unfold propMay at h
  simp only [Bool.and_eq_true, decide_eq_true_eq] at h
  have := rule_F p
  omega
noncomputable def kindOk (k pr pp : Int) (key : ByteArray) (p v : Int) : Bool :=
  if k = 1 then eY pr pp && (isKey key && ((p == 0) && (v == 0))) else if k = 2 then propMay p v && (((pr == 0) && (pp == 0)) && (key.toList == ([] : List UInt8))) else false
theorem kind_F (a0 a1 a2 : Int) (d : List Int) (k a5 a6 pr pp : Int) (key : ByteArray) (p v : Int) : dx.F a0 a1 a2 d k a5 a6 pr pp key p v = some (kindOk k pr pp key p v) := by
  rw [dx.F_eq]
  unfold kindOk
  by_cases h1 : k = 1
  · rw [if_pos h1, if_pos h1, stampPlace, Option.bind_some]
    cases eY pr pp
    · rfl
    · rw [if_pos rfl, keyIs, Option.bind_some]
      cases isKey key
      · rfl
      · rw [if_pos rfl]
        by_cases hp : p = 0
        · rw [if_pos hp, hp]; rfl
        · rw [if_neg hp]
          have : (p == 0) = false := by simpa using hp
          rw [this]; rfl
  · rw [if_neg h1, if_neg h1]
    by_cases h2 : k = 2
    · rw [if_pos h2, if_pos h2, propMay_F, Option.bind_some]
      cases propMay p v
      · rfl
      · rw [if_pos rfl]
        unfold dO.f
        rw [Option.bind_some]
        cases ((pr == 0) && (pp == 0))
        · rfl
        · rfl
    · rw [if_neg h2, if_neg h2]
noncomputable def mayOp (t r s : Int) (d : List Int) (k nt nr pr pp : Int) (key : ByteArray) (p v : Int) : Bool :=
  gG t r && (isVec d && (decide (r < d.length) && (gG nt nr && (decide (s = rd d r + 1 ∧ s ≤ 1099511627776) && kindOk k pr pp key p v))))
theorem stamp_range {t r : Int} (h : gG t r = true) : 1 ≤ t ∧ t ≤ 1099511627776 ∧ 0 ≤ r ∧ r < 16 := by
  unfold gG at h
  simpa using h
theorem vec_rd {d : List Int} (h : isVec d = true) {r : Int} (h0 : 0 ≤ r) (h1 : r < d.length) : 0 ≤ rd d r ∧ rd d r ≤ 1099511627776 := by
  obtain ⟨i, rfl⟩ := Int.eq_ofNat_of_zero_le h0
  have hi : i < d.length := by omega
  rw [show ((i : Nat) : Int) = (i : Int) from rfl, rd_nat d i hi]
  exact vec_get h i hi
theorem opMay (t r s : Int) (d : List Int) (k nt nr pr pp : Int) (key : ByteArray) (p v : Int) (hd : d.length < 9223372036854775807) :
    bC.F t r s d k nt nr pr pp key p v = some (mayOp t r s d k nt nr pr pp key p v) := by
  have hJ : bC.J0 true t r s d k nt nr pr pp key p v = some false := by rw [bC.J0_eq, if_pos rfl]
  rw [bC.F_eq, stampIs, Option.bind_some]
  unfold mayOp
  by_cases h1 : gG t r = true
  · have hs := stamp_range h1
    rw [if_pos h1, haveIs d hd, Option.bind_some, h1, Bool.true_and]
    by_cases h2 : isVec d = true
    · rw [if_pos h2, h2, Bool.true_and]
      by_cases h3 : r < d.length
      · have hr := vec_rd h2 hs.2.2.1 h3
        rw [if_neg (by omega), stampIs, Option.bind_some, decide_eq_true h3, Bool.true_and]
        cases h4 : gG nt nr
        · rw [Bool.false_and]; exact hJ
        · rw [Bool.true_and]
          show bC.J0 false t r s d k nt nr pr pp key p v = _
          rw [bC.J0_eq, if_neg (by decide), if_pos hs.2.2.1, if_pos h3, w64_l (by omega) (by omega)]
          by_cases h5 : s = rd d r + 1
          · rw [if_pos h5]
            by_cases h6 : s ≤ 1099511627776
            · rw [if_pos h6, kind_F, Option.bind_some, decide_eq_true (show s = rd d r + 1 ∧ s ≤ 1099511627776 from ⟨h5, h6⟩), Bool.true_and]
            · rw [if_neg h6, decide_eq_false (show ¬ (s = rd d r + 1 ∧ s ≤ 1099511627776) from fun h => h6 h.2), Bool.false_and]
          · rw [if_neg h5, decide_eq_false (show ¬ (s = rd d r + 1 ∧ s ≤ 1099511627776) from fun h => h5 h.1), Bool.false_and]
      · rw [if_pos (by omega), hJ, decide_eq_false h3, Bool.false_and]
    · have h2' : isVec d = false := by simpa using h2
      rw [if_neg h2, hJ, h2', Bool.false_and]
  · have h1' : gG t r = false := by simpa using h1
    rw [if_neg h1, hJ, h1', Bool.false_and]
theorem isPlace_of {t r : Int} (h : gG t r = true) : eY t r = true := by unfold eY; rw [h]; rfl
theorem may_iff {t r s : Int} {d : List Int} {k nt nr pr pp : Int} {key : ByteArray} {p v : Int} : mayOp t r s d k nt nr pr pp key p v = true ↔
    gG t r = true ∧ isVec d = true ∧ r < d.length ∧ gG nt nr = true ∧ (s = rd d r + 1 ∧ s ≤ 1099511627776) ∧ kindOk k pr pp key p v = true := by
  unfold mayOp
  simp only [Bool.and_eq_true, decide_eq_true_eq]
theorem empty_key {key : ByteArray} (h : key.toList = []) : key = noKey := by
  rw [ByteArray.toList_eq] at h
  obtain ⟨a⟩ := key
  unfold noKey
  congr 1
  exact Array.toList_inj.1 h
abbrev bodyOf (t r : Int) (d : List Int) (k nt nr pr pp : Int) (key : ByteArray) (p v : Int) : Body := ((t, r), d, k, (nt, nr), ((pr, pp), key, p, v))
theorem kind_rest {k pr pp : Int} {key : ByteArray} {p v : Int} (h : kindOk k pr pp key p v = true) : (k = 1 ∨ k = 2) ∧ restOk k (((pr, pp), key, p, v) : Rest) := by
  unfold kindOk at h
  unfold restOk
  by_cases h1 : k = 1
  · rw [if_pos h1] at h
    simp only [Bool.and_eq_true, beq_iff_eq] at h
    obtain ⟨g1, g2, g3, g4⟩ := h
    unfold isKey at g2
    simp only [Bool.and_eq_true, decide_eq_true_eq] at g2
    rw [if_pos h1]
    refine ⟨.inl h1, ⟨g1, ?_⟩, ?_⟩
    · show key.size ≤ 65536
      omega
    · show (p, v) = (0, 0)
      rw [g3, g4]
  · rw [if_neg h1] at h
    by_cases h2 : k = 2
    · rw [if_pos h2] at h
      simp only [Bool.and_eq_true, beq_iff_eq] at h
      obtain ⟨g1, ⟨g2, g3⟩, g4⟩ := h
      have := propMay_ran g1
      rw [if_neg h1]
      refine ⟨.inr h2, ⟨⟨?_, ?_⟩, ⟨?_, ?_⟩⟩, ?_, ?_⟩
      · show 0 ≤ p; omega
      · show p ≤ 4611686018427387904; omega
      · show 0 ≤ v + 1; omega
      · show v + 1 ≤ 4611686018427387904; omega
      · show (pr, pp) = (0, 0); rw [g2, g3]
      · exact empty_key g4
    · rw [if_neg h2] at h
      exact absurd h (by decide)
theorem may_ok {t r s : Int} {d : List Int} {k nt nr pr pp : Int} {key : ByteArray} {p v : Int} (h : mayOp t r s d k nt nr pr pp key p v = true) : opOk (bodyOf t r d k nt nr pr pp key p v) := by
  obtain ⟨h1, h2, h3, h4, h5, h6⟩ := may_iff.1 h
  obtain ⟨h7, h8⟩ := kind_rest h6
  refine ⟨isPlace_of h1, h2, ⟨⟨?_, ?_⟩, ?_⟩, isPlace_of h4, h8⟩
  · show 0 ≤ k; omega
  · show k ≤ 4611686018427387904; omega
  · show (k == 1 || k == 2) = true
    rcases h7 with rfl | rfl <;> rfl
theorem opE_bytes (b : Body) : cz (opE b) := by
  unfold opE
  refine (stampEnc_bytes _ _).append ((encN_bytes _).append ((enc_bytes _).append ((stampEnc_bytes _ _).append ?_)))
  unfold restE
  split
  · exact (stampEnc_bytes _ _).append (encT_bytes _)
  · exact (enc_bytes _).append (enc_bytes _)
theorem opE_length {b : Body} (h : opOk b) : (opE b).length ≤ 100000 := by
  obtain ⟨h1, h2, ⟨h3, _⟩, h4, h5⟩ := h
  have a1 := fq h1
  have a2 := encN_length b.2.1 (vec_nums h2).1 (vec_nums h2).2
  unfold fE at h3
  have a3 := d9 (n := b.2.2.1.toNat) (by omega)
  have a4 := fq h4
  unfold opE restE
  unfold restOk at h5
  by_cases hk : b.2.2.1 = 1
  · rw [if_pos hk] at h5 ⊢
    have a5 := fq h5.1.1
    have a6 := encT_length _ h5.1.2
    simp only [List.length_append]
    omega
  · rw [if_neg hk] at h5 ⊢
    obtain ⟨⟨g1, g2⟩, _⟩ := h5
    unfold fE at g1 g2
    have a5 := d9 (n := b.2.2.2.2.2.2.1.toNat) (by omega)
    have a6 := d9 (n := (b.2.2.2.2.2.2.2 + 1).toNat) (by omega)
    simp only [List.length_append]
    omega
theorem putAll_acc (acc l : List Int) (hl : l.length ≤ 1024) (h : ∀ x ∈ l, fE x) (ha : acc.length < 100000000000000) : aW.F acc l = some (acc ++ encN l) := by
  have h9 := d9 (n := l.length) (by omega)
  rw [aW.F_eq, put_F l.length acc (by omega) (by omega), Option.bind_some]
  have := putAll_L l hl h l.length 0 (acc ++ bM l.length) (by omega) (by omega) (by rw [List.length_append]; omega)
  rw [List.drop_zero] at this
  rw [show ((0 : Nat) : Int) = 0 from rfl] at this
  rw [this]
  unfold encN
  rw [List.append_assoc]
theorem putText_acc (acc : List Int) (s : ByteArray) (hs : s.size ≤ 65536) (ha : acc.length < 100000000000000) : bO.F acc s = some (acc ++ encT s) := by
  have h9 := d9 (n := s.size) (by omega)
  rw [bO.F_eq, put_F s.size acc (by omega) (by omega), Option.bind_some, if_pos (by rw [List.length_append]; omega)]
  unfold encT
  rw [List.append_assoc]
theorem num_of {x : Int} (h : fE x) : x = ((x.toNat : Nat) : Int) ∧ x.toNat ≤ 4611686018427387904 := by
  unfold fE at h
  omega
theorem put_num (acc : List Int) {x : Int} (h : fE x) (ha : acc.length < 100000000000000) : aV.F acc x = some (acc ++ bM x.toNat) := by
  obtain ⟨e, hx⟩ := num_of h
  have h9 := d9 hx
  rw [e, put_F _ acc hx (by omega)]
  rfl
theorem opPut (acc : List Int) (t r s : Int) (d : List Int) (k nt nr pr pp : Int) (key : ByteArray) (p v : Int) (h : opOk (bodyOf t r d k nt nr pr pp key p v)) (ha : acc.length < 1000000000000) :
    cu.F acc t r s d k nt nr pr pp key p v = some (acc ++ opE (bodyOf t r d k nt nr pr pp key p v)) := by
  have hL := opE_length h
  obtain ⟨h1, h2, ⟨h3, h3'⟩, h4, h5⟩ := h
  simp only at h1 h2 h3 h3' h4 h5
  have q1 := gF h1
  have q4 := gF h4
  have b1 : (eF t r).length ≤ 18 := fq h1
  have b2 : (encN d).length ≤ 9225 := encN_length d (vec_nums h2).1 (vec_nums h2).2
  obtain ⟨_, hk9⟩ := num_of h3
  have b3 : (bM k.toNat).length ≤ 9 := d9 hk9
  have b4 : (eF nt nr).length ≤ 18 := fq h4
  unfold opE at hL ⊢
  simp only [List.length_append] at hL ⊢
  rw [cu.F_eq, stampPut acc (by omega) (by omega) (by omega), Option.bind_some, putAll_acc _ d (vec_nums h2).1 (vec_nums h2).2 (by simp only [List.length_append]; omega), Option.bind_some,
    put_num _ h3 (by simp only [List.length_append]; omega), Option.bind_some, stampPut _ (by omega) (by omega) (by simp only [List.length_append]; omega), Option.bind_some]
  unfold restE
  unfold restOk at h5
  by_cases hk : k = 1
  · rw [if_pos hk] at h5
    have q5 : 0 ≤ pr ∧ pr ≤ 1099511627776 ∧ 0 ≤ pp ∧ pp < 16 := gF h5.1.1
    have b5 : (eF pr pp).length ≤ 18 := fq h5.1.1
    simp only [if_pos hk] at hL ⊢
    rw [stampPut _ (by omega) (by omega) (by simp only [List.length_append]; omega), Option.bind_some, putText_acc _ key h5.1.2 (by simp only [List.length_append]; omega), Option.bind_some]
    simp only [List.append_assoc]
  · rw [if_neg hk] at h5
    have g1 : fE p := h5.1.1
    have g2 : fE (v + 1) := h5.1.2
    obtain ⟨_, e1⟩ := num_of g1
    have b5 : (bM p.toNat).length ≤ 9 := d9 e1
    have e2 := g2
    unfold fE at e2
    simp only [if_neg hk] at hL ⊢
    rw [put_num _ g1 (by simp only [List.length_append]; omega), Option.bind_some, w64_l (by omega) (by omega), put_num _ g2 (by simp only [List.length_append]; omega), Option.bind_some]
    simp only [List.append_assoc]
theorem opBytes (t r s : Int) (d : List Int) (k nt nr pr pp : Int) (key : ByteArray) (p v : Int) (hd : d.length < 9223372036854775807) :
    dE.F t r s d k nt nr pr pp key p v = some (if mayOp t r s d k nt nr pr pp key p v = true then (opE (bodyOf t r d k nt nr pr pp key p v), 0) else ([], 1)) := by
  rw [dE.F_eq, opMay _ _ _ _ _ _ _ _ _ _ _ _ hd, Option.bind_some]
  by_cases h : mayOp t r s d k nt nr pr pp key p v = true
  · rw [if_pos h, if_pos h, opPut [] _ _ _ _ _ _ _ _ _ _ _ _ (may_ok h) (by simp), Option.bind_some, List.nil_append]
  · rw [if_neg h, if_neg h]
def zeroOp (e : Int) : T14 := (0, 0, 0, ([] : List Int), 0, 0, 0, 0, 0, (⟨#[]⟩ : ByteArray), 0, 0, 0, e)
noncomputable def seqOf (l : List Int) : Int := rd (opP l).1.2.1 (opP l).1.1.2 + 1
noncomputable def takenMay (l : List Int) : Bool := mayOp (opP l).1.1.1 (opP l).1.1.2 (seqOf l) (opP l).1.2.1 (opP l).1.2.2.1 (opP l).1.2.2.2.1.1 (opP l).1.2.2.2.1.2 (opP l).1.2.2.2.2.1.1 (opP l).1.2.2.2.2.1.2 (opP l).1.2.2.2.2.2.1 (opP l).1.2.2.2.2.2.2.1 (opP l).1.2.2.2.2.2.2.2
def wholeOp (l : List Int) (s : Int) : T14 := ((opP l).1.1.1, (opP l).1.1.2, s, (opP l).1.2.1, (opP l).1.2.2.1, (opP l).1.2.2.2.1.1, (opP l).1.2.2.2.1.2, (opP l).1.2.2.2.2.1.1, (opP l).1.2.2.2.2.1.2, (opP l).1.2.2.2.2.2.1, (opP l).1.2.2.2.2.2.2.1, (opP l).1.2.2.2.2.2.2.2, (opP l).2.1, 0)
noncomputable def tkOp (l : List Int) : T14 := if (opP l).2.2 = 0 then (if takenMay l = true then wholeOp l (seqOf l) else zeroOp 1) else zeroOp (opP l).2.2
theorem opTake (l : List Int) (hb : cz l) (hl : l.length < 4611686018427387904) : dC.F l = some (tkOp l) := by
  obtain ⟨z, z1, z2, z3⟩ := take_F1 l hb hl
  rw [dC.F_eq, z1, Option.bind_some]
  unfold tkOp
  by_cases h : (opP l).2.2 = 0
  · rw [if_pos h]
    have g := goodOp.was l hb h
    obtain ⟨⟨g1, g2, g3, g4, g5⟩, _⟩ := g
    have q1 := gF g1
    have q2 := isVec_iff.1 g2
    have hz := z3 h
    unfold errOf at z2
    rw [if_pos (by rw [z2, h])]
    rw [hz]
    simp only
    unfold takenMay
    by_cases h1 : (opP l).1.1.2 ≥ ((opP l).1.2.1.length : Int)
    · rw [if_pos h1, if_neg]
      · rfl
      · intro hm
        have := (may_iff.1 hm).2.2.1
        omega
    · have hr := vec_rd g2 q1.2.2.1 (by omega)
      rw [if_neg h1, if_pos q1.2.2.1, if_pos (by omega), w64_l (by omega) (by omega), opMay _ _ _ _ _ _ _ _ _ _ _ _ (by omega), Option.bind_some]
      show (if mayOp _ _ (seqOf l) _ _ _ _ _ _ _ _ _ = true then _ else _) = _
      split
      · rfl
      · rfl
  · rw [if_neg h]
    unfold errOf at z2
    rw [if_neg (by rw [z2]; exact h), z2]
    rfl
theorem tkOp_put {t r s : Int} {d : List Int} {k nt nr pr pp : Int} {key : ByteArray} {p v : Int} (h : mayOp t r s d k nt nr pr pp key p v = true) (rest : List Int) :
    tkOp (opE (bodyOf t r d k nt nr pr pp key p v) ++ rest) = (t, r, s, d, k, nt, nr, pr, pp, key, p, v, ((opE (bodyOf t r d k nt nr pr pp key p v)).length : Int), 0) := by
  have g := goodOp.put _ rest (may_ok h)
  have hs := (may_iff.1 h).2.2.2.2.1.1
  have e1 : seqOf (opE (bodyOf t r d k nt nr pr pp key p v) ++ rest) = s := by unfold seqOf; rw [g, hs]
  have e2 : takenMay (opE (bodyOf t r d k nt nr pr pp key p v) ++ rest) = true := by
    unfold takenMay
    rw [e1, g]
    exact h
  unfold tkOp
  rw [if_pos (by rw [g]), if_pos e2, e1]
  unfold wholeOp
  rw [g]
theorem eqOp_self (t r s : Int) (d : List Int) (k nt nr pr pp : Int) (key : ByteArray) (p v : Int) (hd : d.length < 9223372036854775807) :
    bB.F t r s d k nt nr pr pp key p v t r s d k nt nr pr pp key p v = some true := by
  rw [bB.F_eq]
  simp [eqNumbers d d hd]
theorem opLess (a0 a1 a2 : Int) (a3 : List Int) (a4 a5 a6 a7 a8 : Int) (a9 : ByteArray) (a10 a11 b0 b1 b2 : Int) (b3 : List Int) (b4 b5 b6 b7 b8 : Int) (b9 : ByteArray) (b10 b11 : Int) :
    dB.F a0 a1 a2 a3 a4 a5 a6 a7 a8 a9 a10 a11 b0 b1 b2 b3 b4 b5 b6 b7 b8 b9 b10 b11 = some (decide (cmpS a0 a1 b0 b1 < 0)) := by
  rw [dB.F_eq, stampCmp, Option.bind_some]
theorem may_O : mayOp 1 0 1 [0] 1 1 0 0 0 (⟨#[107]⟩ : ByteArray) 0 0 = true := by
  rw [may_iff]
  refine ⟨by decide, by decide, by decide, by decide, by decide, ?_⟩
  unfold kindOk
  rw [if_pos rfl]
  decide +kernel
theorem wakes10 : aH.F = some true := by
  have h := may_O
  have hp := tkOp_put h []
  have hL := opE_length (may_ok h)
  rw [List.append_nil] at hp
  rw [aH.F_eq]
  unfold dJ.f
  rw [Option.bind_some]
  simp only
  rw [opBytes _ _ _ _ _ _ _ _ _ _ _ _ (by decide), if_pos h, Option.bind_some]
  simp only
  rw [opTake _ (opE_bytes _) (by omega), hp, Option.bind_some]
  simp only [cO.f, Option.bind_some, if_true]
  rw [eqOp_self _ _ _ _ _ _ _ _ _ _ _ _ (by decide), Option.bind_some]
end Go.Proofs.Ytddnlnjmikcgfaa.PC
end
section
set_option linter.unusedVariables false
set_option linter.unusedSimpArgs false
namespace Go.Proofs.Ytddnlnjmikcgfaa.PC
open Go.RowKit Go.WB.PrintWords Go.WB.PrintLast Go.WB.PrintMore
theorem orders_L1 (l : List S31) (hl : l.length ≤ 9223372036854775807) (i : Nat) (hi : i < l.length) (next : ae.L0 l (wrap64 ((i : Int) + 1)) = some true) :
    ∀ (d k : Nat), k ≤ l.length → l.length - k = d → ae.L1 l (i : Int) (k : Int) = some true := by
  intro d
  induction d with
  | zero =>
    intro k hk hd
    rw [ae.L1_eq, if_neg (by omega), ae.J3_eq, if_neg (by simp)]
    exact next
  | succ d ih =>
    intro k hk hd
    have h2 : (k : Int) < (l.length : Int) := by omega
    rw [ae.L1_eq, if_pos h2, ae.J3_eq]
    by_cases h12 : (k : Int) < 12
    · rw [if_pos (decide_eq_true h12), if_pos (by omega), if_pos (by omega), if_pos (by omega), if_pos h2, opLess, Option.bind_some, refCmp, Option.bind_some, if_neg (by simp), w64s (by omega) (by omega)]
      exact ih (k + 1) (by omega) (by omega)
    · rw [if_neg (by simpa using h12)]
      exact next
theorem orders_L0 (l : List S31) (hl : l.length ≤ 9223372036854775807) : ∀ (d i : Nat), i ≤ l.length → l.length - i = d → ae.L0 l (i : Int) = some true := by
  intro d
  induction d with
  | zero =>
    intro i hi hd
    rw [ae.L0_eq, if_neg (by omega), ae.J1_eq, if_neg (by simp), wakes10]
    rfl
  | succ d ih =>
    intro i hi hd
    have h2 : (i : Int) < (l.length : Int) := by omega
    rw [ae.L0_eq, if_pos h2, ae.J1_eq]
    by_cases h12 : (i : Int) < 12
    · rw [if_pos (decide_eq_true h12)]
      exact orders_L1 l hl i (by omega) (by rw [w64s (by omega) (by omega)]; exact ih (i + 1) (by omega) (by omega)) l.length 0 (by omega) (by omega)
    · rw [if_neg (by simpa using h12), wakes10]
      rfl
theorem ae.proof : ae.Pure := by
  intro l ⟨hm, _, _⟩
  refine LB.Lim.rounds (ae.bR l) ?_
  rw [ae.F_eq]
  exact orders_L0 l hm l.length 0 (by omega) (by omega)
end Go.Proofs.Ytddnlnjmikcgfaa.PC
end
section
namespace Go.Proofs.Ytddnlnjmikcgfaa.PC
open Go.RowKit Go.WB.PrintWords Go.WB.PrintLast Go.WB.PrintMore
attribute [local go_sem] bV bU di dh bG bH bT bW
set_option linter.unusedVariables false
set_option linter.unusedSimpArgs false
open Go.LB (sT sZ sS cells3 aR dH aT)
open Go.SB (rpu rpf rtk rpu0 rpf0 rtk0 rbs rud pS)
set_option maxHeartbeats 40000000
set_option maxRecDepth 100000
theorem bz.calls (g : Nat) (s0_0 : List Int) (s0_1 : Int) (s0_2 : Int) (a1 : Int) (a2 : Int) (r1 : Int) (r2 : Int) (w0 w : World) (hI : aN w0 w g s0_0 s0_1 s0_2) (hB : Below w0.heap.size w0 w) (h : bz.f s0_0 s0_1 s0_2 a1 a2 = some (r1, r2)) :
  Calls Try.prog 80 #[.pointer (some ⟨g, 0, none⟩), .int .i64 a1, .int .i64 a2] w fun e w' => e = .returned (.tuple #[]) ∧ aN w0 w' g s0_0 r1 r2 ∧ Below w0.heap.size w0 w' ∧ bi w w' g none := by
 have HI0 := aa.mk hI;have HK := aa.mk (bi.refl w g none);have HL := aa.mk hB.size;clear hI;have HW0 := aa.mk hB.size;have HB := aa.mk hB;clear hB;have H : (if s0_2 = 0 then (some (wrap64 (s0_1 + a1), a2)) else (some (s0_1, s0_2))) = some (r1, r2) := h;clear h;by_cases c4 : s0_2 = 0
 ·rw [if_pos c4] at H
  have c4b0 : (s0_2 == 0) = true := beq_iff_eq.mpr c4;have c4b1 : (s0_2 != 0) = false := bne_eq_false_iff_eq.mpr c4;clear c4;simp only [Option.some.injEq, Prod.mk.injEq] at H;obtain ⟨rfl, rfl⟩ := H;obtain ⟨ASz5_0, cSz5_0, HGz5, hgz5, HSz5_0, HcSz5_0⟩ := HI0.out;have C5_0 := gm HGz5;have C5_1 := fH HGz5;have C5_2 := fU HGz5;have F5_1 := aC HGz5 1;have F5_2 := aC HGz5 2;clear HGz5 hgz5;go_enter Try.func80, Try.ntmps80;go_wp2;first | go_end0 | ((try simp only [Exit.inBlock, Exit.then]); refine bodyPost_ret (results_none rfl _ _ _) rfl ?_)
  exact ⟨by first | rfl | (simp [aj, ai] <;> rfl) | (simp [*, aj, ai] <;> rfl), by repeat (first | (with_reducible first | exact HI0.out | apply aN.alloc | apply aN.drewN | apply aN.drew | apply aN.set_1 | apply aN.set_2) | exact HI0.out), by repeat (first | (with_reducible first | exact HB.out | apply aY | apply aQ | apply aK | refine bf ?_ (aN.ge HI0.out)) | exact HB.out), by repeat (first | (with_reducible first | exact HK.out | apply bi.set_ | apply eQ | apply eP | apply eU) | exact HK.out)⟩
 ·rw [if_neg c4] at H
  have c4b0 : (s0_2 == 0) = false := beq_eq_false_iff_ne.mpr c4;have c4b1 : (s0_2 != 0) = true := bne_iff_ne.mpr c4;simp only [Option.some.injEq, Prod.mk.injEq] at H;obtain ⟨rfl, rfl⟩ := H;obtain ⟨ASz6_0, cSz6_0, HGz6, hgz6, HSz6_0, HcSz6_0⟩ := HI0.out;have C6_0 := gm HGz6;have C6_1 := fH HGz6;have C6_2 := fU HGz6;have F6_1 := aC HGz6 1;have F6_2 := aC HGz6 2;clear HGz6 hgz6;go_enter Try.func80, Try.ntmps80;go_wp2;first | go_end0 | ((try simp only [Exit.inBlock, Exit.then]); refine bodyPost_ret (results_none rfl _ _ _) rfl ?_)
  exact ⟨by first | rfl | (simp [aj, ai] <;> rfl) | (simp [*, aj, ai] <;> rfl), by exact HI0.out, by exact rud HB.out rfl rfl rfl rfl, by exact HK.out⟩
theorem af.calls (k : Nat) (A0 : Option Addr) (c0 : Nat) (l0 : List Int) (r1 : Int) (r2 : Int) (r3 : Int) (w : World) (hr0 : Kd.C (Kd.int .u8) w A0 l0.length l0) (hc0 : l0.length ≤ c0) (h : af.f k l0 = some (r1, r2, r3)) :
  Calls Try.prog 102 #[.slice A0 l0.length c0] w fun e w' => e = .returned (.tuple #[.int .i64 r1, .int .i64 r2, .int .i64 r3]) ∧ bv w w' := by
 have HR0 := aa.mk hr0;have HC0 := aa.mk hc0;clear hr0 hc0;have H : (af.l0 k l0 0 0) = some (r1, r2, r3) := h;clear h;have H' := aa.mk H;clear H;go_enter Try.func102, Try.ntmps102;go_wp2;refine LB.wp_scope_two 1 0 rfl rfl ?_;intro G1_ G0_ hG1_ hG0_;go_wp2;refine LB.wp_label_ghost (fun t_ d_ kq a_ w' => ∃ (u2 u3 u4 u5 u6 u7 u8 u9 u10 u11 u12 u13 u14 u15 u16 u17 u18 u19 u20 u21 u22 u23 u24 u25 u26 u27 u28 u29 u30 u31 u32 u33 u34 u35 u36 u37 u38 u39 u40 u41 u42 u43 u44 u45 u46 u47 u48 u49 u50 u51 u52 : Value), (∃ (x2_1 : Int) (x5_1 : Int), u2 = .int .i64 x2_1 ∧ u5 = .int .i64 x5_1 ∧ aa (af.l0 kq l0 x2_1 x5_1 = some (r1, r2, r3)) ∧ aa (kq ≤ k) ∧ bv w w') ∧ a_ = ⟨#[LB.tget t_ 0, LB.tget t_ 1, u2, u3, u4, u5, u6, u7, u8, u9, u10, u11, u12, u13, u14, u15, u16, u17, u18, u19, u20, u21, u22, u23, u24, u25, u26, u27, u28, u29, u30, u31, u32, u33, u34, u35, u36, u37, u38, u39, u40, u41, u42, u43, u44, u45, u46, u47, u48, u49, u50, u51, u52], d_⟩) k ‹_› hG0_ ?atStart ?round
 case atStart =>
  (try dsimp only);(repeat apply Exists.intro);refine ⟨?rel0, rfl⟩;exact ⟨(0), (0), (by first | rfl | (simp; done) | (simp [*]; done)), (by first | rfl | (simp; done) | (simp [*]; done)), H', ⟨Nat.le_refl _⟩, by repeat (first | exact bv.refl _ | apply bv.step)⟩
 case round =>
  intro gk a_ wr hinv;(try dsimp only at hinv);obtain ⟨u2, u3, u4, u5, u6, u7, u8, u9, u10, u11, u12, u13, u14, u15, u16, u17, u18, u19, u20, u21, u22, u23, u24, u25, u26, u27, u28, u29, u30, u31, u32, u33, u34, u35, u36, u37, u38, u39, u40, u41, u42, u43, u44, u45, u46, u47, u48, u49, u50, u51, u52, hrel, rfl⟩ := hinv;intro J_ hJ_ hGJ_;clear hG0_;dsimp only [LB.tget, List.getD_cons_succ, List.getD_cons_zero] at hJ_ ⊢;clear H';(try clear c1);obtain ⟨x2_1, x5_1, rfl, rfl, HA, HK1, ⟨m1, rfl⟩⟩ := hrel;cases gk with
  | zero => exact absurd HA.out (by simp [af.l0])
  | succ k1 =>
   have H := HA.out;clear HA;simp only [af.l0] at H;by_cases c2 : x5_1 = (l0.length : Int)
   ·rw [if_pos c2] at H
    have c2b0 : (x5_1 == (l0.length : Int)) = true := beq_iff_eq.mpr c2;have c2b1 : (x5_1 != (l0.length : Int)) = false := bne_eq_false_iff_eq.mpr c2;clear c2;simp only [Option.some.injEq, Prod.mk.injEq] at H;obtain ⟨rfl, rfl, rfl⟩ := H;go_wp2;(try simp only [Exit.then, Exit.inBlock, LB.Goes.here, LB.Goes.ret, Exit.noGoto_ret]);go_ret3;exact ⟨by first | rfl | (simp; done) | (simp [*]; done), by repeat (first | exact bv.refl _ | apply bv.step)⟩
   rw [if_neg c2] at H;have c2b0 : (x5_1 == (l0.length : Int)) = false := beq_eq_false_iff_ne.mpr c2;have c2b1 : (x5_1 != (l0.length : Int)) = true := bne_iff_ne.mpr c2;have HC3 := aa.mk H;clear H;go_upto_region 4 with (fail);go_cut [18] (fun v18 wc => ∃ (kq : Nat) (x18_2 : Bool), v18 = .bool x18_2 ∧ aa (af.j1 kq l0 x2_1 x5_1 x18_2 = some (r1, r2, r3)) ∧ aa (kq ≤ k1) ∧ bv w wc)
   case first =>
    have H := HC3.out;clear HC3;by_cases c4 : 0 ≤ x5_1;rotate_left
    ·rw [if_neg c4] at H
     exact absurd H (by simp)
    rw [if_pos c4] at H;have c4b0 : decide (0 ≤ x5_1) = true := decide_eq_true c4;clear c4;(first | rw [c4b0] | (simp only [i64_w, i32_w]; rw [c4b0]) | skip);by_cases c5 : x5_1 < (l0.length : Int);rotate_left
    ·rw [if_neg c5] at H
     exact absurd H (by simp)
    rw [if_pos c5] at H;have c5b0 : decide (x5_1 < (l0.length : Int)) = true := decide_eq_true c5;clear c5;by_cases c6 : (rd l0 x5_1) ≥ 128
    ·rw [if_pos c6] at H
     have c6b0 : decide (128 ≤ (rd l0 x5_1)) = true := decide_eq_true c6;clear c6;have H' := aa.mk H;clear H;have p108 : 0 ≤ (x5_1 : Int) := of_decide_eq_true (by first | (with_reducible assumption) | assumption);have q108 : x5_1 < (l0.length : Int) := of_decide_eq_true (by first | (with_reducible assumption) | assumption);obtain ⟨ad108, e108, hx108_0⟩ := Kd.fw HR0.out x5_1 p108 q108;cases e108
     replace p108 := eq_true p108;replace q108 := eq_true q108;go_wp2;go_meet
     case rel => exact ⟨_, ((x5_1 == 8)), (by first | rfl | (simp; done) | (simp [*]; done)), H', ⟨by have := HK1.out; first | omega | exact Nat.le_refl _⟩, by repeat (first | exact bv.refl _ | apply bv.step)⟩
    rw [if_neg c6] at H;have c6b0 : decide (128 ≤ (rd l0 x5_1)) = false := decide_eq_false c6;clear c6;have H' := aa.mk H;clear H;have p108 : 0 ≤ (x5_1 : Int) := of_decide_eq_true (by first | (with_reducible assumption) | assumption);have q108 : x5_1 < (l0.length : Int) := of_decide_eq_true (by first | (with_reducible assumption) | assumption);obtain ⟨ad108, e108, hx108_0⟩ := Kd.fw HR0.out x5_1 p108 q108;cases e108
    replace p108 := eq_true p108;replace q108 := eq_true q108;go_wp2;go_meet
    case rel => exact ⟨_, (false), (by first | rfl | (simp; done) | (simp [*]; done)), H', ⟨by have := HK1.out; first | omega | exact Nat.le_refl _⟩, by repeat (first | exact bv.refl _ | apply bv.step)⟩
   case rest =>
    clear HC3;(try clear c1 p1 q1 hx1 c2 c2b0 c2b1 p2 c4 c4b0 c5 c5b0 c6 c6b0 hx108_0 p108 q108);obtain ⟨kq, x18_2, rfl, HA, HJ2, ⟨mc2, rfl⟩⟩ := hcut;cases kq with
    | zero => exact absurd HA.out (by simp [af.j1])
    | succ kj2 =>
     have H := HA.out;clear HA;simp only [af.j1] at H;by_cases c7 : x18_2 = true
     ·subst c7
      have H1 : (some (0, 0, 1)) = some (r1, r2, r3) := by rw [if_pos rfl] at H; exact H
      clear H;have H := H1;clear H1;simp only [Option.some.injEq, Prod.mk.injEq] at H;obtain ⟨rfl, rfl, rfl⟩ := H;go_wp2;go_step3;(try simp only [Exit.then, Exit.inBlock]);(first | simp only [LB.Goes.here] | (rw [LB.Goes.there (by decide)]; simp only [LB.Goes.here]));refine hG1_ _ _ ?_;go_wp2;(try simp only [Exit.then, Exit.inBlock, LB.Goes.here, LB.Goes.ret, Exit.noGoto_ret]);go_ret3;exact ⟨by first | rfl | (simp; done) | (simp [*]; done), by repeat (first | exact bv.refl _ | apply bv.step)⟩
     replace c7 := Bool.eq_false_iff.mpr c7;subst c7;have H1 : (if 0 ≤ x5_1 then (if x5_1 < (l0.length : Int) then (if 0 ≤ (wrap64 (7 * x5_1)) then (if (rd l0 x5_1) ≥ 128 then (af.l0 kj2 l0 (Go.bits .or .i64 x2_1 (shl .i64 (wrap64 (Go.bits .and .u8 (rd l0 x5_1) 127)) (wrap64 (7 * x5_1)))) (wrap64 (x5_1 + 1))) else (if (rd l0 x5_1) = 0 then (if x5_1 > 0 then (af.j2 kj2 (Go.bits .or .i64 x2_1 (shl .i64 (wrap64 (Go.bits .and .u8 (rd l0 x5_1) 127)) (wrap64 (7 * x5_1)))) x5_1 true) else (af.j2 kj2 (Go.bits .or .i64 x2_1 (shl .i64 (wrap64 (Go.bits .and .u8 (rd l0 x5_1) 127)) (wrap64 (7 * x5_1)))) x5_1 (decide ((Go.bits .or .i64 x2_1 (shl .i64 (wrap64 (Go.bits .and .u8 (rd l0 x5_1) 127)) (wrap64 (7 * x5_1)))) > 4611686018427387904)))) else (af.j2 kj2 (Go.bits .or .i64 x2_1 (shl .i64 (wrap64 (Go.bits .and .u8 (rd l0 x5_1) 127)) (wrap64 (7 * x5_1)))) x5_1 (decide ((Go.bits .or .i64 x2_1 (shl .i64 (wrap64 (Go.bits .and .u8 (rd l0 x5_1) 127)) (wrap64 (7 * x5_1)))) > 4611686018427387904))))) else (none)) else (none)) else (none)) = some (r1, r2, r3) := by rw [if_neg (show ¬ (false = true) by decide)] at H; exact H
     clear H;have H := H1;clear H1;by_cases c8 : 0 ≤ x5_1;rotate_left
     ·rw [if_neg c8] at H
      exact absurd H (by simp)
     rw [if_pos c8] at H;have c8b0 : decide (0 ≤ x5_1) = true := decide_eq_true c8;clear c8;by_cases c9 : x5_1 < (l0.length : Int);rotate_left
     ·rw [if_neg c9] at H
      exact absurd H (by simp)
     rw [if_pos c9] at H;have c9b0 : decide (x5_1 < (l0.length : Int)) = true := decide_eq_true c9;clear c9;obtain ⟨ji10, hji10⟩ : ∃ j_ : Int, (wrap64 (7 * x5_1)) = j_ := ⟨_, rfl⟩
     replace H : (if 0 ≤ (ji10) then (if (rd l0 x5_1) ≥ 128 then (af.l0 kj2 l0 (Go.bits .or .i64 x2_1 (shl .i64 (wrap64 (Go.bits .and .u8 (rd l0 x5_1) 127)) (ji10))) (wrap64 (x5_1 + 1))) else (if (rd l0 x5_1) = 0 then (if x5_1 > 0 then (af.j2 kj2 (Go.bits .or .i64 x2_1 (shl .i64 (wrap64 (Go.bits .and .u8 (rd l0 x5_1) 127)) (ji10))) x5_1 true) else (af.j2 kj2 (Go.bits .or .i64 x2_1 (shl .i64 (wrap64 (Go.bits .and .u8 (rd l0 x5_1) 127)) (ji10))) x5_1 (decide ((Go.bits .or .i64 x2_1 (shl .i64 (wrap64 (Go.bits .and .u8 (rd l0 x5_1) 127)) (ji10))) > 4611686018427387904)))) else (af.j2 kj2 (Go.bits .or .i64 x2_1 (shl .i64 (wrap64 (Go.bits .and .u8 (rd l0 x5_1) 127)) (ji10))) x5_1 (decide ((Go.bits .or .i64 x2_1 (shl .i64 (wrap64 (Go.bits .and .u8 (rd l0 x5_1) 127)) (ji10))) > 4611686018427387904))))) else (none)) = some (r1, r2, r3) := by first | (rw [hji10] at H; exact H) | (simp only [hji10] at H ⊢; exact H)
     have hji10w : (IntKind.i64.wrap (7 * x5_1)) = ji10 := (i64_w _).trans hji10;by_cases c11 : 0 ≤ (ji10);rotate_left
     ·rw [if_neg c11] at H
      exact absurd H (by simp)
     rw [if_pos c11] at H;have c11b0 := eq_true c11;have c11b1 : decide (0 ≤ (ji10)) = true := decide_eq_true c11;clear c11;obtain ⟨ji12, hji12⟩ : ∃ j_ : Int, (shl .i64 (wrap64 (Go.bits .and .u8 (rd l0 x5_1) 127)) (ji10)) = j_ := ⟨_, rfl⟩
     replace H : (if (rd l0 x5_1) ≥ 128 then (af.l0 kj2 l0 (Go.bits .or .i64 x2_1 (ji12)) (wrap64 (x5_1 + 1))) else (if (rd l0 x5_1) = 0 then (if x5_1 > 0 then (af.j2 kj2 (Go.bits .or .i64 x2_1 (ji12)) x5_1 true) else (af.j2 kj2 (Go.bits .or .i64 x2_1 (ji12)) x5_1 (decide ((Go.bits .or .i64 x2_1 (ji12)) > 4611686018427387904)))) else (af.j2 kj2 (Go.bits .or .i64 x2_1 (ji12)) x5_1 (decide ((Go.bits .or .i64 x2_1 (ji12)) > 4611686018427387904))))) = some (r1, r2, r3) := by first | (rw [hji12] at H; exact H) | (simp only [hji12] at H ⊢; exact H)
     have hji12_ : (IntKind.i64.wrap ((wrap64 (Go.bits .and .u8 (rd l0 x5_1) 127)) * 2 ^ min (ji10).toNat 64)) = ji12 := hji12;have hji12z : (ji10) ≤ 64 → (IntKind.i64.wrap ((wrap64 (Go.bits .and .u8 (rd l0 x5_1) 127)) * 2 ^ (ji10).toNat)) = ji12 := shl_small hji12;have hji12y : (wrap64 ((wrap64 (Go.bits .and .u8 (rd l0 x5_1) 127)) * 2 ^ min (ji10).toNat 64)) = ji12 := (i64_w _).symm.trans hji12_;have hji12x : (ji10) ≤ 64 → (wrap64 ((wrap64 (Go.bits .and .u8 (rd l0 x5_1) 127)) * 2 ^ (ji10).toNat)) = ji12 := fun h_ => (i64_w _).symm.trans (hji12z h_)
     by_cases c13 : (rd l0 x5_1) ≥ 128
     ·rw [if_pos c13] at H
      have c13b0 : decide (128 ≤ (rd l0 x5_1)) = true := decide_eq_true c13;clear c13;have H' := aa.mk H;clear H;have p109 : 0 ≤ (x5_1 : Int) := of_decide_eq_true (by first | (with_reducible assumption) | assumption);have q109 : x5_1 < (l0.length : Int) := of_decide_eq_true (by first | (with_reducible assumption) | assumption);obtain ⟨ad109, e109, hx109_0⟩ := Kd.fw HR0.out x5_1 p109 q109;cases e109
      replace p109 := eq_true p109;replace q109 := eq_true q109;have p110 : 0 ≤ (x5_1 : Int) := of_decide_eq_true (by first | (with_reducible assumption) | assumption);have q110 : x5_1 < (l0.length : Int) := of_decide_eq_true (by first | (with_reducible assumption) | assumption);obtain ⟨ad110, e110, hx110_0⟩ := Kd.fw HR0.out x5_1 p110 q110;obtain rfl : ad109 = ad110 := (by injection e110)
      replace p110 := eq_true p110;replace q110 := eq_true q110;go_wp2;go_step3;(try simp only [Exit.then, Exit.inBlock]);(first | simp only [LB.Goes.here] | (rw [LB.Goes.there (by decide)]; simp only [LB.Goes.here]));go_step;go_roundg kj2
      case measure => have := HK1.out; have := HJ2.out; omega
      case rel => exact ⟨(Go.bits .or .i64 x2_1 (ji12)), (wrap64 (x5_1 + 1)), (by first | rfl | (simp; done) | (simp only [← hji12] <;> (first | rfl | simp)) | (simp [*]; done)), (by first | rfl | (simp; done) | (simp [*]; done)), H', ⟨by have := HK1.out; have := HJ2.out; omega⟩, by repeat (first | exact bv.refl _ | apply bv.step)⟩
     rw [if_neg c13] at H;have c13b0 : decide (128 ≤ (rd l0 x5_1)) = false := decide_eq_false c13;clear c13;have HC14 := aa.mk H;clear H;have p109 : 0 ≤ (x5_1 : Int) := of_decide_eq_true (by first | (with_reducible assumption) | assumption);have q109 : x5_1 < (l0.length : Int) := of_decide_eq_true (by first | (with_reducible assumption) | assumption);obtain ⟨ad109, e109, hx109_0⟩ := Kd.fw HR0.out x5_1 p109 q109;cases e109
     replace p109 := eq_true p109;replace q109 := eq_true q109;have p110 : 0 ≤ (x5_1 : Int) := of_decide_eq_true (by first | (with_reducible assumption) | assumption);have q110 : x5_1 < (l0.length : Int) := of_decide_eq_true (by first | (with_reducible assumption) | assumption);obtain ⟨ad110, e110, hx110_0⟩ := Kd.fw HR0.out x5_1 p110 q110;obtain rfl : ad109 = ad110 := (by injection e110)
     replace p110 := eq_true p110;replace q110 := eq_true q110;go_upto_region 8 with (fail);go_cut [49] (fun v49 wc => ∃ (kq : Nat) (x49_13 : Bool), v49 = .bool x49_13 ∧ aa (af.j2 kq (Go.bits .or .i64 x2_1 (ji12)) x5_1 x49_13 = some (r1, r2, r3)) ∧ aa (kq ≤ kj2) ∧ bv w wc)
     case first =>
      have H := HC14.out;clear HC14;by_cases c15 : (rd l0 x5_1) = 0;rotate_left
      ·rw [if_neg c15] at H
       have c15b0 : ((rd l0 x5_1) == 0) = false := beq_eq_false_iff_ne.mpr c15;have c15b1 : ((rd l0 x5_1) != 0) = true := bne_iff_ne.mpr c15;(first | rw [c15b0] | (simp only [i64_w, i32_w]; rw [c15b0]) | skip);have H' := aa.mk H;clear H;have p111 : 0 ≤ (x5_1 : Int) := of_decide_eq_true (by first | (with_reducible assumption) | assumption);have q111 : x5_1 < (l0.length : Int) := of_decide_eq_true (by first | (with_reducible assumption) | assumption);obtain ⟨ad111, e111, hx111_0⟩ := Kd.fw HR0.out x5_1 p111 q111;obtain rfl : ad109 = ad111 := (by injection e111)
       replace p111 := eq_true p111;replace q111 := eq_true q111;go_wp2;go_meet
       case rel => exact ⟨_, (decide ((Go.bits .or .i64 x2_1 (ji12)) > 4611686018427387904)), (by first | rfl | (simp; done) | (simp only [← hji12] <;> (first | rfl | simp)) | (simp [*]; done)), H', ⟨by have := HK1.out; have := HJ2.out; first | omega | exact Nat.le_refl _⟩, by repeat (first | exact bv.refl _ | apply bv.step)⟩
      rw [if_pos c15] at H;have c15b0 : ((rd l0 x5_1) == 0) = true := beq_iff_eq.mpr c15;have c15b1 : ((rd l0 x5_1) != 0) = false := bne_eq_false_iff_eq.mpr c15;clear c15;(first | rw [c15b0] | (simp only [i64_w, i32_w]; rw [c15b0]) | skip);by_cases c16 : x5_1 > 0
      ·rw [if_pos c16] at H
       have c16b0 : decide (0 < x5_1) = true := decide_eq_true c16;clear c16;have H' := aa.mk H;clear H;have p111 : 0 ≤ (x5_1 : Int) := of_decide_eq_true (by first | (with_reducible assumption) | assumption);have q111 : x5_1 < (l0.length : Int) := of_decide_eq_true (by first | (with_reducible assumption) | assumption);obtain ⟨ad111, e111, hx111_0⟩ := Kd.fw HR0.out x5_1 p111 q111;obtain rfl : ad109 = ad111 := (by injection e111)
       replace p111 := eq_true p111;replace q111 := eq_true q111;go_wp2;go_meet
       case rel => exact ⟨_, (true), (by first | rfl | (simp; done) | (simp [*]; done)), H', ⟨by have := HK1.out; have := HJ2.out; first | omega | exact Nat.le_refl _⟩, by repeat (first | exact bv.refl _ | apply bv.step)⟩
      rw [if_neg c16] at H;have c16b0 : decide (0 < x5_1) = false := decide_eq_false c16;clear c16;have H' := aa.mk H;clear H;have p111 : 0 ≤ (x5_1 : Int) := of_decide_eq_true (by first | (with_reducible assumption) | assumption);have q111 : x5_1 < (l0.length : Int) := of_decide_eq_true (by first | (with_reducible assumption) | assumption);obtain ⟨ad111, e111, hx111_0⟩ := Kd.fw HR0.out x5_1 p111 q111;obtain rfl : ad109 = ad111 := (by injection e111)
      replace p111 := eq_true p111;replace q111 := eq_true q111;go_wp2;go_meet
      case rel => exact ⟨_, (decide ((Go.bits .or .i64 x2_1 (ji12)) > 4611686018427387904)), (by first | rfl | (simp; done) | (simp only [← hji12] <;> (first | rfl | simp)) | (simp [*]; done)), H', ⟨by have := HK1.out; have := HJ2.out; first | omega | exact Nat.le_refl _⟩, by repeat (first | exact bv.refl _ | apply bv.step)⟩
     case rest =>
      clear HC14;(try clear c1 p1 q1 hx1 c2 c2b0 c2b1 p2 p3 c4 c4b0 c5 c5b0 c6 c6b0 p6 c7 c8 c8b0 c9 c9b0 c10 p10 q10 hx10 c11 c11b0 c11b1 p11 q11 hx11 c13 c13b0 c15 c15b0 c15b1 c16 c16b0 hx108_0 hx109_0 hx110_0 hx111_0 p1 p108 p109 p110 p111 p2 q1 q108 q109 q110 q111);obtain ⟨kq, x49_13, rfl, HA, HJ13, ⟨mc13, rfl⟩⟩ := hcut;cases kq with
      | zero => exact absurd HA.out (by simp [af.j2])
      | succ kj13 =>
       have H := HA.out;clear HA;simp only [af.j2] at H;by_cases c17 : x49_13 = true;rotate_left
       ·replace c17 := Bool.eq_false_iff.mpr c17
        subst c17;have H1 : (some ((Go.bits .or .i64 x2_1 (ji12)), wrap64 (x5_1 + 1), 0)) = some (r1, r2, r3) := by rw [if_neg (show ¬ (false = true) by decide)] at H; exact H
        clear H;have H := H1;clear H1;simp only [Option.some.injEq, Prod.mk.injEq] at H;obtain ⟨rfl, rfl, rfl⟩ := H;go_wp2;(try simp only [Exit.then, Exit.inBlock, LB.Goes.here, LB.Goes.ret, Exit.noGoto_ret]);go_ret3;exact ⟨by first | rfl | (simp; done) | (simp only [← hji10, ← hji12] <;> (first | rfl | simp)) | (simp [*]; done), by repeat (first | exact bv.refl _ | apply bv.step)⟩
       subst c17;have H1 : (some (0, 0, 1)) = some (r1, r2, r3) := by rw [if_pos rfl] at H; exact H
       clear H;have H := H1;clear H1;simp only [Option.some.injEq, Prod.mk.injEq] at H;obtain ⟨rfl, rfl, rfl⟩ := H;go_wp2;go_step3;(try simp only [Exit.then, Exit.inBlock]);(first | simp only [LB.Goes.here] | (rw [LB.Goes.there (by decide)]; simp only [LB.Goes.here]));refine hG1_ _ _ ?_;go_wp2;(try simp only [Exit.then, Exit.inBlock, LB.Goes.here, LB.Goes.ret, Exit.noGoto_ret]);go_ret3;exact ⟨by first | rfl | (simp; done) | (simp only [← hji10, ← hji12] <;> (first | rfl | simp)) | (simp [*]; done), by repeat (first | exact bv.refl _ | apply bv.step)⟩
end Go.Proofs.Ytddnlnjmikcgfaa.PC
end
section
namespace Go.Proofs.Ytddnlnjmikcgfaa.PC
open Go.RowKit Go.WB.PrintWords Go.WB.PrintLast Go.WB.PrintMore
attribute [local go_sem] bV bU di dh bG bH bT bW
set_option linter.unusedVariables false
set_option linter.unusedSimpArgs false
set_option maxHeartbeats 40000000
set_option maxRecDepth 100000
theorem eqA25 (d : Nat) (w : World) (x0 y0 : Int) (x1 y1 : Int) :
    (Op.equalIn (d + 2) 25 (.agg #[.int .i64 x0, .int .i64 x1]) (.agg #[.int .i64 y0, .int .i64 y1])).run Try.prog w = .ok (x0 == y0 && (x1 == y1)) w := by
  refine eqA_of Try.underlying25 (by kernel_rfl) ?_
  refine eqf_cons (by rfl) (by go_simp; rfl) (by go_simp; rfl) (by go_simp) ?_
  exact eqf_last (by rfl) (by go_simp; rfl) (by go_simp; rfl) (by go_simp)
end Go.Proofs.Ytddnlnjmikcgfaa.PC
end
section
namespace Go.Proofs.Ytddnlnjmikcgfaa.PC
open Go.RowKit Go.WB.PrintWords Go.WB.PrintLast Go.WB.PrintMore
attribute [local go_sem] bV bU di dh bG bH bT bW
set_option linter.unusedVariables false
set_option linter.unusedSimpArgs false
open Go.LB (sT sZ sS cells3 aR dH aT)
open Go.SB (rpu rpf rtk rpu0 rpf0 rtk0 rbs rud pS)
set_option maxHeartbeats 40000000
set_option maxRecDepth 100000
theorem dM.calls (a0_0 : Int) (a0_1 : Int) (r : Bool) (w : World) (h : dM.f a0_0 a0_1 = some r) :
  Calls Try.prog 83 #[.agg #[.int .i64 a0_0, .int .i64 a0_1]] w fun e w' => e = .returned (.bool r) ∧ Below w.heap.size w w' := by
 have hu25 := Try.underlying25;have HB := aa.mk (Below.refl w.heap.size w);have H : (if a0_0 ≥ 1 then (if a0_0 ≤ 1099511627776 then (if a0_1 ≥ 0 then (some (decide (a0_1 < 16))) else (some false)) else (some false)) else (some false)) = some r := h;clear h;by_cases c2 : a0_0 ≥ 1
 ·rw [if_pos c2] at H
  have c2b0 : decide (1 ≤ a0_0) = true := decide_eq_true c2;clear c2;by_cases c3 : a0_0 ≤ 1099511627776
  ·rw [if_pos c3] at H
   have c3b0 : decide (a0_0 ≤ 1099511627776) = true := decide_eq_true c3;clear c3;by_cases c4 : a0_1 ≥ 0
   ·rw [if_pos c4] at H
    have c4b0 : decide (0 ≤ a0_1) = true := decide_eq_true c4;clear c4;obtain rfl := Option.some.inj H;go_enter Try.func83, Try.ntmps83;go_wp2_with (first | ((with_reducible refine bn (N := 1) rfl ?_); refine bg ?hg (N := 1) ?hd (cs := #[.int .i64 a0_0, .int .i64 a0_1]) (t := 25) ?hr ?_; (case hd => rfl); (case hg => rfl); (case hr => first | (go_simp; done) | (go_simp; rfl)); intro gb112 hg w5 hbox hb; replace hb : Below (World.heap w).size w w5 := ⟨hb.os, hb.tape, hb.output, hb.size, hb.block⟩; have n0_ := aa.mk (ax HB.out hb); have n1_ := aa.mk (hbox); have n2_ := aa.mk ((by rw [hg]; exact HB.out.size : w.heap.size ≤ gb112)); have n3_ := n2_; clear HB; have HB := n0_; have BK112 := n1_; have GW112 := n2_; have GE112 := n3_; clear n0_ n1_ n2_ n3_ hb hbox hg; have C6_0 : w5.cell? ⟨gb112, 0, none⟩ = some (.int .i64 a0_0) := (av BK112.out 0).trans rfl; have C6_1 : w5.cell? ⟨gb112, 1, none⟩ = some (.int .i64 a0_1) := (av BK112.out 1).trans rfl; have F6_0 := aC BK112.out 0; have F6_1 := aC BK112.out 1));go_ret;exact ⟨by first | rfl | (simp [aj, ai] <;> rfl) | (simp [*, aj, ai] <;> rfl), by exact rud HB.out rfl rfl rfl rfl⟩
   ·rw [if_neg c4] at H
    have c4b0 : decide (0 ≤ a0_1) = false := decide_eq_false c4;clear c4;obtain rfl := Option.some.inj H;go_enter Try.func83, Try.ntmps83;go_wp2_with (first | ((with_reducible refine bn (N := 1) rfl ?_); refine bg ?hg (N := 1) ?hd (cs := #[.int .i64 a0_0, .int .i64 a0_1]) (t := 25) ?hr ?_; (case hd => rfl); (case hg => rfl); (case hr => first | (go_simp; done) | (go_simp; rfl)); intro gb112 hg w7 hbox hb; replace hb : Below (World.heap w).size w w7 := ⟨hb.os, hb.tape, hb.output, hb.size, hb.block⟩; have n0_ := aa.mk (ax HB.out hb); have n1_ := aa.mk (hbox); have n2_ := aa.mk ((by rw [hg]; exact HB.out.size : w.heap.size ≤ gb112)); have n3_ := n2_; clear HB; have HB := n0_; have BK112 := n1_; have GW112 := n2_; have GE112 := n3_; clear n0_ n1_ n2_ n3_ hb hbox hg; have C8_0 : w7.cell? ⟨gb112, 0, none⟩ = some (.int .i64 a0_0) := (av BK112.out 0).trans rfl; have C8_1 : w7.cell? ⟨gb112, 1, none⟩ = some (.int .i64 a0_1) := (av BK112.out 1).trans rfl; have F8_0 := aC BK112.out 0; have F8_1 := aC BK112.out 1));go_ret;exact ⟨by first | rfl | (simp [aj, ai] <;> rfl) | (simp [*, aj, ai] <;> rfl), by exact rud HB.out rfl rfl rfl rfl⟩
  ·rw [if_neg c3] at H
   have c3b0 : decide (a0_0 ≤ 1099511627776) = false := decide_eq_false c3;clear c3;obtain rfl := Option.some.inj H;go_enter Try.func83, Try.ntmps83;go_wp2_with (first | ((with_reducible refine bn (N := 1) rfl ?_); refine bg ?hg (N := 1) ?hd (cs := #[.int .i64 a0_0, .int .i64 a0_1]) (t := 25) ?hr ?_; (case hd => rfl); (case hg => rfl); (case hr => first | (go_simp; done) | (go_simp; rfl)); intro gb112 hg w9 hbox hb; replace hb : Below (World.heap w).size w w9 := ⟨hb.os, hb.tape, hb.output, hb.size, hb.block⟩; have n0_ := aa.mk (ax HB.out hb); have n1_ := aa.mk (hbox); have n2_ := aa.mk ((by rw [hg]; exact HB.out.size : w.heap.size ≤ gb112)); have n3_ := n2_; clear HB; have HB := n0_; have BK112 := n1_; have GW112 := n2_; have GE112 := n3_; clear n0_ n1_ n2_ n3_ hb hbox hg; have Ca_0 : w9.cell? ⟨gb112, 0, none⟩ = some (.int .i64 a0_0) := (av BK112.out 0).trans rfl; have Ca_1 : w9.cell? ⟨gb112, 1, none⟩ = some (.int .i64 a0_1) := (av BK112.out 1).trans rfl; have Fa_0 := aC BK112.out 0; have Fa_1 := aC BK112.out 1));go_ret;exact ⟨by first | rfl | (simp [aj, ai] <;> rfl) | (simp [*, aj, ai] <;> rfl), by exact rud HB.out rfl rfl rfl rfl⟩
 ·rw [if_neg c2] at H
  have c2b0 : decide (1 ≤ a0_0) = false := decide_eq_false c2;clear c2;obtain rfl := Option.some.inj H;go_enter Try.func83, Try.ntmps83;go_wp2_with (first | ((with_reducible refine bn (N := 1) rfl ?_); refine bg ?hg (N := 1) ?hd (cs := #[.int .i64 a0_0, .int .i64 a0_1]) (t := 25) ?hr ?_; (case hd => rfl); (case hg => rfl); (case hr => first | (go_simp; done) | (go_simp; rfl)); intro gb112 hg w11 hbox hb; replace hb : Below (World.heap w).size w w11 := ⟨hb.os, hb.tape, hb.output, hb.size, hb.block⟩; have n0_ := aa.mk (ax HB.out hb); have n1_ := aa.mk (hbox); have n2_ := aa.mk ((by rw [hg]; exact HB.out.size : w.heap.size ≤ gb112)); have n3_ := n2_; clear HB; have HB := n0_; have BK112 := n1_; have GW112 := n2_; have GE112 := n3_; clear n0_ n1_ n2_ n3_ hb hbox hg; have Cc_0 : w11.cell? ⟨gb112, 0, none⟩ = some (.int .i64 a0_0) := (av BK112.out 0).trans rfl; have Cc_1 : w11.cell? ⟨gb112, 1, none⟩ = some (.int .i64 a0_1) := (av BK112.out 1).trans rfl; have Fc_0 := aC BK112.out 0; have Fc_1 := aC BK112.out 1));go_ret;exact ⟨by first | rfl | (simp [aj, ai] <;> rfl) | (simp [*, aj, ai] <;> rfl), by exact rud HB.out rfl rfl rfl rfl⟩
end Go.Proofs.Ytddnlnjmikcgfaa.PC
end
section
namespace Go.Proofs.Ytddnlnjmikcgfaa.PC
open Go.RowKit Go.WB.PrintWords Go.WB.PrintLast Go.WB.PrintMore
attribute [local go_sem] bV bU di dh bG bH bT bW
set_option linter.unusedVariables false
set_option linter.unusedSimpArgs false
set_option maxHeartbeats 40000000
set_option maxRecDepth 100000
theorem dO.calls  (r1 : Int) (r2 : Int) (w : World) (h : dO.f  = some (r1, r2)) :
  Calls Try.prog 106 #[] w fun e w' => e = .returned (.agg #[.int .i64 r1, .int .i64 r2]) ∧ Below w.heap.size w w' := by
 have hu25 := Try.underlying25;have HB := aa.mk (Below.refl w.heap.size w);have H : (some (0, 0)) = some (r1, r2) := h;clear h;simp only [Option.some.injEq, Prod.mk.injEq] at H;obtain ⟨rfl, rfl⟩ := H;go_enter Try.func106, Try.ntmps106;go_wp2_with (first | ((with_reducible refine bn (N := 0) rfl ?_); refine bg ?hg (N := 0) ?hd (cs := #[.int .i64 0, .int .i64 0]) (t := 25) ?hr ?_; (case hd => rfl); (case hg => rfl); (case hr => first | (go_simp; done) | (go_simp; rfl)); intro gb113 hg w1 hbox hb; replace hb : Below (World.heap w).size w w1 := ⟨hb.os, hb.tape, hb.output, hb.size, hb.block⟩; have n0_ := aa.mk (ax HB.out hb); have n1_ := aa.mk (hbox); have n2_ := aa.mk ((by rw [hg]; exact HB.out.size : w.heap.size ≤ gb113)); have n3_ := aa.mk ((by rw [hg]; exact HB.out.size : w.heap.size ≤ gb113)); clear HB; have HB := n0_; have BK113 := n1_; have GW113 := n2_; have GE113 := n3_; clear n0_ n1_ n2_ n3_ hb hbox hg; have C2_0 : w1.cell? ⟨gb113, 0, none⟩ = some (.int .i64 0) := (av BK113.out 0).trans rfl; have C2_1 : w1.cell? ⟨gb113, 1, none⟩ = some (.int .i64 0) := (av BK113.out 1).trans rfl; have F2_0 := aC BK113.out 0; have F2_1 := aC BK113.out 1));refine bodyPost_ret (results_cell_row rfl _ _ gb113 25 #[.int .i64 0, .int .i64 0] (0, 0) _ rfl (by (with_reducible repeat (first | refine az ?_ _ | refine aA ?_ | refine ay ?_ _)); exact LB.put2 BK113.out) Try.underlying25 rfl (by kernel_rfl)) rfl ?_;exact ⟨by first | rfl | (simp [aj, ai] <;> rfl) | (simp [*, aj, ai] <;> rfl), by repeat (first | (with_reducible first | exact HB.out | apply aY | apply aQ | apply aK | refine bf ?_ GE113.out) | exact HB.out)⟩
theorem fQ.calls  (r1 : Int) (r2 : Int) (w : World) (h : fQ.f  = some (r1, r2)) :
  Calls Try.prog 108 #[] w fun e w' => e = .returned (.agg #[.int .i64 r1, .int .i64 r2]) ∧ Below w.heap.size w w' := by
 have hu25 := Try.underlying25;have HB := aa.mk (Below.refl w.heap.size w);have H : (some (0, 1)) = some (r1, r2) := h;clear h;simp only [Option.some.injEq, Prod.mk.injEq] at H;obtain ⟨rfl, rfl⟩ := H;go_enter Try.func108, Try.ntmps108;go_wp2_with (first | ((with_reducible refine bn (N := 0) rfl ?_); refine bg ?hg (N := 0) ?hd (cs := #[.int .i64 0, .int .i64 0]) (t := 25) ?hr ?_; (case hd => rfl); (case hg => rfl); (case hr => first | (go_simp; done) | (go_simp; rfl)); intro gb114 hg w1 hbox hb; replace hb : Below (World.heap w).size w w1 := ⟨hb.os, hb.tape, hb.output, hb.size, hb.block⟩; have n0_ := aa.mk (ax HB.out hb); have n1_ := aa.mk (hbox); have n2_ := aa.mk ((by rw [hg]; exact HB.out.size : w.heap.size ≤ gb114)); have n3_ := aa.mk ((by rw [hg]; exact HB.out.size : w.heap.size ≤ gb114)); clear HB; have HB := n0_; have BK114 := n1_; have GW114 := n2_; have GE114 := n3_; clear n0_ n1_ n2_ n3_ hb hbox hg; have C2_0 : w1.cell? ⟨gb114, 0, none⟩ = some (.int .i64 0) := (av BK114.out 0).trans rfl; have C2_1 : w1.cell? ⟨gb114, 1, none⟩ = some (.int .i64 0) := (av BK114.out 1).trans rfl; have F2_0 := aC BK114.out 0; have F2_1 := aC BK114.out 1));refine bodyPost_ret (results_cell_row rfl _ _ gb114 25 #[.int .i64 0, .int .i64 1] (0, 0) _ rfl (by (with_reducible repeat (first | refine az ?_ _ | refine aA ?_ | refine ay ?_ _)); exact LB.put2 BK114.out) Try.underlying25 rfl (by kernel_rfl)) rfl ?_;exact ⟨by first | rfl | (simp [aj, ai] <;> rfl) | (simp [*, aj, ai] <;> rfl), by repeat (first | (with_reducible first | exact HB.out | apply aY | apply aQ | apply aK | refine bf ?_ GE114.out) | exact HB.out)⟩
end Go.Proofs.Ytddnlnjmikcgfaa.PC
end
section
namespace Go.Proofs.Ytddnlnjmikcgfaa.PC
open Go.RowKit Go.WB.PrintWords Go.WB.PrintLast Go.WB.PrintMore
attribute [local go_sem] bV bU di dh bG bH bT bW
set_option linter.unusedVariables false
set_option linter.unusedSimpArgs false
attribute [local go_sem high] eqA25
open Go.LB (sT sZ sS cells3 aR dH aT)
open Go.SB (rpu rpf rtk rpu0 rpf0 rtk0 rbs rud pS)
set_option maxHeartbeats 40000000
set_option maxRecDepth 100000
def bP.T1 : Bool × List (List Nat × List Nat) := (true, [([], []), ([0], [0]), ([1, 1], [1]), ([2], [2]), ([2, 2], [2]), ([3, 4, 2], [2, 3, 4]), ([2, 5], [2, 5]), ([6, 4], [6]), ([7], [7]), ([7, 7], [7]), ([8, 9, 7], [7, 8, 9]), ([7, 10], [7, 10]), ([11, 9, 0, 1, 2, 3, 4, 5, 6, 7, 8, 9, 10, 11], [11])])
def bP.B1 : List Nat := [0, 1, 3, 7, 7, 31, 63, 127, 255, 255, 1023, 2047, 4095]
theorem bP.tab1 : rtab .any (opsOf Try.f103 1) = bP.T1 := by kernel_rfl
theorem bP.bits1 : fe bP.T1.2 bP.B1 = true := by kernel_rfl
theorem bP.calls (a0_0 : Int) (a0_1 : Int) (r : Bool) (w : World) (h : bP.f a0_0 a0_1 = some r) :
  Calls Try.prog 103 #[.agg #[.int .i64 a0_0, .int .i64 a0_1]] w fun e w' => e = .returned (.bool r) ∧ Below w.heap.size w w' := by
 have hu25 := Try.underlying25;have HB := aa.mk (Below.refl w.heap.size w);have H : ((dM.f a0_0 a0_1).bind fun t116 => (if t116 = true then (some true) else ((dO.f).bind fun bt117 => (if (a0_0 == bt117.1 && (a0_1 == bt117.2)) = true then (some true) else ((fQ.f).bind fun bt119 => (some (a0_0 == bt119.1 && (a0_1 == bt119.2)))))))) = some r := h;clear h;replace H := Option.bind_eq_some_iff.mp H;obtain ⟨t116, A20, H⟩ := H;(try dsimp only at H);have A2 := aa.mk A20;clear A20;by_cases c3 : t116 = true
 ·subst c3
  have H1 : (some true) = some r := by rw [if_pos rfl] at H; exact H
  clear H;have H := H1;clear H1;obtain rfl := Option.some.inj H;go_enter Try.func103, Try.ntmps103;try go_wp2_with (first | ((with_reducible refine bn (N := 1) rfl ?_); refine bg ?hg (N := 1) ?hd (cs := #[.int .i64 a0_0, .int .i64 a0_1]) (t := 25) ?hr ?_; (case hd => rfl); (case hg => rfl); (case hr => first | (go_simp; done) | (go_simp; rfl)); intro gb115 hg w4 hbox hb; replace hb : Below (World.heap w).size w w4 := ⟨hb.os, hb.tape, hb.output, hb.size, hb.block⟩; have n0_ := aa.mk (ax HB.out hb); have n1_ := aa.mk (hbox); have n2_ := aa.mk ((by rw [hg]; exact HB.out.size : w.heap.size ≤ gb115)); have n3_ := n2_; clear HB; have HB := n0_; have BK115 := n1_; have GW115 := n2_; have GE115 := n3_; clear n0_ n1_ n2_ n3_ hb hbox hg))
  have n0_ := aa.mk (aA BK115.out);have n1_ := aa.mk (aK HB.out);clear BK115 HB;have BK115 := n0_;have HB := n1_;clear n0_ n1_;refine fu (n := 13) (S := fun w' => w'.cell? ⟨gb115, 0, none⟩ = some (.int .i64 a0_0) ∧ w'.cell? ⟨gb115, 1, none⟩ = some (.int .i64 a0_1)) (ds := []) (rbs 13 0) (by kernel_rfl) rfl rfl ⟨(av BK115.out 0).trans rfl, (av BK115.out 1).trans rfl⟩ (fun hHeld => ?_); refine dw bP.tab1 bP.bits1 (fun HT_ HW_ => ?_);generalize w4.drew = w5 at BK115 HB hHeld ⊢;apply rtk 0 (some 3) HT_ HW_ hHeld (rbs 13 1) rfl rfl (by kernel_rfl) (fun _ _ _ h => h) (by rfl)
  ·rintro w' ⟨s0, s1⟩;go_simp;with_reducible rfl
  ·simp only [pS];rfl
  refine one_ (i := 1) (N := some 4) (rbs 13 3) rfl rfl (dD HT_.out (by kernel_rfl)) (by decide) (fun K hK => ?_);refine eG Try.func83 (by kernel_rfl) rfl #[.agg #[.int .i64 a0_0, .int .i64 a0_1]] (by rfl) rfl rfl (by (try simp only [SB.lA, SB.lC, SB.lN]); first | done | rfl | (simp only [SB.lD, SB.lT]; rfl)) ?_;with_reducible refine (dM.calls a0_0 a0_1 true _ A2.out).mono ?_
  rintro e w6 ⟨rfl, hb⟩;refine ⟨_, rfl, ?_⟩;replace hb : Below (World.heap w5).size w5 w6 := ⟨hb.os, hb.tape, hb.output, hb.size, hb.block⟩
  have n0_ := aa.mk (bq BK115.out hb);have n1_ := aa.mk (ax HB.out hb);clear BK115 HB;have BK115 := n0_;have HB := n1_;clear n0_ n1_;(try clear hb hb2 hk hi);refine hK.out _ _ ⟨(av BK115.out 0).trans rfl, (av BK115.out 1).trans rfl⟩ (fun hHeld => ?_);clear hK K;refine dV (a' := ?_) ?_ ?_;rotate_left
  ·show Act.put _ (some 4) _ = _
   simp only [pS];rfl
  apply rpu 2 (some 5) HT_ (rbs 13 7) rfl rfl (by kernel_rfl) (fun _ _ _ h => h) (by rfl)
  ·intro w';go_simp;with_reducible rfl
  ·simp only [pS];rfl
  apply rpf 3 (some 6) HT_ (rbs 13 15) rfl rfl (by kernel_rfl) (fun _ _ _ h => h) (by rfl)
  ·simp only [pS];rfl
  apply rpf 4 (some 7) HT_ (rbs 13 31) rfl rfl (by kernel_rfl) (fun _ _ _ h => h) (by rfl)
  ·simp only [pS];rfl
  apply rpf 5 (some 8) HT_ (rbs 13 63) rfl rfl (by kernel_rfl) (fun _ _ _ h => h) (by rfl)
  ·simp only [pS];rfl
  apply rpu 6 (some 9) HT_ (rbs 13 127) rfl rfl (by kernel_rfl) (fun _ _ _ h => h) (by rfl)
  ·intro w';go_simp;with_reducible rfl
  ·simp only [pS];rfl
  apply rpu 7 (some 10) HT_ (rbs 13 255) rfl rfl (by kernel_rfl) (fun _ _ _ h => h) (by rfl)
  ·intro w';go_simp;with_reducible rfl
  ·simp only [pS];rfl
  apply rpf 8 (some 11) HT_ (rbs 13 511) rfl rfl (by kernel_rfl) (fun _ _ _ h => h) (by rfl)
  ·simp only [pS];rfl
  apply rpf 9 (some 12) HT_ (rbs 13 1023) rfl rfl (by kernel_rfl) (fun _ _ _ h => h) (by rfl)
  ·simp only [pS];rfl
  apply rpf 10 (some 13) HT_ (rbs 13 2047) rfl rfl (by kernel_rfl) (fun _ _ _ h => h) (by rfl)
  ·simp only [pS];rfl
  apply rpu 11 (some 14) HT_ (rbs 13 4095) rfl rfl (by kernel_rfl) (fun _ _ _ h => h) (by rfl)
  ·intro w';go_simp;with_reducible rfl
  ·simp only [pS];rfl
  apply rpu 12 (some 2) HT_ (rbs 13 8191) rfl rfl (by kernel_rfl) (fun _ _ _ h => h) (by rfl)
  ·intro w';go_simp;with_reducible rfl
  ·simp only [pS];rfl
  refine done_ (dR HT_.out (by kernel_rfl)) ?_;try go_wp2
  go_ret;exact ⟨by first | rfl | (simp [aj, ai] <;> rfl) | (simp [*, aj, ai] <;> rfl), by exact rud HB.out rfl rfl rfl rfl⟩
 replace c3 := Bool.eq_false_iff.mpr c3;subst c3;have H1 : ((dO.f).bind fun bt117 => (if (a0_0 == bt117.1 && (a0_1 == bt117.2)) = true then (some true) else ((fQ.f).bind fun bt119 => (some (a0_0 == bt119.1 && (a0_1 == bt119.2)))))) = some r := by rw [if_neg (show ¬ (false = true) by decide)] at H; exact H
 clear H;have H := H1;clear H1;replace H := Option.bind_eq_some_iff.mp H;obtain ⟨⟨t117, t118⟩, A70, H⟩ := H;replace H : (if (a0_0 == t117 && (a0_1 == t118)) = true then (some true) else ((fQ.f).bind fun bt119 => (some (a0_0 == bt119.1 && (a0_1 == bt119.2))))) = some r := H;have A7 := aa.mk A70;clear A70;by_cases c8 : (a0_0 == t117 && (a0_1 == t118)) = true
 ·rw [if_pos c8] at H
  have c8b0 : (a0_0 == t117 && (a0_1 == t118)) = true := c8;(try (have c8b1 : decide (a0_0 = t117 && (a0_1 == t118)) = true := by simpa using c8));(try (have c8b2 : (a0_0 == t117 && (a0_1 == t118)) = true := by simpa using c8));clear c8;obtain rfl := Option.some.inj H;go_enter Try.func103, Try.ntmps103;try go_wp2_with (first | ((with_reducible refine bn (N := 1) rfl ?_); refine bg ?hg (N := 1) ?hd (cs := #[.int .i64 a0_0, .int .i64 a0_1]) (t := 25) ?hr ?_; (case hd => rfl); (case hg => rfl); (case hr => first | (go_simp; done) | (go_simp; rfl)); intro gb115 hg w9 hbox hb; replace hb : Below (World.heap w).size w w9 := ⟨hb.os, hb.tape, hb.output, hb.size, hb.block⟩; have n0_ := aa.mk (ax HB.out hb); have n1_ := aa.mk (hbox); have n2_ := aa.mk ((by rw [hg]; exact HB.out.size : w.heap.size ≤ gb115)); have n3_ := n2_; clear HB; have HB := n0_; have BK115 := n1_; have GW115 := n2_; have GE115 := n3_; clear n0_ n1_ n2_ n3_ hb hbox hg))
  have n0_ := aa.mk (aA BK115.out);have n1_ := aa.mk (aK HB.out);clear BK115 HB;have BK115 := n0_;have HB := n1_;clear n0_ n1_;refine fu (n := 13) (S := fun w' => w'.cell? ⟨gb115, 0, none⟩ = some (.int .i64 a0_0) ∧ w'.cell? ⟨gb115, 1, none⟩ = some (.int .i64 a0_1)) (ds := []) (rbs 13 0) (by kernel_rfl) rfl rfl ⟨(av BK115.out 0).trans rfl, (av BK115.out 1).trans rfl⟩ (fun hHeld => ?_); refine dw bP.tab1 bP.bits1 (fun HT_ HW_ => ?_);generalize w9.drew = w10 at BK115 HB hHeld ⊢;apply rtk 0 (some 3) HT_ HW_ hHeld (rbs 13 1) rfl rfl (by kernel_rfl) (fun _ _ _ h => h) (by rfl)
  ·rintro w' ⟨s0, s1⟩;go_simp;with_reducible rfl
  ·simp only [pS];rfl
  refine one_ (i := 1) (N := some 4) (rbs 13 3) rfl rfl (dD HT_.out (by kernel_rfl)) (by decide) (fun K hK => ?_);refine eG Try.func83 (by kernel_rfl) rfl #[.agg #[.int .i64 a0_0, .int .i64 a0_1]] (by rfl) rfl rfl (by (try simp only [SB.lA, SB.lC, SB.lN]); first | done | rfl | (simp only [SB.lD, SB.lT]; rfl)) ?_;with_reducible refine (dM.calls a0_0 a0_1 false _ A2.out).mono ?_
  rintro e w11 ⟨rfl, hb⟩;refine ⟨_, rfl, ?_⟩;replace hb : Below (World.heap w10).size w10 w11 := ⟨hb.os, hb.tape, hb.output, hb.size, hb.block⟩
  have n0_ := aa.mk (bq BK115.out hb);have n1_ := aa.mk (ax HB.out hb);clear BK115 HB;have BK115 := n0_;have HB := n1_;clear n0_ n1_;(try clear hb hb2 hk hi);refine hK.out _ _ ⟨(av BK115.out 0).trans rfl, (av BK115.out 1).trans rfl⟩ (fun hHeld => ?_);clear hK K;refine dV (a' := ?_) ?_ ?_;rotate_left
  ·show Act.put _ (some 4) _ = _
   simp only [pS];rfl
  apply rpu 2 (some 5) HT_ (rbs 13 7) rfl rfl (by kernel_rfl) (fun _ _ _ h => h) (by rfl)
  ·intro w';go_simp;with_reducible rfl
  ·simp only [pS];rfl
  apply rtk 3 (some 6) HT_ HW_ hHeld (rbs 13 15) rfl rfl (by kernel_rfl) (fun _ _ _ h => h) (by rfl)
  ·rintro w' ⟨s0, s1⟩;go_simp;with_reducible rfl
  ·simp only [pS];rfl
  refine one_ (i := 4) (N := some 7) (rbs 13 31) rfl rfl (dD HT_.out (by kernel_rfl)) (by decide) (fun K hK => ?_);refine eG Try.func106 (by kernel_rfl) rfl #[] (by rfl) rfl rfl (by (try simp only [SB.lA, SB.lC, SB.lN]); first | done | rfl | (simp only [SB.lD, SB.lT]; rfl)) ?_;with_reducible refine (dO.calls  t117 t118 _ A7.out).mono ?_
  rintro e w12 ⟨rfl, hb⟩;refine ⟨_, rfl, ?_⟩;replace hb : Below (World.heap w11).size w11 w12 := ⟨hb.os, hb.tape, hb.output, hb.size, hb.block⟩
  have n0_ := aa.mk (bq BK115.out hb);have n1_ := aa.mk (ax HB.out hb);clear BK115 HB;have BK115 := n0_;have HB := n1_;clear n0_ n1_;(try clear hb hb2 hk hi);refine hK.out _ _ ⟨(av BK115.out 0).trans rfl, (av BK115.out 1).trans rfl⟩ (fun hHeld => ?_);clear hK K;refine dV (a' := ?_) ?_ ?_;rotate_left
  ·show Act.put _ (some 7) _ = _
   simp only [pS];rfl
  apply rpu 5 (some 8) HT_ (rbs 13 63) rfl rfl (by kernel_rfl) (fun _ _ _ h => h) (by rfl)
  ·intro w';go_simp;with_reducible rfl
  ·simp only [pS];rfl
  apply rpu 6 (some 9) HT_ (rbs 13 127) rfl rfl (by kernel_rfl) (fun _ _ _ h => h) (by rfl)
  ·intro w';go_simp;with_reducible rfl
  ·simp only [pS];rfl
  apply rpu 7 (some 10) HT_ (rbs 13 255) rfl rfl (by kernel_rfl) (fun _ _ _ h => h) (by rfl)
  ·intro w';go_simp;with_reducible rfl
  ·simp only [pS];rfl
  apply rpf 8 (some 11) HT_ (rbs 13 511) rfl rfl (by kernel_rfl) (fun _ _ _ h => h) (by rfl)
  ·simp only [pS];rfl
  apply rpf 9 (some 12) HT_ (rbs 13 1023) rfl rfl (by kernel_rfl) (fun _ _ _ h => h) (by rfl)
  ·simp only [pS];rfl
  apply rpf 10 (some 13) HT_ (rbs 13 2047) rfl rfl (by kernel_rfl) (fun _ _ _ h => h) (by rfl)
  ·simp only [pS];rfl
  apply rpu 11 (some 14) HT_ (rbs 13 4095) rfl rfl (by kernel_rfl) (fun _ _ _ h => h) (by rfl)
  ·intro w';go_simp;with_reducible rfl
  ·simp only [pS];rfl
  apply rpu 12 (some 2) HT_ (rbs 13 8191) rfl rfl (by kernel_rfl) (fun _ _ _ h => h) (by rfl)
  ·intro w';go_simp;with_reducible rfl
  ·simp only [pS];rfl
  refine done_ (dR HT_.out (by kernel_rfl)) ?_;try go_wp2
  go_ret;exact ⟨by first | rfl | (simp [aj, ai] <;> rfl) | (simp [*, aj, ai] <;> rfl), by exact rud HB.out rfl rfl rfl rfl⟩
 rw [if_neg c8] at H;have c8b0 : (a0_0 == t117 && (a0_1 == t118)) = false := by simpa using c8
 (try (have c8b1 : decide (a0_0 = t117 && (a0_1 == t118)) = false := by simpa using c8));(try (have c8b2 : (a0_0 == t117 && (a0_1 == t118)) = false := by simpa using c8));(try (have c8b3 : ¬ (a0_0 = t117 && (a0_1 == t118)) := by simpa using c8));clear c8;replace H := Option.bind_eq_some_iff.mp H;obtain ⟨⟨t119, t120⟩, A130, H⟩ := H;replace H : (some (a0_0 == t119 && (a0_1 == t120))) = some r := H;have A13 := aa.mk A130;clear A130;obtain rfl := Option.some.inj H;go_enter Try.func103, Try.ntmps103;try go_wp2_with (first | ((with_reducible refine bn (N := 1) rfl ?_); refine bg ?hg (N := 1) ?hd (cs := #[.int .i64 a0_0, .int .i64 a0_1]) (t := 25) ?hr ?_; (case hd => rfl); (case hg => rfl); (case hr => first | (go_simp; done) | (go_simp; rfl)); intro gb115 hg w14 hbox hb; replace hb : Below (World.heap w).size w w14 := ⟨hb.os, hb.tape, hb.output, hb.size, hb.block⟩; have n0_ := aa.mk (ax HB.out hb); have n1_ := aa.mk (hbox); have n2_ := aa.mk ((by rw [hg]; exact HB.out.size : w.heap.size ≤ gb115)); have n3_ := n2_; clear HB; have HB := n0_; have BK115 := n1_; have GW115 := n2_; have GE115 := n3_; clear n0_ n1_ n2_ n3_ hb hbox hg))
 have n0_ := aa.mk (aA BK115.out);have n1_ := aa.mk (aK HB.out);clear BK115 HB;have BK115 := n0_;have HB := n1_;clear n0_ n1_;refine fu (n := 13) (S := fun w' => w'.cell? ⟨gb115, 0, none⟩ = some (.int .i64 a0_0) ∧ w'.cell? ⟨gb115, 1, none⟩ = some (.int .i64 a0_1)) (ds := []) (rbs 13 0) (by kernel_rfl) rfl rfl ⟨(av BK115.out 0).trans rfl, (av BK115.out 1).trans rfl⟩ (fun hHeld => ?_); refine dw bP.tab1 bP.bits1 (fun HT_ HW_ => ?_);generalize w14.drew = w15 at BK115 HB hHeld ⊢;apply rtk 0 (some 3) HT_ HW_ hHeld (rbs 13 1) rfl rfl (by kernel_rfl) (fun _ _ _ h => h) (by rfl)
 ·rintro w' ⟨s0, s1⟩;go_simp;with_reducible rfl
 ·simp only [pS];rfl
 refine one_ (i := 1) (N := some 4) (rbs 13 3) rfl rfl (dD HT_.out (by kernel_rfl)) (by decide) (fun K hK => ?_);refine eG Try.func83 (by kernel_rfl) rfl #[.agg #[.int .i64 a0_0, .int .i64 a0_1]] (by rfl) rfl rfl (by (try simp only [SB.lA, SB.lC, SB.lN]); first | done | rfl | (simp only [SB.lD, SB.lT]; rfl)) ?_;with_reducible refine (dM.calls a0_0 a0_1 false _ A2.out).mono ?_
 rintro e w16 ⟨rfl, hb⟩;refine ⟨_, rfl, ?_⟩;replace hb : Below (World.heap w15).size w15 w16 := ⟨hb.os, hb.tape, hb.output, hb.size, hb.block⟩
 have n0_ := aa.mk (bq BK115.out hb);have n1_ := aa.mk (ax HB.out hb);clear BK115 HB;have BK115 := n0_;have HB := n1_;clear n0_ n1_;(try clear hb hb2 hk hi);refine hK.out _ _ ⟨(av BK115.out 0).trans rfl, (av BK115.out 1).trans rfl⟩ (fun hHeld => ?_);clear hK K;refine dV (a' := ?_) ?_ ?_;rotate_left
 ·show Act.put _ (some 4) _ = _
  simp only [pS];rfl
 apply rpu 2 (some 5) HT_ (rbs 13 7) rfl rfl (by kernel_rfl) (fun _ _ _ h => h) (by rfl)
 ·intro w';go_simp;with_reducible rfl
 ·simp only [pS];rfl
 apply rtk 3 (some 6) HT_ HW_ hHeld (rbs 13 15) rfl rfl (by kernel_rfl) (fun _ _ _ h => h) (by rfl)
 ·rintro w' ⟨s0, s1⟩;go_simp;with_reducible rfl
 ·simp only [pS];rfl
 refine one_ (i := 4) (N := some 7) (rbs 13 31) rfl rfl (dD HT_.out (by kernel_rfl)) (by decide) (fun K hK => ?_);refine eG Try.func106 (by kernel_rfl) rfl #[] (by rfl) rfl rfl (by (try simp only [SB.lA, SB.lC, SB.lN]); first | done | rfl | (simp only [SB.lD, SB.lT]; rfl)) ?_;with_reducible refine (dO.calls  t117 t118 _ A7.out).mono ?_
 rintro e w17 ⟨rfl, hb⟩;refine ⟨_, rfl, ?_⟩;replace hb : Below (World.heap w16).size w16 w17 := ⟨hb.os, hb.tape, hb.output, hb.size, hb.block⟩
 have n0_ := aa.mk (bq BK115.out hb);have n1_ := aa.mk (ax HB.out hb);clear BK115 HB;have BK115 := n0_;have HB := n1_;clear n0_ n1_;(try clear hb hb2 hk hi);refine hK.out _ _ ⟨(av BK115.out 0).trans rfl, (av BK115.out 1).trans rfl⟩ (fun hHeld => ?_);clear hK K;refine dV (a' := ?_) ?_ ?_;rotate_left
 ·show Act.put _ (some 7) _ = _
  simp only [pS];rfl
 apply rpu 5 (some 8) HT_ (rbs 13 63) rfl rfl (by kernel_rfl) (fun _ _ _ h => h) (by rfl)
 ·intro w';go_simp;with_reducible rfl
 ·simp only [pS];rfl
 apply rpu 6 (some 9) HT_ (rbs 13 127) rfl rfl (by kernel_rfl) (fun _ _ _ h => h) (by rfl)
 ·intro w';go_simp;with_reducible rfl
 ·simp only [pS];rfl
 apply rpu 7 (some 10) HT_ (rbs 13 255) rfl rfl (by kernel_rfl) (fun _ _ _ h => h) (by rfl)
 ·intro w';go_simp;with_reducible rfl
 ·simp only [pS];rfl
 apply rtk 8 (some 11) HT_ HW_ hHeld (rbs 13 511) rfl rfl (by kernel_rfl) (fun _ _ _ h => h) (by rfl)
 ·rintro w' ⟨s0, s1⟩;go_simp;with_reducible rfl
 ·simp only [pS];rfl
 refine one_ (i := 9) (N := some 12) (rbs 13 1023) rfl rfl (dD HT_.out (by kernel_rfl)) (by decide) (fun K hK => ?_);refine eG Try.func108 (by kernel_rfl) rfl #[] (by rfl) rfl rfl (by (try simp only [SB.lA, SB.lC, SB.lN]); first | done | rfl | (simp only [SB.lD, SB.lT]; rfl)) ?_;with_reducible refine (fQ.calls  t119 t120 _ A13.out).mono ?_
 rintro e w18 ⟨rfl, hb⟩;refine ⟨_, rfl, ?_⟩;replace hb : Below (World.heap w17).size w17 w18 := ⟨hb.os, hb.tape, hb.output, hb.size, hb.block⟩
 have n0_ := aa.mk (bq BK115.out hb);have n1_ := aa.mk (ax HB.out hb);clear BK115 HB;have BK115 := n0_;have HB := n1_;clear n0_ n1_;(try clear hb hb2 hk hi);refine hK.out _ _ ⟨(av BK115.out 0).trans rfl, (av BK115.out 1).trans rfl⟩ (fun hHeld => ?_);clear hK K;refine dV (a' := ?_) ?_ ?_;rotate_left
 ·show Act.put _ (some 12) _ = _
  simp only [pS];rfl
 apply rpu 10 (some 13) HT_ (rbs 13 2047) rfl rfl (by kernel_rfl) (fun _ _ _ h => h) (by rfl)
 ·intro w';go_simp;with_reducible rfl
 ·simp only [pS];rfl
 apply rpu 11 (some 14) HT_ (rbs 13 4095) rfl rfl (by kernel_rfl) (fun _ _ _ h => h) (by rfl)
 ·intro w';go_simp;with_reducible rfl
 ·simp only [pS];rfl
 apply rpu 12 (some 2) HT_ (rbs 13 8191) rfl rfl (by kernel_rfl) (fun _ _ _ h => h) (by rfl)
 ·intro w';go_simp;with_reducible rfl
 ·simp only [pS];rfl
 refine done_ (dR HT_.out (by kernel_rfl)) ?_;try go_wp2
 go_ret;exact ⟨by first | rfl | (simp [aj, ai] <;> rfl) | (simp [*, aj, ai] <;> rfl), by exact rud HB.out rfl rfl rfl rfl⟩
end Go.Proofs.Ytddnlnjmikcgfaa.PC
end
section
namespace Go.Proofs.Ytddnlnjmikcgfaa.PC
open Go.RowKit Go.WB.PrintWords Go.WB.PrintLast Go.WB.PrintMore
attribute [local go_sem] bV bU di dh bG bH bT bW
set_option linter.unusedVariables false
set_option linter.unusedSimpArgs false
open Go.LB (sT sZ sS cells3 aR dH aT)
open Go.SB (rpu rpf rtk rpu0 rpf0 rtk0 rbs rud pS)
set_option maxHeartbeats 40000000
set_option maxRecDepth 100000
theorem cK.calls (k : Nat) (A0 : Option Addr) (c0 : Nat) (l0 : List Int) (r1 : Int) (r2 : Int) (r3 : Int) (r4 : Int) (w : World) (hr0 : Kd.C (Kd.int .u8) w A0 l0.length l0) (hc0 : l0.length ≤ c0) (h : cK.f k l0 = some (r1, r2, r3, r4)) :
  Calls Try.prog 100 #[.slice A0 l0.length c0] w fun e w' => e = .returned (.tuple #[.agg #[.int .i64 r1, .int .i64 r2], .int .i64 r3, .int .i64 r4]) ∧ Below w.heap.size w w' := by
 have hu25 := Try.underlying25;have HR0 := aa.mk hr0;have HC0 := aa.mk hc0;clear hr0 hc0;have HB := aa.mk (Below.refl w.heap.size w);have H : ((af.f k l0).bind fun bt122 => (if bt122.2.2 = 0 then (if 0 ≤ bt122.2.1 then (if bt122.2.1 ≤ (l0.length : Int) then ((af.f k (l0.drop (bt122.2.1 : Int).toNat)).bind fun bt126 => (if bt126.2.2 = 0 then ((bP.f bt122.1 bt126.1).bind fun t129 => (if t129 = true then (some (bt122.1, bt126.1, wrap64 (bt122.2.1 + bt126.2.1), 0)) else (some (0, 0, 0, 1)))) else (some (0, 0, 0, bt126.2.2)))) else (none)) else (none)) else (some (0, 0, 0, bt122.2.2)))) = some (r1, r2, r3, r4) := h;clear h;replace H := Option.bind_eq_some_iff.mp H;obtain ⟨⟨t122, t123, t124⟩, A20, H⟩ := H;(try dsimp only at H);have A2 := aa.mk A20;clear A20;by_cases c3 : t124 = 0;rotate_left
 ·rw [if_neg c3] at H
  have c3b0 : (t124 == 0) = false := beq_eq_false_iff_ne.mpr c3;have c3b1 : (t124 != 0) = true := bne_iff_ne.mpr c3;simp only [Option.some.injEq, Prod.mk.injEq] at H;obtain ⟨rfl, rfl, rfl, rfl⟩ := H;go_enter Try.func100, Try.ntmps100;go_wp2_with (first | ((with_reducible refine bn (N := 2) rfl ?_); refine bg ?hg (N := 2) ?hd (cs := #[.int .i64 0, .int .i64 0]) (t := 25) ?hr ?_; (case hd => rfl); (case hg => rfl); (case hr => first | (go_simp; done) | (go_simp; rfl)); intro gb121 hg w23 hbox hb; replace hb : Below (World.heap w).size w w23 := ⟨hb.os, hb.tape, hb.output, hb.size, hb.block⟩; have n0_ := aa.mk (ax HB.out hb); have n1_ := aa.mk (hbox); have n2_ := aa.mk ((by rw [hg]; exact HB.out.size : w.heap.size ≤ gb121)); have n3_ := n2_; clear HB; have HB := n0_; have BK121 := n1_; have GW121 := n2_; have GE121 := n3_; clear n0_ n1_ n2_ n3_ hb hbox hg) | ((with_reducible refine aI (f := 102) rfl ?_); refine bL (some 10) rfl rfl Try.func102 (by kernel_rfl) rfl #[.slice A0 l0.length c0] rfl (by (try simp only [SB.lA, SB.lC, SB.lN]); first | done | rfl | (simp only [SB.lD, SB.lT]; rfl)) ?_; (with_reducible refine (af.calls k _ _ l0 t122 t123 t124 _ ?side1 ?side2 A2.out).mono ?_); (case side1 => repeat (first | exact (Kd.df HR0.out HB.out) | with_reducible first | refine Kd.bS ?_ _ | refine Kd.bQ ?_ _ | refine Kd.dm ?_)); (case side2 => exact HC0.out); rintro e w' ⟨rfl, ⟨nd, rfl⟩⟩; refine ⟨_, rfl, ?_⟩; (try (rw [gL w23]; generalize hq_ : World.drewN w23 _ = w23; have n0_ : aa (w23.heap[gb121]? = some (.cells #[.int .i64 0, .int .i64 0] 25 (0, 0))) := ⟨by rw [← hq_]; exact (by exact BK121.out)⟩; have n1_ : aa (Below w.heap.size w w23) := ⟨by rw [← hq_]; exact (by exact rud HB.out rfl rfl rfl rfl)⟩; clear BK121 HB hq_; have BK121 := n0_; have HB := n1_; clear n0_ n1_)); have Co_0 : w23.cell? ⟨gb121, 0, none⟩ = some (.int .i64 0) := (av BK121.out 0).trans rfl; have Co_1 : w23.cell? ⟨gb121, 1, none⟩ = some (.int .i64 0) := (av BK121.out 1).trans rfl; have Fo_0 := aC BK121.out 0; have Fo_1 := aC BK121.out 1));refine bodyPost_ret (fP rfl _ _ gb121 25 #[.int .i64 0, .int .i64 0] (0, 0) _ rfl (by (with_reducible repeat (first | refine az ?_ _ | refine aA ?_ | refine ay ?_ _)); exact LB.put2 BK121.out) Try.underlying25 rfl (by kernel_rfl)) rfl ?_;exact ⟨by first | rfl | (simp [aj, ai] <;> rfl) | (simp [*, aj, ai] <;> rfl), by repeat (first | (with_reducible first | exact HB.out | apply aY | apply aQ | apply aK | refine bf ?_ GE121.out) | exact HB.out)⟩
 rw [if_pos c3] at H;have c3b0 : (t124 == 0) = true := beq_iff_eq.mpr c3;have c3b1 : (t124 != 0) = false := bne_eq_false_iff_eq.mpr c3;clear c3;by_cases c4 : 0 ≤ t123;rotate_left
 ·rw [if_neg c4] at H
  exact absurd H (by simp)
 rw [if_pos c4] at H;have c4b0 := eq_true c4;have c4b1 : decide (0 ≤ t123) = true := decide_eq_true c4;clear c4;by_cases c5 : t123 ≤ (l0.length : Int);rotate_left
 ·rw [if_neg c5] at H
  exact absurd H (by simp)
 rw [if_pos c5] at H;have c5b0 := eq_true c5;have c5b1 : decide (t123 ≤ (l0.length : Int)) = true := decide_eq_true c5;clear c5;replace H := Option.bind_eq_some_iff.mp H;obtain ⟨⟨t126, t127, t128⟩, A60, H⟩ := H;(try dsimp only at H);have A6 := aa.mk A60;clear A60;by_cases c7 : t128 = 0;rotate_left
 ·rw [if_neg c7] at H
  have c7b0 : (t128 == 0) = false := beq_eq_false_iff_ne.mpr c7;have c7b1 : (t128 != 0) = true := bne_iff_ne.mpr c7;simp only [Option.some.injEq, Prod.mk.injEq] at H;obtain ⟨rfl, rfl, rfl, rfl⟩ := H;go_enter Try.func100, Try.ntmps100;go_wp2_with (first | ((with_reducible refine bn (N := 2) rfl ?_); refine bg ?hg (N := 2) ?hd (cs := #[.int .i64 0, .int .i64 0]) (t := 25) ?hr ?_; (case hd => rfl); (case hg => rfl); (case hr => first | (go_simp; done) | (go_simp; rfl)); intro gb121 hg w20 hbox hb; replace hb : Below (World.heap w).size w w20 := ⟨hb.os, hb.tape, hb.output, hb.size, hb.block⟩; have n0_ := aa.mk (ax HB.out hb); have n1_ := aa.mk (hbox); have n2_ := aa.mk ((by rw [hg]; exact HB.out.size : w.heap.size ≤ gb121)); have n3_ := n2_; clear HB; have HB := n0_; have BK121 := n1_; have GW121 := n2_; have GE121 := n3_; clear n0_ n1_ n2_ n3_ hb hbox hg) | ((with_reducible refine aI (f := 102) rfl ?_); refine bL (some 10) rfl rfl Try.func102 (by kernel_rfl) rfl #[.slice A0 l0.length c0] rfl (by (try simp only [SB.lA, SB.lC, SB.lN]); first | done | rfl | (simp only [SB.lD, SB.lT]; rfl)) ?_; (with_reducible refine (af.calls k _ _ l0 t122 t123 t124 _ ?side1 ?side2 A2.out).mono ?_); (case side1 => repeat (first | exact (Kd.df HR0.out HB.out) | with_reducible first | refine Kd.bS ?_ _ | refine Kd.bQ ?_ _ | refine Kd.dm ?_)); (case side2 => exact HC0.out); rintro e w' ⟨rfl, ⟨nd, rfl⟩⟩; refine ⟨_, rfl, ?_⟩; (try (rw [gL w20]; generalize hq_ : World.drewN w20 _ = w20; have n0_ : aa (w20.heap[gb121]? = some (.cells #[.int .i64 0, .int .i64 0] 25 (0, 0))) := ⟨by rw [← hq_]; exact (by exact BK121.out)⟩; have n1_ : aa (Below w.heap.size w w20) := ⟨by rw [← hq_]; exact (by exact rud HB.out rfl rfl rfl rfl)⟩; clear BK121 HB hq_; have BK121 := n0_; have HB := n1_; clear n0_ n1_)); obtain ⟨i021, hi021, _, hsz21, _⟩ := info_parts info5; obtain ⟨A21, hcut21, hA21, hC21⟩ := eD (P := Try.prog) (Value.int .u8) 0 29 5 .i64 Try.underlying29 hi021 hsz21 A0 c0 l0 t123 (of_decide_eq_true (by first | (with_reducible assumption) | assumption)) (of_decide_eq_true (by first | (with_reducible assumption) | assumption)) HC0.out; have HR125 := aa.mk (Kd.fC (h1 := fun _ => rfl) (hA21 _ (Kd.eT HR0.out))); have HC125 := aa.mk hC21; clear hA21 hC21 hi021 hsz21) | ((with_reducible refine aI (f := 102) rfl ?_); refine bL (some 22) rfl rfl Try.func102 (by kernel_rfl) rfl #[.slice A21 (l0.drop (t123 : Int).toNat).length (c0 - t123.toNat)] rfl (by (try simp only [SB.lA, SB.lC, SB.lN]); first | done | (rw [show (l0.drop (t123 : Int).toNat).length = (l0.length - t123.toNat) from List.length_drop] <;> rfl) | rfl | (simp only [SB.lD, SB.lT]; rfl)) ?_; (with_reducible refine (af.calls k _ _ (l0.drop (t123 : Int).toNat) t126 t127 t128 _ ?side1 ?side2 A6.out).mono ?_); (case side1 => repeat (first | exact (Kd.df HR125.out HB.out) | with_reducible first | refine Kd.bS ?_ _ | refine Kd.bQ ?_ _ | refine Kd.dm ?_)); (case side2 => exact HC125.out); rintro e w' ⟨rfl, ⟨nd, rfl⟩⟩; refine ⟨_, rfl, ?_⟩; (try (rw [gL w20]; generalize hq_ : World.drewN w20 _ = w20; have n0_ : aa (w20.heap[gb121]? = some (.cells #[.int .i64 0, .int .i64 0] 25 (0, 0))) := ⟨by rw [← hq_]; exact (by exact BK121.out)⟩; have n1_ : aa (Below w.heap.size w w20) := ⟨by rw [← hq_]; exact (by exact rud HB.out rfl rfl rfl rfl)⟩; clear BK121 HB hq_; have BK121 := n0_; have HB := n1_; clear n0_ n1_)); have Cm_0 : w20.cell? ⟨gb121, 0, none⟩ = some (.int .i64 0) := (av BK121.out 0).trans rfl; have Cm_1 : w20.cell? ⟨gb121, 1, none⟩ = some (.int .i64 0) := (av BK121.out 1).trans rfl; have Fm_0 := aC BK121.out 0; have Fm_1 := aC BK121.out 1));refine bodyPost_ret (fP rfl _ _ gb121 25 #[.int .i64 0, .int .i64 0] (0, 0) _ rfl (by (with_reducible repeat (first | refine az ?_ _ | refine aA ?_ | refine ay ?_ _)); exact LB.put2 BK121.out) Try.underlying25 rfl (by kernel_rfl)) rfl ?_;exact ⟨by first | rfl | (simp [aj, ai] <;> rfl) | (simp [*, aj, ai] <;> rfl), by repeat (first | (with_reducible first | exact HB.out | apply aY | apply aQ | apply aK | refine bf ?_ GE121.out) | exact HB.out)⟩
 rw [if_pos c7] at H;have c7b0 : (t128 == 0) = true := beq_iff_eq.mpr c7;have c7b1 : (t128 != 0) = false := bne_eq_false_iff_eq.mpr c7;clear c7;replace H := Option.bind_eq_some_iff.mp H;obtain ⟨t129, A80, H⟩ := H;replace H : (if t129 = true then (some (t122, t126, wrap64 (t123 + t127), 0)) else (some (0, 0, 0, 1))) = some (r1, r2, r3, r4) := H;have A8 := aa.mk A80;clear A80;by_cases c9 : t129 = true
 ·subst c9
  have H1 : (some (t122, t126, wrap64 (t123 + t127), 0)) = some (r1, r2, r3, r4) := by rw [if_pos rfl] at H; exact H
  clear H;have H := H1;clear H1;simp only [Option.some.injEq, Prod.mk.injEq] at H;obtain ⟨rfl, rfl, rfl, rfl⟩ := H;go_enter Try.func100, Try.ntmps100;go_wp2_with (first | ((with_reducible refine bn (N := 2) rfl ?_); refine bg ?hg (N := 2) ?hd (cs := #[.int .i64 0, .int .i64 0]) (t := 25) ?hr ?_; (case hd => rfl); (case hg => rfl); (case hr => first | (go_simp; done) | (go_simp; rfl)); intro gb121 hg w10 hbox hb; replace hb : Below (World.heap w).size w w10 := ⟨hb.os, hb.tape, hb.output, hb.size, hb.block⟩; have n0_ := aa.mk (ax HB.out hb); have n1_ := aa.mk (hbox); have n2_ := aa.mk ((by rw [hg]; exact HB.out.size : w.heap.size ≤ gb121)); have n3_ := n2_; clear HB; have HB := n0_; have BK121 := n1_; have GW121 := n2_; have GE121 := n3_; clear n0_ n1_ n2_ n3_ hb hbox hg) | ((with_reducible refine aI (f := 102) rfl ?_); refine bL (some 10) rfl rfl Try.func102 (by kernel_rfl) rfl #[.slice A0 l0.length c0] rfl (by (try simp only [SB.lA, SB.lC, SB.lN]); first | done | rfl | (simp only [SB.lD, SB.lT]; rfl)) ?_; (with_reducible refine (af.calls k _ _ l0 t122 t123 t124 _ ?side1 ?side2 A2.out).mono ?_); (case side1 => repeat (first | exact (Kd.df HR0.out HB.out) | with_reducible first | refine Kd.bS ?_ _ | refine Kd.bQ ?_ _ | refine Kd.dm ?_)); (case side2 => exact HC0.out); rintro e w' ⟨rfl, ⟨nd, rfl⟩⟩; refine ⟨_, rfl, ?_⟩; (try (rw [gL w10]; generalize hq_ : World.drewN w10 _ = w10; have n0_ : aa (w10.heap[gb121]? = some (.cells #[.int .i64 0, .int .i64 0] 25 (0, 0))) := ⟨by rw [← hq_]; exact (by exact BK121.out)⟩; have n1_ : aa (Below w.heap.size w w10) := ⟨by rw [← hq_]; exact (by exact rud HB.out rfl rfl rfl rfl)⟩; clear BK121 HB hq_; have BK121 := n0_; have HB := n1_; clear n0_ n1_)); obtain ⟨i011, hi011, _, hsz11, _⟩ := info_parts info5; obtain ⟨A11, hcut11, hA11, hC11⟩ := eD (P := Try.prog) (Value.int .u8) 0 29 5 .i64 Try.underlying29 hi011 hsz11 A0 c0 l0 t123 (of_decide_eq_true (by first | (with_reducible assumption) | assumption)) (of_decide_eq_true (by first | (with_reducible assumption) | assumption)) HC0.out; have HR125 := aa.mk (Kd.fC (h1 := fun _ => rfl) (hA11 _ (Kd.eT HR0.out))); have HC125 := aa.mk hC11; clear hA11 hC11 hi011 hsz11) | ((with_reducible refine aI (f := 102) rfl ?_); refine bL (some 22) rfl rfl Try.func102 (by kernel_rfl) rfl #[.slice A11 (l0.drop (t123 : Int).toNat).length (c0 - t123.toNat)] rfl (by (try simp only [SB.lA, SB.lC, SB.lN]); first | done | (rw [show (l0.drop (t123 : Int).toNat).length = (l0.length - t123.toNat) from List.length_drop] <;> rfl) | rfl | (simp only [SB.lD, SB.lT]; rfl)) ?_; (with_reducible refine (af.calls k _ _ (l0.drop (t123 : Int).toNat) t126 t127 t128 _ ?side1 ?side2 A6.out).mono ?_); (case side1 => repeat (first | exact (Kd.df HR125.out HB.out) | with_reducible first | refine Kd.bS ?_ _ | refine Kd.bQ ?_ _ | refine Kd.dm ?_)); (case side2 => exact HC125.out); rintro e w' ⟨rfl, ⟨nd, rfl⟩⟩; refine ⟨_, rfl, ?_⟩; (try (rw [gL w10]; generalize hq_ : World.drewN w10 _ = w10; have n0_ : aa (w10.heap[gb121]? = some (.cells #[.int .i64 0, .int .i64 0] 25 (0, 0))) := ⟨by rw [← hq_]; exact (by exact BK121.out)⟩; have n1_ : aa (Below w.heap.size w w10) := ⟨by rw [← hq_]; exact (by exact rud HB.out rfl rfl rfl rfl)⟩; clear BK121 HB hq_; have BK121 := n0_; have HB := n1_; clear n0_ n1_)); have Cc_0 : w10.cell? ⟨gb121, 0, none⟩ = some (.int .i64 0) := (av BK121.out 0).trans rfl; have Cc_1 : w10.cell? ⟨gb121, 1, none⟩ = some (.int .i64 0) := (av BK121.out 1).trans rfl; have Fc_0 := aC BK121.out 0; have Fc_1 := aC BK121.out 1) | ((with_reducible refine aI (f := 103) rfl ?_); refine bL (some 34) rfl rfl Try.func103 (by kernel_rfl) rfl #[.agg #[.int .i64 t122, .int .i64 t126]] rfl (by (try simp only [SB.lA, SB.lC, SB.lN]); first | done | rfl | (simp only [SB.lD, SB.lT]; rfl)) ?_; (with_reducible refine (bP.calls t122 t126 true _ A8.out).mono ?_); rintro e w13 ⟨rfl, hb⟩; refine ⟨_, rfl, ?_⟩; have n0_ := aa.mk (bq (g := gb121) (o := .cells #[.int .i64 t122, .int .i64 t126] 25 (0, 0)) (by (with_reducible repeat (first | refine az ?_ _ | refine aA ?_ | refine ay ?_ _)); exact LB.put2 BK121.out) hb); have n1_ := aa.mk (ax (by repeat (first | (with_reducible first | exact HB.out | apply aY | apply aQ | apply aK | refine bf ?_ GE121.out) | exact HB.out)) hb); clear BK121 HB; have BK121 := n0_; have HB := n1_; clear n0_ n1_; (try clear hb hb2 hk hi); have Ce_0 : w13.cell? ⟨gb121, 0, none⟩ = some (.int .i64 t122) := (av BK121.out 0).trans rfl; have Ce_1 : w13.cell? ⟨gb121, 1, none⟩ = some (.int .i64 t126) := (av BK121.out 1).trans rfl; have Fe_0 := aC BK121.out 0; have Fe_1 := aC BK121.out 1));refine bodyPost_ret (fP rfl _ _ gb121 25 #[.int .i64 t122, .int .i64 t126] (0, 0) _ rfl (by (with_reducible repeat (first | refine az ?_ _ | refine aA ?_ | refine ay ?_ _)); exact LB.put2 BK121.out) Try.underlying25 rfl (by kernel_rfl)) rfl ?_;exact ⟨by first | rfl | (simp [aj, ai] <;> rfl) | (simp [*, aj, ai] <;> rfl), by repeat (first | (with_reducible first | exact HB.out | apply aY | apply aQ | apply aK | refine bf ?_ GE121.out) | exact HB.out)⟩
 replace c9 := Bool.eq_false_iff.mpr c9;subst c9;have H1 : (some (0, 0, 0, 1)) = some (r1, r2, r3, r4) := by rw [if_neg (show ¬ (false = true) by decide)] at H; exact H
 clear H;have H := H1;clear H1;simp only [Option.some.injEq, Prod.mk.injEq] at H;obtain ⟨rfl, rfl, rfl, rfl⟩ := H;go_enter Try.func100, Try.ntmps100;go_wp2_with (first | ((with_reducible refine bn (N := 2) rfl ?_); refine bg ?hg (N := 2) ?hd (cs := #[.int .i64 0, .int .i64 0]) (t := 25) ?hr ?_; (case hd => rfl); (case hg => rfl); (case hr => first | (go_simp; done) | (go_simp; rfl)); intro gb121 hg w15 hbox hb; replace hb : Below (World.heap w).size w w15 := ⟨hb.os, hb.tape, hb.output, hb.size, hb.block⟩; have n0_ := aa.mk (ax HB.out hb); have n1_ := aa.mk (hbox); have n2_ := aa.mk ((by rw [hg]; exact HB.out.size : w.heap.size ≤ gb121)); have n3_ := n2_; clear HB; have HB := n0_; have BK121 := n1_; have GW121 := n2_; have GE121 := n3_; clear n0_ n1_ n2_ n3_ hb hbox hg) | ((with_reducible refine aI (f := 102) rfl ?_); refine bL (some 10) rfl rfl Try.func102 (by kernel_rfl) rfl #[.slice A0 l0.length c0] rfl (by (try simp only [SB.lA, SB.lC, SB.lN]); first | done | rfl | (simp only [SB.lD, SB.lT]; rfl)) ?_; (with_reducible refine (af.calls k _ _ l0 t122 t123 t124 _ ?side1 ?side2 A2.out).mono ?_); (case side1 => repeat (first | exact (Kd.df HR0.out HB.out) | with_reducible first | refine Kd.bS ?_ _ | refine Kd.bQ ?_ _ | refine Kd.dm ?_)); (case side2 => exact HC0.out); rintro e w' ⟨rfl, ⟨nd, rfl⟩⟩; refine ⟨_, rfl, ?_⟩; (try (rw [gL w15]; generalize hq_ : World.drewN w15 _ = w15; have n0_ : aa (w15.heap[gb121]? = some (.cells #[.int .i64 0, .int .i64 0] 25 (0, 0))) := ⟨by rw [← hq_]; exact (by exact BK121.out)⟩; have n1_ : aa (Below w.heap.size w w15) := ⟨by rw [← hq_]; exact (by exact rud HB.out rfl rfl rfl rfl)⟩; clear BK121 HB hq_; have BK121 := n0_; have HB := n1_; clear n0_ n1_)); obtain ⟨i016, hi016, _, hsz16, _⟩ := info_parts info5; obtain ⟨A16, hcut16, hA16, hC16⟩ := eD (P := Try.prog) (Value.int .u8) 0 29 5 .i64 Try.underlying29 hi016 hsz16 A0 c0 l0 t123 (of_decide_eq_true (by first | (with_reducible assumption) | assumption)) (of_decide_eq_true (by first | (with_reducible assumption) | assumption)) HC0.out; have HR125 := aa.mk (Kd.fC (h1 := fun _ => rfl) (hA16 _ (Kd.eT HR0.out))); have HC125 := aa.mk hC16; clear hA16 hC16 hi016 hsz16) | ((with_reducible refine aI (f := 102) rfl ?_); refine bL (some 22) rfl rfl Try.func102 (by kernel_rfl) rfl #[.slice A16 (l0.drop (t123 : Int).toNat).length (c0 - t123.toNat)] rfl (by (try simp only [SB.lA, SB.lC, SB.lN]); first | done | (rw [show (l0.drop (t123 : Int).toNat).length = (l0.length - t123.toNat) from List.length_drop] <;> rfl) | rfl | (simp only [SB.lD, SB.lT]; rfl)) ?_; (with_reducible refine (af.calls k _ _ (l0.drop (t123 : Int).toNat) t126 t127 t128 _ ?side1 ?side2 A6.out).mono ?_); (case side1 => repeat (first | exact (Kd.df HR125.out HB.out) | with_reducible first | refine Kd.bS ?_ _ | refine Kd.bQ ?_ _ | refine Kd.dm ?_)); (case side2 => exact HC125.out); rintro e w' ⟨rfl, ⟨nd, rfl⟩⟩; refine ⟨_, rfl, ?_⟩; (try (rw [gL w15]; generalize hq_ : World.drewN w15 _ = w15; have n0_ : aa (w15.heap[gb121]? = some (.cells #[.int .i64 0, .int .i64 0] 25 (0, 0))) := ⟨by rw [← hq_]; exact (by exact BK121.out)⟩; have n1_ : aa (Below w.heap.size w w15) := ⟨by rw [← hq_]; exact (by exact rud HB.out rfl rfl rfl rfl)⟩; clear BK121 HB hq_; have BK121 := n0_; have HB := n1_; clear n0_ n1_)); have Ch_0 : w15.cell? ⟨gb121, 0, none⟩ = some (.int .i64 0) := (av BK121.out 0).trans rfl; have Ch_1 : w15.cell? ⟨gb121, 1, none⟩ = some (.int .i64 0) := (av BK121.out 1).trans rfl; have Fh_0 := aC BK121.out 0; have Fh_1 := aC BK121.out 1) | ((with_reducible refine aI (f := 103) rfl ?_); refine bL (some 34) rfl rfl Try.func103 (by kernel_rfl) rfl #[.agg #[.int .i64 t122, .int .i64 t126]] rfl (by (try simp only [SB.lA, SB.lC, SB.lN]); first | done | rfl | (simp only [SB.lD, SB.lT]; rfl)) ?_; (with_reducible refine (bP.calls t122 t126 false _ A8.out).mono ?_); rintro e w18 ⟨rfl, hb⟩; refine ⟨_, rfl, ?_⟩; have n0_ := aa.mk (bq (g := gb121) (o := .cells #[.int .i64 t122, .int .i64 t126] 25 (0, 0)) (by (with_reducible repeat (first | refine az ?_ _ | refine aA ?_ | refine ay ?_ _)); exact LB.put2 BK121.out) hb); have n1_ := aa.mk (ax (by repeat (first | (with_reducible first | exact HB.out | apply aY | apply aQ | apply aK | refine bf ?_ GE121.out) | exact HB.out)) hb); clear BK121 HB; have BK121 := n0_; have HB := n1_; clear n0_ n1_; (try clear hb hb2 hk hi); have Cj_0 : w18.cell? ⟨gb121, 0, none⟩ = some (.int .i64 t122) := (av BK121.out 0).trans rfl; have Cj_1 : w18.cell? ⟨gb121, 1, none⟩ = some (.int .i64 t126) := (av BK121.out 1).trans rfl; have Fj_0 := aC BK121.out 0; have Fj_1 := aC BK121.out 1));refine bodyPost_ret (fP rfl _ _ gb121 25 #[.int .i64 0, .int .i64 0] (0, 0) _ rfl (by (with_reducible repeat (first | refine az ?_ _ | refine aA ?_ | refine ay ?_ _)); exact LB.put2 BK121.out) Try.underlying25 rfl (by kernel_rfl)) rfl ?_;exact ⟨by first | rfl | (simp [aj, ai] <;> rfl) | (simp [*, aj, ai] <;> rfl), by repeat (first | (with_reducible first | exact HB.out | apply aY | apply aQ | apply aK | refine bf ?_ GE121.out) | exact HB.out)⟩
def aM.T1 : Bool × List (List Nat × List Nat) := (true, [([], []), ([0], [0]), ([1], [1]), ([2], [2]), ([], []), ([4], [4]), ([5], [5]), ([6], [6]), ([3, 7], [3, 7]), ([8], [8]), ([9], [9]), ([10], [10]), ([10], [10]), ([10], [10]), ([], []), ([14, 11, 9, 0, 1, 2, 3, 4, 5, 6, 7, 8, 9, 10, 11, 14], [11, 14]), ([12, 15, 0, 1, 2, 3, 4, 5, 6, 7, 8, 9, 10, 11, 12, 14, 15], [12]), ([13, 16, 0, 1, 2, 3, 4, 5, 6, 7, 8, 9, 10, 11, 12, 13, 14, 15, 16], [13])])
def aM.B1 : List Nat := [0, 1, 3, 7, 0, 16, 48, 112, 255, 511, 1023, 2047, 2047, 2047, 0, 20479, 57343, 131071]
theorem aM.tab1 : rtab .any (opsOf Try.f78 1) = aM.T1 := by kernel_rfl
theorem aM.bits1 : fe aM.T1.2 aM.B1 = true := by kernel_rfl
theorem aM.calls (k : Nat) (g : Nat) (s0_0 : List Int) (s0_1 : Int) (s0_2 : Int) (r1 : Int) (r2 : Int) (r3 : Int) (r4 : Int) (w0 w : World) (hI : aN w0 w g s0_0 s0_1 s0_2) (hB : Below w0.heap.size w0 w) (h : aM.f k s0_0 s0_1 s0_2 = some (r1, r2, r3, r4)) :
  Calls Try.prog 78 #[.pointer (some ⟨g, 0, none⟩)] w fun e w' => e = .returned (.agg #[.int .i64 r1, .int .i64 r2]) ∧ aN w0 w' g s0_0 r3 r4 ∧ Below w0.heap.size w0 w' ∧ bi w w' g none := by
 have hu25 := Try.underlying25;have HI0 := aa.mk hI;have HK := aa.mk (bi.refl w g none);have HL := aa.mk hB.size;clear hI;have HW0 := aa.mk hB.size;have HB := aa.mk hB;clear hB;have H : (if 0 ≤ s0_1 then (if s0_1 ≤ (s0_0.length : Int) then ((cK.f k (s0_0.drop (s0_1 : Int).toNat)).bind fun bt132 => ((bz.f s0_0 s0_1 s0_2 bt132.2.2.1 bt132.2.2.2).bind fun bt137 => (some (bt132.1, bt132.2.1, bt137.1, bt137.2)))) else (none)) else (none)) = some (r1, r2, r3, r4) := h;clear h;by_cases c2 : 0 ≤ s0_1;rotate_left
 ·rw [if_neg c2] at H
  exact absurd H (by simp)
 rw [if_pos c2] at H;have c2b0 := eq_true c2;have c2b1 : decide (0 ≤ s0_1) = true := decide_eq_true c2;clear c2;by_cases c3 : s0_1 ≤ (s0_0.length : Int);rotate_left
 ·rw [if_neg c3] at H
  exact absurd H (by simp)
 rw [if_pos c3] at H;have c3b0 := eq_true c3;have c3b1 : decide (s0_1 ≤ (s0_0.length : Int)) = true := decide_eq_true c3;clear c3;replace H := Option.bind_eq_some_iff.mp H;obtain ⟨⟨t132, t133, t134, t135⟩, A40, H⟩ := H;replace H : ((bz.f s0_0 s0_1 s0_2 t134 t135).bind fun bt137 => (some (t132, t133, bt137.1, bt137.2))) = some (r1, r2, r3, r4) := H;have A4 := aa.mk A40;clear A40;replace H := Option.bind_eq_some_iff.mp H;obtain ⟨⟨t137, t138⟩, A50, H⟩ := H;replace H : (some (t132, t133, t137, t138)) = some (r1, r2, r3, r4) := H;have A5 := aa.mk A50;clear A50;simp only [Option.some.injEq, Prod.mk.injEq] at H;obtain ⟨rfl, rfl, rfl, rfl⟩ := H;go_enter Try.func78, Try.ntmps78;try go_wp2_with (first | ((with_reducible refine bn (N := 2) rfl ?_); refine bg ?hg (N := 2) ?hd (cs := #[.int .i64 0, .int .i64 0]) (t := 25) ?hr ?_; (case hd => rfl); (case hg => rfl); (case hr => first | (go_simp; done) | (go_simp; rfl)); intro gb130 hg w6 hbox hb; replace hb : Below (World.heap w).size w w6 := ⟨hb.os, hb.tape, hb.output, hb.size, hb.block⟩; have n0_ := aa.mk (aN.below HI0.out hb); have n1_ := aa.mk (bi.trans HK.out (bi.of_below hb g none) (.inl rfl)); have n2_ := aa.mk (ax HB.out hb); have n3_ := aa.mk (hbox); have n4_ := aa.mk ((by rw [hg]; exact (keep_size (w := w) (g := g) (row := none) HK.out) : w.heap.size ≤ gb130)); have n5_ := aa.mk ((Nat.le_trans HW0.out (by rw [hg]; exact (keep_size (w := w) (g := g) (row := none) HK.out) : w.heap.size ≤ gb130) : w0.heap.size ≤ gb130)); have n6_ := aa.mk ((by rw [hg]; exact Nat.ne_of_lt (aN.lt (show aN w0 _ g s0_0 s0_1 s0_2 from by exact HI0.out)) : g ≠ gb130)); have n7_ := aa.mk (Ne.symm n6_.out); clear HI0 HK HB; have HI0 := n0_; have HK := n1_; have HB := n2_; have BK130 := n3_; have GW130 := n4_; have GE130 := n5_; have NB0_130 := n6_; have NB130_0 := n7_; clear n0_ n1_ n2_ n3_ n4_ n5_ n6_ n7_ hb hbox hg))
 have n0_ := aa.mk (aA BK130.out);have n1_ := aa.mk (aN.drew HI0.out);have n2_ := aa.mk (eP HK.out);have n3_ := aa.mk (aK HB.out);clear BK130 HI0 HK HB;have BK130 := n0_;have HI0 := n1_;have HK := n2_;have HB := n3_;clear n0_ n1_ n2_ n3_;obtain ⟨ASz8_0, cSz8_0, HGz8, hgz8, HSz8_0, HcSz8_0⟩ := HI0.out;have C8_0 := gm HGz8;have C8_1 := fH HGz8;have C8_2 := fU HGz8;have F8_1 := aC HGz8 1;have F8_2 := aC HGz8 2;clear HGz8 hgz8;have hx98_0 := C8_0;clear C8_0;have hx98_1 := C8_1;clear C8_1;have hx98_2 := C8_2;clear C8_2;have HRSz8_0 := aa.mk HSz8_0;have HCSz8_0 := aa.mk HcSz8_0;obtain ⟨i09, hi09, _, hsz9, _⟩ := info_parts info5;obtain ⟨A9, hcut9, hA9, hC9⟩ := eD (P := Try.prog) (Value.int .u8) 0 29 5 .i64 Try.underlying29 hi09 hsz9 ASz8_0 cSz8_0 s0_0 s0_1 (of_decide_eq_true (by first | (with_reducible assumption) | assumption)) (of_decide_eq_true (by first | (with_reducible assumption) | assumption)) HCSz8_0.out;have HR131 := aa.mk (Kd.fC (h1 := fun _ => rfl) (hA9 _ (Kd.eT HRSz8_0.out)));have HC131 := aa.mk hC9;clear hA9 hC9 hi09 hsz9;refine fu (n := 18) (S := fun w' => w'.cell? ⟨g, 0, none⟩ = some (.slice ASz8_0 s0_0.length cSz8_0) ∧ w'.cell? ⟨g, 1, none⟩ = some (.int .i64 s0_1) ∧ w'.cell? ⟨g, 2, none⟩ = some (.int .i64 s0_2)) (ds := []) (rbs 18 0) (by kernel_rfl) rfl rfl ⟨hx98_0, hx98_1, hx98_2⟩ (fun hHeld => ?_); refine dw aM.tab1 aM.bits1 (fun HT_ HW_ => ?_);generalize w6.drew = w7 at BK130 HI0 HK HB HR131 hx98_0 hx98_1 hx98_2 hHeld ⊢;apply rpu 0 (some 7) HT_ (rbs 18 1) rfl rfl (by kernel_rfl) (fun _ _ _ h => h) (by rfl)
 ·intro w';go_simp;with_reducible rfl
 ·simp only [pS];rfl
 apply rpu 1 (some 8) HT_ (rbs 18 3) rfl rfl (by kernel_rfl) (fun _ _ _ h => h) (by rfl)
 ·intro w';go_simp;with_reducible rfl
 ·simp only [pS];rfl
 apply rpu 2 (some 9) HT_ (rbs 18 7) rfl rfl (by kernel_rfl) (fun _ _ _ h => h) (by rfl)
 ·intro w';go_simp;with_reducible rfl
 ·simp only [pS];rfl
 apply rpu 4 (some 11) HT_ (rbs 18 23) rfl rfl (by kernel_rfl) (fun _ _ _ h => h) (by rfl)
 ·intro w';go_simp;with_reducible rfl
 ·simp only [pS];rfl
 apply rpu 5 (some 12) HT_ (rbs 18 55) rfl rfl (by kernel_rfl) (fun _ _ _ h => h) (by rfl)
 ·intro w';go_simp;with_reducible rfl
 ·simp only [pS];rfl
 apply rpu 6 (some 13) HT_ (rbs 18 119) rfl rfl (by kernel_rfl) (fun _ _ _ h => h) (by rfl)
 ·intro w';go_simp;with_reducible rfl
 ·simp only [pS];rfl
 apply rtk 3 (some 10) HT_ HW_ hHeld (rbs 18 127) rfl rfl (by kernel_rfl) (fun _ _ _ h => h) (by rfl)
 ·rintro w' ⟨s0, s1, s2⟩;go_simp;with_reducible rfl
 ·simp only [pS];rfl
 apply rtk 7 (some 14) HT_ HW_ hHeld (rbs 18 255) rfl rfl (by kernel_rfl) (fun _ _ _ h => h) (by rfl)
 ·rintro w' ⟨s0, s1, s2⟩;go_simp;with_reducible rfl
 ·simp only [pS];rfl
 apply rpu 8 (some 15) HT_ (rbs 18 511) rfl rfl (by kernel_rfl) (fun _ _ _ h => h) (by rfl)
 ·intro w';go_simp;with_reducible rfl
 ·simp only [pS];rfl
 refine join_ (σ := Nat) 3 (rbs 18 32767) (fun s_ => [(16, .tuple #[.agg #[.int .i64 t132, .int .i64 t133], .int .i64 t134, .int .i64 t135]), (3, .pointer (some ⟨s_, 0, none⟩)), (6, .tuple #[.agg #[.int .i64 t132, .int .i64 t133], .int .i64 t134, .int .i64 t135]), (17, .agg #[.int .i64 t132, .int .i64 t133]), (18, .int .i64 t134), (19, .int .i64 t135)]) (fun s_ w' => (w'.cell? ⟨g, 0, none⟩ = some (.slice ASz8_0 s0_0.length cSz8_0) ∧ w'.cell? ⟨g, 1, none⟩ = some (.int .i64 s0_1) ∧ w'.cell? ⟨g, 2, none⟩ = some (.int .i64 s0_2)) ∧ (w'.heap[gb130]? = some (.cells #[.int .i64 0, .int .i64 0] 25 (0, 0))) ∧ (w'.heap[s_]? = some (.cells #[.int .i64 0, .int .i64 0] 25 (0, 0))) ∧ (w.heap.size ≤ s_) ∧ (w0.heap.size ≤ s_) ∧ (g ≠ s_) ∧ (s_ ≠ g) ∧ (gb130 ≠ s_) ∧ (s_ ≠ gb130) ∧ (aN w0 w' g s0_0 s0_1 s0_2) ∧ (bi w w' g none) ∧ (Below w0.heap.size w0 w')) ?_ ?_;rotate_left
 ·intro hCont
  refine two_ (i := 9) (j := 14) (Ni := some 16) (Nj := some 3) (rbs 18 1023) (rbs 18 16895) rfl rfl rfl rfl (two_of HT_.out (by kernel_rfl)) (by decide) (by decide) (fun K hK => ?_) (fun K hK => ?_)
  ·skip
   refine eG Try.func100 (by kernel_rfl) rfl #[.slice A9 (s0_0.drop (s0_1 : Int).toNat).length (cSz8_0 - s0_1.toNat)] (by rfl) rfl rfl (by (try simp only [SB.lA, SB.lC, SB.lN]); first | done | (rw [show (s0_0.drop (s0_1 : Int).toNat).length = (s0_0.length - s0_1.toNat) from List.length_drop] <;> rfl) | rfl | (simp only [SB.lD, SB.lT]; rfl)) ?_;with_reducible refine (cK.calls k _ _ (s0_0.drop (s0_1 : Int).toNat) t132 t133 t134 t135 _ ?side1 ?side2 A4.out).mono ?_
   (case side1 => exact Kd.df HR131.out (by exact rud HB.out rfl rfl rfl rfl));(case side2 => exact HC131.out);rintro e w10 ⟨rfl, hb⟩;have HS0_ := (hb.cell (World.block_lt_of_cell? _ _ (hHeld.1))).trans (hHeld.1);have HS1_ := (hb.cell (World.block_lt_of_cell? _ _ (hHeld.2.1))).trans (hHeld.2.1);have HS2_ := (hb.cell (World.block_lt_of_cell? _ _ (hHeld.2.2))).trans (hHeld.2.2);refine ⟨_, rfl, ?_⟩;replace hb : Below (World.heap w7).size w7 w10 := ⟨hb.os, hb.tape, hb.output, hb.size, hb.block⟩
   have n0_ := aa.mk (aN.below HI0.out hb);have n1_ := aa.mk (bq BK130.out hb);have n2_ := aa.mk (bi.trans HK.out (bi.of_below hb g none) (.inl rfl));have n3_ := aa.mk (ax HB.out hb);clear HI0 BK130 HK HB;have HI0 := n0_;have BK130 := n1_;have HK := n2_;have HB := n3_;clear n0_ n1_ n2_ n3_;(try clear hb hb2 hk hi);refine hK.out _ _ ⟨HS0_, HS1_, HS2_⟩ (fun hHeld => ?_);clear hK K;refine dV (a' := ?_) ?_ ?_;rotate_left
   ·show Act.put _ (some 16) _ = _
    simp only [pS];rfl
   apply rpu 10 (some 6) HT_ (rbs 18 2047) rfl rfl (by kernel_rfl) (fun _ _ _ h => h) (by rfl)
   ·intro w';go_simp;with_reducible rfl
   ·simp only [pS];rfl
   apply rpu 11 (some 17) HT_ (rbs 18 4095) rfl rfl (by kernel_rfl) (fun _ _ _ h => h) (by rfl)
   ·intro w';go_simp;with_reducible rfl
   ·simp only [pS];rfl
   apply rpu 12 (some 18) HT_ (rbs 18 8191) rfl rfl (by kernel_rfl) (fun _ _ _ h => h) (by rfl)
   ·intro w';go_simp;with_reducible rfl
   ·simp only [pS];rfl
   apply rpu 13 (some 19) HT_ (rbs 18 16383) rfl rfl (by kernel_rfl) (fun _ _ _ h => h) (by rfl)
   ·intro w';go_simp;with_reducible rfl
   ·simp only [pS];rfl
   refine one_ (i := 14) (N := some 3) (rbs 18 32767) rfl rfl (dD HT_.out (by kernel_rfl)) (by decide) (fun K hK => ?_);refine box_step ?hg (N := 3) ?hd (cs := #[.int .i64 0, .int .i64 0]) (t := 25) ?hr ?_; (case hd => rfl); (case hg => rfl); (case hr => first | (go_simp; done) | (go_simp; rfl));intro gb136 hg w11 hbox hb;have HS0_ := (hb.cell (World.block_lt_of_cell? _ _ (hHeld.1))).trans (hHeld.1);have HS1_ := (hb.cell (World.block_lt_of_cell? _ _ (hHeld.2.1))).trans (hHeld.2.1);have HS2_ := (hb.cell (World.block_lt_of_cell? _ _ (hHeld.2.2))).trans (hHeld.2.2);replace hb : Below (World.heap w10).size w10 w11 := ⟨hb.os, hb.tape, hb.output, hb.size, hb.block⟩
   have n0_ := aa.mk (aN.below HI0.out hb);have n1_ := aa.mk (bq BK130.out hb);have n2_ := aa.mk (bi.trans HK.out (bi.of_below hb g none) (.inl rfl));have n3_ := aa.mk (ax HB.out hb);have n4_ := aa.mk (hbox);have n5_ := aa.mk ((by rw [hg]; exact (keep_size (w := w) (g := g) (row := none) HK.out) : w.heap.size ≤ gb136));have n6_ := aa.mk ((Nat.le_trans HW0.out (by rw [hg]; exact (keep_size (w := w) (g := g) (row := none) HK.out) : w.heap.size ≤ gb136) : w0.heap.size ≤ gb136));have n7_ := aa.mk ((by rw [hg]; exact Nat.ne_of_lt (fG BK130.out) : gb130 ≠ gb136));have n8_ := aa.mk (Ne.symm n7_.out);have n9_ := aa.mk ((by rw [hg]; exact Nat.ne_of_lt (aN.lt (show aN w0 _ g s0_0 s0_1 s0_2 from by exact HI0.out)) : g ≠ gb136));have n10_ := aa.mk (Ne.symm n9_.out);clear HI0 BK130 HK HB;have HI0 := n0_;have BK130 := n1_;have HK := n2_;have HB := n3_;have BK136 := n4_;have GW136 := n5_;have GE136 := n6_;have NB130_136 := n7_;have NB136_130 := n8_;have NB0_136 := n9_;have NB136_0 := n10_;clear n0_ n1_ n2_ n3_ n4_ n5_ n6_ n7_ n8_ n9_ n10_ hb hbox hg;refine hK.out _ _ ⟨HS0_, HS1_, HS2_⟩ (fun hHeld => ?_);clear hK K;refine dV (a' := ?_) ?_ ?_;rotate_left
   ·show Act.put _ (some 3) _ = _
    simp only [pS];rfl
   exact dV (by simp only [putAll, Act.put, sT, sZ, sS]) (hCont (gb136) _ ⟨hHeld, (by exact BK130.out), (by exact BK136.out), GW136.out, GE136.out, NB0_136.out, NB136_0.out, NB130_136.out, NB136_130.out, (by exact HI0.out), (by exact HK.out), (by exact rud HB.out rfl rfl rfl rfl)⟩)
  skip;refine box_step ?hg (N := 3) ?hd (cs := #[.int .i64 0, .int .i64 0]) (t := 25) ?hr ?_; (case hd => rfl); (case hg => rfl); (case hr => first | (go_simp; done) | (go_simp; rfl));intro gb136 hg w10 hbox hb;have HS0_ := (hb.cell (World.block_lt_of_cell? _ _ (hHeld.1))).trans (hHeld.1);have HS1_ := (hb.cell (World.block_lt_of_cell? _ _ (hHeld.2.1))).trans (hHeld.2.1);have HS2_ := (hb.cell (World.block_lt_of_cell? _ _ (hHeld.2.2))).trans (hHeld.2.2);replace hb : Below (World.heap w7).size w7 w10 := ⟨hb.os, hb.tape, hb.output, hb.size, hb.block⟩
  have n0_ := aa.mk (aN.below HI0.out hb);have n1_ := aa.mk (bq BK130.out hb);have n2_ := aa.mk (bi.trans HK.out (bi.of_below hb g none) (.inl rfl));have n3_ := aa.mk (ax HB.out hb);have n4_ := aa.mk (hbox);have n5_ := aa.mk ((by rw [hg]; exact (keep_size (w := w) (g := g) (row := none) HK.out) : w.heap.size ≤ gb136));have n6_ := aa.mk ((Nat.le_trans HW0.out (by rw [hg]; exact (keep_size (w := w) (g := g) (row := none) HK.out) : w.heap.size ≤ gb136) : w0.heap.size ≤ gb136));have n7_ := aa.mk ((by rw [hg]; exact Nat.ne_of_lt (fG BK130.out) : gb130 ≠ gb136));have n8_ := aa.mk (Ne.symm n7_.out);have n9_ := aa.mk ((by rw [hg]; exact Nat.ne_of_lt (aN.lt (show aN w0 _ g s0_0 s0_1 s0_2 from by exact HI0.out)) : g ≠ gb136));have n10_ := aa.mk (Ne.symm n9_.out);clear HI0 BK130 HK HB;have HI0 := n0_;have BK130 := n1_;have HK := n2_;have HB := n3_;have BK136 := n4_;have GW136 := n5_;have GE136 := n6_;have NB130_136 := n7_;have NB136_130 := n8_;have NB0_136 := n9_;have NB136_0 := n10_;clear n0_ n1_ n2_ n3_ n4_ n5_ n6_ n7_ n8_ n9_ n10_ hb hbox hg;refine hK.out _ _ ⟨HS0_, HS1_, HS2_⟩ (fun hHeld => ?_);clear hK K;refine dV (a' := ?_) ?_ ?_;rotate_left
  ·show Act.put _ (some 3) _ = _
   simp only [pS];rfl
  refine one_ (i := 9) (N := some 16) (rbs 18 17407) rfl rfl (dD HT_.out (by kernel_rfl)) (by decide) (fun K hK => ?_);refine eG Try.func100 (by kernel_rfl) rfl #[.slice A9 (s0_0.drop (s0_1 : Int).toNat).length (cSz8_0 - s0_1.toNat)] (by rfl) rfl rfl (by (try simp only [SB.lA, SB.lC, SB.lN]); first | done | (rw [show (s0_0.drop (s0_1 : Int).toNat).length = (s0_0.length - s0_1.toNat) from List.length_drop] <;> rfl) | rfl | (simp only [SB.lD, SB.lT]; rfl)) ?_;with_reducible refine (cK.calls k _ _ (s0_0.drop (s0_1 : Int).toNat) t132 t133 t134 t135 _ ?side1 ?side2 A4.out).mono ?_
  (case side1 => exact Kd.df HR131.out (by exact rud HB.out rfl rfl rfl rfl));(case side2 => exact HC131.out);rintro e w11 ⟨rfl, hb⟩;have HS0_ := (hb.cell (World.block_lt_of_cell? _ _ (hHeld.1))).trans (hHeld.1);have HS1_ := (hb.cell (World.block_lt_of_cell? _ _ (hHeld.2.1))).trans (hHeld.2.1);have HS2_ := (hb.cell (World.block_lt_of_cell? _ _ (hHeld.2.2))).trans (hHeld.2.2);refine ⟨_, rfl, ?_⟩;replace hb : Below (World.heap w10).size w10 w11 := ⟨hb.os, hb.tape, hb.output, hb.size, hb.block⟩
  have n0_ := aa.mk (aN.below HI0.out hb);have n1_ := aa.mk (bq BK130.out hb);have n2_ := aa.mk (bq BK136.out hb);have n3_ := aa.mk (bi.trans HK.out (bi.of_below hb g none) (.inl rfl));have n4_ := aa.mk (ax HB.out hb);clear HI0 BK130 BK136 HK HB;have HI0 := n0_;have BK130 := n1_;have BK136 := n2_;have HK := n3_;have HB := n4_;clear n0_ n1_ n2_ n3_ n4_;(try clear hb hb2 hk hi);refine hK.out _ _ ⟨HS0_, HS1_, HS2_⟩ (fun hHeld => ?_);clear hK K;refine dV (a' := ?_) ?_ ?_;rotate_left
  ·show Act.put _ (some 16) _ = _
   simp only [pS];rfl
  apply rpu 10 (some 6) HT_ (rbs 18 18431) rfl rfl (by kernel_rfl) (fun _ _ _ h => h) (by rfl)
  ·intro w';go_simp;with_reducible rfl
  ·simp only [pS];rfl
  apply rpu 11 (some 17) HT_ (rbs 18 20479) rfl rfl (by kernel_rfl) (fun _ _ _ h => h) (by rfl)
  ·intro w';go_simp;with_reducible rfl
  ·simp only [pS];rfl
  apply rpu 12 (some 18) HT_ (rbs 18 24575) rfl rfl (by kernel_rfl) (fun _ _ _ h => h) (by rfl)
  ·intro w';go_simp;with_reducible rfl
  ·simp only [pS];rfl
  apply rpu 13 (some 19) HT_ (rbs 18 32767) rfl rfl (by kernel_rfl) (fun _ _ _ h => h) (by rfl)
  ·intro w';go_simp;with_reducible rfl
  ·simp only [pS];rfl
  exact dV (by simp only [putAll, Act.put, sT, sZ, sS]) (hCont (gb136) _ ⟨hHeld, (by exact BK130.out), (by exact BK136.out), GW136.out, GE136.out, NB0_136.out, NB136_0.out, NB130_136.out, NB136_130.out, (by exact HI0.out), (by exact HK.out), (by exact rud HB.out rfl rfl rfl rfl)⟩)
 rintro gb136 w12 ⟨hS_, h0_, h1_, h2_, h3_, h4_, h5_, h6_, h7_, h8_, h9_, h10_⟩;have n0_ : aa (w12.heap[gb130]? = some (.cells #[.int .i64 0, .int .i64 0] 25 (0, 0))) := ⟨h0_⟩
 have n1_ : aa (w12.heap[gb136]? = some (.cells #[.int .i64 0, .int .i64 0] 25 (0, 0))) := ⟨h1_⟩
 have n2_ : aa (w.heap.size ≤ gb136) := ⟨h2_⟩
 have n3_ : aa (w0.heap.size ≤ gb136) := ⟨h3_⟩
 have n4_ : aa (g ≠ gb136) := ⟨h4_⟩
 have n5_ : aa (gb136 ≠ g) := ⟨h5_⟩
 have n6_ : aa (gb130 ≠ gb136) := ⟨h6_⟩
 have n7_ : aa (gb136 ≠ gb130) := ⟨h7_⟩
 have n8_ : aa (aN w0 w12 g s0_0 s0_1 s0_2) := ⟨h8_⟩
 have n9_ : aa (bi w w12 g none) := ⟨h9_⟩
 have n10_ : aa (Below w0.heap.size w0 w12) := ⟨h10_⟩
 clear BK130 HI0 HK HB h0_ h1_ h2_ h3_ h4_ h5_ h6_ h7_ h8_ h9_ h10_;have BK130 := n0_;have BK136 := n1_;have GW136 := n2_;have GE136 := n3_;have NB0_136 := n4_;have NB136_0 := n5_;have NB130_136 := n6_;have NB136_130 := n7_;have HI0 := n8_;have HK := n9_;have HB := n10_;clear n0_ n1_ n2_ n3_ n4_ n5_ n6_ n7_ n8_ n9_ n10_;have hHeld : w12.cell? ⟨g, 0, none⟩ = some (.slice ASz8_0 s0_0.length cSz8_0) ∧ w12.cell? ⟨g, 1, none⟩ = some (.int .i64 s0_1) ∧ w12.cell? ⟨g, 2, none⟩ = some (.int .i64 s0_2) := hS_;refine dV (a' := ?_) ?_ ?_;rotate_left
 ·simp only [putAll, Act.put, sT, sZ, sS]
  rfl
 refine one_ (i := 15) (N := none) (rbs 18 65535) rfl rfl (dD HT_.out (by kernel_rfl)) (by decide) (fun K hK => ?_);have hs13 : w12.cell? ⟨gb136, 0, none⟩ = some (.int .i64 0) := (av BK136.out 0).trans rfl;have hfs13 := aC BK136.out 0;have hns13_0 := NB130_136.out;have hms13_0 := NB136_130.out;have hs14 : w12.cell? ⟨gb136, 1, none⟩ = some (.int .i64 0) := (av BK136.out 1).trans rfl;have hfs14 := aC BK136.out 1;have hns14_0 := NB130_136.out;have hms14_0 := NB136_130.out;refine skip_ (w1 := ?_) (by rfl) rfl ?_ ?_;rotate_left
 ·go_simp
  rfl
 refine hK.out _ _ ⟨((LB.far2 (g := gb136) (by first | exact NB0_136.out | (rw [add_block]; exact NB0_136.out) | (show (Addr.add _ _).block ≠ _; rw [add_block]; exact NB0_136.out) | (dsimp only; exact NB0_136.out))).trans (hHeld.1)), ((LB.far2 (g := gb136) (by first | exact NB0_136.out | (rw [add_block]; exact NB0_136.out) | (show (Addr.add _ _).block ≠ _; rw [add_block]; exact NB0_136.out) | (dsimp only; exact NB0_136.out))).trans (hHeld.2.1)), ((LB.far2 (g := gb136) (by first | exact NB0_136.out | (rw [add_block]; exact NB0_136.out) | (show (Addr.add _ _).block ≠ _; rw [add_block]; exact NB0_136.out) | (dsimp only; exact NB0_136.out))).trans (hHeld.2.2))⟩ (fun hHeld => ?_);clear hK K;apply rpu 16 (some 4) HT_ (rbs 18 131071) rfl rfl (by kernel_rfl) (fun _ _ _ h => h) (by rfl)
 ·intro w';go_simp;with_reducible rfl
 ·simp only [pS];rfl
 apply rpu 17 (some 5) HT_ (rbs 18 262143) rfl rfl (by kernel_rfl) (fun _ _ _ h => h) (by rfl)
 ·intro w';go_simp;with_reducible rfl
 ·simp only [pS];rfl
 refine done_ (dR HT_.out (by kernel_rfl)) ?_;try go_wp2_with (first | ((with_reducible refine aI (f := 80) rfl ?_); refine bL (some 23) rfl rfl Try.func80 (by kernel_rfl) rfl #[.pointer (some ⟨g, 0, none⟩), .int .i64 t134, .int .i64 t135] rfl (by (try simp only [SB.lA, SB.lC, SB.lN]); first | done | rfl | (simp only [SB.lD, SB.lT]; rfl)) ?_; (with_reducible refine (bz.calls g s0_0 s0_1 s0_2 t134 t135 t137 t138 w0 _ ?side1 ?side2 A5.out).mono ?_); (case side1 => repeat (first | (with_reducible first | exact HI0.out | apply aN.alloc | apply aN.drewN | apply aN.drew | apply aN.set_1 | apply aN.set_2 | apply aN.far (hne := NB0_130.out) | apply aN.far (hne := NB0_136.out)) | exact HI0.out)); (case side2 => repeat (first | (with_reducible first | exact HB.out | apply aY | apply aQ | apply aK | refine bf ?_ (aN.ge HI0.out) | refine bf ?_ GE130.out | refine bf ?_ GE136.out) | exact HB.out)); rintro e w15 ⟨rfl, hi, hb, hk⟩; refine ⟨_, rfl, ?_⟩; have n0_ := aa.mk (bi.blk hk (g' := gb130) (o := .cells #[.int .i64 0, .int .i64 0] 25 (0, 0)) (by (with_reducible repeat (first | refine az ?_ _ | refine aA ?_ | refine ay ?_ _)); refine LB.bfar2 (sb := gb136) ?_ NB130_136.out; (with_reducible repeat (first | refine az ?_ _ | refine aA ?_ | refine ay ?_ _)); exact BK130.out) NB130_0.out (by simp)); have n1_ := aa.mk (bi.blk hk (g' := gb136) (o := .cells #[.int .i64 t132, .int .i64 t133] 25 (0, 0)) (by (with_reducible repeat (first | refine az ?_ _ | refine aA ?_ | refine ay ?_ _)); exact LB.put2 BK136.out) NB136_0.out (by simp)); have n2_ := aa.mk (bi.trans (by repeat (first | (with_reducible first | exact HK.out | apply bi.set_ | apply eQ | apply eP | apply eU | refine gu ?_ GW130.out _ | refine gu ?_ GW136.out _) | exact HK.out)) hk (.inl rfl)); have n3_ := aa.mk (hb); have n4_ := aa.mk (hi); clear BK130 BK136 HK HB HI0; have BK130 := n0_; have BK136 := n1_; have HK := n2_; have HB := n3_; have HI0 := n4_; clear n0_ n1_ n2_ n3_ n4_; (try clear hb hb2 hk hi); have hnb16 := NB136_130.out; have hnc16 := NB130_136.out; have hnb17 := NB136_0.out; have hnc17 := NB0_136.out; have Ci_0 : w15.cell? ⟨gb136, 0, none⟩ = some (.int .i64 t132) := (av BK136.out 0).trans rfl; have Ci_1 : w15.cell? ⟨gb136, 1, none⟩ = some (.int .i64 t133) := (av BK136.out 1).trans rfl; have Fi_0 := aC BK136.out 0; have Fi_1 := aC BK136.out 1; have hnb19 := NB130_0.out; have hnc19 := NB0_130.out; have Ck_0 : w15.cell? ⟨gb130, 0, none⟩ = some (.int .i64 0) := (av BK130.out 0).trans rfl; have Ck_1 : w15.cell? ⟨gb130, 1, none⟩ = some (.int .i64 0) := (av BK130.out 1).trans rfl; have Fk_0 := aC BK130.out 0; have Fk_1 := aC BK130.out 1))
 refine bodyPost_ret (results_cell_row rfl _ _ gb130 25 #[.int .i64 t132, .int .i64 t133] (0, 0) _ rfl (by (with_reducible repeat (first | refine az ?_ _ | refine aA ?_ | refine ay ?_ _)); exact LB.put2 BK130.out) Try.underlying25 rfl (by kernel_rfl)) rfl ?_;exact ⟨by first | rfl | (simp [aj, ai] <;> rfl) | (simp [*, aj, ai] <;> rfl), by repeat (first | (with_reducible first | exact HI0.out | apply aN.alloc | apply aN.drewN | apply aN.drew | apply aN.set_1 | apply aN.set_2 | apply aN.far (hne := NB0_130.out) | apply aN.far (hne := NB0_136.out)) | exact HI0.out), by repeat (first | (with_reducible first | exact HB.out | apply aY | apply aQ | apply aK | refine bf ?_ (aN.ge HI0.out) | refine bf ?_ GE130.out | refine bf ?_ GE136.out) | exact HB.out), by repeat (first | (with_reducible first | exact HK.out | apply bi.set_ | apply eQ | apply eP | apply eU | refine gu ?_ GW130.out _ | refine gu ?_ GW136.out _) | exact HK.out)⟩
theorem bD.calls (k : Nat) (A0 : Option Addr) (c0 : Nat) (l0 : List Int) (r : Bool) (w : World) (hr0 : Kd.C (Kd.int .i64) w A0 l0.length l0) (hc0 : l0.length ≤ c0) (h : bD.f k l0 = some r) :
  Calls Try.prog 84 #[.slice A0 l0.length c0] w fun e w' => e = .returned (.bool r) ∧ bv w w' := by
 have HR0 := aa.mk hr0;have HC0 := aa.mk hc0;clear hr0 hc0;have H : (bD.l0 k l0 0) = some r := h;clear h;have H' := aa.mk H;clear H;go_enter Try.func84, Try.ntmps84;go_wp2;refine LB.gK 0 rfl ?_;intro G0_ hG0_;go_wp2;refine LB.wp_label_ghost (fun t_ d_ kq a_ w' => ∃ (u2 u3 u4 u5 u6 u7 u8 u9 u10 u11 u12 u13 u14 u15 u16 u17 u18 u19 u20 u21 u22 u23 u24 u25 u26 u27 : Value), (∃ (x3_1 : Int), u3 = .int .i64 x3_1 ∧ aa (bD.l0 kq l0 x3_1 = some r) ∧ aa (kq ≤ k) ∧ bv w w') ∧ a_ = ⟨#[LB.tget t_ 0, LB.tget t_ 1, u2, u3, u4, u5, u6, u7, u8, u9, u10, u11, u12, u13, u14, u15, u16, u17, u18, u19, u20, u21, u22, u23, u24, u25, u26, u27], d_⟩) k ‹_› hG0_ ?atStart ?round
 case atStart =>
  (try dsimp only);(repeat apply Exists.intro);refine ⟨?rel0, rfl⟩;exact ⟨(0), (by first | rfl | (simp; done) | (simp [*]; done)), H', ⟨Nat.le_refl _⟩, by repeat (first | exact bv.refl _ | apply bv.step)⟩
 case round =>
  intro gk a_ wr hinv;(try dsimp only at hinv);obtain ⟨u2, u3, u4, u5, u6, u7, u8, u9, u10, u11, u12, u13, u14, u15, u16, u17, u18, u19, u20, u21, u22, u23, u24, u25, u26, u27, hrel, rfl⟩ := hinv;intro J_ hJ_ hGJ_;clear hG0_;dsimp only [LB.tget, List.getD_cons_succ, List.getD_cons_zero] at hJ_ ⊢;clear H';obtain ⟨x3_1, rfl, HA, HK1, ⟨m1, rfl⟩⟩ := hrel;cases gk with
  | zero => exact absurd HA.out (by simp [bD.l0])
  | succ k1 =>
   have H := HA.out;clear HA;simp only [bD.l0] at H;by_cases c2 : x3_1 = (l0.length : Int)
   ·rw [if_pos c2] at H
    have c2b0 : (x3_1 == (l0.length : Int)) = true := beq_iff_eq.mpr c2;have c2b1 : (x3_1 != (l0.length : Int)) = false := bne_eq_false_iff_eq.mpr c2;clear c2;by_cases c3 : x3_1 ≥ 1
    ·rw [if_pos c3] at H
     have c3b0 : decide (1 ≤ x3_1) = true := decide_eq_true c3;clear c3;obtain rfl := Option.some.inj H;go_wp2;(try simp only [Exit.then, Exit.inBlock, LB.Goes.here, LB.Goes.ret, Exit.noGoto_ret]);go_ret;exact ⟨by first | rfl | (simp; done) | (simp [*]; done), by repeat (first | exact bv.refl _ | apply bv.step)⟩
    ·rw [if_neg c3] at H
     have c3b0 : decide (1 ≤ x3_1) = false := decide_eq_false c3;clear c3;obtain rfl := Option.some.inj H;go_wp2;(try simp only [Exit.then, Exit.inBlock, LB.Goes.here, LB.Goes.ret, Exit.noGoto_ret]);go_ret;exact ⟨by first | rfl | (simp; done) | (simp [*]; done), by repeat (first | exact bv.refl _ | apply bv.step)⟩
   ·rw [if_neg c2] at H
    have c2b0 : (x3_1 == (l0.length : Int)) = false := beq_eq_false_iff_ne.mpr c2;have c2b1 : (x3_1 != (l0.length : Int)) = true := bne_iff_ne.mpr c2;by_cases c4 : 0 ≤ x3_1
    ·rw [if_pos c4] at H
     have c4b0 : decide (0 ≤ x3_1) = true := decide_eq_true c4;clear c4;by_cases c5 : x3_1 < (l0.length : Int)
     ·rw [if_pos c5] at H
      have c5b0 : decide (x3_1 < (l0.length : Int)) = true := decide_eq_true c5;clear c5;by_cases c6 : (rd l0 x3_1) ≥ 0
      ·rw [if_pos c6] at H
       have c6b0 : decide (0 ≤ (rd l0 x3_1)) = true := decide_eq_true c6;clear c6;by_cases c7 : (rd l0 x3_1) ≤ 1099511627776
       ·rw [if_pos c7] at H
        have c7b0 : decide ((rd l0 x3_1) ≤ 1099511627776) = true := decide_eq_true c7;clear c7;have H' := aa.mk H;clear H;have p139 : 0 ≤ (x3_1 : Int) := of_decide_eq_true (by first | (with_reducible assumption) | assumption);have q139 : x3_1 < (l0.length : Int) := of_decide_eq_true (by first | (with_reducible assumption) | assumption);obtain ⟨ad139, e139, hx139_0⟩ := Kd.fw HR0.out x3_1 p139 q139;cases e139
        replace p139 := eq_true p139;replace q139 := eq_true q139;have p140 : 0 ≤ (x3_1 : Int) := of_decide_eq_true (by first | (with_reducible assumption) | assumption);have q140 : x3_1 < (l0.length : Int) := of_decide_eq_true (by first | (with_reducible assumption) | assumption);obtain ⟨ad140, e140, hx140_0⟩ := Kd.fw HR0.out x3_1 p140 q140;obtain rfl : ad139 = ad140 := (by injection e140)
        replace p140 := eq_true p140;replace q140 := eq_true q140;go_wp2;go_step3;(try simp only [Exit.then, Exit.inBlock]);(first | simp only [LB.Goes.here] | (rw [LB.Goes.there (by decide)]; simp only [LB.Goes.here]));go_step;go_roundg k1
        case measure => have := HK1.out; omega
        case rel => exact ⟨(wrap64 (x3_1 + 1)), (by first | rfl | (simp; done) | (simp [*]; done)), H', ⟨by have := HK1.out; omega⟩, by repeat (first | exact bv.refl _ | apply bv.step)⟩
       ·rw [if_neg c7] at H
        have c7b0 : decide ((rd l0 x3_1) ≤ 1099511627776) = false := decide_eq_false c7;clear c7;obtain rfl := Option.some.inj H;have p139 : 0 ≤ (x3_1 : Int) := of_decide_eq_true (by first | (with_reducible assumption) | assumption);have q139 : x3_1 < (l0.length : Int) := of_decide_eq_true (by first | (with_reducible assumption) | assumption);obtain ⟨ad139, e139, hx139_0⟩ := Kd.fw HR0.out x3_1 p139 q139;cases e139
        replace p139 := eq_true p139;replace q139 := eq_true q139;have p140 : 0 ≤ (x3_1 : Int) := of_decide_eq_true (by first | (with_reducible assumption) | assumption);have q140 : x3_1 < (l0.length : Int) := of_decide_eq_true (by first | (with_reducible assumption) | assumption);obtain ⟨ad140, e140, hx140_0⟩ := Kd.fw HR0.out x3_1 p140 q140;obtain rfl : ad139 = ad140 := (by injection e140)
        replace p140 := eq_true p140;replace q140 := eq_true q140;go_wp2;(try simp only [Exit.then, Exit.inBlock, LB.Goes.here, LB.Goes.ret, Exit.noGoto_ret]);go_ret;exact ⟨by first | rfl | (simp; done) | (simp [*]; done), by repeat (first | exact bv.refl _ | apply bv.step)⟩
      ·rw [if_neg c6] at H
       have c6b0 : decide (0 ≤ (rd l0 x3_1)) = false := decide_eq_false c6;clear c6;obtain rfl := Option.some.inj H;have p139 : 0 ≤ (x3_1 : Int) := of_decide_eq_true (by first | (with_reducible assumption) | assumption);have q139 : x3_1 < (l0.length : Int) := of_decide_eq_true (by first | (with_reducible assumption) | assumption);obtain ⟨ad139, e139, hx139_0⟩ := Kd.fw HR0.out x3_1 p139 q139;cases e139
       replace p139 := eq_true p139;replace q139 := eq_true q139;go_wp2;(try simp only [Exit.then, Exit.inBlock, LB.Goes.here, LB.Goes.ret, Exit.noGoto_ret]);go_ret;exact ⟨by first | rfl | (simp; done) | (simp [*]; done), by repeat (first | exact bv.refl _ | apply bv.step)⟩
     ·rw [if_neg c5] at H
      exact absurd H (by simp)
    ·rw [if_neg c4] at H
     exact absurd H (by simp)
theorem aJ.calls (k : Nat) (A0 : Option Addr) (c0 : Nat) (l0 : List Int) (r1 : List Int) (r2 : Int) (r3 : Int) (w : World) (hr0 : Kd.C (Kd.int .u8) w A0 l0.length l0) (hc0 : l0.length ≤ c0) (h : aJ.f k l0 = some (r1, r2, r3)) :
  Calls Try.prog 101 #[.slice A0 l0.length c0] w fun e w' => ∃ v0_ : Value, e = .returned (.tuple #[v0_, .int .i64 r2, .int .i64 r3]) ∧ Kd.R (Kd.int .i64) 3 w' w.heap.size (fun _ => True) v0_ r1 ∧ Below w.heap.size w w' := by
 have HR0 := aa.mk hr0;have HC0 := aa.mk hc0;clear hr0 hc0;have HB := aa.mk (Below.refl w.heap.size w);have H : ((af.f k l0).bind fun bt141 => (if bt141.2.2 = 0 then (if bt141.1 > 1024 then (some (([] : List Int), 0, 1)) else (aJ.l0 k l0 ([] : List Int) bt141.2.1 bt141.1 0)) else (some (([] : List Int), 0, bt141.2.2)))) = some (r1, r2, r3) := h;clear h;replace H := Option.bind_eq_some_iff.mp H;obtain ⟨⟨t141, t142, t143⟩, A20, H⟩ := H;(try dsimp only at H);have A2 := aa.mk A20;clear A20;by_cases c3 : t143 = 0
 ·rw [if_pos c3] at H
  have c3b0 : (t143 == 0) = true := beq_iff_eq.mpr c3;have c3b1 : (t143 != 0) = false := bne_eq_false_iff_eq.mpr c3;clear c3;by_cases c4 : t141 > 1024
  ·rw [if_pos c4] at H
   have c4b0 : decide (1024 < t141) = true := decide_eq_true c4;clear c4;simp only [Option.some.injEq, Prod.mk.injEq] at H;obtain ⟨rfl, rfl, rfl⟩ := H;go_enter Try.func101, Try.ntmps101;go_wp2_with (first | ((with_reducible refine aI (f := 102) rfl ?_); refine bL (some 11) rfl rfl Try.func102 (by kernel_rfl) rfl #[.slice A0 l0.length c0] rfl (by (try simp only [SB.lA, SB.lC, SB.lN]); first | done | rfl | (simp only [SB.lD, SB.lT]; rfl)) ?_; (with_reducible refine (af.calls k _ _ l0 t141 t142 t143 _ ?side1 ?side2 A2.out).mono ?_); (case side1 => repeat (first | exact HR0.out | with_reducible first | refine Kd.bS ?_ _ | refine Kd.bQ ?_ _ | refine Kd.dm ?_)); (case side2 => exact HC0.out); rintro e w' ⟨rfl, ⟨nd, rfl⟩⟩; refine ⟨_, rfl, ?_⟩));go_ret3;exact ⟨_, by first | rfl | (simp [aj, ai] <;> rfl) | (simp [*, aj, ai] <;> rfl), by first | exact Kd.R_nil _ _ _ _ _ | exact Kd.N_nil _ _ _ _ _ | exact Kd.V_nil _ _ _ _ _ | exact Kd.Q_nil _ _ _ _ _ | exact Kd.S_nil _ _ _ _ _, by exact rud HB.out rfl rfl rfl rfl⟩
  ·rw [if_neg c4] at H
   have c4b0 : decide (1024 < t141) = false := decide_eq_false c4;clear c4;have H' := aa.mk H;clear H;go_enter Try.func101, Try.ntmps101;go_wp2_with (first | ((with_reducible refine aI (f := 102) rfl ?_); refine bL (some 11) rfl rfl Try.func102 (by kernel_rfl) rfl #[.slice A0 l0.length c0] rfl (by (try simp only [SB.lA, SB.lC, SB.lN]); first | done | rfl | (simp only [SB.lD, SB.lT]; rfl)) ?_; (with_reducible refine (af.calls k _ _ l0 t141 t142 t143 _ ?side1 ?side2 A2.out).mono ?_); (case side1 => repeat (first | exact HR0.out | with_reducible first | refine Kd.bS ?_ _ | refine Kd.bQ ?_ _ | refine Kd.dm ?_)); (case side2 => exact HC0.out); rintro e w' ⟨rfl, ⟨nd, rfl⟩⟩; refine ⟨_, rfl, ?_⟩));go_loopg [2, 3, 21] k (fun kq v2 v3 v21 w' => ∃ (x2_1 : List Int) (x3_1 : Int) (x21_1 : Int), v3 = .int .i64 x3_1 ∧ v21 = .int .i64 x21_1 ∧ aa (aJ.l0 kq l0 x2_1 x3_1 t141 x21_1 = some (r1, r2, r3)) ∧ aa (kq ≤ k) ∧ aa (Kd.R (Kd.int .i64) 3 w' w.heap.size (fun _ => True) v2 x2_1) ∧ aa (Below w.heap.size w w'))
   case atStart => exact ⟨(([] : List Int)), (t142), (0), (by first | rfl | (simp; done) | (simp [*]; done)), (by first | rfl | (simp; done) | (simp [*]; done)), H', ⟨Nat.le_refl _⟩, ⟨by first | exact Kd.R_nil _ _ _ _ _ | exact Kd.N_nil _ _ _ _ _ | exact Kd.V_nil _ _ _ _ _ | exact Kd.Q_nil _ _ _ _ _ | exact Kd.S_nil _ _ _ _ _⟩, ⟨by exact rud HB.out rfl rfl rfl rfl⟩⟩
   case round =>
    clear H';(try clear c1 p2 c3 c3b0 c3b1 c4 c4b0);obtain ⟨x2_1, x3_1, x21_1, rfl, rfl, HA, HK1, HO_2, HB⟩ := hrel;cases gk with
    | zero => exact absurd HA.out (by simp [aJ.l0])
    | succ k1 =>
     have H := HA.out;clear HA;simp only [aJ.l0] at H;by_cases c5 : x21_1 < t141
     ·rw [if_pos c5] at H
      have c5b0 : decide (x21_1 < t141) = true := decide_eq_true c5;clear c5;by_cases c6 : 0 ≤ x3_1
      ·rw [if_pos c6] at H
       have c6b0 := eq_true c6;have c6b1 : decide (0 ≤ x3_1) = true := decide_eq_true c6;clear c6;by_cases c7 : x3_1 ≤ (l0.length : Int)
       ·rw [if_pos c7] at H
        have c7b0 := eq_true c7;have c7b1 : decide (x3_1 ≤ (l0.length : Int)) = true := decide_eq_true c7;clear c7;replace H := Option.bind_eq_some_iff.mp H;obtain ⟨⟨t145, t146, t147⟩, A80, H⟩ := H;(try dsimp only at H);have A8 := aa.mk A80;clear A80;by_cases c9 : t147 = 0
        ·rw [if_pos c9] at H
         have c9b0 : (t147 == 0) = true := beq_iff_eq.mpr c9;have c9b1 : (t147 != 0) = false := bne_eq_false_iff_eq.mpr c9;clear c9;by_cases c10 : x2_1.length < 17592186044416
         ·rw [if_pos c10] at H
          have LMc10 := aa.mk c10;clear c10;obtain ⟨y148, hy148⟩ : ∃ y_ : List Int, y_ = (x2_1 ++ [t145]) := ⟨_, rfl⟩
          replace H : (aJ.l0 k1 l0 y148 (wrap64 (x3_1 + t146)) t141 (wrap64 (x21_1 + 1))) = some (r1, r2, r3) := by first | (rw [hy148]; with_reducible exact H) | (have H2_ := (Option.bind_some _ _).symm.trans H; rw [hy148]; with_reducible exact H2_) | (have H2_ := (Option.bind_some _ _).symm.trans H; with_reducible exact H2_) | with_reducible exact H | (rw [hy148]; exact H) | exact H
          have Ny148 := aa.mk hy148;clear hy148;have H' := aa.mk H;clear H;obtain ⟨i011, hi011, _, hsz11, _⟩ := info_parts info5;obtain ⟨A11, hcut11, hA11, hC11⟩ := eD (P := Try.prog) (Value.int .u8) 0 29 5 .i64 Try.underlying29 hi011 hsz11 A0 c0 l0 x3_1 (of_decide_eq_true (by first | (with_reducible assumption) | assumption)) (of_decide_eq_true (by first | (with_reducible assumption) | assumption)) HC0.out;have HR144 := aa.mk (Kd.fC (h1 := fun _ => rfl) (hA11 _ (Kd.eT HR0.out)));have HC144 := aa.mk hC11;clear hA11 hC11 hi011 hsz11;go_wp2_with (first | ((with_reducible refine aI (f := 102) rfl ?_); refine bL (some 27) rfl rfl Try.func102 (by kernel_rfl) rfl #[.slice A11 (l0.drop (x3_1 : Int).toNat).length (c0 - x3_1.toNat)] rfl (by (try simp only [SB.lA, SB.lC, SB.lN]); first | done | (rw [show (l0.drop (x3_1 : Int).toNat).length = (l0.length - x3_1.toNat) from List.length_drop] <;> rfl) | rfl | (simp only [SB.lD, SB.lT]; rfl)) ?_; (with_reducible refine (af.calls k1 _ _ (l0.drop (x3_1 : Int).toNat) t145 t146 t147 _ ?side1 ?side2 A8.out).mono ?_); (case side1 => repeat (first | exact (Kd.df HR144.out HB.out) | with_reducible first | refine Kd.bS ?_ _ | refine Kd.bQ ?_ _ | refine Kd.dm ?_)); (case side2 => exact HC144.out); rintro e w' ⟨rfl, ⟨nd, rfl⟩⟩; refine ⟨_, rfl, ?_⟩) | ((with_reducible refine gate_builtin (b := .append) (xs := #[.tmp 34, .tmp 36]) rfl ?_); at_builtin; refine Kd.R_append (Kd.int .i64) (w0 := w) w.heap.size rfl (.tmp 34) (.tmp 36) 26 3 (.int .i64 0) 8 rfl Try.underlying26 info3 rfl (by decide) (by omega) u2 x2_1 t145 [.int .i64 t145] (fun _ => True) (fun _ => False) rfl rfl ?aP (fun _ hk => hk.elim) ?aF ?aO ?aB ?aS ?aL ?_; (case aP => exact rfl); (case aB => exact (by exact rud HB.out rfl rfl rfl rfl)); (case aF => exact (fun _ _ => trivial)); (case aO => exact (by (with_reducible repeat (first | apply Kd.bJ | apply Kd.bI | apply Kd.bK)); exact HO_2.out)); (case aS => exact (gM (by exact rud HB.out rfl rfl rfl rfl))); (case aL => have := LMc10.out; omega); intro v149 w12 ho hb hg hat; rw [← Ny148.out] at ho; have n0_ := aa.mk (hb); have n1_ := aa.mk (ho); clear HB HO_2; have HB := n0_; have HO150 := n1_; clear n0_ n1_ ho hb hg hat));go_roundg k1
          case measure => have := HK1.out; omega
          case rel => exact ⟨(y148), (wrap64 (x3_1 + t146)), (wrap64 (x21_1 + 1)), (by first | rfl | (simp; done) | (simp [*]; done)), (by first | rfl | (simp; done) | (simp [*]; done)), H', ⟨by have := HK1.out; omega⟩, ⟨by (with_reducible repeat (first | apply Kd.bJ | apply Kd.bI | apply Kd.bK)); exact HO150.out⟩, ⟨by exact rud HB.out rfl rfl rfl rfl⟩⟩
         ·rw [if_neg c10] at H
          exact absurd H (by simp)
        ·rw [if_neg c9] at H
         have c9b0 : (t147 == 0) = false := beq_eq_false_iff_ne.mpr c9;have c9b1 : (t147 != 0) = true := bne_iff_ne.mpr c9;simp only [Option.some.injEq, Prod.mk.injEq] at H;obtain ⟨rfl, rfl, rfl⟩ := H;obtain ⟨i013, hi013, _, hsz13, _⟩ := info_parts info5;obtain ⟨A13, hcut13, hA13, hC13⟩ := eD (P := Try.prog) (Value.int .u8) 0 29 5 .i64 Try.underlying29 hi013 hsz13 A0 c0 l0 x3_1 (of_decide_eq_true (by first | (with_reducible assumption) | assumption)) (of_decide_eq_true (by first | (with_reducible assumption) | assumption)) HC0.out;have HR144 := aa.mk (Kd.fC (h1 := fun _ => rfl) (hA13 _ (Kd.eT HR0.out)));have HC144 := aa.mk hC13;clear hA13 hC13 hi013 hsz13;go_wp2_with (first | ((with_reducible refine aI (f := 102) rfl ?_); refine bL (some 27) rfl rfl Try.func102 (by kernel_rfl) rfl #[.slice A13 (l0.drop (x3_1 : Int).toNat).length (c0 - x3_1.toNat)] rfl (by (try simp only [SB.lA, SB.lC, SB.lN]); first | done | (rw [show (l0.drop (x3_1 : Int).toNat).length = (l0.length - x3_1.toNat) from List.length_drop] <;> rfl) | rfl | (simp only [SB.lD, SB.lT]; rfl)) ?_; (with_reducible refine (af.calls k1 _ _ (l0.drop (x3_1 : Int).toNat) t145 t146 t147 _ ?side1 ?side2 A8.out).mono ?_); (case side1 => repeat (first | exact (Kd.df HR144.out HB.out) | with_reducible first | refine Kd.bS ?_ _ | refine Kd.bQ ?_ _ | refine Kd.dm ?_)); (case side2 => exact HC144.out); rintro e w' ⟨rfl, ⟨nd, rfl⟩⟩; refine ⟨_, rfl, ?_⟩));go_ret3;exact ⟨_, by first | rfl | (simp [aj, ai] <;> rfl) | (simp [*, aj, ai] <;> rfl), by first | exact Kd.R_nil _ _ _ _ _ | exact Kd.N_nil _ _ _ _ _ | exact Kd.V_nil _ _ _ _ _ | exact Kd.Q_nil _ _ _ _ _ | exact Kd.S_nil _ _ _ _ _, by exact rud HB.out rfl rfl rfl rfl⟩
       ·rw [if_neg c7] at H
        exact absurd H (by simp)
      ·rw [if_neg c6] at H
       exact absurd H (by simp)
     ·rw [if_neg c5] at H
      have c5b0 : decide (x21_1 < t141) = false := decide_eq_false c5;clear c5;simp only [Option.some.injEq, Prod.mk.injEq] at H;obtain ⟨rfl, rfl, rfl⟩ := H;go_wp2;go_ret3;exact ⟨_, by first | rfl | (simp [aj, ai] <;> rfl) | (simp [*, aj, ai] <;> rfl), by (with_reducible repeat (first | apply Kd.bJ | apply Kd.bI | apply Kd.bK)); exact HO_2.out, by exact rud HB.out rfl rfl rfl rfl⟩
 ·rw [if_neg c3] at H
  have c3b0 : (t143 == 0) = false := beq_eq_false_iff_ne.mpr c3;have c3b1 : (t143 != 0) = true := bne_iff_ne.mpr c3;simp only [Option.some.injEq, Prod.mk.injEq] at H;obtain ⟨rfl, rfl, rfl⟩ := H;go_enter Try.func101, Try.ntmps101;go_wp2_with (first | ((with_reducible refine aI (f := 102) rfl ?_); refine bL (some 11) rfl rfl Try.func102 (by kernel_rfl) rfl #[.slice A0 l0.length c0] rfl (by (try simp only [SB.lA, SB.lC, SB.lN]); first | done | rfl | (simp only [SB.lD, SB.lT]; rfl)) ?_; (with_reducible refine (af.calls k _ _ l0 t141 t142 t143 _ ?side1 ?side2 A2.out).mono ?_); (case side1 => repeat (first | exact HR0.out | with_reducible first | refine Kd.bS ?_ _ | refine Kd.bQ ?_ _ | refine Kd.dm ?_)); (case side2 => exact HC0.out); rintro e w' ⟨rfl, ⟨nd, rfl⟩⟩; refine ⟨_, rfl, ?_⟩));go_ret3;exact ⟨_, by first | rfl | (simp [aj, ai] <;> rfl) | (simp [*, aj, ai] <;> rfl), by first | exact Kd.R_nil _ _ _ _ _ | exact Kd.N_nil _ _ _ _ _ | exact Kd.V_nil _ _ _ _ _ | exact Kd.Q_nil _ _ _ _ _ | exact Kd.S_nil _ _ _ _ _, by exact rud HB.out rfl rfl rfl rfl⟩
theorem cB.calls (k : Nat) (A0 : Option Addr) (c0 : Nat) (l0 : List Int) (r1 : List Int) (r2 : Int) (r3 : Int) (w : World) (hr0 : Kd.C (Kd.int .u8) w A0 l0.length l0) (hc0 : l0.length ≤ c0) (h : cB.f k l0 = some (r1, r2, r3)) :
  Calls Try.prog 79 #[.slice A0 l0.length c0] w fun e w' => ∃ v0_ : Value, e = .returned (.tuple #[v0_, .int .i64 r2, .int .i64 r3]) ∧ Kd.R (Kd.int .i64) 3 w' w.heap.size (fun _ => True) v0_ r1 ∧ Below w.heap.size w w' := by
 have HR0 := aa.mk hr0;have HC0 := aa.mk hc0;clear hr0 hc0;have HB := aa.mk (Below.refl w.heap.size w);have H : ((aJ.f k l0).bind fun bt151 => (if bt151.2.2 = 0 then ((bD.f k bt151.1).bind fun t156 => (if t156 = true then (some (bt151.1, bt151.2.1, 0)) else (some (([] : List Int), 0, 1)))) else (some (([] : List Int), 0, bt151.2.2)))) = some (r1, r2, r3) := h;clear h;replace H := Option.bind_eq_some_iff.mp H;obtain ⟨⟨t151, t152, t153⟩, A20, H⟩ := H;(try dsimp only at H);have A2 := aa.mk A20;clear A20;by_cases c3 : t153 = 0
 ·rw [if_pos c3] at H
  have c3b0 : (t153 == 0) = true := beq_iff_eq.mpr c3;have c3b1 : (t153 != 0) = false := bne_eq_false_iff_eq.mpr c3;clear c3;replace H := Option.bind_eq_some_iff.mp H;obtain ⟨t156, A40, H⟩ := H;replace H : (if t156 = true then (some (t151, t152, 0)) else (some (([] : List Int), 0, 1))) = some (r1, r2, r3) := H;have A4 := aa.mk A40;clear A40;by_cases c5 : t156 = true
  ·subst c5
   have H1 : (some (t151, t152, 0)) = some (r1, r2, r3) := by rw [if_pos rfl] at H; exact H
   clear H;have H := H1;clear H1;simp only [Option.some.injEq, Prod.mk.injEq] at H;obtain ⟨rfl, rfl, rfl⟩ := H;go_enter Try.func79, Try.ntmps79;go_wp2_with (first | ((with_reducible refine aI (f := 101) rfl ?_); refine bL (some 7) rfl rfl Try.func101 (by kernel_rfl) rfl #[.slice A0 l0.length c0] rfl (by (try simp only [SB.lA, SB.lC, SB.lN]); first | done | rfl | (simp only [SB.lD, SB.lT]; rfl)) ?_; (with_reducible refine (aJ.calls k _ _ l0 t151 t152 t153 _ ?side1 ?side2 A2.out).mono ?_); (case side1 => repeat (first | exact HR0.out | with_reducible first | refine Kd.bS ?_ _ | refine Kd.bQ ?_ _ | refine Kd.dm ?_)); (case side2 => exact HC0.out); rintro e w6 ⟨v154, rfl, ho0, hb⟩; refine ⟨_, rfl, ?_⟩; replace hb : Below (World.heap w).size w w6 := ⟨hb.os, hb.tape, hb.output, hb.size, hb.block⟩; have n0_ := aa.mk (Kd.eB ho0 HB.out.size); have n1_ := aa.mk (ax HB.out hb); clear HB; have HO155 := n0_; have HB := n1_; clear n0_ n1_; (try clear hb hb2 hk hi ho0); obtain ⟨Ao7, co7, eo7⟩ := Kd.dA HO155.out; subst eo7) | ((with_reducible refine aI (f := 84) rfl ?_); refine bL (some 17) rfl rfl Try.func84 (by kernel_rfl) rfl #[.slice Ao7 t151.length co7] rfl (by (try simp only [SB.lA, SB.lC, SB.lN]); first | done | rfl | (simp only [SB.lD, SB.lT]; rfl)) ?_; (with_reducible refine (bD.calls k _ _ t151 true _ ?side1 ?side2 A4.out).mono ?_); (case side1 => repeat (first | exact (Kd.dz HO155.out).2.2 | with_reducible first | refine Kd.bS ?_ _ | refine Kd.bQ ?_ _ | refine Kd.dm ?_)); (case side2 => exact (Kd.dz HO155.out).2.1); rintro e w' ⟨rfl, ⟨nd, rfl⟩⟩; refine ⟨_, rfl, ?_⟩));go_ret3;exact ⟨_, by first | rfl | (simp [aj, ai] <;> rfl) | (simp [*, aj, ai] <;> rfl), by (with_reducible repeat (first | apply Kd.bJ | apply Kd.bI | apply Kd.bK)); exact HO155.out, by exact rud HB.out rfl rfl rfl rfl⟩
  ·replace c5 := Bool.eq_false_iff.mpr c5
   subst c5;have H1 : (some (([] : List Int), 0, 1)) = some (r1, r2, r3) := by rw [if_neg (show ¬ (false = true) by decide)] at H; exact H
   clear H;have H := H1;clear H1;simp only [Option.some.injEq, Prod.mk.injEq] at H;obtain ⟨rfl, rfl, rfl⟩ := H;go_enter Try.func79, Try.ntmps79;go_wp2_with (first | ((with_reducible refine aI (f := 101) rfl ?_); refine bL (some 7) rfl rfl Try.func101 (by kernel_rfl) rfl #[.slice A0 l0.length c0] rfl (by (try simp only [SB.lA, SB.lC, SB.lN]); first | done | rfl | (simp only [SB.lD, SB.lT]; rfl)) ?_; (with_reducible refine (aJ.calls k _ _ l0 t151 t152 t153 _ ?side1 ?side2 A2.out).mono ?_); (case side1 => repeat (first | exact HR0.out | with_reducible first | refine Kd.bS ?_ _ | refine Kd.bQ ?_ _ | refine Kd.dm ?_)); (case side2 => exact HC0.out); rintro e w8 ⟨v154, rfl, ho0, hb⟩; refine ⟨_, rfl, ?_⟩; replace hb : Below (World.heap w).size w w8 := ⟨hb.os, hb.tape, hb.output, hb.size, hb.block⟩; have n0_ := aa.mk (Kd.eB ho0 HB.out.size); have n1_ := aa.mk (ax HB.out hb); clear HB; have HO155 := n0_; have HB := n1_; clear n0_ n1_; (try clear hb hb2 hk hi ho0); obtain ⟨Ao9, co9, eo9⟩ := Kd.dA HO155.out; subst eo9) | ((with_reducible refine aI (f := 84) rfl ?_); refine bL (some 17) rfl rfl Try.func84 (by kernel_rfl) rfl #[.slice Ao9 t151.length co9] rfl (by (try simp only [SB.lA, SB.lC, SB.lN]); first | done | rfl | (simp only [SB.lD, SB.lT]; rfl)) ?_; (with_reducible refine (bD.calls k _ _ t151 false _ ?side1 ?side2 A4.out).mono ?_); (case side1 => repeat (first | exact (Kd.dz HO155.out).2.2 | with_reducible first | refine Kd.bS ?_ _ | refine Kd.bQ ?_ _ | refine Kd.dm ?_)); (case side2 => exact (Kd.dz HO155.out).2.1); rintro e w' ⟨rfl, ⟨nd, rfl⟩⟩; refine ⟨_, rfl, ?_⟩));go_ret3;exact ⟨_, by first | rfl | (simp [aj, ai] <;> rfl) | (simp [*, aj, ai] <;> rfl), by first | exact Kd.R_nil _ _ _ _ _ | exact Kd.N_nil _ _ _ _ _ | exact Kd.V_nil _ _ _ _ _ | exact Kd.Q_nil _ _ _ _ _ | exact Kd.S_nil _ _ _ _ _, by exact rud HB.out rfl rfl rfl rfl⟩
 ·rw [if_neg c3] at H
  have c3b0 : (t153 == 0) = false := beq_eq_false_iff_ne.mpr c3;have c3b1 : (t153 != 0) = true := bne_iff_ne.mpr c3;simp only [Option.some.injEq, Prod.mk.injEq] at H;obtain ⟨rfl, rfl, rfl⟩ := H;go_enter Try.func79, Try.ntmps79;go_wp2_with (first | ((with_reducible refine aI (f := 101) rfl ?_); refine bL (some 7) rfl rfl Try.func101 (by kernel_rfl) rfl #[.slice A0 l0.length c0] rfl (by (try simp only [SB.lA, SB.lC, SB.lN]); first | done | rfl | (simp only [SB.lD, SB.lT]; rfl)) ?_; (with_reducible refine (aJ.calls k _ _ l0 t151 t152 t153 _ ?side1 ?side2 A2.out).mono ?_); (case side1 => repeat (first | exact HR0.out | with_reducible first | refine Kd.bS ?_ _ | refine Kd.bQ ?_ _ | refine Kd.dm ?_)); (case side2 => exact HC0.out); rintro e w10 ⟨v154, rfl, ho0, hb⟩; refine ⟨_, rfl, ?_⟩; replace hb : Below (World.heap w).size w w10 := ⟨hb.os, hb.tape, hb.output, hb.size, hb.block⟩; have n0_ := aa.mk (Kd.eB ho0 HB.out.size); have n1_ := aa.mk (ax HB.out hb); clear HB; have HO155 := n0_; have HB := n1_; clear n0_ n1_; (try clear hb hb2 hk hi ho0)));go_ret3;exact ⟨_, by first | rfl | (simp [aj, ai] <;> rfl) | (simp [*, aj, ai] <;> rfl), by first | exact Kd.R_nil _ _ _ _ _ | exact Kd.N_nil _ _ _ _ _ | exact Kd.V_nil _ _ _ _ _ | exact Kd.Q_nil _ _ _ _ _ | exact Kd.S_nil _ _ _ _ _, by exact rud HB.out rfl rfl rfl rfl⟩
theorem aU.calls (k : Nat) (g : Nat) (s0_0 : List Int) (s0_1 : Int) (s0_2 : Int) (r1 : Int) (r2 : Int) (r3 : Int) (w0 w : World) (hI : aN w0 w g s0_0 s0_1 s0_2) (hB : Below w0.heap.size w0 w) (h : aU.f k s0_0 s0_1 s0_2 = some (r1, r2, r3)) :
  Calls Try.prog 81 #[.pointer (some ⟨g, 0, none⟩)] w fun e w' => e = .returned (.int .i64 r1) ∧ aN w0 w' g s0_0 r2 r3 ∧ Below w0.heap.size w0 w' ∧ bi w w' g none := by
 have HI0 := aa.mk hI;have HK := aa.mk (bi.refl w g none);have HL := aa.mk hB.size;clear hI;have HW0 := aa.mk hB.size;have HB := aa.mk hB;clear hB;have H : (if 0 ≤ s0_1 then (if s0_1 ≤ (s0_0.length : Int) then ((af.f k (s0_0.drop (s0_1 : Int).toNat)).bind fun bt158 => ((bz.f s0_0 s0_1 s0_2 bt158.2.1 bt158.2.2).bind fun bt161 => (some (bt158.1, bt161.1, bt161.2)))) else (none)) else (none)) = some (r1, r2, r3) := h;clear h;by_cases c2 : 0 ≤ s0_1
 ·rw [if_pos c2] at H
  have c2b0 := eq_true c2;have c2b1 : decide (0 ≤ s0_1) = true := decide_eq_true c2;clear c2;by_cases c3 : s0_1 ≤ (s0_0.length : Int)
  ·rw [if_pos c3] at H
   have c3b0 := eq_true c3;have c3b1 : decide (s0_1 ≤ (s0_0.length : Int)) = true := decide_eq_true c3;clear c3;replace H := Option.bind_eq_some_iff.mp H;obtain ⟨⟨t158, t159, t160⟩, A40, H⟩ := H;replace H : ((bz.f s0_0 s0_1 s0_2 t159 t160).bind fun bt161 => (some (t158, bt161.1, bt161.2))) = some (r1, r2, r3) := H;have A4 := aa.mk A40;clear A40;replace H := Option.bind_eq_some_iff.mp H;obtain ⟨⟨t161, t162⟩, A50, H⟩ := H;replace H : (some (t158, t161, t162)) = some (r1, r2, r3) := H;have A5 := aa.mk A50;clear A50;simp only [Option.some.injEq, Prod.mk.injEq] at H;obtain ⟨rfl, rfl, rfl⟩ := H;obtain ⟨ASz6_0, cSz6_0, HGz6, hgz6, HSz6_0, HcSz6_0⟩ := HI0.out;have C6_0 := gm HGz6;have C6_1 := fH HGz6;have C6_2 := fU HGz6;have F6_1 := aC HGz6 1;have F6_2 := aC HGz6 2;clear HGz6 hgz6;have HRSz6_0 := aa.mk HSz6_0;have HCSz6_0 := aa.mk HcSz6_0;obtain ⟨i07, hi07, _, hsz7, _⟩ := info_parts info5;obtain ⟨A7, hcut7, hA7, hC7⟩ := eD (P := Try.prog) (Value.int .u8) 0 29 5 .i64 Try.underlying29 hi07 hsz7 ASz6_0 cSz6_0 s0_0 s0_1 (of_decide_eq_true (by first | (with_reducible assumption) | assumption)) (of_decide_eq_true (by first | (with_reducible assumption) | assumption)) HCSz6_0.out;have HR157 := aa.mk (Kd.fC (h1 := fun _ => rfl) (hA7 _ (Kd.eT HRSz6_0.out)));have HC157 := aa.mk hC7;clear hA7 hC7 hi07 hsz7;go_enter Try.func81, Try.ntmps81;go_wp2_with (first | (go_at_call 102; refine calls_of_args (args' := #[.slice A7 (s0_0.drop (s0_1 : Int).toNat).length (cSz6_0 - s0_1.toNat)]) (by first | (rw [show (s0_0.drop (s0_1 : Int).toNat).length = (s0_0.length - s0_1.toNat) from List.length_drop] <;> rfl) | rfl) ?_; (with_reducible refine (af.calls k _ _ (s0_0.drop (s0_1 : Int).toNat) t158 t159 t160 _ ?side1 ?side2 A4.out).mono ?_); (case side1 => exact Kd.df HR157.out (by exact rud HB.out rfl rfl rfl rfl)); (case side2 => exact HC157.out); rintro e w' ⟨rfl, ⟨nd, rfl⟩⟩; (try first | exact ⟨rfl, _, World.drewN_drewN _ _ _⟩ | exact ⟨rfl, _, Eq.trans (World.drewN_drewN _ _ _) (congrArg (World.drewN _) (Nat.add_assoc _ _ _))⟩)) | (go_at_call 80; (with_reducible refine (bz.calls g s0_0 s0_1 s0_2 t159 t160 t161 t162 w0 _ ?side1 ?side2 A5.out).mono ?_); (case side1 => exact HI0.out); (case side2 => exact rud HB.out rfl rfl rfl rfl); rintro e w8 ⟨rfl, hi, hb, hk⟩; have n0_ := aa.mk (bi.trans (by exact HK.out) hk (.inl rfl)); have n1_ := aa.mk (hb); have n2_ := aa.mk (hi); clear HK HB HI0; have HK := n0_; have HB := n1_; have HI0 := n2_; clear n0_ n1_ n2_; (try clear hb hb2 hk hi)));repeat (go_quiet (first | (go_at_call 102; refine calls_of_args (args' := #[.slice A7 (s0_0.drop (s0_1 : Int).toNat).length (cSz6_0 - s0_1.toNat)]) (by first | (rw [show (s0_0.drop (s0_1 : Int).toNat).length = (s0_0.length - s0_1.toNat) from List.length_drop] <;> rfl) | rfl) ?_; (with_reducible refine (af.calls k _ _ (s0_0.drop (s0_1 : Int).toNat) t158 t159 t160 _ ?side1 ?side2 A4.out).mono ?_); (case side1 => exact Kd.df HR157.out (by exact rud HB.out rfl rfl rfl rfl)); (case side2 => exact HC157.out); rintro e w' ⟨rfl, ⟨nd, rfl⟩⟩; (try first | exact ⟨rfl, _, World.drewN_drewN _ _ _⟩ | exact ⟨rfl, _, Eq.trans (World.drewN_drewN _ _ _) (congrArg (World.drewN _) (Nat.add_assoc _ _ _))⟩)) | (go_at_call 80; (with_reducible refine (bz.calls g s0_0 s0_1 s0_2 t159 t160 t161 t162 w0 _ ?side1 ?side2 A5.out).mono ?_); (case side1 => exact HI0.out); (case side2 => exact rud HB.out rfl rfl rfl rfl); rintro e w8 ⟨rfl, hi, hb, hk⟩; have n0_ := aa.mk (bi.trans (by exact HK.out) hk (.inl rfl)); have n1_ := aa.mk (hb); have n2_ := aa.mk (hi); clear HK HB HI0; have HK := n0_; have HB := n1_; have HI0 := n2_; clear n0_ n1_ n2_; (try clear hb hb2 hk hi))); try go_wp2_with (first | (go_at_call 102; refine calls_of_args (args' := #[.slice A7 (s0_0.drop (s0_1 : Int).toNat).length (cSz6_0 - s0_1.toNat)]) (by first | (rw [show (s0_0.drop (s0_1 : Int).toNat).length = (s0_0.length - s0_1.toNat) from List.length_drop] <;> rfl) | rfl) ?_; (with_reducible refine (af.calls k _ _ (s0_0.drop (s0_1 : Int).toNat) t158 t159 t160 _ ?side1 ?side2 A4.out).mono ?_); (case side1 => exact Kd.df HR157.out (by exact rud HB.out rfl rfl rfl rfl)); (case side2 => exact HC157.out); rintro e w' ⟨rfl, ⟨nd, rfl⟩⟩; (try first | exact ⟨rfl, _, World.drewN_drewN _ _ _⟩ | exact ⟨rfl, _, Eq.trans (World.drewN_drewN _ _ _) (congrArg (World.drewN _) (Nat.add_assoc _ _ _))⟩)) | (go_at_call 80; (with_reducible refine (bz.calls g s0_0 s0_1 s0_2 t159 t160 t161 t162 w0 _ ?side1 ?side2 A5.out).mono ?_); (case side1 => exact HI0.out); (case side2 => exact rud HB.out rfl rfl rfl rfl); rintro e w8 ⟨rfl, hi, hb, hk⟩; have n0_ := aa.mk (bi.trans (by exact HK.out) hk (.inl rfl)); have n1_ := aa.mk (hb); have n2_ := aa.mk (hi); clear HK HB HI0; have HK := n0_; have HB := n1_; have HI0 := n2_; clear n0_ n1_ n2_; (try clear hb hb2 hk hi))))
   go_ret;exact ⟨by first | rfl | (simp [aj, ai] <;> rfl) | (simp [*, aj, ai] <;> rfl), by exact HI0.out, by exact rud HB.out rfl rfl rfl rfl, by exact HK.out⟩
  ·rw [if_neg c3] at H
   exact absurd H (by simp)
 ·rw [if_neg c2] at H
  exact absurd H (by simp)
theorem bA.calls (k : Nat) (A0 : Option Addr) (c0 : Nat) (l0 : List Int) (r1 : ByteArray) (r2 : Int) (r3 : Int) (w : World) (hr0 : Kd.C (Kd.int .u8) w A0 l0.length l0) (hc0 : l0.length ≤ c0) (h : bA.f k l0 = some (r1, r2, r3)) :
  Calls Try.prog 82 #[.slice A0 l0.length c0] w fun e w' => e = .returned (.tuple #[.string r1, .int .i64 r2, .int .i64 r3]) ∧ bv w w' := by
 have HR0 := aa.mk hr0;have HC0 := aa.mk hc0;clear hr0 hc0;have H : ((af.f k l0).bind fun bt163 => (if bt163.2.2 = 0 then (if bt163.1 > 65536 then (some ((⟨#[]⟩ : ByteArray), 0, 1)) else (if bt163.1 > (wrap64 ((l0.length : Int) - bt163.2.1)) then (some ((⟨#[]⟩ : ByteArray), 0, 7)) else (if 0 ≤ bt163.2.1 then (if bt163.2.1 ≤ (wrap64 (bt163.2.1 + bt163.1)) then (if (wrap64 (bt163.2.1 + bt163.1)) ≤ (l0.length : Int) then (some (strOfNums ((l0.take ((wrap64 (bt163.2.1 + bt163.1)) : Int).toNat).drop (bt163.2.1 : Int).toNat), wrap64 (bt163.2.1 + bt163.1), 0)) else (none)) else (none)) else (none)))) else (some ((⟨#[]⟩ : ByteArray), 0, bt163.2.2)))) = some (r1, r2, r3) := h;clear h;replace H := Option.bind_eq_some_iff.mp H;obtain ⟨⟨t163, t164, t165⟩, A20, H⟩ := H;(try dsimp only at H);have A2 := aa.mk A20;clear A20;by_cases c3 : t165 = 0
 ·rw [if_pos c3] at H
  have c3b0 : (t165 == 0) = true := beq_iff_eq.mpr c3;have c3b1 : (t165 != 0) = false := bne_eq_false_iff_eq.mpr c3;clear c3;by_cases c4 : t163 > 65536
  ·rw [if_pos c4] at H
   have c4b0 : decide (65536 < t163) = true := decide_eq_true c4;clear c4;simp only [Option.some.injEq, Prod.mk.injEq] at H;obtain ⟨rfl, rfl, rfl⟩ := H;go_enter Try.func82, Try.ntmps82;go_wp2_with (first | ((with_reducible refine aI (f := 102) rfl ?_); refine bL (some 8) rfl rfl Try.func102 (by kernel_rfl) rfl #[.slice A0 l0.length c0] rfl (by (try simp only [SB.lA, SB.lC, SB.lN]); first | done | rfl | (simp only [SB.lD, SB.lT]; rfl)) ?_; (with_reducible refine (af.calls k _ _ l0 t163 t164 t165 _ ?side1 ?side2 A2.out).mono ?_); (case side1 => repeat (first | exact HR0.out | with_reducible first | refine Kd.bS ?_ _ | refine Kd.bQ ?_ _ | refine Kd.dm ?_)); (case side2 => exact HC0.out); rintro e w' ⟨rfl, ⟨nd, rfl⟩⟩; refine ⟨_, rfl, ?_⟩));go_ret3;exact ⟨by first | rfl | (simp; done) | (simp [*]; done), by repeat (first | exact bv.refl _ | apply bv.step)⟩
  ·rw [if_neg c4] at H
   have c4b0 : decide (65536 < t163) = false := decide_eq_false c4;clear c4;by_cases c5 : t163 > (wrap64 ((l0.length : Int) - t164))
   ·rw [if_pos c5] at H
    have c5b0 : decide ((wrap64 ((l0.length : Int) - t164)) < t163) = true := decide_eq_true c5;clear c5;simp only [Option.some.injEq, Prod.mk.injEq] at H;obtain ⟨rfl, rfl, rfl⟩ := H;go_enter Try.func82, Try.ntmps82;go_wp2_with (first | ((with_reducible refine aI (f := 102) rfl ?_); refine bL (some 8) rfl rfl Try.func102 (by kernel_rfl) rfl #[.slice A0 l0.length c0] rfl (by (try simp only [SB.lA, SB.lC, SB.lN]); first | done | rfl | (simp only [SB.lD, SB.lT]; rfl)) ?_; (with_reducible refine (af.calls k _ _ l0 t163 t164 t165 _ ?side1 ?side2 A2.out).mono ?_); (case side1 => repeat (first | exact HR0.out | with_reducible first | refine Kd.bS ?_ _ | refine Kd.bQ ?_ _ | refine Kd.dm ?_)); (case side2 => exact HC0.out); rintro e w' ⟨rfl, ⟨nd, rfl⟩⟩; refine ⟨_, rfl, ?_⟩));go_ret3;exact ⟨by first | rfl | (simp; done) | (simp [*]; done), by repeat (first | exact bv.refl _ | apply bv.step)⟩
   ·rw [if_neg c5] at H
    have c5b0 : decide ((wrap64 ((l0.length : Int) - t164)) < t163) = false := decide_eq_false c5;clear c5;by_cases c6 : 0 ≤ t164
    ·rw [if_pos c6] at H
     have c6b0 := eq_true c6;have c6b1 : decide (0 ≤ t164) = true := decide_eq_true c6;clear c6;by_cases c7 : t164 ≤ (wrap64 (t164 + t163))
     ·rw [if_pos c7] at H
      have c7b0 := eq_true c7;have c7b1 : decide (t164 ≤ (wrap64 (t164 + t163))) = true := decide_eq_true c7;by_cases c8 : (wrap64 (t164 + t163)) ≤ (l0.length : Int)
      ·rw [if_pos c8] at H
       have c8b0 := eq_true c8;have c8b1 : decide ((wrap64 (t164 + t163)) ≤ (l0.length : Int)) = true := decide_eq_true c8;simp only [Option.some.injEq, Prod.mk.injEq] at H;obtain ⟨rfl, rfl, rfl⟩ := H;go_enter Try.func82, Try.ntmps82;go_wp2_with (first | ((with_reducible refine aI (f := 102) rfl ?_); refine bL (some 8) rfl rfl Try.func102 (by kernel_rfl) rfl #[.slice A0 l0.length c0] rfl (by (try simp only [SB.lA, SB.lC, SB.lN]); first | done | rfl | (simp only [SB.lD, SB.lT]; rfl)) ?_; (with_reducible refine (af.calls k _ _ l0 t163 t164 t165 _ ?side1 ?side2 A2.out).mono ?_); (case side1 => repeat (first | exact HR0.out | with_reducible first | refine Kd.bS ?_ _ | refine Kd.bQ ?_ _ | refine Kd.dm ?_)); (case side2 => exact HC0.out); rintro e w' ⟨rfl, ⟨nd, rfl⟩⟩; refine ⟨_, rfl, ?_⟩; obtain ⟨i09, hi09, _, hsz9, _⟩ := info_parts info5; obtain ⟨A9, hcut9, hA9, hC9⟩ := print_mid_of (P := Try.prog) (Value.int .u8) 0 29 5 .i64 .i64 Try.underlying29 hi09 hsz9 A0 c0 l0 t164 (wrap64 (t164 + t163)) (of_decide_eq_true (by first | (with_reducible assumption) | assumption)) (by first | omega | exact of_decide_eq_true (by first | (with_reducible assumption) | assumption)) (of_decide_eq_true (by first | (with_reducible assumption) | assumption)) HC0.out; have HR166 := aa.mk (Kd.fC (h1 := fun _ => rfl) (hA9 _ (Kd.eT HR0.out))); have HC166 := aa.mk hC9; clear hA9 hC9 hi09 hsz9; have hcv10 := Kd.C_string (P := Try.prog) (A := A9) (c := (c0 - t164.toNat)) Try.underlying29 Try.underlying5 Try.underlying9 HR166.out; have hcw11 := fun (m_ : Nat) => LB.C_string_as (P := Try.prog) (A := A9) (n' := _) (c := (c0 - t164.toNat)) Try.underlying29 Try.underlying5 Try.underlying9 (Kd.bQ (HR166.out) m_) rfl; have hcw12 := LB.C_string_as (P := Try.prog) (A := A9) (n' := ((wrap64 (t164 + t163)).toNat - t164.toNat)) (c := (c0 - t164.toNat)) Try.underlying29 Try.underlying5 Try.underlying9 (HR166.out) (show ((l0.take ((wrap64 (t164 + t163)) : Int).toNat).drop (t164 : Int).toNat).length = ((wrap64 (t164 + t163)).toNat - t164.toNat) from (by rw [List.length_drop, List.length_take]; have h_ : ((wrap64 (t164 + t163)) : Int) ≤ (l0.length : Int) := of_decide_eq_true (by first | (with_reducible assumption) | assumption); omega)); have hcw13 := fun (m_ : Nat) => LB.C_string_as (P := Try.prog) (A := A9) (n' := ((wrap64 (t164 + t163)).toNat - t164.toNat)) (c := (c0 - t164.toNat)) Try.underlying29 Try.underlying5 Try.underlying9 (Kd.bQ (HR166.out) m_) (show ((l0.take ((wrap64 (t164 + t163)) : Int).toNat).drop (t164 : Int).toNat).length = ((wrap64 (t164 + t163)).toNat - t164.toNat) from (by rw [List.length_drop, List.length_take]; have h_ : ((wrap64 (t164 + t163)) : Int) ≤ (l0.length : Int) := of_decide_eq_true (by first | (with_reducible assumption) | assumption); omega))));go_ret3;exact ⟨by first | rfl | (simp; done) | (simp [*]; done), by repeat (first | exact bv.refl _ | apply bv.step)⟩
      ·rw [if_neg c8] at H
       exact absurd H (by simp)
     ·rw [if_neg c7] at H
      exact absurd H (by simp)
    ·rw [if_neg c6] at H
     exact absurd H (by simp)
 ·rw [if_neg c3] at H
  have c3b0 : (t165 == 0) = false := beq_eq_false_iff_ne.mpr c3;have c3b1 : (t165 != 0) = true := bne_iff_ne.mpr c3;simp only [Option.some.injEq, Prod.mk.injEq] at H;obtain ⟨rfl, rfl, rfl⟩ := H;go_enter Try.func82, Try.ntmps82;go_wp2_with (first | ((with_reducible refine aI (f := 102) rfl ?_); refine bL (some 8) rfl rfl Try.func102 (by kernel_rfl) rfl #[.slice A0 l0.length c0] rfl (by (try simp only [SB.lA, SB.lC, SB.lN]); first | done | rfl | (simp only [SB.lD, SB.lT]; rfl)) ?_; (with_reducible refine (af.calls k _ _ l0 t163 t164 t165 _ ?side1 ?side2 A2.out).mono ?_); (case side1 => repeat (first | exact HR0.out | with_reducible first | refine Kd.bS ?_ _ | refine Kd.bQ ?_ _ | refine Kd.dm ?_)); (case side2 => exact HC0.out); rintro e w' ⟨rfl, ⟨nd, rfl⟩⟩; refine ⟨_, rfl, ?_⟩));go_ret3;exact ⟨by first | rfl | (simp; done) | (simp [*]; done), by repeat (first | exact bv.refl _ | apply bv.step)⟩
end Go.Proofs.Ytddnlnjmikcgfaa.PC
end
