/- Plain laws of the small functions: which number any bytes begin with. -/
import Derived.Test.YtpmcojmhkpaoaaaLibA
set_option linter.unusedVariables false
set_option linter.unusedSimpArgs false
namespace Go.Proofs.Ytpmcojmhkpaoaaa.PA
open Go.RowKit Go.Proofs.YtpmcojmhkpaoaaaW.PrintWords Go.Proofs.YtpmcojmhkpaoaaaW.PrintLast Go.Proofs.YtpmcojmhkpaoaaaW.PrintMore

theorem bits_or_comm (k : IntKind) (x y : Int) : bits .or k x y = bits .or k y x := by
  unfold bits
  simp only [BitVec.or_comm]
theorem wraps_i64 (n : Int) (h₀ : 0 ≤ n) (h₁ : n < 2 ^ 63) : IntKind.i64.wrap n = n := by rw [IntKind.wrap_i64]; omega
theorem wraps_u64 (n : Int) (h₀ : 0 ≤ n) (h₁ : n < 2 ^ 64) : IntKind.u64.wrap n = n := by
  simp [IntKind.wrap, IntKind.bits, IntKind.signed]
  omega
theorem and127 (c : Int) (h0 : 0 ≤ c) (h1 : c < 256) : bits .and .u8 c 127 = c % 128 := bits_mask .u8 8 (by decide) wraps_u8 7 (by decide) c h0 h1
theorem pow128 (i : Nat) : 128 ^ i = 2 ^ (7 * i) := by rw [Nat.pow_mul]
theorem pow128_le {i : Nat} (h : i ≤ 8) : 128 ^ i ≤ 72057594037927936 := Nat.le_trans (Nat.pow_le_pow_right (by decide) h) (by decide)
theorem shl_i64 (c : Int) (i : Nat) (hi : i ≤ 8) (h0 : 0 ≤ c) (h1 : c < 128) : shl .i64 c (7 * (i : Int)) = c * (128 ^ i : Nat) := by
  have hp := pow128_le hi
  have hp0 : 0 < 128 ^ i := Nat.pow_pos (by decide)
  unfold shl
  have e1 : min (7 * (i : Int)).toNat IntKind.i64.bits = 7 * i := by
    have : IntKind.i64.bits = 64 := rfl
    omega
  rw [e1]
  have e2 : ((2 : Int) ^ (7 * i)) = ((128 ^ i : Nat) : Int) := by rw [pow128]; simp
  rw [e2]
  obtain ⟨q, rfl⟩ := Int.eq_ofNat_of_zero_le h0
  have hq : q * 128 ^ i ≤ 127 * 72057594037927936 := Nat.mul_le_mul (by omega) hp
  exact wraps_i64 _ (by rw [← Int.natCast_mul]; exact Int.natCast_nonneg _) (by rw [← Int.natCast_mul]; omega)
theorem shl_u64 (c : Int) (i : Nat) (hi : i ≤ 8) (h0 : 0 ≤ c) (h1 : c < 128) : shl .u64 c (7 * (i : Int)) = c * (128 ^ i : Nat) := by
  have hp := pow128_le hi
  have hp0 : 0 < 128 ^ i := Nat.pow_pos (by decide)
  unfold shl
  have e1 : min (7 * (i : Int)).toNat IntKind.u64.bits = 7 * i := by
    have : IntKind.u64.bits = 64 := rfl
    omega
  rw [e1]
  have e2 : ((2 : Int) ^ (7 * i)) = ((128 ^ i : Nat) : Int) := by rw [pow128]; simp
  rw [e2]
  obtain ⟨q, rfl⟩ := Int.eq_ofNat_of_zero_le h0
  have hq : q * 128 ^ i ≤ 127 * 72057594037927936 := Nat.mul_le_mul (by omega) hp
  exact wraps_u64 _ (by rw [← Int.natCast_mul]; exact Int.natCast_nonneg _) (by rw [← Int.natCast_mul]; omega)
theorem or_shift (k : IntKind) (j : Nat) (hj : j ≤ k.bits) (hk : ∀ n : Int, 0 ≤ n → n < 2 ^ j → k.wrap n = n) (hj63 : 63 ≤ j) (n q i : Nat) (hi : i ≤ 8) (hn : n < 128 ^ i) (hq : q < 128) :
    bits .or k (n : Int) ((q : Int) * (128 ^ i : Nat)) = ((n + q * 128 ^ i : Nat) : Int) := by
  have hp := pow128_le hi
  have hb : q * 128 ^ i ≤ 127 * 72057594037927936 := Nat.mul_le_mul (by omega) hp
  have h63 : (2 : Int) ^ 63 ≤ 2 ^ j := by exact_mod_cast Nat.pow_le_pow_right (show 0 < 2 by decide) hj63
  rw [bits_or_comm, bits_join k j hj hk (7 * i) ((q : Int) * (128 ^ i : Nat)) (n : Int)]
  · rw [← Int.natCast_mul]; omega
  · rw [← Int.natCast_mul]; exact Int.natCast_nonneg _
  · rw [pow128]
    exact_mod_cast Nat.mul_mod_left q (2 ^ (7 * i))
  · rw [← Int.natCast_mul]
    have : ((q * 128 ^ i : Nat) : Int) < 2 ^ 63 := by omega
    omega
  · omega
  · rw [pow128] at hn
    exact_mod_cast hn
  · have : (n : Int) < 2 ^ 63 := by omega
    omega

/-- Which number the bytes from here on tell, n being what the i bytes ahead have told. -/
def tk : List Int → Nat → Nat → Int × Int × Int
  | [], _, _ => (0, 0, 7)
  | c :: r, n, i => if 128 ≤ c then (if i = 8 then (0, 0, 1) else tk r (n + (c.toNat - 128) * 128 ^ i) (i + 1))
    else if (c = 0 ∧ 0 < i) ∨ 4611686018427387904 < n + c.toNat * 128 ^ i then (0, 0, 1) else (((n + c.toNat * 128 ^ i : Nat) : Int), (i : Int) + 1, 0)
def IsBytes (l : List Int) : Prop := ∀ x ∈ l, 0 ≤ x ∧ x < 256
theorem step_lt {n q i : Nat} (hn : n < 128 ^ i) (hq : q < 128) : n + q * 128 ^ i < 128 ^ (i + 1) := by
  rw [Nat.pow_succ]
  have : q * 128 ^ i ≤ 127 * 128 ^ i := Nat.mul_le_mul_right _ (by omega)
  omega

theorem takeNum_L (l : List Int) (hb : IsBytes l) (hl : l.length < 4611686018427387904) : ∀ (d i n : Nat), i ≤ l.length → l.length - i = d → i ≤ 8 → n < 128 ^ i →
    code_TakeNum.L0 l (n : Int) (i : Int) = some (tk (l.drop i) n i) := by
  intro d
  induction d with
  | zero =>
    intro i n hi hd h8 hn
    rw [code_TakeNum.L0_eq, if_pos (by omega), List.drop_of_length_le (by omega)]
    rfl
  | succ d ih =>
    intro i n hi hd h8 hn
    have hil : i < l.length := by omega
    obtain ⟨c0, c1⟩ := hb l[i] (List.getElem_mem hil)
    rw [code_TakeNum.L0_eq, if_neg (by omega), if_pos (by omega), if_pos (by omega), rd_nat l i hil, List.drop_eq_getElem_cons hil]
    have hs : wrap64 (7 * (i : Int)) = 7 * (i : Int) := w64 (by omega) (by omega)
    have hm : wrap64 (bits .and .u8 l[i] 127) = ((l[i].toNat % 128 : Nat) : Int) := by rw [and127 _ c0 c1, w64 (by omega) (by omega)]; omega
    have ho : bits .or .i64 (n : Int) (shl .i64 (wrap64 (bits .and .u8 l[i] 127)) (wrap64 (7 * (i : Int)))) = ((n + l[i].toNat % 128 * 128 ^ i : Nat) : Int) := by
      rw [hm, hs, shl_i64 _ i h8 (by omega) (by omega)]
      exact or_shift .i64 63 (by decide) wraps_i64 (by decide) n _ i h8 hn (by omega)
    have hi8 : ((i : Int) == 8) = decide (i = 8) := by
      by_cases h : i = 8
      · subst h; rfl
      · simp [h]; omega
    have hJ : ∀ b, b = false → code_TakeNum.J1 l (n : Int) (i : Int) b = (if l[i] ≥ 128 then code_TakeNum.L0 l ((n + l[i].toNat % 128 * 128 ^ i : Nat) : Int) ((i : Int) + 1) else
        some (if (l[i] = 0 ∧ 0 < i) ∨ 4611686018427387904 < n + l[i].toNat % 128 * 128 ^ i then (0, 0, 1) else (((n + l[i].toNat % 128 * 128 ^ i : Nat) : Int), (i : Int) + 1, 0))) := by
      rintro b rfl
      rw [code_TakeNum.J1_eq, if_neg (by simp), if_pos (by omega), if_pos (by omega), if_pos (by rw [hs]; omega), rd_nat l i hil, ho, w64s (by omega) (by omega)]
      by_cases hc : l[i] ≥ 128
      · rw [if_pos hc, if_pos hc]
      · rw [if_neg hc, if_neg hc]
        by_cases hz : l[i] = 0
        · rw [if_pos hz]
          by_cases hi0 : (i : Int) > 0
          · rw [if_pos hi0, code_TakeNum.J2_eq, if_pos rfl, if_pos (.inl ⟨hz, by omega⟩)]
          · rw [if_neg hi0, code_TakeNum.J2_eq, w64s (by omega) (by omega)]
            by_cases hq : 4611686018427387904 < n + l[i].toNat % 128 * 128 ^ i
            · rw [if_pos (decide_eq_true (by omega)), if_pos (.inr hq)]
            · rw [if_neg (by rw [decide_eq_true_eq]; omega), if_neg (by omega)]
        · rw [if_neg hz, code_TakeNum.J2_eq, w64s (by omega) (by omega)]
          by_cases hq : 4611686018427387904 < n + l[i].toNat % 128 * 128 ^ i
          · rw [if_pos (decide_eq_true (by omega)), if_pos (.inr hq)]
          · rw [if_neg (by rw [decide_eq_true_eq]; omega), if_neg (by omega)]
    unfold tk
    by_cases hc : l[i] ≥ 128
    · rw [if_pos hc, if_pos (show 128 ≤ l[i] from hc), hi8]
      by_cases h : i = 8
      · rw [if_pos h, code_TakeNum.J1_eq, if_pos (by simp [h])]
      · rw [if_neg h, hJ _ (by simp [h]), if_pos hc, show ((i : Int) + 1) = ((i + 1 : Nat) : Int) from rfl, ih (i + 1) _ (by omega) (by omega) (by omega) (step_lt hn (by omega)),
          show l[i].toNat % 128 = l[i].toNat - 128 by omega]
    · rw [if_neg hc, if_neg (show ¬ 128 ≤ l[i] by omega), hJ _ rfl, if_neg hc, show l[i].toNat % 128 = l[i].toNat by omega]
theorem takeNum (l : List Int) (hb : IsBytes l) (hl : l.length < 4611686018427387904) : code_TakeNum.F l = some (tk l 0 0) := by
  rw [code_TakeNum.F_eq]
  exact takeNum_L l hb hl l.length 0 0 (by omega) (by omega) (by omega) (by omega)

theorem refTakeNum_L (l : List Int) (hb : IsBytes l) (hl : l.length < 4611686018427387904) : ∀ (d i n : Nat), i ≤ l.length → l.length - i = d → i ≤ 8 → n < 128 ^ i →
    arrasref5_TakeNum.L0 l (n : Int) (i : Int) = some (tk (l.drop i) n i) := by
  intro d
  induction d with
  | zero =>
    intro i n hi hd h8 hn
    rw [arrasref5_TakeNum.L0_eq, if_pos (by omega), List.drop_of_length_le (by omega)]
    rfl
  | succ d ih =>
    intro i n hi hd h8 hn
    have hil : i < l.length := by omega
    obtain ⟨c0, c1⟩ := hb l[i] (List.getElem_mem hil)
    have hs : wrap64 (7 * (i : Int)) = 7 * (i : Int) := w64 (by omega) (by omega)
    have hm : IntKind.u64.wrap (bits .and .u8 l[i] 127) = ((l[i].toNat % 128 : Nat) : Int) := by rw [and127 _ c0 c1, wraps_u64 _ (by omega) (by omega)]; omega
    have ho : bits .or .u64 (n : Int) (shl .u64 (IntKind.u64.wrap (bits .and .u8 l[i] 127)) (wrap64 (7 * (i : Int)))) = ((n + l[i].toNat % 128 * 128 ^ i : Nat) : Int) := by
      rw [hm, hs, shl_u64 _ i h8 (by omega) (by omega)]
      exact or_shift .u64 64 (by decide) wraps_u64 (by decide) n _ i h8 hn (by omega)
    rw [arrasref5_TakeNum.L0_eq, if_neg (by omega), if_pos (by omega), if_pos (by omega), if_pos (by rw [hs]; omega), rd_nat l i hil, List.drop_eq_getElem_cons hil, ho, w64s (by omega) (by omega)]
    have hlt := step_lt (q := l[i].toNat % 128) hn (by omega)
    have hp := pow128_le h8
    rw [Nat.pow_succ] at hlt
    have hJ : ∀ b : Bool, arrasref5_TakeNum.J1 ((n + l[i].toNat % 128 * 128 ^ i : Nat) : Int) (i : Int) b = some (if b = true then (0, 0, 1) else (((n + l[i].toNat % 128 * 128 ^ i : Nat) : Int), (i : Int) + 1, 0)) := by
      intro b
      rw [arrasref5_TakeNum.J1_eq]
      by_cases h : b = true
      · rw [if_pos h, if_pos h]
      · rw [if_neg h, if_neg h, w64s (by omega) (by omega), w64 (by omega) (by omega)]
    unfold tk
    by_cases hc : l[i] ≥ 128
    · rw [if_pos hc, if_pos (show 128 ≤ l[i] from hc)]
      by_cases h : i = 8
      · rw [if_pos h, if_pos (by omega)]
      · rw [if_neg h, if_neg (by omega), show ((i : Int) + 1) = ((i + 1 : Nat) : Int) from rfl, ih (i + 1) _ (by omega) (by omega) (by omega) (step_lt hn (by omega)),
          show l[i].toNat % 128 = l[i].toNat - 128 by omega]
    · rw [if_neg hc, if_neg (show ¬ 128 ≤ l[i] by omega)]
      have e128 : l[i].toNat % 128 = l[i].toNat := by omega
      simp only [hJ]
      rw [e128]
      by_cases hz : l[i] = 0
      · rw [if_pos hz]
        by_cases hi0 : (i : Int) > 0
        · rw [if_pos hi0, if_pos trivial, if_pos (.inl ⟨hz, by omega⟩)]
        · rw [if_neg hi0]
          by_cases hq : 4611686018427387904 < n + l[i].toNat * 128 ^ i
          · rw [if_pos (by rw [decide_eq_true_eq]; omega), if_pos (.inr hq)]
          · rw [if_neg (by rw [decide_eq_true_eq]; omega), if_neg (by omega)]
      · rw [if_neg hz]
        by_cases hq : 4611686018427387904 < n + l[i].toNat * 128 ^ i
        · rw [if_pos (by rw [decide_eq_true_eq]; omega), if_pos (.inr hq)]
        · rw [if_neg (by rw [decide_eq_true_eq]; omega), if_neg (by omega)]
theorem refTakeNum (l : List Int) (hb : IsBytes l) (hl : l.length < 4611686018427387904) : arrasref5_TakeNum.F l = some (tk l 0 0) := by
  rw [arrasref5_TakeNum.F_eq]
  exact refTakeNum_L l hb hl l.length 0 0 (by omega) (by omega) (by omega) (by omega)
end Go.Proofs.Ytpmcojmhkpaoaaa.PA
