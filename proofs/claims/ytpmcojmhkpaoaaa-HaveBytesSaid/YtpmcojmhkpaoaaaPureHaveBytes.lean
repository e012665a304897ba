/- The plain law behind HaveBytes: a vector's bytes are written for a vector alone, what bytes begin with is the page's, and what is written is taken. -/
import Derived.Test.YtpmcojmhkpaoaaaPAx4
import Derived.Test.YtpmcojmhkpaoaaaOpens
import Derived.Test.YtpmcojmhkpaoaaaPAx2
import Derived.Test.YtpmcojmhkpaoaaaPAx3
import Derived.Laws.BitsLemmas
import Derived.Laws.Bits128
/- The statement of HaveBytes over numbers and lists, and what its arguments keep to. -/
namespace Go.Proofs.Ytpmcojmhkpaoaaa.PA
open Go.RowKit Go.Proofs.YtpmcojmhkpaoaaaW.PrintWords Go.Proofs.YtpmcojmhkpaoaaaW.PrintLast Go.Proofs.YtpmcojmhkpaoaaaW.PrintMore
def ok_T86 (x : S86) : Prop := (x.f0.length ≤ maxLen ∧ x.f0.length * 8 ≤ 140737488351232 ∧ ∀ a ∈ x.f0, (Lit.int .i64 a).wf = true) ∧ (x.f1.length ≤ maxLen ∧ x.f1.length * 8 ≤ 140737488351232 ∧ ∀ a ∈ x.f1, (Lit.int .i64 a).wf = true) ∧ (x.f2.length ≤ maxLen ∧ x.f2.length * 1 ≤ 140737488351232 ∧ ∀ a ∈ x.f2, (Lit.int .u8 a).wf = true)
def arraslaw7_HaveBytes.Pure : Prop := ∀ (l0 : List (S86)), (l0.length ≤ maxLen ∧ l0.length * 72 ≤ 140737488351232 ∧ ∀ a ∈ l0, ok_T86 a) → ∃ k, arraslaw7_HaveBytes.f k l0 = some true
end Go.Proofs.Ytpmcojmhkpaoaaa.PA

/- Plain laws of the small functions: copies, comparisons, numbers as bytes. -/
set_option linter.unusedVariables false
set_option linter.unusedSimpArgs false
namespace Go.Proofs.Ytpmcojmhkpaoaaa.PA
open Go.RowKit Go.Proofs.YtpmcojmhkpaoaaaW.PrintWords Go.Proofs.YtpmcojmhkpaoaaaW.PrintLast Go.Proofs.YtpmcojmhkpaoaaaW.PrintMore

theorem w64 {x : Int} (h0 : -9223372036854775808 ≤ x) (h1 : x < 9223372036854775808) : wrap64 x = x := by unfold wrap64; omega
theorem w64s {x : Int} (h0 : 0 ≤ x) (h1 : x < 9223372036854775807) : wrap64 (x + 1) = x + 1 := w64 (by omega) (by omega)
theorem rd_nat (l : List Int) (i : Nat) (h : i < l.length) : rd l (i : Int) = l[i] := by simp [rd, h]
theorem take_succ' {α : Type} (l : List α) (i : Nat) (h : i < l.length) : l.take (i + 1) = l.take i ++ [l[i]] := by
  rw [List.take_succ_eq_append_getElem h]

/-! ### A copy -/
theorem copyBytes_L (l : List Int) (hl : l.length < 140737488355328) : ∀ (d i : Nat), i ≤ l.length → l.length - i = d → arrasref0_CopyBytes.L0 l (l.take i) (i : Int) = some l := by
  intro d
  induction d with
  | zero =>
    intro i hi hd
    rw [arrasref0_CopyBytes.L0_eq, if_neg (by omega), List.take_of_length_le (by omega)]
  | succ d ih =>
    intro i hi hd
    rw [arrasref0_CopyBytes.L0_eq, if_pos (by omega), if_pos (by omega), if_pos (by rw [List.length_take]; omega), w64s (by omega) (by omega), rd_nat l i (by omega), ← take_succ' l i (by omega)]
    exact ih (i + 1) (by omega) (by omega)
theorem copyBytes (l : List Int) (hl : l.length < 140737488355328) : arrasref0_CopyBytes.F l = some l := by
  rw [arrasref0_CopyBytes.F_eq]
  exact copyBytes_L l hl l.length 0 (by omega) (by omega)
theorem copyNumbers_L (l : List Int) (hl : l.length < 17592186044416) : ∀ (d i : Nat), i ≤ l.length → l.length - i = d → arrasref0_CopyNumbers.L0 l (l.take i) (i : Int) = some l := by
  intro d
  induction d with
  | zero =>
    intro i hi hd
    rw [arrasref0_CopyNumbers.L0_eq, if_neg (by omega), List.take_of_length_le (by omega)]
  | succ d ih =>
    intro i hi hd
    rw [arrasref0_CopyNumbers.L0_eq, if_pos (by omega), if_pos (by omega), if_pos (by rw [List.length_take]; omega), w64s (by omega) (by omega), rd_nat l i (by omega), ← take_succ' l i (by omega)]
    exact ih (i + 1) (by omega) (by omega)
theorem copyNumbers (l : List Int) (hl : l.length < 17592186044416) : arrasref0_CopyNumbers.F l = some l := by
  rw [arrasref0_CopyNumbers.F_eq]
  exact copyNumbers_L l hl l.length 0 (by omega) (by omega)

/-! ### The same, one by one -/
theorem eqBytes_L (a b : List Int) (hab : a.length = b.length) (hl : a.length < 9223372036854775807) : ∀ (d i : Nat), i ≤ a.length → a.length - i = d → arrasref0_EqBytes.L0 a b (i : Int) = some (decide (a.drop i = b.drop i)) := by
  intro d
  induction d with
  | zero =>
    intro i hi hd
    rw [arrasref0_EqBytes.L0_eq, if_neg (by omega), List.drop_of_length_le (by omega), List.drop_of_length_le (by omega)]
    simp
  | succ d ih =>
    intro i hi hd
    have ha : i < a.length := by omega
    have hb : i < b.length := by omega
    rw [arrasref0_EqBytes.L0_eq, if_pos (by omega), if_pos (by omega), if_pos (by omega), rd_nat a i ha, rd_nat b i hb, w64s (by omega) (by omega), List.drop_eq_getElem_cons ha, List.drop_eq_getElem_cons hb]
    by_cases h : a[i] = b[i]
    · rw [if_pos h, show ((i : Int) + 1) = ((i + 1 : Nat) : Int) from rfl, ih (i + 1) (by omega) (by omega)]
      exact congrArg some (decide_eq_decide.2 (by rw [List.cons.injEq]; exact ⟨fun e => ⟨h, e⟩, fun e => e.2⟩))
    · rw [if_neg h]
      exact congrArg some (decide_eq_false (fun e => h (List.cons.inj e).1)).symm
theorem eqBytes (a b : List Int) (hl : a.length < 9223372036854775807) : arrasref0_EqBytes.F a b = some (decide (a = b)) := by
  rw [arrasref0_EqBytes.F_eq]
  by_cases h : a.length = b.length
  · rw [if_pos (by omega)]
    exact eqBytes_L a b h hl a.length 0 (by omega) (by omega)
  · rw [if_neg (by omega)]
    have : ¬ a = b := fun e => h (by rw [e])
    simp [this]
theorem eqNumbers_L (a b : List Int) (hab : a.length = b.length) (hl : a.length < 9223372036854775807) : ∀ (d i : Nat), i ≤ a.length → a.length - i = d → arrasref0_EqNumbers.L0 a b (i : Int) = some (decide (a.drop i = b.drop i)) := by
  intro d
  induction d with
  | zero =>
    intro i hi hd
    rw [arrasref0_EqNumbers.L0_eq, if_neg (by omega), List.drop_of_length_le (by omega), List.drop_of_length_le (by omega)]
    simp
  | succ d ih =>
    intro i hi hd
    have ha : i < a.length := by omega
    have hb : i < b.length := by omega
    rw [arrasref0_EqNumbers.L0_eq, if_pos (by omega), if_pos (by omega), if_pos (by omega), rd_nat a i ha, rd_nat b i hb, w64s (by omega) (by omega), List.drop_eq_getElem_cons ha, List.drop_eq_getElem_cons hb]
    by_cases h : a[i] = b[i]
    · rw [if_pos h, show ((i : Int) + 1) = ((i + 1 : Nat) : Int) from rfl, ih (i + 1) (by omega) (by omega)]
      exact congrArg some (decide_eq_decide.2 (by rw [List.cons.injEq]; exact ⟨fun e => ⟨h, e⟩, fun e => e.2⟩))
    · rw [if_neg h]
      exact congrArg some (decide_eq_false (fun e => h (List.cons.inj e).1)).symm
theorem eqNumbers (a b : List Int) (hl : a.length < 9223372036854775807) : arrasref0_EqNumbers.F a b = some (decide (a = b)) := by
  rw [arrasref0_EqNumbers.F_eq]
  by_cases h : a.length = b.length
  · rw [if_pos (by omega)]
    exact eqNumbers_L a b h hl a.length 0 (by omega) (by omega)
  · rw [if_neg (by omega)]
    have : ¬ a = b := fun e => h (by rw [e])
    simp [this]

/-! ### Numbers as bytes -/
def enc (n : Nat) : List Int := if h : n < 128 then [(n : Int)] else ((n % 128 + 128 : Nat) : Int) :: enc (n / 128)
 termination_by n
 decreasing_by omega
theorem enc_small {n : Nat} (h : n < 128) : enc n = [(n : Int)] := by rw [enc, dif_pos h]
theorem enc_big {n : Nat} (h : ¬ n < 128) : enc n = ((n % 128 + 128 : Nat) : Int) :: enc (n / 128) := by rw [enc, dif_neg h]
theorem enc_length_pos (n : Nat) : 0 < (enc n).length := by
  by_cases h : n < 128
  · simp [enc_small h]
  · simp [enc_big h]
theorem enc_length (n : Nat) : ∀ m, n < 128 ^ m → 0 < m → (enc n).length ≤ m := by
  induction n using Nat.strongRecOn with
  | _ n ih =>
    intro m hm h0
    by_cases h : n < 128
    · simp [enc_small h]; omega
    · obtain ⟨q, rfl⟩ : ∃ q, m = q + 1 := ⟨m - 1, by omega⟩
      rw [Nat.pow_succ] at hm
      have hq : 0 < q := by
        rcases Nat.eq_zero_or_pos q with rfl | hq
        · simp at hm; omega
        · exact hq
      have := ih (n / 128) (by omega) q (Nat.div_lt_of_lt_mul (by rw [Nat.mul_comm]; exact hm)) hq
      rw [enc_big h]
      simp
      omega
theorem enc_length9 {n : Nat} (h : n ≤ 4611686018427387904) : (enc n).length ≤ 9 := enc_length n 9 (by omega) (by omega)
theorem put_L : ∀ (n : Nat) (acc : List Int), n ≤ 4611686018427387904 → acc.length + (enc n).length < 140737488355328 → code_Put.L0 acc (n : Int) = some (acc ++ enc n) := by
  intro n
  induction n using Nat.strongRecOn with
  | _ n ih =>
    intro acc hn hl
    have := enc_length_pos n
    rw [code_Put.L0_eq]
    by_cases h : n < 128
    · rw [if_neg (by omega), if_pos (by omega), enc_small h, Int.emod_eq_of_lt (by omega) (by omega)]
    · rw [enc_big h] at hl ⊢
      simp only [List.length_cons] at hl
      rw [if_pos (by omega), if_pos (by omega)]
      have e1 : bits .or .u8 ((n : Int) % 256) 128 = ((n % 128 + 128 : Nat) : Int) := by
        by_cases hb : (n : Int) % 256 < 128
        · rw [u8_or128_right _ (by omega) hb]; omega
        · have e2 : (n : Int) % 256 = 128 + ((n % 128 : Nat) : Int) := by omega
          have hx : n % 256 < 256 := by omega
          have e3 := (bits_nat .u8 8 (by decide) wraps_u8 (n % 256) 128 (by omega) (by decide)).2
          rw [show ((n : Int) % 256) = ((n % 256 : Nat) : Int) by omega, show (128 : Int) = ((128 : Nat) : Int) from rfl, e3]
          have e4 : n % 256 ||| 128 = n % 256 := by
            have e5 : n % 256 = 2 ^ 7 * 1 + n % 128 := by omega
            rw [e5, Nat.two_pow_add_eq_or_of_lt (by omega) 1]
            apply Nat.eq_of_testBit_eq
            intro i
            simp only [Nat.testBit_or]
            cases Nat.testBit (2 ^ 7 * 1) i <;> cases Nat.testBit (n % 128) i <;> cases h : Nat.testBit 128 i <;> simp_all
          rw [e4]; omega
      rw [e1, show (n : Int) / 128 = ((n / 128 : Nat) : Int) by omega, ih (n / 128) (by omega) _ (by omega) (by simp; omega)]
      simp
theorem put_F (n : Nat) (acc : List Int) (hn : n ≤ 4611686018427387904) (hl : acc.length + (enc n).length < 140737488355328) : code_Put.F acc (n : Int) = some (acc ++ enc n) := by
  rw [code_Put.F_eq]; exact put_L n acc hn hl
theorem code_num (n : Int) : code_Num.F n = some (if 0 ≤ n ∧ n ≤ 4611686018427387904 then (enc n.toNat, 0) else ([], 1)) := by
  rw [code_Num.F_eq]
  by_cases h1 : n < 0
  · rw [if_pos h1, if_neg (by omega)]
  · rw [if_neg h1]
    by_cases h2 : n > 4611686018427387904
    · rw [if_pos h2, if_neg (by omega)]
    · rw [if_neg h2, if_pos (by omega)]
      obtain ⟨m, rfl⟩ := Int.eq_ofNat_of_zero_le (show 0 ≤ n by omega)
      have := enc_length9 (n := m) (by omega)
      rw [put_F m [] (by omega) (by simp; omega)]
      simp
end Go.Proofs.Ytpmcojmhkpaoaaa.PA

/- Plain laws of the small functions: which number any bytes begin with. -/
set_option linter.unusedVariables false
set_option linter.unusedSimpArgs false
namespace Go.Proofs.Ytpmcojmhkpaoaaa.PA
open Go.RowKit Go.Proofs.YtpmcojmhkpaoaaaW.PrintWords Go.Proofs.YtpmcojmhkpaoaaaW.PrintLast Go.Proofs.YtpmcojmhkpaoaaaW.PrintMore

theorem bits_or_comm (k : IntKind) (x y : Int) : bits .or k x y = bits .or k y x := by
  unfold bits
  simp only [BitVec.or_comm]
theorem wraps_i64 (n : Int) (h₀ : 0 ≤ n) (h₁ : n < 2 ^ 63) : IntKind.i64.wrap n = n := by rw [IntKind.wrap_i64]; omega
theorem wraps_u64 (n : Int) (h₀ : 0 ≤ n) (h₁ : n < 2 ^ 64) : IntKind.u64.wrap n = n := by
  simp [IntKind.wrap, IntKind.bits, IntKind.signed]
  omega
theorem and127 (c : Int) (h0 : 0 ≤ c) (h1 : c < 256) : bits .and .u8 c 127 = c % 128 := bits_mask .u8 8 (by decide) wraps_u8 7 (by decide) c h0 h1
theorem pow128 (i : Nat) : 128 ^ i = 2 ^ (7 * i) := by rw [Nat.pow_mul]
theorem pow128_le {i : Nat} (h : i ≤ 8) : 128 ^ i ≤ 72057594037927936 := Nat.le_trans (Nat.pow_le_pow_right (by decide) h) (by decide)
theorem shl_i64 (c : Int) (i : Nat) (hi : i ≤ 8) (h0 : 0 ≤ c) (h1 : c < 128) : shl .i64 c (7 * (i : Int)) = c * (128 ^ i : Nat) := by
  have hp := pow128_le hi
  have hp0 : 0 < 128 ^ i := Nat.pow_pos (by decide)
  unfold shl
  have e1 : min (7 * (i : Int)).toNat IntKind.i64.bits = 7 * i := by
    have : IntKind.i64.bits = 64 := rfl
    omega
  rw [e1]
  have e2 : ((2 : Int) ^ (7 * i)) = ((128 ^ i : Nat) : Int) := by rw [pow128]; simp
  rw [e2]
  obtain ⟨q, rfl⟩ := Int.eq_ofNat_of_zero_le h0
  have hq : q * 128 ^ i ≤ 127 * 72057594037927936 := Nat.mul_le_mul (by omega) hp
  exact wraps_i64 _ (by rw [← Int.natCast_mul]; exact Int.natCast_nonneg _) (by rw [← Int.natCast_mul]; omega)
theorem shl_u64 (c : Int) (i : Nat) (hi : i ≤ 8) (h0 : 0 ≤ c) (h1 : c < 128) : shl .u64 c (7 * (i : Int)) = c * (128 ^ i : Nat) := by
  have hp := pow128_le hi
  have hp0 : 0 < 128 ^ i := Nat.pow_pos (by decide)
  unfold shl
  have e1 : min (7 * (i : Int)).toNat IntKind.u64.bits = 7 * i := by
    have : IntKind.u64.bits = 64 := rfl
    omega
  rw [e1]
  have e2 : ((2 : Int) ^ (7 * i)) = ((128 ^ i : Nat) : Int) := by rw [pow128]; simp
  rw [e2]
  obtain ⟨q, rfl⟩ := Int.eq_ofNat_of_zero_le h0
  have hq : q * 128 ^ i ≤ 127 * 72057594037927936 := Nat.mul_le_mul (by omega) hp
  exact wraps_u64 _ (by rw [← Int.natCast_mul]; exact Int.natCast_nonneg _) (by rw [← Int.natCast_mul]; omega)
theorem or_shift (k : IntKind) (j : Nat) (hj : j ≤ k.bits) (hk : ∀ n : Int, 0 ≤ n → n < 2 ^ j → k.wrap n = n) (hj63 : 63 ≤ j) (n q i : Nat) (hi : i ≤ 8) (hn : n < 128 ^ i) (hq : q < 128) :
    bits .or k (n : Int) ((q : Int) * (128 ^ i : Nat)) = ((n + q * 128 ^ i : Nat) : Int) := by
  have hp := pow128_le hi
  have hb : q * 128 ^ i ≤ 127 * 72057594037927936 := Nat.mul_le_mul (by omega) hp
  have h63 : (2 : Int) ^ 63 ≤ 2 ^ j := by exact_mod_cast Nat.pow_le_pow_right (show 0 < 2 by decide) hj63
  rw [bits_or_comm, bits_join k j hj hk (7 * i) ((q : Int) * (128 ^ i : Nat)) (n : Int)]
  · rw [← Int.natCast_mul]; omega
  · rw [← Int.natCast_mul]; exact Int.natCast_nonneg _
  · rw [pow128]
    exact_mod_cast Nat.mul_mod_left q (2 ^ (7 * i))
  · rw [← Int.natCast_mul]
    have : ((q * 128 ^ i : Nat) : Int) < 2 ^ 63 := by omega
    omega
  · omega
  · rw [pow128] at hn
    exact_mod_cast hn
  · have : (n : Int) < 2 ^ 63 := by omega
    omega

/-- Which number the bytes from here on tell, n being what the i bytes ahead have told. -/
def tk : List Int → Nat → Nat → Int × Int × Int
  | [], _, _ => (0, 0, 7)
  | c :: r, n, i => if 128 ≤ c then (if i = 8 then (0, 0, 1) else tk r (n + (c.toNat - 128) * 128 ^ i) (i + 1))
    else if (c = 0 ∧ 0 < i) ∨ 4611686018427387904 < n + c.toNat * 128 ^ i then (0, 0, 1) else (((n + c.toNat * 128 ^ i : Nat) : Int), (i : Int) + 1, 0)
def IsBytes (l : List Int) : Prop := ∀ x ∈ l, 0 ≤ x ∧ x < 256
theorem step_lt {n q i : Nat} (hn : n < 128 ^ i) (hq : q < 128) : n + q * 128 ^ i < 128 ^ (i + 1) := by
  rw [Nat.pow_succ]
  have : q * 128 ^ i ≤ 127 * 128 ^ i := Nat.mul_le_mul_right _ (by omega)
  omega

theorem takeNum_L (l : List Int) (hb : IsBytes l) (hl : l.length < 4611686018427387904) : ∀ (d i n : Nat), i ≤ l.length → l.length - i = d → i ≤ 8 → n < 128 ^ i →
    code_TakeNum.L0 l (n : Int) (i : Int) = some (tk (l.drop i) n i) := by
  intro d
  induction d with
  | zero =>
    intro i n hi hd h8 hn
    rw [code_TakeNum.L0_eq, if_pos (by omega), List.drop_of_length_le (by omega)]
    rfl
  | succ d ih =>
    intro i n hi hd h8 hn
    have hil : i < l.length := by omega
    obtain ⟨c0, c1⟩ := hb l[i] (List.getElem_mem hil)
    rw [code_TakeNum.L0_eq, if_neg (by omega), if_pos (by omega), if_pos (by omega), rd_nat l i hil, List.drop_eq_getElem_cons hil]
    have hs : wrap64 (7 * (i : Int)) = 7 * (i : Int) := w64 (by omega) (by omega)
    have hm : wrap64 (bits .and .u8 l[i] 127) = ((l[i].toNat % 128 : Nat) : Int) := by rw [and127 _ c0 c1, w64 (by omega) (by omega)]; omega
    have ho : bits .or .i64 (n : Int) (shl .i64 (wrap64 (bits .and .u8 l[i] 127)) (wrap64 (7 * (i : Int)))) = ((n + l[i].toNat % 128 * 128 ^ i : Nat) : Int) := by
      rw [hm, hs, shl_i64 _ i h8 (by omega) (by omega)]
      exact or_shift .i64 63 (by decide) wraps_i64 (by decide) n _ i h8 hn (by omega)
    have hi8 : ((i : Int) == 8) = decide (i = 8) := by
      by_cases h : i = 8
      · subst h; rfl
      · simp [h]; omega
    have hJ : ∀ b, b = false → code_TakeNum.J1 l (n : Int) (i : Int) b = (if l[i] ≥ 128 then code_TakeNum.L0 l ((n + l[i].toNat % 128 * 128 ^ i : Nat) : Int) ((i : Int) + 1) else
        some (if (l[i] = 0 ∧ 0 < i) ∨ 4611686018427387904 < n + l[i].toNat % 128 * 128 ^ i then (0, 0, 1) else (((n + l[i].toNat % 128 * 128 ^ i : Nat) : Int), (i : Int) + 1, 0))) := by
      rintro b rfl
      rw [code_TakeNum.J1_eq, if_neg (by simp), if_pos (by omega), if_pos (by omega), if_pos (by rw [hs]; omega), rd_nat l i hil, ho, w64s (by omega) (by omega)]
      by_cases hc : l[i] ≥ 128
      · rw [if_pos hc, if_pos hc]
      · rw [if_neg hc, if_neg hc]
        by_cases hz : l[i] = 0
        · rw [if_pos hz]
          by_cases hi0 : (i : Int) > 0
          · rw [if_pos hi0, code_TakeNum.J2_eq, if_pos rfl, if_pos (.inl ⟨hz, by omega⟩)]
          · rw [if_neg hi0, code_TakeNum.J2_eq, w64s (by omega) (by omega)]
            by_cases hq : 4611686018427387904 < n + l[i].toNat % 128 * 128 ^ i
            · rw [if_pos (decide_eq_true (by omega)), if_pos (.inr hq)]
            · rw [if_neg (by rw [decide_eq_true_eq]; omega), if_neg (by omega)]
        · rw [if_neg hz, code_TakeNum.J2_eq, w64s (by omega) (by omega)]
          by_cases hq : 4611686018427387904 < n + l[i].toNat % 128 * 128 ^ i
          · rw [if_pos (decide_eq_true (by omega)), if_pos (.inr hq)]
          · rw [if_neg (by rw [decide_eq_true_eq]; omega), if_neg (by omega)]
    unfold tk
    by_cases hc : l[i] ≥ 128
    · rw [if_pos hc, if_pos (show 128 ≤ l[i] from hc), hi8]
      by_cases h : i = 8
      · rw [if_pos h, code_TakeNum.J1_eq, if_pos (by simp [h])]
      · rw [if_neg h, hJ _ (by simp [h]), if_pos hc, show ((i : Int) + 1) = ((i + 1 : Nat) : Int) from rfl, ih (i + 1) _ (by omega) (by omega) (by omega) (step_lt hn (by omega)),
          show l[i].toNat % 128 = l[i].toNat - 128 by omega]
    · rw [if_neg hc, if_neg (show ¬ 128 ≤ l[i] by omega), hJ _ rfl, if_neg hc, show l[i].toNat % 128 = l[i].toNat by omega]
theorem takeNum (l : List Int) (hb : IsBytes l) (hl : l.length < 4611686018427387904) : code_TakeNum.F l = some (tk l 0 0) := by
  rw [code_TakeNum.F_eq]
  exact takeNum_L l hb hl l.length 0 0 (by omega) (by omega) (by omega) (by omega)

theorem refTakeNum_L (l : List Int) (hb : IsBytes l) (hl : l.length < 4611686018427387904) : ∀ (d i n : Nat), i ≤ l.length → l.length - i = d → i ≤ 8 → n < 128 ^ i →
    arrasref5_TakeNum.L0 l (n : Int) (i : Int) = some (tk (l.drop i) n i) := by
  intro d
  induction d with
  | zero =>
    intro i n hi hd h8 hn
    rw [arrasref5_TakeNum.L0_eq, if_pos (by omega), List.drop_of_length_le (by omega)]
    rfl
  | succ d ih =>
    intro i n hi hd h8 hn
    have hil : i < l.length := by omega
    obtain ⟨c0, c1⟩ := hb l[i] (List.getElem_mem hil)
    have hs : wrap64 (7 * (i : Int)) = 7 * (i : Int) := w64 (by omega) (by omega)
    have hm : IntKind.u64.wrap (bits .and .u8 l[i] 127) = ((l[i].toNat % 128 : Nat) : Int) := by rw [and127 _ c0 c1, wraps_u64 _ (by omega) (by omega)]; omega
    have ho : bits .or .u64 (n : Int) (shl .u64 (IntKind.u64.wrap (bits .and .u8 l[i] 127)) (wrap64 (7 * (i : Int)))) = ((n + l[i].toNat % 128 * 128 ^ i : Nat) : Int) := by
      rw [hm, hs, shl_u64 _ i h8 (by omega) (by omega)]
      exact or_shift .u64 64 (by decide) wraps_u64 (by decide) n _ i h8 hn (by omega)
    rw [arrasref5_TakeNum.L0_eq, if_neg (by omega), if_pos (by omega), if_pos (by omega), if_pos (by rw [hs]; omega), rd_nat l i hil, List.drop_eq_getElem_cons hil, ho, w64s (by omega) (by omega)]
    have hlt := step_lt (q := l[i].toNat % 128) hn (by omega)
    have hp := pow128_le h8
    rw [Nat.pow_succ] at hlt
    have hJ : ∀ b : Bool, arrasref5_TakeNum.J1 ((n + l[i].toNat % 128 * 128 ^ i : Nat) : Int) (i : Int) b = some (if b = true then (0, 0, 1) else (((n + l[i].toNat % 128 * 128 ^ i : Nat) : Int), (i : Int) + 1, 0)) := by
      intro b
      rw [arrasref5_TakeNum.J1_eq]
      by_cases h : b = true
      · rw [if_pos h, if_pos h]
      · rw [if_neg h, if_neg h, w64s (by omega) (by omega), w64 (by omega) (by omega)]
    unfold tk
    by_cases hc : l[i] ≥ 128
    · rw [if_pos hc, if_pos (show 128 ≤ l[i] from hc)]
      by_cases h : i = 8
      · rw [if_pos h, if_pos (by omega)]
      · rw [if_neg h, if_neg (by omega), show ((i : Int) + 1) = ((i + 1 : Nat) : Int) from rfl, ih (i + 1) _ (by omega) (by omega) (by omega) (step_lt hn (by omega)),
          show l[i].toNat % 128 = l[i].toNat - 128 by omega]
    · rw [if_neg hc, if_neg (show ¬ 128 ≤ l[i] by omega)]
      have e128 : l[i].toNat % 128 = l[i].toNat := by omega
      simp only [hJ]
      rw [e128]
      by_cases hz : l[i] = 0
      · rw [if_pos hz]
        by_cases hi0 : (i : Int) > 0
        · rw [if_pos hi0, if_pos trivial, if_pos (.inl ⟨hz, by omega⟩)]
        · rw [if_neg hi0]
          by_cases hq : 4611686018427387904 < n + l[i].toNat * 128 ^ i
          · rw [if_pos (by rw [decide_eq_true_eq]; omega), if_pos (.inr hq)]
          · rw [if_neg (by rw [decide_eq_true_eq]; omega), if_neg (by omega)]
      · rw [if_neg hz]
        by_cases hq : 4611686018427387904 < n + l[i].toNat * 128 ^ i
        · rw [if_pos (by rw [decide_eq_true_eq]; omega), if_pos (.inr hq)]
        · rw [if_neg (by rw [decide_eq_true_eq]; omega), if_neg (by omega)]
theorem refTakeNum (l : List Int) (hb : IsBytes l) (hl : l.length < 4611686018427387904) : arrasref5_TakeNum.F l = some (tk l 0 0) := by
  rw [arrasref5_TakeNum.F_eq]
  exact refTakeNum_L l hb hl l.length 0 0 (by omega) (by omega) (by omega) (by omega)
end Go.Proofs.Ytpmcojmhkpaoaaa.PA

/- Plain laws of the small functions: texts and rows of numbers. -/
set_option linter.unusedVariables false
set_option linter.unusedSimpArgs false
namespace Go.Proofs.Ytpmcojmhkpaoaaa.PA
open Go.RowKit Go.Proofs.YtpmcojmhkpaoaaaW.PrintWords Go.Proofs.YtpmcojmhkpaoaaaW.PrintLast Go.Proofs.YtpmcojmhkpaoaaaW.PrintMore

theorem IsBytes.drop {l : List Int} (h : IsBytes l) (i : Nat) : IsBytes (l.drop i) := fun x hx => h x (List.mem_of_mem_drop hx)
theorem IsBytes.take {l : List Int} (h : IsBytes l) (i : Nat) : IsBytes (l.take i) := fun x hx => h x (List.mem_of_mem_take hx)
theorem IsBytes.append {l m : List Int} (h : IsBytes l) (k : IsBytes m) : IsBytes (l ++ m) := fun x hx => (List.mem_append.1 hx).elim (h x) (k x)
theorem IsBytes.of_wf {l : List Int} (h : ∀ a ∈ l, (Lit.int .u8 a).wf = true) : IsBytes l := fun x hx => by
  have := h x hx
  simp [Lit.wf, IntKind.min, IntKind.max, IntKind.signed, IntKind.bits] at this
  omega
theorem tk_ok : ∀ (l : List Int) (n i : Nat), (tk l n i).2.2 = 0 → 0 ≤ (tk l n i).1 ∧ (tk l n i).1 ≤ 4611686018427387904 ∧ (i : Int) + 1 ≤ (tk l n i).2.1 ∧ (tk l n i).2.1 ≤ i + l.length
  | [], n, i, h => by simp [tk] at h
  | c :: r, n, i, h => by
    unfold tk at h ⊢
    by_cases h1 : 128 ≤ c
    · rw [if_pos h1] at h ⊢
      by_cases h2 : i = 8
      · rw [if_pos h2] at h
        simp at h
      · rw [if_neg h2] at h ⊢
        have := tk_ok r _ _ h
        simp only [List.length_cons]
        exact ⟨this.1, this.2.1, by omega, by omega⟩
    · rw [if_neg h1] at h ⊢
      by_cases h2 : (c = 0 ∧ 0 < i) ∨ 4611686018427387904 < n + c.toNat * 128 ^ i
      · rw [if_pos h2] at h
        simp at h
      · rw [if_neg h2]
        have h3 : ¬ 4611686018427387904 < n + c.toNat * 128 ^ i := fun h => h2 (.inr h)
        simp only [List.length_cons]
        omega

/-! ### Texts -/
def tkText (l : List Int) : ByteArray × Int × Int :=
  if (tk l 0 0).2.2 = 0 then (if (tk l 0 0).1 > 65536 then ((⟨#[]⟩ : ByteArray), 0, 1) else (if (tk l 0 0).1 > (l.length : Int) - (tk l 0 0).2.1 then ((⟨#[]⟩ : ByteArray), 0, 7) else
    (strOfNums ((l.take ((tk l 0 0).2.1 + (tk l 0 0).1).toNat).drop (tk l 0 0).2.1.toNat), (tk l 0 0).2.1 + (tk l 0 0).1, 0))) else ((⟨#[]⟩ : ByteArray), 0, (tk l 0 0).2.2)
theorem takeText (l : List Int) (hb : IsBytes l) (hl : l.length < 4611686018427387904) : code_TakeText.F l = some (tkText l) := by
  rw [code_TakeText.F_eq, takeNum l hb hl, Option.bind_some]
  unfold tkText
  by_cases h : (tk l 0 0).2.2 = 0
  · obtain ⟨h1, h2, h3, h4⟩ := tk_ok l 0 0 h
    rw [if_pos h, if_pos h]
    by_cases hm : (tk l 0 0).1 > 65536
    · rw [if_pos hm, if_pos hm]
    · rw [if_neg hm, if_neg hm, w64 (x := (l.length : Int) - (tk l 0 0).2.1) (by omega) (by omega)]
      by_cases hc : (tk l 0 0).1 > (l.length : Int) - (tk l 0 0).2.1
      · rw [if_pos hc, if_pos hc]
      · rw [if_neg hc, if_neg hc, w64 (by omega) (by omega), if_pos (by omega), if_pos (by omega), if_pos (by omega)]
  · rw [if_neg h, if_neg h]
theorem refTakeText (l : List Int) (hb : IsBytes l) (hl : l.length < 4611686018427387904) : arrasref5_TakeText.F l = some (tkText l) := by
  rw [arrasref5_TakeText.F_eq, refTakeNum l hb hl, Option.bind_some]
  unfold tkText
  by_cases h : (tk l 0 0).2.2 = 0
  · obtain ⟨h1, h2, h3, h4⟩ := tk_ok l 0 0 h
    rw [if_pos h, if_pos h]
    by_cases hm : (tk l 0 0).1 > 65536
    · rw [if_pos hm, if_pos hm]
    · rw [if_neg hm, if_neg hm, w64 (x := (l.length : Int) - (tk l 0 0).2.1) (by omega) (by omega)]
      by_cases hc : (tk l 0 0).1 > (l.length : Int) - (tk l 0 0).2.1
      · rw [if_pos hc, if_pos hc]
      · rw [if_neg hc, if_neg hc, w64 (by omega) (by omega), if_pos (by omega), if_pos (by omega), if_pos (by omega)]
  · rw [if_neg h, if_neg h]

/-! ### Rows of numbers -/
def tkNs (l : List Int) : Nat → Int → List Int → List Int × Int × Int
  | 0, k, acc => (acc, k, 0)
  | m + 1, k, acc => if (tk (l.drop k.toNat) 0 0).2.2 = 0 then tkNs l m (k + (tk (l.drop k.toNat) 0 0).2.1) (acc ++ [(tk (l.drop k.toNat) 0 0).1]) else ([], 0, (tk (l.drop k.toNat) 0 0).2.2)
def tkNums (l : List Int) : List Int × Int × Int :=
  if (tk l 0 0).2.2 = 0 then (if (tk l 0 0).1 > 1024 then ([], 0, 1) else tkNs l (tk l 0 0).1.toNat (tk l 0 0).2.1 []) else ([], 0, (tk l 0 0).2.2)
theorem takeNums_L (l : List Int) (hb : IsBytes l) (hl : l.length < 4611686018427387904) (many : Nat) (hm : many ≤ 1024) : ∀ (d j : Nat) (k : Int) (acc : List Int), j ≤ many → many - j = d → 0 ≤ k → k ≤ l.length → acc.length + d < 17592186044416 →
    code_TakeNums.L0 l acc k many j = some (tkNs l d k acc) := by
  intro d
  induction d with
  | zero =>
    intro j k acc hj hd h0 h1 ha
    rw [code_TakeNums.L0_eq, if_neg (by omega)]
    rfl
  | succ d ih =>
    intro j k acc hj hd h0 h1 ha
    have hdl : (l.drop k.toNat).length < 4611686018427387904 := by rw [List.length_drop]; omega
    rw [code_TakeNums.L0_eq, if_pos (by omega), if_pos h0, if_pos h1, takeNum _ (hb.drop _) hdl, Option.bind_some, tkNs]
    by_cases h : (tk (l.drop k.toNat) 0 0).2.2 = 0
    · obtain ⟨a1, a2, a3, a4⟩ := tk_ok _ 0 0 h
      rw [List.length_drop] at a4
      rw [if_pos h, if_pos h, if_pos (by omega), w64 (by omega) (by omega), w64s (by omega) (by omega)]
      exact ih (j + 1) _ _ (by omega) (by omega) (by omega) (by omega) (by simp; omega)
    · rw [if_neg h, if_neg h]
theorem takeNums (l : List Int) (hb : IsBytes l) (hl : l.length < 4611686018427387904) : code_TakeNums.F l = some (tkNums l) := by
  rw [code_TakeNums.F_eq, takeNum l hb hl, Option.bind_some]
  unfold tkNums
  by_cases h : (tk l 0 0).2.2 = 0
  · obtain ⟨h1, h2, h3, h4⟩ := tk_ok l 0 0 h
    rw [if_pos h, if_pos h]
    by_cases hm : (tk l 0 0).1 > 1024
    · rw [if_pos hm, if_pos hm]
    · rw [if_neg hm, if_neg hm]
      have e : (tk l 0 0).1 = (((tk l 0 0).1.toNat : Nat) : Int) := by omega
      have := takeNums_L l hb hl (tk l 0 0).1.toNat (by omega) (tk l 0 0).1.toNat 0 (tk l 0 0).2.1 [] (by omega) (by omega) (by omega) (by omega) (by simp; omega)
      rw [← e] at this
      exact this
  · rw [if_neg h, if_neg h]
theorem refTakeNums_L (l : List Int) (hb : IsBytes l) (hl : l.length < 4611686018427387904) (many : Nat) (hm : many ≤ 1024) : ∀ (d j : Nat) (k : Int) (acc : List Int), j ≤ many → many - j = d → 0 ≤ k → k ≤ l.length → acc.length + d < 17592186044416 →
    arrasref5_TakeNums.L0 l many k acc j = some (tkNs l d k acc) := by
  intro d
  induction d with
  | zero =>
    intro j k acc hj hd h0 h1 ha
    rw [arrasref5_TakeNums.L0_eq, if_neg (by omega)]
    rfl
  | succ d ih =>
    intro j k acc hj hd h0 h1 ha
    have hdl : (l.drop k.toNat).length < 4611686018427387904 := by rw [List.length_drop]; omega
    rw [arrasref5_TakeNums.L0_eq, if_pos (by omega), if_pos h0, if_pos h1, refTakeNum _ (hb.drop _) hdl, Option.bind_some, tkNs]
    by_cases h : (tk (l.drop k.toNat) 0 0).2.2 = 0
    · obtain ⟨a1, a2, a3, a4⟩ := tk_ok _ 0 0 h
      rw [List.length_drop] at a4
      rw [if_pos h, if_pos h, if_pos (by omega), w64 (by omega) (by omega), w64s (by omega) (by omega)]
      exact ih (j + 1) _ _ (by omega) (by omega) (by omega) (by omega) (by simp; omega)
    · rw [if_neg h, if_neg h]
theorem refTakeNums (l : List Int) (hb : IsBytes l) (hl : l.length < 4611686018427387904) : arrasref5_TakeNums.F l = some (tkNums l) := by
  rw [arrasref5_TakeNums.F_eq, refTakeNum l hb hl, Option.bind_some]
  unfold tkNums
  by_cases h : (tk l 0 0).2.2 = 0
  · obtain ⟨h1, h2, h3, h4⟩ := tk_ok l 0 0 h
    rw [if_pos h, if_pos h]
    by_cases hm : (tk l 0 0).1 > 1024
    · rw [if_pos hm, if_pos hm]
    · rw [if_neg hm, if_neg hm]
      have e : (tk l 0 0).1 = (((tk l 0 0).1.toNat : Nat) : Int) := by omega
      have := refTakeNums_L l hb hl (tk l 0 0).1.toNat (by omega) (tk l 0 0).1.toNat 0 (tk l 0 0).2.1 [] (by omega) (by omega) (by omega) (by omega) (by simp; omega)
      rw [← e] at this
      exact this
  · rw [if_neg h, if_neg h]
theorem tkNs_length (l : List Int) : ∀ (m : Nat) (k : Int) (acc : List Int), (tkNs l m k acc).1.length ≤ m + acc.length
  | 0, k, acc => by simp [tkNs]
  | m + 1, k, acc => by
    unfold tkNs
    split
    · have := tkNs_length l m (k + (tk (l.drop k.toNat) 0 0).2.1) (acc ++ [(tk (l.drop k.toNat) 0 0).1])
      simp at this
      omega
    · simp
theorem tkNums_length (l : List Int) : (tkNums l).1.length ≤ 1024 := by
  unfold tkNums
  split
  · split
    · simp
    · have := tkNs_length l (tk l 0 0).1.toNat (tk l 0 0).2.1 []
      simp at this
      omega
  · simp

/-! ### What is written over -/
theorem numbers_L : ∀ (d i : Nat) (l : List Int), l.length < 17592186044416 → i ≤ l.length → l.length - i = d → arraslaw0_Numbers.L0 l (i : Int) = some () := by
  intro d
  induction d with
  | zero =>
    intro i l hl hi hd
    rw [arraslaw0_Numbers.L0_eq, if_neg (by omega), if_pos hl]
  | succ d ih =>
    intro i l hl hi hd
    rw [arraslaw0_Numbers.L0_eq, if_pos (by omega), if_pos (by omega), w64s (by omega) (by omega)]
    exact ih (i + 1) _ (by simpa using hl) (by simp; omega) (by simp; omega)
theorem numbersOver (l : List Int) (hl : l.length < 17592186044416) : arraslaw0_Numbers.F l = some () := by
  rw [arraslaw0_Numbers.F_eq]
  exact numbers_L l.length 0 l hl (by omega) (by omega)
theorem wakes5 : arraslaw5_wakes.F = some true := by
  rw [arraslaw5_wakes.F_eq, code_num, Option.bind_some, if_pos (by decide)]
  have e : enc (Int.toNat 300) = [172, 2] := by
    rw [show Int.toNat 300 = 300 from rfl, enc_big (by decide), enc_small (by decide)]
    rfl
  rw [e]
  simp only [arraslaw5_num.f, Option.bind_some, if_true]
  rw [eqBytes _ _ (by decide)]
  rfl
end Go.Proofs.Ytpmcojmhkpaoaaa.PA

/- Plain laws of the small functions: stamps. -/
set_option linter.unusedVariables false
set_option linter.unusedSimpArgs false
namespace Go.Proofs.Ytpmcojmhkpaoaaa.PA
open Go.RowKit Go.Proofs.YtpmcojmhkpaoaaaW.PrintWords Go.Proofs.YtpmcojmhkpaoaaaW.PrintLast Go.Proofs.YtpmcojmhkpaoaaaW.PrintMore

def isStamp (t r : Int) : Bool := decide (1 ≤ t ∧ t ≤ 1099511627776 ∧ 0 ≤ r ∧ r < 16)
def isPlace (t r : Int) : Bool := isStamp t r || (t == 0 && r == 0) || (t == 0 && r == 1)
theorem stampIs (t r : Int) : stamp_Is.f t r = some (isStamp t r) := by
  unfold stamp_Is.f isStamp
  split
  · split
    · split
      · exact congrArg some (decide_eq_decide.2 (by omega))
      · exact congrArg some (decide_eq_false (by omega)).symm
    · exact congrArg some (decide_eq_false (by omega)).symm
  · exact congrArg some (decide_eq_false (by omega)).symm
theorem refNum (a m : Int) : arrasref0_Num.f a m = some (decide (0 ≤ a ∧ a ≤ m)) := by
  unfold arrasref0_Num.f
  split
  · exact congrArg some (decide_eq_decide.2 (by omega))
  · exact congrArg some (decide_eq_false (by omega)).symm
theorem refStamp (t r : Int) : arrasref6_Stamp.f t r = some (isStamp t r) := by
  unfold arrasref6_Stamp.f isStamp
  rw [refNum]
  split
  · split
    · exact congrArg some (decide_eq_decide.2 (by omega))
    · exact congrArg some (decide_eq_false (by omega)).symm
  · exact congrArg some (decide_eq_false (by omega)).symm
theorem stampPlace (t r : Int) : stamp_Place.f t r = some (isPlace t r) := by
  unfold stamp_Place.f isPlace
  rw [stampIs]
  simp only [Option.bind_some, stamp_Root.f, stamp_Trash.f]
  cases isStamp t r <;> simp
  split <;> simp_all
theorem refPlace (t r : Int) : arrasref6_Place.f t r = some (isPlace t r) := by
  unfold arrasref6_Place.f isPlace
  rw [refStamp]
  simp only [Option.bind_some, arrasref6_Root.f, arrasref6_Trash.f]
  cases isStamp t r <;> simp
  split <;> simp_all
theorem stampCheck (t r : Int) : stamp_Check.f t r = some (if isStamp t r = true then 0 else 1) := by
  unfold stamp_Check.f
  rw [stampIs, Option.bind_some]
  split <;> rfl
def cmpS (a b c d : Int) : Int := if a < c then -1 else if c < a then 1 else if b < d then -1 else if d < b then 1 else 0
theorem compare_int (a b : Int) : cmp_Compare_int.f a b = some (if a < b then -1 else if b < a then 1 else 0) := by
  unfold cmp_Compare_int.f cmp_isNaN_int.f
  simp only [bne_self_eq_false, Option.bind_some, if_neg Bool.false_ne_true]
  split
  · rfl
  · split <;> rfl
theorem or_two (x y : Int) : cmp_Or_int.F [x, y] = some (if x = 0 then y else x) := by
  have hl : (([x, y] : List Int).length : Int) = 2 := rfl
  have e0 : rd [x, y] 0 = x := rfl
  have e1 : rd [x, y] 1 = y := rfl
  rw [cmp_Or_int.F_eq, cmp_Or_int.L0_eq, hl, if_pos (by decide), if_pos (by decide), if_pos (by decide), e0, w64s (by decide) (by decide)]
  split
  · rw [cmp_Or_int.L0_eq, hl, if_pos (by decide), if_pos (by decide), if_pos (by decide), Int.zero_add, e1]
    split
    · rename_i h
      rw [w64s (by decide) (by decide), cmp_Or_int.L0_eq, hl, if_neg (by decide), h]
    · rfl
  · rfl
theorem stampCmp (a b c d : Int) : stamp_Cmp.F a b c d = some (cmpS a b c d) := by
  rw [stamp_Cmp.F_eq, compare_int, Option.bind_some, compare_int, Option.bind_some, or_two, Option.bind_some]
  unfold cmpS
  by_cases h1 : a < c
  · simp [h1]
  · by_cases h2 : c < a
    · simp [h1, h2]
    · simp [h1, h2]
theorem refCmp (a b c d : Int) : arrasref6_Cmp.F a b c d = some (cmpS a b c d) := by
  rw [arrasref6_Cmp.F_eq]
  unfold cmpS
  simp only [arrasref6_Cmp.J0_eq]
  by_cases h1 : a < c
  · simp [h1]
  · by_cases h2 : c < a
    · have h3 : ¬ a = c := by omega
      simp [h1, h2, h3]
    · have h3 : a = c := by omega
      subst h3
      by_cases h4 : b < d
      · simp [h4]
      · by_cases h5 : d < b
        · have h6 : ¬ b = d := by omega
          simp [h4, h5, h6]
        · have h6 : b = d := by omega
          simp [h6]
theorem stampNext (t r : Int) : stamp_Next.F t r = some (if 0 ≤ t ∧ t ≤ 1099511627776 ∧ 0 ≤ r ∧ r < 16 then (if t = 1099511627776 then (0, 0, 5) else (t + 1, r, 0)) else (0, 0, 1)) := by
  rw [stamp_Next.F_eq]
  simp only [stamp_Next.J0_eq]
  by_cases h1 : t < 0
  · rw [if_pos h1, if_pos trivial, if_neg (by omega)]
  · rw [if_neg h1]
    by_cases h2 : t > 1099511627776
    · rw [if_pos h2, if_pos trivial, if_neg (by omega)]
    · rw [if_neg h2]
      by_cases h3 : r < 0
      · rw [if_pos h3, if_pos trivial, if_neg (by omega)]
      · rw [if_neg h3]
        by_cases h4 : r ≥ 16
        · rw [if_pos (decide_eq_true h4), if_neg (by omega)]
        · rw [if_neg (by rw [decide_eq_true_eq]; exact h4), if_pos (show 0 ≤ t ∧ t ≤ 1099511627776 ∧ 0 ≤ r ∧ r < 16 by omega), w64s (x := t) (by omega) (by omega)]
          split <;> rfl
theorem wakes6 : arraslaw6_wakes.F = some true := by
  rw [arraslaw6_wakes.F_eq, stampNext, Option.bind_some]
  rfl
theorem rd70 (l : List S70) (i : Nat) (h : i < l.length) : rd_T70 l (i : Int) = l[i] := by simp [rd_T70, h]
end Go.Proofs.Ytpmcojmhkpaoaaa.PA

/- Plain laws of the small functions: vectors. -/
set_option linter.unusedVariables false
set_option linter.unusedSimpArgs false
namespace Go.Proofs.Ytpmcojmhkpaoaaa.PA
open Go.RowKit Go.Proofs.YtpmcojmhkpaoaaaW.PrintWords Go.Proofs.YtpmcojmhkpaoaaaW.PrintLast Go.Proofs.YtpmcojmhkpaoaaaW.PrintMore

def inVec (x : Int) : Prop := 0 ≤ x ∧ x ≤ 1099511627776
instance (x : Int) : Decidable (inVec x) := inferInstanceAs (Decidable (_ ∧ _))
def isVec (v : List Int) : Bool := decide (1 ≤ v.length ∧ v.length ≤ 16 ∧ ∀ x ∈ v, inVec x)
theorem isVec_iff {v : List Int} : isVec v = true ↔ 1 ≤ v.length ∧ v.length ≤ 16 ∧ ∀ x ∈ v, inVec x := by unfold isVec; rw [decide_eq_true_eq]
theorem all_drop {p : Int → Prop} {v : List Int} {i : Nat} (h : i < v.length) : (∀ x ∈ v.drop i, p x) ↔ p v[i] ∧ ∀ x ∈ v.drop (i + 1), p x := by
  rw [List.drop_eq_getElem_cons h, List.forall_mem_cons]
theorem haveIs_L (v : List Int) (hl : v.length < 9223372036854775807) : ∀ (d i : Nat), i ≤ v.length → v.length - i = d → have_Is.L0 v (i : Int) = some (decide (1 ≤ v.length ∧ v.length ≤ 16 ∧ ∀ x ∈ v.drop i, inVec x)) := by
  intro d
  induction d with
  | zero =>
    intro i hi hd
    have hi' : i = v.length := by omega
    subst hi'
    rw [have_Is.L0_eq, if_pos (by omega)]
    simp only [List.drop_length]
    by_cases h : (v.length : Int) ≥ 1
    · rw [if_pos h]
      exact congrArg some (decide_eq_decide.2 (by simp; omega))
    · rw [if_neg h]
      exact congrArg some (decide_eq_false (by omega)).symm
  | succ d ih =>
    intro i hi hd
    have hil : i < v.length := by omega
    rw [have_Is.L0_eq, if_neg (by omega), if_pos (by omega), if_pos (by omega), rd_nat v i hil]
    have hall := all_drop (p := inVec) hil
    by_cases h1 : v[i] ≥ 0
    · rw [if_pos h1]
      by_cases h2 : v[i] ≤ 1099511627776
      · rw [if_pos h2, w64s (by omega) (by omega), show ((i : Int) + 1) = ((i + 1 : Nat) : Int) from rfl, ih (i + 1) (by omega) (by omega)]
        refine congrArg some (decide_eq_decide.2 ?_)
        rw [hall]
        exact ⟨fun h => ⟨h.1, h.2.1, ⟨h1, h2⟩, h.2.2⟩, fun h => ⟨h.1, h.2.1, h.2.2.2⟩⟩
      · rw [if_neg h2]
        exact congrArg some (decide_eq_false (fun h => h2 (hall.1 h.2.2).1.2)).symm
    · rw [if_neg h1]
      exact congrArg some (decide_eq_false (fun h => h1 (hall.1 h.2.2).1.1)).symm
theorem haveIs (v : List Int) (hl : v.length < 9223372036854775807) : have_Is.F v = some (isVec v) := by
  rw [have_Is.F_eq]
  exact haveIs_L v hl v.length 0 (by omega) (by omega)
theorem refVector_L (v : List Int) (hl : v.length < 9223372036854775807) : ∀ (d i : Nat), i ≤ v.length → v.length - i = d → arrasref6_Vector.L0 v (i : Int) = some (decide (1 ≤ v.length ∧ v.length ≤ 16 ∧ ∀ x ∈ v.drop i, inVec x)) := by
  intro d
  induction d with
  | zero =>
    intro i hi hd
    have hi' : i = v.length := by omega
    subst hi'
    rw [arrasref6_Vector.L0_eq, if_neg (by omega)]
    simp only [List.drop_length]
    by_cases h : (v.length : Int) ≥ 1
    · rw [if_pos h]
      exact congrArg some (decide_eq_decide.2 (by simp; omega))
    · rw [if_neg h]
      exact congrArg some (decide_eq_false (by omega)).symm
  | succ d ih =>
    intro i hi hd
    have hil : i < v.length := by omega
    rw [arrasref6_Vector.L0_eq, if_pos (by omega), if_pos (by omega), rd_nat v i hil, refNum, Option.bind_some]
    have hall := all_drop (p := inVec) hil
    by_cases h1 : 0 ≤ v[i] ∧ v[i] ≤ 1099511627776
    · rw [if_pos (decide_eq_true h1), w64s (by omega) (by omega), show ((i : Int) + 1) = ((i + 1 : Nat) : Int) from rfl, ih (i + 1) (by omega) (by omega)]
      refine congrArg some (decide_eq_decide.2 ?_)
      rw [hall]
      exact ⟨fun h => ⟨h.1, h.2.1, h1, h.2.2⟩, fun h => ⟨h.1, h.2.1, h.2.2.2⟩⟩
    · rw [if_neg (by rw [decide_eq_true_eq]; exact h1)]
      exact congrArg some (decide_eq_false (fun h => h1 (hall.1 h.2.2).1)).symm
theorem refVector (v : List Int) (hl : v.length < 9223372036854775807) : arrasref6_Vector.F v = some (isVec v) := by
  rw [arrasref6_Vector.F_eq]
  exact refVector_L v hl v.length 0 (by omega) (by omega)
def isPair (a b : List Int) : Bool := isVec a && isVec b && decide (a.length = b.length)
theorem isPair_iff {a b : List Int} : isPair a b = true ↔ isVec a = true ∧ isVec b = true ∧ a.length = b.length := by
  simp [isPair, and_assoc]
theorem together_F (a b : List Int) (ha : a.length < 9223372036854775807) (hb : b.length < 9223372036854775807) : have_together.F a b = some (isPair a b) := by
  rw [have_together.F_eq, haveIs a ha, Option.bind_some, haveIs b hb, Option.bind_some]
  unfold isPair
  have e : ((a.length : Int) == (b.length : Int)) = decide (a.length = b.length) := by
    by_cases h : a.length = b.length
    · simp [h]
    · simp [h]; omega
  rw [e]
  cases isVec a <;> cases isVec b <;> simp
theorem refPair (a b : List Int) (ha : a.length < 9223372036854775807) (hb : b.length < 9223372036854775807) : arrasref6_Pair.F a b = some (isPair a b) := by
  rw [arrasref6_Pair.F_eq, refVector a ha, Option.bind_some, refVector b hb, Option.bind_some]
  unfold isPair
  have e : ((a.length : Int) == (b.length : Int)) = decide (a.length = b.length) := by
    by_cases h : a.length = b.length
    · simp [h]
    · simp [h]; omega
  rw [e]
  cases isVec a <;> cases isVec b <;> simp

/-! ### Element by element -/
def joinV (a b : List Int) : List Int := List.zipWith mx a b
def lacksV (a b : List Int) : List Int := List.zipWith (fun x y => mx 0 (y - x)) a b
def overV (a b : List Int) : Bool := decide (∀ (i : Nat) (h1 : i < a.length) (h2 : i < b.length), b[i] ≤ a[i])
theorem zip_take_succ (f : Int → Int → Int) (a b : List Int) (i : Nat) (ha : i < a.length) (hb : i < b.length) : (List.zipWith f a b).take (i + 1) = (List.zipWith f a b).take i ++ [f a[i] b[i]] := by
  rw [take_succ' _ i (by simp; omega)]
  simp
theorem join_L (a b : List Int) (hab : a.length = b.length) (hl : a.length < 17592186044416) : ∀ (d i : Nat), i ≤ a.length → a.length - i = d →
    have_Join.L0 a b ((joinV a b).take i) (a.length : Int) (i : Int) = some (joinV a b, 0) := by
  have hlen : (joinV a b).length = a.length := by simp [joinV]; omega
  intro d
  induction d with
  | zero =>
    intro i hi hd
    rw [have_Join.L0_eq, if_neg (by omega), List.take_of_length_le (by omega)]
  | succ d ih =>
    intro i hi hd
    rw [have_Join.L0_eq, if_pos (by omega), if_pos (by omega), if_pos (by omega), if_pos (by omega), if_pos (by rw [List.length_take]; omega), rd_nat a i (by omega), rd_nat b i (by omega), w64s (by omega) (by omega)]
    have := zip_take_succ mx a b i (by omega) (by omega)
    unfold joinV at ih ⊢
    rw [← this]
    exact ih (i + 1) (by omega) (by omega)
theorem join_F (a b : List Int) (ha : a.length < 17592186044416) (hb : b.length < 17592186044416) : have_Join.F a b = some (if isPair a b = true then (joinV a b, 0) else ([], 1)) := by
  rw [have_Join.F_eq, together_F a b (by omega) (by omega), Option.bind_some]
  by_cases h : isPair a b = true
  · rw [if_pos h, if_pos h]
    exact join_L a b (isPair_iff.1 h).2.2 ha a.length 0 (by omega) (by omega)
  · rw [if_neg h, if_neg h]
theorem lacks_L (a b : List Int) (hab : a.length = b.length) (hl : a.length < 17592186044416) (hva : ∀ x ∈ a, inVec x) (hvb : ∀ x ∈ b, inVec x) : ∀ (d i : Nat), i ≤ a.length → a.length - i = d →
    have_Lacks.L0 a b ((lacksV a b).take i) (a.length : Int) (i : Int) = some (lacksV a b, 0) := by
  have hlen : (lacksV a b).length = a.length := by simp [lacksV]; omega
  intro d
  induction d with
  | zero =>
    intro i hi hd
    rw [have_Lacks.L0_eq, if_neg (by omega), List.take_of_length_le (by omega)]
  | succ d ih =>
    intro i hi hd
    have h1 := hva a[i] (List.getElem_mem (by omega))
    have h2 := hvb b[i] (List.getElem_mem (by omega))
    unfold inVec at h1 h2
    rw [have_Lacks.L0_eq, if_pos (by omega), if_pos (by omega), if_pos (by omega), if_pos (by omega), if_pos (by rw [List.length_take]; omega), rd_nat a i (by omega), rd_nat b i (by omega), w64s (by omega) (by omega), w64 (by omega) (by omega)]
    have := zip_take_succ (fun x y => mx 0 (y - x)) a b i (by omega) (by omega)
    unfold lacksV at ih ⊢
    rw [← this]
    exact ih (i + 1) (by omega) (by omega)
theorem lacks_F (a b : List Int) (ha : a.length < 17592186044416) (hb : b.length < 17592186044416) : have_Lacks.F a b = some (if isPair a b = true then (lacksV a b, 0) else ([], 1)) := by
  rw [have_Lacks.F_eq, together_F a b (by omega) (by omega), Option.bind_some]
  by_cases h : isPair a b = true
  · rw [if_pos h, if_pos h]
    obtain ⟨h1, h2, h3⟩ := isPair_iff.1 h
    exact lacks_L a b h3 ha (isVec_iff.1 h1).2.2 (isVec_iff.1 h2).2.2 a.length 0 (by omega) (by omega)
  · rw [if_neg h, if_neg h]
theorem over_L (a b : List Int) (hab : a.length = b.length) (hl : a.length < 17592186044416) : ∀ (d i : Nat), i ≤ a.length → a.length - i = d →
    have_Over.L0 a b (a.length : Int) (i : Int) = some (decide (∀ (j : Nat) (h1 : j < a.length) (h2 : j < b.length), i ≤ j → b[j] ≤ a[j])) := by
  intro d
  induction d with
  | zero =>
    intro i hi hd
    rw [have_Over.L0_eq, if_neg (by omega)]
    exact congrArg some (decide_eq_true (fun j h1 h2 h3 => by omega)).symm
  | succ d ih =>
    intro i hi hd
    rw [have_Over.L0_eq, if_pos (by omega), if_pos (by omega), if_pos (by omega), if_pos (by omega), rd_nat a i (by omega), rd_nat b i (by omega), w64s (by omega) (by omega), show ((i : Int) + 1) = ((i + 1 : Nat) : Int) from rfl, ih (i + 1) (by omega) (by omega)]
    by_cases h : b[i] > a[i]
    · rw [if_pos h]
      exact congrArg some (decide_eq_false (fun hh => by have := hh i (by omega) (by omega) (Nat.le_refl _); omega)).symm
    · rw [if_neg h]
      refine congrArg some (decide_eq_decide.2 ⟨fun hh j h1 h2 h3 => ?_, fun hh j h1 h2 h3 => hh j h1 h2 (by omega)⟩)
      by_cases hj : j = i
      · subst hj; omega
      · exact hh j h1 h2 (by omega)
theorem over_F (a b : List Int) (hab : a.length = b.length) (hl : a.length < 17592186044416) : have_Over.F a b = some (overV a b) := by
  rw [have_Over.F_eq]
  have := over_L a b hab hl a.length 0 (by omega) (by omega)
  rw [show ((0 : Nat) : Int) = 0 from rfl] at this
  rw [this]
  exact congrArg some (decide_eq_decide.2 ⟨fun hh j h1 h2 => hh j h1 h2 (Nat.zero_le _), fun hh j h1 h2 _ => hh j h1 h2⟩)
theorem refCovers_L (a b : List Int) (hab : a.length = b.length) (hl : a.length < 17592186044416) : ∀ (d i : Nat), i ≤ a.length → a.length - i = d →
    arrasref6_Covers.L0 a b (i : Int) = some (decide (∀ (j : Nat) (h1 : j < a.length) (h2 : j < b.length), i ≤ j → b[j] ≤ a[j])) := by
  intro d
  induction d with
  | zero =>
    intro i hi hd
    rw [arrasref6_Covers.L0_eq, if_neg (by omega)]
    exact congrArg some (decide_eq_true (fun j h1 h2 h3 => by omega)).symm
  | succ d ih =>
    intro i hi hd
    rw [arrasref6_Covers.L0_eq, if_pos (by omega), if_pos (by omega), if_pos (by omega), rd_nat a i (by omega), rd_nat b i (by omega), w64s (by omega) (by omega), show ((i : Int) + 1) = ((i + 1 : Nat) : Int) from rfl, ih (i + 1) (by omega) (by omega)]
    by_cases h : b[i] > a[i]
    · rw [if_pos h]
      exact congrArg some (decide_eq_false (fun hh => by have := hh i (by omega) (by omega) (Nat.le_refl _); omega)).symm
    · rw [if_neg h]
      refine congrArg some (decide_eq_decide.2 ⟨fun hh j h1 h2 h3 => ?_, fun hh j h1 h2 h3 => hh j h1 h2 (by omega)⟩)
      by_cases hj : j = i
      · subst hj; omega
      · exact hh j h1 h2 (by omega)
theorem refCovers (a b : List Int) (hab : a.length = b.length) (hl : a.length < 17592186044416) : arrasref6_Covers.F a b = some (overV a b) := by
  rw [arrasref6_Covers.F_eq]
  have := refCovers_L a b hab hl a.length 0 (by omega) (by omega)
  rw [show ((0 : Nat) : Int) = 0 from rfl] at this
  rw [this]
  exact congrArg some (decide_eq_decide.2 ⟨fun hh j h1 h2 => hh j h1 h2 (Nat.zero_le _), fun hh j h1 h2 _ => hh j h1 h2⟩)
theorem covers_F (a b : List Int) (ha : a.length < 17592186044416) (hb : b.length < 17592186044416) : have_Covers.F a b = some (if isPair a b = true then (overV a b, 0) else (false, 1)) := by
  rw [have_Covers.F_eq, together_F a b (by omega) (by omega), Option.bind_some]
  by_cases h : isPair a b = true
  · rw [if_pos h, if_pos h, over_F a b (isPair_iff.1 h).2.2 ha, Option.bind_some]
  · rw [if_neg h, if_neg h]
theorem sum_le (v : List Int) (h : ∀ x ∈ v, inVec x) : 0 ≤ v.sum ∧ v.sum ≤ v.length * 1099511627776 := by
  induction v with
  | nil => simp
  | cons x v ih =>
    have h1 := h x (by simp)
    have h2 := ih (fun y hy => h y (by simp [hy]))
    unfold inVec at h1
    simp only [List.sum_cons, List.length_cons]
    omega
theorem sum_take_succ (v : List Int) (i : Nat) (h : i < v.length) : (v.take (i + 1)).sum = (v.take i).sum + v[i] := by
  rw [take_succ' v i h, List.sum_append]
  simp
theorem count_L (v : List Int) (hl : v.length ≤ 16) (hv : ∀ x ∈ v, inVec x) : ∀ (d i : Nat), i ≤ v.length → v.length - i = d → have_Count.L0 (v.take i).sum v (v.length : Int) (i : Int) = some (v.sum, 0) := by
  intro d
  induction d with
  | zero =>
    intro i hi hd
    rw [have_Count.L0_eq, if_neg (by omega), List.take_of_length_le (by omega)]
  | succ d ih =>
    intro i hi hd
    have hs := sum_le (v.take i) (fun x hx => hv x (List.mem_of_mem_take hx))
    have hx := hv v[i] (List.getElem_mem (by omega))
    have ht : (v.take i).length ≤ 16 := by rw [List.length_take]; omega
    unfold inVec at hx
    have hb : ((v.take i).length : Int) * 1099511627776 ≤ 16 * 1099511627776 := by omega
    rw [have_Count.L0_eq, if_pos (by omega), if_pos (by omega), if_pos (by omega), rd_nat v i (by omega), w64s (by omega) (by omega), w64 (by omega) (by omega), ← sum_take_succ v i (by omega)]
    exact ih (i + 1) (by omega) (by omega)
theorem count_F (v : List Int) (hl : v.length < 9223372036854775807) : have_Count.F v = some (if isVec v = true then (v.sum, 0) else (0, 1)) := by
  rw [have_Count.F_eq, haveIs v hl, Option.bind_some]
  by_cases h : isVec v = true
  · rw [if_pos h, if_pos h]
    obtain ⟨h1, h2, h3⟩ := isVec_iff.1 h
    exact count_L v h2 h3 v.length 0 (by omega) (by omega)
  · rw [if_neg h, if_neg h]
theorem wakes7 : arraslaw7_wakes.F = some true := by
  rw [arraslaw7_wakes.F_eq, join_F _ _ (by decide) (by decide), Option.bind_some, if_pos (by decide)]
  simp only [arraslaw7_num.f, Option.bind_some, if_true]
  rw [eqNumbers _ _ (by decide)]
  rfl
theorem joinV_length (a b : List Int) (h : a.length = b.length) : (joinV a b).length = a.length := by simp [joinV]; omega
theorem lacksV_length (a b : List Int) (h : a.length = b.length) : (lacksV a b).length = a.length := by simp [lacksV]; omega
theorem joinV_get (a b : List Int) (i : Nat) (h1 : i < a.length) (h2 : i < b.length) (h : i < (joinV a b).length) : (joinV a b)[i] = mx a[i] b[i] := by simp [joinV]
theorem lacksV_get (a b : List Int) (i : Nat) (h1 : i < a.length) (h2 : i < b.length) (h : i < (lacksV a b).length) : (lacksV a b)[i] = mx 0 (b[i] - a[i]) := by simp [lacksV]
theorem vec_of {v : List Int} (h1 : 1 ≤ v.length) (h2 : v.length ≤ 16) (h : ∀ (i : Nat) (hi : i < v.length), inVec v[i]) : isVec v = true :=
  isVec_iff.2 ⟨h1, h2, fun x hx => by obtain ⟨i, hi, rfl⟩ := List.mem_iff_getElem.1 hx; exact h i hi⟩
theorem vec_get {v : List Int} (h : isVec v = true) (i : Nat) (hi : i < v.length) : 0 ≤ v[i] ∧ v[i] ≤ 1099511627776 := (isVec_iff.1 h).2.2 _ (List.getElem_mem hi)
theorem join_vec {a b : List Int} (h : isPair a b = true) : isVec (joinV a b) = true := by
  obtain ⟨ha, hb, hl⟩ := isPair_iff.1 h
  have hj := joinV_length a b hl
  have := isVec_iff.1 ha
  refine vec_of (by omega) (by omega) (fun i hi => ?_)
  rw [joinV_get a b i (by omega) (by omega)]
  have h1 := vec_get ha i (by omega)
  have h2 := vec_get hb i (by omega)
  unfold inVec mx
  split <;> omega
theorem join_comm {a b : List Int} (h : a.length = b.length) : joinV b a = joinV a b := by
  apply List.ext_getElem
  · rw [joinV_length _ _ h, joinV_length _ _ h.symm]; omega
  · intro i h1 h2
    rw [joinV_length _ _ h.symm] at h1
    rw [joinV_get b a i (by omega) (by omega), joinV_get a b i (by omega) (by omega)]
    unfold mx
    split <;> split <;> omega
theorem join_self (a : List Int) : joinV a a = a := by
  apply List.ext_getElem
  · exact joinV_length a a rfl
  · intro i h1 h2
    rw [joinV_get a a i (by omega) (by omega)]
    unfold mx
    split <;> omega
theorem pair_join {a b : List Int} (h : isPair a b = true) : isPair (joinV a b) a = true ∧ isPair (joinV a b) b = true := by
  obtain ⟨ha, hb, hl⟩ := isPair_iff.1 h
  exact ⟨isPair_iff.2 ⟨join_vec h, ha, joinV_length a b hl⟩, isPair_iff.2 ⟨join_vec h, hb, (joinV_length a b hl).trans hl⟩⟩
theorem over_join {a b : List Int} (hl : a.length = b.length) : overV (joinV a b) a = true ∧ overV (joinV a b) b = true := by
  have hj := joinV_length a b hl
  refine ⟨decide_eq_true (fun i h1 h2 => ?_), decide_eq_true (fun i h1 h2 => ?_)⟩
  all_goals
    rw [joinV_get a b i (by omega) (by omega)]
    unfold mx
    split <;> omega

theorem rd86 (l : List S86) (i : Nat) (h : i < l.length) : rd_T86 l (i : Int) = l[i] := by simp [rd_T86, h]
theorem heavy7 (a b x : List Int) (ha : a.length < 4611686018427387904) (hb : b.length < 4611686018427387904) : arraslaw7_heavy.f a b x = some (decide (a.length + b.length > 2000 ∨ x.length > 3000)) := by
  unfold arraslaw7_heavy.f
  rw [w64 (by omega) (by omega)]
  by_cases h1 : (a.length : Int) + (b.length : Int) > 2000
  · rw [if_pos h1]
    exact congrArg some (decide_eq_true (.inl (by omega))).symm
  · rw [if_neg h1]
    exact congrArg some (decide_eq_decide.2 ⟨fun h => .inr (by omega), fun h => by omega⟩)
end Go.Proofs.Ytpmcojmhkpaoaaa.PA

/- Plain laws of numbers as bytes: what is written is taken, cut off it is cut off, what is taken was written so. -/
set_option linter.unusedVariables false
set_option linter.unusedSimpArgs false
namespace Go.Proofs.Ytpmcojmhkpaoaaa.PA
open Go.RowKit Go.Proofs.YtpmcojmhkpaoaaaW.PrintWords Go.Proofs.YtpmcojmhkpaoaaaW.PrintLast Go.Proofs.YtpmcojmhkpaoaaaW.PrintMore

theorem enc_bytes : ∀ n, IsBytes (enc n) := by
  intro n
  induction n using Nat.strongRecOn with
  | _ n ih =>
    by_cases h : n < 128
    · rw [enc_small h]
      intro x hx
      simp at hx
      omega
    · rw [enc_big h]
      intro x hx
      rcases List.mem_cons.1 hx with h1 | h1
      · omega
      · exact ih (n / 128) (by omega) x h1
/-- What is written is taken, whatever stands behind it. -/
theorem tk_enc : ∀ (m n i : Nat) (rest : List Int), n + m * 128 ^ i ≤ 4611686018427387904 → i + (enc m).length ≤ 9 → (0 < i → 0 < m) →
    tk (enc m ++ rest) n i = (((n + m * 128 ^ i : Nat) : Int), ((i + (enc m).length : Nat) : Int), 0) := by
  intro m
  induction m using Nat.strongRecOn with
  | _ m ih =>
    intro n i rest h1 h2 h3
    by_cases h : m < 128
    · rw [enc_small h, List.cons_append, List.nil_append]
      unfold tk
      rw [if_neg (by omega), Int.toNat_natCast, if_neg (by
        intro hh
        rcases hh with ⟨a, b⟩ | a
        · have := h3 b
          omega
        · omega)]
      simp
    · rw [enc_big h] at h2 ⊢
      have hl := enc_length_pos (m / 128)
      simp only [List.length_cons] at h2
      rw [List.cons_append]
      unfold tk
      have e : ((m % 128 + 128 : Nat) : Int).toNat - 128 = m % 128 := by omega
      have e2 : n + m % 128 * 128 ^ i + m / 128 * 128 ^ (i + 1) = n + m * 128 ^ i := by
        have e3 : m * 128 ^ i = (128 * (m / 128) + m % 128) * 128 ^ i := by rw [Nat.div_add_mod]
        rw [e3, Nat.pow_succ, Nat.add_mul, Nat.mul_comm (128 ^ i) 128, ← Nat.mul_assoc, Nat.mul_comm (m / 128) 128]
        omega
      rw [if_pos (by omega), if_neg (by omega), e, ih (m / 128) (by omega) _ _ rest (by rw [e2]; exact h1) (by omega) (by omega), e2]
      simp only [List.length_cons]
      have e4 : i + 1 + (enc (m / 128)).length = i + ((enc (m / 128)).length + 1) := by omega
      rw [e4]
theorem tk_put (m : Nat) (rest : List Int) (h : m ≤ 4611686018427387904) : tk (enc m ++ rest) 0 0 = ((m : Int), ((enc m).length : Int), 0) := by
  have := tk_enc m 0 0 rest (by omega) (by have := enc_length9 h; omega) (by omega)
  simpa using this
/-- Cut off anywhere it is cut off. -/
theorem tk_cut : ∀ (m n i j : Nat), i + (enc m).length ≤ 9 → j < (enc m).length → tk ((enc m).take j) n i = (0, 0, 7) := by
  intro m
  induction m using Nat.strongRecOn with
  | _ m ih =>
    intro n i j h2 hj
    by_cases h : m < 128
    · rw [enc_small h] at hj ⊢
      have : j = 0 := by simp at hj; omega
      subst this
      rfl
    · rw [enc_big h] at h2 hj ⊢
      have hl := enc_length_pos (m / 128)
      simp only [List.length_cons] at h2 hj
      match j with
      | 0 => rfl
      | j + 1 =>
        rw [List.take_succ_cons]
        unfold tk
        rw [if_pos (by omega), if_neg (by omega)]
        exact ih (m / 128) (by omega) _ _ j (by omega) (by omega)
/-- What is taken was written so. -/
theorem tk_back : ∀ (l : List Int) (n i : Nat), IsBytes l → (tk l n i).2.2 = 0 → ∃ m : Nat, (tk l n i).1 = ((n + m * 128 ^ i : Nat) : Int) ∧ (tk l n i).2.1 = ((i + (enc m).length : Nat) : Int) ∧ l.take (enc m).length = enc m ∧ (0 < i → 0 < m)
  | [], n, i, _, h => by simp [tk] at h
  | c :: r, n, i, hb, h => by
    have hc := hb c List.mem_cons_self
    have hr : IsBytes r := fun x hx => hb x (List.mem_cons_of_mem _ hx)
    unfold tk at h ⊢
    by_cases h1 : 128 ≤ c
    · rw [if_pos h1] at h ⊢
      by_cases h2 : i = 8
      · rw [if_pos h2] at h
        simp at h
      · rw [if_neg h2] at h ⊢
        obtain ⟨m, e1, e2, e3, e4⟩ := tk_back r _ _ hr h
        have hm := e4 (by omega)
        have hbig : ¬ c.toNat - 128 + 128 * m < 128 := by omega
        have ed : (c.toNat - 128 + 128 * m) / 128 = m := by omega
        have em : (c.toNat - 128 + 128 * m) % 128 = c.toNat - 128 := by omega
        refine ⟨c.toNat - 128 + 128 * m, ?_, ?_, ?_, by omega⟩
        · rw [e1, Nat.pow_succ, Nat.add_mul, Nat.mul_comm (128 ^ i) 128, ← Nat.mul_assoc, Nat.mul_comm m 128]
          congr 1
          omega
        · rw [e2, enc_big hbig, ed]
          simp only [List.length_cons]
          congr 1
          omega
        · rw [enc_big hbig, ed, em, List.length_cons, List.take_succ_cons, e3]
          congr 1
          omega
    · rw [if_neg h1] at h ⊢
      by_cases h2 : (c = 0 ∧ 0 < i) ∨ 4611686018427387904 < n + c.toNat * 128 ^ i
      · rw [if_pos h2] at h
        simp at h
      · rw [if_neg h2]
        refine ⟨c.toNat, rfl, ?_, ?_, fun hi => ?_⟩
        · rw [enc_small (by omega)]
          simp
        · rw [enc_small (by omega)]
          simp
          omega
        · have h3 : ¬ (c = 0 ∧ 0 < i) := fun h => h2 (.inl h)
          omega
theorem tk_was (l : List Int) (hb : IsBytes l) (h : (tk l 0 0).2.2 = 0) : enc (tk l 0 0).1.toNat = l.take (tk l 0 0).2.1.toNat := by
  obtain ⟨m, e1, e2, e3, _⟩ := tk_back l 0 0 hb h
  have f1 : (tk l 0 0).1.toNat = m := by rw [e1]; simp
  have f2 : (tk l 0 0).2.1.toNat = (enc m).length := by rw [e2]; simp
  rw [f1, f2, e3]
end Go.Proofs.Ytpmcojmhkpaoaaa.PA

/- Plain laws of rows of numbers and of texts as bytes: what is written, and that it is taken again. -/
set_option linter.unusedVariables false
set_option linter.unusedSimpArgs false
namespace Go.Proofs.Ytpmcojmhkpaoaaa.PA
open Go.RowKit Go.Proofs.YtpmcojmhkpaoaaaW.PrintWords Go.Proofs.YtpmcojmhkpaoaaaW.PrintLast Go.Proofs.YtpmcojmhkpaoaaaW.PrintMore

/-! ### Rows of numbers -/
def encs : List Int → List Int
  | [] => []
  | x :: r => enc x.toNat ++ encs r
def numIs (x : Int) : Prop := 0 ≤ x ∧ x ≤ 4611686018427387904
def encN (l : List Int) : List Int := enc l.length ++ encs l
theorem encs_bytes : ∀ l, IsBytes (encs l)
  | [] => fun _ h => nomatch h
  | x :: r => (enc_bytes _).append (encs_bytes r)
theorem encN_bytes (l : List Int) : IsBytes (encN l) := (enc_bytes _).append (encs_bytes l)
theorem encs_length : ∀ l : List Int, (∀ x ∈ l, numIs x) → (encs l).length ≤ 9 * l.length
  | [], _ => by simp [encs]
  | x :: r, h => by
    have h1 := encs_length r (fun y hy => h y (List.mem_cons_of_mem _ hy))
    have hx := h x List.mem_cons_self
    unfold numIs at hx
    have h2 := enc_length9 (n := x.toNat) (by omega)
    unfold encs
    rw [List.length_append, List.length_cons]
    omega
theorem encN_length (l : List Int) (hl : l.length ≤ 1024) (h : ∀ x ∈ l, numIs x) : (encN l).length ≤ 9225 := by
  have h1 := encs_length l h
  have h2 := enc_length9 (n := l.length) (by omega)
  unfold encN
  rw [List.length_append]
  omega
theorem encs_append : ∀ a b : List Int, encs (a ++ b) = encs a ++ encs b
  | [], _ => rfl
  | x :: r, b => by
    show enc x.toNat ++ encs (r ++ b) = enc x.toNat ++ encs r ++ encs b
    rw [encs_append r b, List.append_assoc]
theorem putAll_L (l : List Int) (hl : l.length ≤ 1024) (h : ∀ x ∈ l, numIs x) : ∀ (d i : Nat) (acc : List Int), i ≤ l.length → l.length - i = d → acc.length + 9 * d < 140737488355328 →
    code_PutAll.L0 acc l (l.length : Int) (i : Int) = some (acc ++ encs (l.drop i)) := by
  intro d
  induction d with
  | zero =>
    intro i acc hi hd ha
    rw [code_PutAll.L0_eq, if_neg (by omega), List.drop_of_length_le (by omega)]
    simp [encs]
  | succ d ih =>
    intro i acc hi hd ha
    have hil : i < l.length := by omega
    have hx := h l[i] (List.getElem_mem hil)
    unfold numIs at hx
    have h9 := enc_length9 (n := l[i].toNat) (by omega)
    have e : l[i] = (l[i].toNat : Int) := by omega
    rw [code_PutAll.L0_eq, if_pos (by omega), if_pos (by omega), if_pos (by omega), rd_nat l i hil, List.drop_eq_getElem_cons hil]
    show (code_Put.F acc l[i]).bind _ = some (acc ++ (enc l[i].toNat ++ encs (l.drop (i + 1))))
    rw [e, put_F _ _ (by omega) (by omega), Option.bind_some, w64s (by omega) (by omega), ← List.append_assoc, Int.toNat_natCast]
    exact ih (i + 1) _ (by omega) (by omega) (by rw [List.length_append]; omega)
theorem putAll (l : List Int) (hl : l.length ≤ 1024) (h : ∀ x ∈ l, numIs x) : code_PutAll.F [] l = some (encN l) := by
  have h9 := enc_length9 (n := l.length) (by omega)
  rw [code_PutAll.F_eq, put_F l.length [] (by omega) (by simp; omega), Option.bind_some]
  have := putAll_L l hl h l.length 0 ([] ++ enc l.length) (by omega) (by omega) (by simp; omega)
  rw [List.drop_zero] at this
  simpa [encN] using this
theorem tkNs_put : ∀ (r : List Int) (L pre rest acc : List Int), L = pre ++ (encs r ++ rest) → (∀ x ∈ r, numIs x) → tkNs L r.length (pre.length : Int) acc = (acc ++ r, ((pre.length + (encs r).length : Nat) : Int), 0)
  | [], L, pre, rest, acc, _, _ => by simp [tkNs, encs]
  | x :: r, L, pre, rest, acc, e, h => by
    have hx := h x List.mem_cons_self
    unfold numIs at hx
    have e1 : L.drop ((pre.length : Int)).toNat = enc x.toNat ++ (encs r ++ rest) := by
      rw [e, Int.toNat_natCast, List.drop_left]
      show enc x.toNat ++ encs r ++ rest = _
      rw [List.append_assoc]
    have e2 : L = (pre ++ enc x.toNat) ++ (encs r ++ rest) := by
      rw [e]
      show pre ++ (enc x.toNat ++ encs r ++ rest) = _
      simp only [List.append_assoc]
    have e3 : ((x.toNat : Nat) : Int) = x := by omega
    have ih := tkNs_put r L (pre ++ enc x.toNat) rest (acc ++ [x]) e2 (fun y hy => h y (List.mem_cons_of_mem _ hy))
    rw [List.length_cons]
    unfold tkNs
    rw [e1, tk_put x.toNat _ (by omega)]
    simp only [if_true, e3]
    rw [List.length_append] at ih
    rw [← Int.natCast_add, ih]
    simp only [List.append_assoc, List.cons_append, List.nil_append]
    congr 2
    show _ = ((pre.length + (enc x.toNat ++ encs r).length : Nat) : Int)
    rw [List.length_append]
    omega
theorem tkNums_put (l rest : List Int) (hl : l.length ≤ 1024) (h : ∀ x ∈ l, numIs x) : tkNums (encN l ++ rest) = (l, ((encN l).length : Int), 0) := by
  have e : encN l ++ rest = enc l.length ++ (encs l ++ rest) := by unfold encN; rw [List.append_assoc]
  have := tkNs_put l (encN l ++ rest) (enc l.length) rest [] e h
  unfold tkNums
  rw [e] at this ⊢
  rw [tk_put l.length _ (by omega)]
  simp only [if_true, Int.toNat_natCast]
  rw [if_neg (by omega), this]
  unfold encN
  simp [List.length_append]

/-! ### Texts -/
theorem str_back (s : ByteArray) : strOfNums (bytesOf s) = s := by
  unfold strOfNums bytesOf
  rw [List.map_map]
  have e : ((fun n : Int => UInt8.ofNat n.toNat) ∘ fun b : UInt8 => (b.toNat : Int)) = id := by
    funext b
    simp
  first
    | (rw [e, List.map_id]; done)
    | (simp [e]; done)
    | (simp [Function.comp_def]; done)
theorem bytesOf_bytes (s : ByteArray) : IsBytes (bytesOf s) := by
  intro x hx
  unfold bytesOf at hx
  obtain ⟨b, _, rfl⟩ := List.mem_map.1 hx
  have := b.toNat_lt
  omega
def encT (s : ByteArray) : List Int := enc s.size ++ bytesOf s
theorem encT_bytes (s : ByteArray) : IsBytes (encT s) := (enc_bytes _).append (bytesOf_bytes s)
theorem encT_length (s : ByteArray) (h : s.size ≤ 65536) : (encT s).length ≤ 65545 := by
  have h2 := enc_length9 (n := s.size) (by omega)
  unfold encT
  rw [List.length_append, bytesOf_length]
  omega
theorem text_F (s : ByteArray) : code_Text.F s = some (if s.size ≤ 65536 then (encT s, 0) else ([], 1)) := by
  rw [code_Text.F_eq]
  by_cases h : s.size ≤ 65536
  · have h2 := enc_length9 (n := s.size) (by omega)
    rw [if_neg (by omega), if_pos h, code_PutText.F_eq, put_F _ _ (by omega) (by simp; omega), Option.bind_some, List.nil_append, if_pos (by omega), Option.bind_some]
    rfl
  · rw [if_pos (by omega), if_neg h]
theorem tkText_put (s : ByteArray) (rest : List Int) (h : s.size ≤ 65536) : tkText (encT s ++ rest) = (s, ((encT s).length : Int), 0) := by
  have e : encT s ++ rest = enc s.size ++ (bytesOf s ++ rest) := by unfold encT; rw [List.append_assoc]
  have hb := bytesOf_length s
  unfold tkText
  rw [e, tk_put s.size _ (by omega)]
  simp only [if_true]
  rw [if_neg (by omega), if_neg (by simp only [List.length_append]; omega)]
  have e1 : ((enc s.size).length : Int) + (s.size : Int) = (((enc s.size).length + s.size : Nat) : Int) := by omega
  have e2 : (List.take ((enc s.size).length + s.size) (enc s.size ++ (bytesOf s ++ rest))).drop (enc s.size).length = bytesOf s := by
    rw [List.take_length_add_append, List.drop_left, ← hb, List.take_left]
  rw [e1, Int.toNat_natCast, Int.toNat_natCast, e2, str_back]
  unfold encT
  rw [List.length_append, hb]
theorem tkText_cut (s : ByteArray) (j : Nat) (h : s.size ≤ 65536) (hj : j < (encT s).length) : (tkText ((encT s).take j)).2.2 = 7 := by
  have h9 := enc_length9 (n := s.size) (by omega)
  have hb := bytesOf_length s
  unfold tkText
  by_cases hc : j < (enc s.size).length
  · have e : (encT s).take j = (enc s.size).take j := by
      unfold encT
      rw [List.take_append_of_le_length (by omega)]
    rw [e, tk_cut s.size 0 0 j (by omega) hc]
    simp
  · have e : (encT s).take j = enc s.size ++ (bytesOf s).take (j - (enc s.size).length) := by
      unfold encT
      rw [List.take_append, List.take_of_length_le (by omega)]
    have hl : (encT s).length = (enc s.size).length + s.size := by unfold encT; rw [List.length_append, hb]
    rw [e, tk_put s.size _ (by omega)]
    simp only [if_true]
    rw [if_neg (by omega), if_pos (by simp only [List.length_append, List.length_take, hb]; omega)]
end Go.Proofs.Ytpmcojmhkpaoaaa.PA

set_option linter.unusedVariables false
set_option linter.unusedSimpArgs false
namespace Go.Proofs.Ytpmcojmhkpaoaaa.PA
open Go.RowKit Go.Proofs.YtpmcojmhkpaoaaaW.PrintWords Go.Proofs.YtpmcojmhkpaoaaaW.PrintLast Go.Proofs.YtpmcojmhkpaoaaaW.PrintMore

theorem vec_nums {v : List Int} (h : isVec v = true) : v.length ≤ 1024 ∧ ∀ x ∈ v, numIs x := by
  obtain ⟨_, h2, h3⟩ := isVec_iff.1 h
  refine ⟨by omega, fun x hx => ?_⟩
  have := h3 x hx
  unfold inVec at this
  unfold numIs
  omega
theorem haveBytes_F (v : List Int) (hl : v.length < 9223372036854775807) : have_Bytes.F v = some (if isVec v = true then (encN v, 0) else ([], 1)) := by
  rw [have_Bytes.F_eq, haveIs v hl, Option.bind_some]
  by_cases h : isVec v = true
  · rw [if_pos h, if_pos h, putAll v (vec_nums h).1 (vec_nums h).2, Option.bind_some]
  · rw [if_neg h, if_neg h]
def tkVec (l : List Int) : List Int × Int × Int :=
  if (tkNums l).2.2 = 0 then (if isVec (tkNums l).1 = true then ((tkNums l).1, (tkNums l).2.1, 0) else ([], 0, 1)) else ([], 0, (tkNums l).2.2)
theorem haveTake (l : List Int) (hb : IsBytes l) (hl : l.length < 4611686018427387904) : have_Take.F l = some (tkVec l) := by
  have hn := tkNums_length l
  rw [have_Take.F_eq, takeNums l hb hl, Option.bind_some]
  unfold tkVec
  by_cases h : (tkNums l).2.2 = 0
  · rw [if_pos h, if_pos h, haveIs _ (by omega), Option.bind_some]
    by_cases g : isVec (tkNums l).1 = true
    · rw [if_pos g, if_pos g]
    · rw [if_neg g, if_neg g]
  · rw [if_neg h, if_neg h]
theorem refTakeVec (l : List Int) (hb : IsBytes l) (hl : l.length < 4611686018427387904) : arrasref6_TakeVector.F l = some (tkVec l) := by
  have hn := tkNums_length l
  rw [arrasref6_TakeVector.F_eq, refTakeNums l hb hl, Option.bind_some]
  unfold tkVec
  by_cases h : (tkNums l).2.2 = 0
  · rw [if_pos h, if_pos h, refVector _ (by omega), Option.bind_some]
    by_cases g : isVec (tkNums l).1 = true
    · rw [if_pos g, if_pos g]
    · rw [if_neg g, if_neg g]
  · rw [if_neg h, if_neg h]
theorem tkVec_put {v : List Int} (h : isVec v = true) (rest : List Int) : tkVec (encN v ++ rest) = (v, ((encN v).length : Int), 0) := by
  unfold tkVec
  rw [tkNums_put v rest (vec_nums h).1 (vec_nums h).2]
  simp [h]
theorem tkVec_length (l : List Int) : (tkVec l).1.length ≤ 1024 := by
  have hn := tkNums_length l
  unfold tkVec
  split
  · split
    · exact hn
    · simp
  · simp

theorem haveBytes_L (l : List S86) (hl : l.length ≤ 9223372036854775807) (hok : ∀ a ∈ l, ok_T86 a) : ∀ (d i : Nat), i ≤ l.length → l.length - i = d → arraslaw7_HaveBytes.L0 l (i : Int) = some true := by
  intro d
  induction d with
  | zero =>
    intro i hi hd
    rw [arraslaw7_HaveBytes.L0_eq, if_neg (by omega), arraslaw7_HaveBytes.J1_eq, if_neg (by simp), wakes7]
    rfl
  | succ d ih =>
    intro i hi hd
    have hil : i < l.length := by omega
    have next : arraslaw7_HaveBytes.L0 l (wrap64 ((i : Int) + 1)) = some true := by
      rw [w64s (by omega) (by omega)]
      exact ih (i + 1) (by omega) (by omega)
    have h2 : (i : Int) < (l.length : Int) := by omega
    have h0 : (0 : Int) ≤ (i : Int) := by omega
    rw [arraslaw7_HaveBytes.L0_eq, if_pos h2, arraslaw7_HaveBytes.J1_eq]
    by_cases h20 : (i : Int) < 15
    · rw [if_pos (decide_eq_true h20), if_pos h0, if_pos h2, rd86 l i hil]
      obtain ⟨ha, hb', hx⟩ := hok l[i] (List.getElem_mem hil)
      generalize l[i] = x at *
      rw [heavy7 _ _ _ (by omega) (by omega), Option.bind_some]
      by_cases hv : x.f0.length + x.f1.length > 2000 ∨ x.f2.length > 3000
      · rw [if_pos (decide_eq_true hv)]
      · have hb := IsBytes.of_wf hx.2.2
        have hlen : x.f2.length < 4611686018427387904 := by omega
        have hf0 : x.f0.length ≤ 2000 := by omega
        have hq := tkVec_length x.f2
        rw [if_neg (by rw [decide_eq_true_eq]; exact hv), haveBytes_F _ (by omega), Option.bind_some]
        by_cases hp : isVec x.f0 = true
        · have hs := encN_length x.f0 (vec_nums hp).1 (vec_nums hp).2
          rw [if_pos hp]
          simp only [arraslaw7_num.f, Option.bind_some]
          rw [refVector _ (by omega), Option.bind_some, hp, if_neg (by simp), if_pos trivial, arraslaw7_HaveBytes.J2_eq, if_neg (by simp), haveTake _ hb hlen, Option.bind_some, refTakeVec _ hb hlen, Option.bind_some]
          simp only [arraslaw7_num.f, Option.bind_some, if_true]
          rw [eqNumbers _ _ (by omega), Option.bind_some, if_pos (by simp), arraslaw7_HaveBytes.J3_eq, if_neg (by simp)]
          simp only [arraslaw7_num.f, Option.bind_some, if_true]
          rw [copyBytes _ (by omega), Option.bind_some, if_pos (by omega), haveTake _ ((encN_bytes _).append hb) (by rw [List.length_append]; omega), tkVec_put hp, Option.bind_some]
          simp only [arraslaw7_num.f, Option.bind_some, if_true]
          rw [eqNumbers _ _ (by omega), Option.bind_some, if_pos (by simp), arraslaw7_HaveBytes.J4_eq, if_neg (by simp)]
          exact next
        · have hp' : isVec x.f0 = false := by simpa using hp
          rw [if_neg hp]
          simp only [arraslaw7_num.f, Option.bind_some]
          rw [refVector _ (by omega), Option.bind_some, hp', if_neg (by simp), if_neg (by decide), if_pos trivial, arraslaw7_HaveBytes.J2_eq, if_neg (by simp), haveTake _ hb hlen, Option.bind_some, refTakeVec _ hb hlen, Option.bind_some]
          simp only [arraslaw7_num.f, Option.bind_some, if_true]
          rw [eqNumbers _ _ (by omega), Option.bind_some, if_pos (by simp), arraslaw7_HaveBytes.J3_eq, if_neg (by simp)]
          simp only [arraslaw7_num.f, Option.bind_some]
          rw [if_neg (by decide)]
          exact next
    · rw [if_neg (by rw [decide_eq_true_eq]; exact h20), wakes7]
      rfl
theorem arraslaw7_HaveBytes.proof : arraslaw7_HaveBytes.Pure := by
  intro l ⟨hm, _, hok⟩
  refine Go.Proofs.YtpmcojmhkpaoaaaLabel.Lim.rounds (arraslaw7_HaveBytes.F_lim l) ?_
  rw [arraslaw7_HaveBytes.F_eq]
  exact haveBytes_L l hm hok l.length 0 (by omega) (by omega)
end Go.Proofs.Ytpmcojmhkpaoaaa.PA

