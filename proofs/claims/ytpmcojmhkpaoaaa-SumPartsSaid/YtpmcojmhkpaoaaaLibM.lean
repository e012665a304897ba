/- Plain laws of the sum: what both functions compute, as one walk over the bytes, and when it tells two rows of bytes apart. -/
import Derived.Test.YtpmcojmhkpaoaaaLibB
set_option linter.unusedVariables false
set_option linter.unusedSimpArgs false
namespace Go.Proofs.Ytpmcojmhkpaoaaa.PA
open Go.RowKit Go.Proofs.YtpmcojmhkpaoaaaW.PrintWords Go.Proofs.YtpmcojmhkpaoaaaW.PrintLast Go.Proofs.YtpmcojmhkpaoaaaW.PrintMore

theorem wraps_u32 (n : Int) (h₀ : 0 ≤ n) (h₁ : n < 2 ^ 32) : IntKind.u32.wrap n = n := by rw [IntKind.wrap_u32]; omega
theorem xor_nat (k : IntKind) (j : Nat) (hj : j ≤ k.bits) (hk : ∀ n : Int, 0 ≤ n → n < 2 ^ j → k.wrap n = n) (a b : Nat) (ha : a < 2 ^ j) (hb : b < 2 ^ j) :
    bits .xor k a b = ((a ^^^ b : Nat) : Int) := by
  have hp : 2 ^ j ≤ 2 ^ k.bits := Nat.pow_le_pow_right (by decide) hj
  have ha' : a % 2 ^ k.bits = a := Nat.mod_eq_of_lt (Nat.lt_of_lt_of_le ha hp)
  have hb' : b % 2 ^ k.bits = b := Nat.mod_eq_of_lt (Nat.lt_of_lt_of_le hb hp)
  have cast : ∀ n : Nat, n < 2 ^ j → ((n : Nat) : Int) < 2 ^ j := fun n h => by exact_mod_cast h
  simp only [bits, BitVec.ofInt_natCast, BitVec.toNat_xor, BitVec.toNat_ofNat, ha', hb']
  exact hk _ (Int.natCast_nonneg _) (cast _ (Nat.xor_lt_two_pow ha hb))
theorem xor32 (a b : Nat) (ha : a < 4294967296) (hb : b < 4294967296) : bits .xor .u32 a b = ((a ^^^ b : Nat) : Int) := xor_nat .u32 32 (by decide) wraps_u32 a b ha hb
theorem xor8 (a b : Nat) (ha : a < 256) (hb : b < 256) : bits .xor .u8 a b = ((a ^^^ b : Nat) : Int) := xor_nat .u8 8 (by decide) wraps_u8 a b ha hb
theorem and32 (a : Nat) (ha : a < 4294967296) : bits .and .u32 a 1 = ((a % 2 : Nat) : Int) := by
  have := bits_mask .u32 32 (by decide) wraps_u32 1 (by decide) a (by omega) (by exact_mod_cast ha)
  simpa using this

def T (a : Nat) : Nat := if a % 2 = 1 then a / 2 ^^^ 3988292384 else a / 2
def Tn : Nat → Nat → Nat
  | 0, a => a
  | n + 1, a => Tn n (T a)
def crc : Nat → List Int → Nat
  | a, [] => a
  | a, b :: l => crc (Tn 8 (a ^^^ b.toNat)) l

theorem xlt {a b : Nat} (ha : a < 4294967296) (hb : b < 4294967296) : a ^^^ b < 4294967296 := Nat.xor_lt_two_pow (n := 32) ha hb
theorem T_lt {a : Nat} (h : a < 4294967296) : T a < 4294967296 := by
  unfold T
  split
  · exact xlt (by omega) (by decide)
  · omega
theorem Tn_lt : ∀ (n : Nat) {a : Nat}, a < 4294967296 → Tn n a < 4294967296
  | 0, _, h => h
  | n + 1, _, h => Tn_lt n (T_lt h)
theorem xor_self_cancel (a b : Nat) : (a ^^^ b) ^^^ b = a := by rw [Nat.xor_assoc, Nat.xor_self, Nat.xor_zero]
theorem xor_inj {a b c : Nat} (h : a ^^^ c = b ^^^ c) : a = b := by rw [← xor_self_cancel a c, h, xor_self_cancel]
theorem xor_inj' {a b c : Nat} (h : c ^^^ a = c ^^^ b) : a = b := xor_inj (c := c) (by rw [Nat.xor_comm a c, Nat.xor_comm b c, h])
theorem top_odd {a : Nat} (h : a < 4294967296) : (a / 2 ^^^ 3988292384).testBit 31 = true := by
  rw [Nat.testBit_xor, Nat.testBit_lt_two_pow (i := 31) (by omega)]
  decide
theorem top_even {a : Nat} (h : a < 4294967296) : (a / 2).testBit 31 = false := Nat.testBit_lt_two_pow (by omega)
theorem T_inj {a b : Nat} (ha : a < 4294967296) (hb : b < 4294967296) (h : T a = T b) : a = b := by
  unfold T at h
  by_cases h1 : a % 2 = 1 <;> by_cases h2 : b % 2 = 1
  · rw [if_pos h1, if_pos h2] at h
    have := xor_inj h
    omega
  · rw [if_pos h1, if_neg h2] at h
    have e1 := top_odd ha
    rw [h, top_even hb] at e1
    cases e1
  · rw [if_neg h1, if_pos h2] at h
    have e1 := top_odd hb
    rw [← h, top_even ha] at e1
    cases e1
  · rw [if_neg h1, if_neg h2] at h
    omega
theorem Tn_inj : ∀ (n : Nat) {a b : Nat}, a < 4294967296 → b < 4294967296 → Tn n a = Tn n b → a = b
  | 0, _, _, _, _, h => h
  | n + 1, _, _, ha, hb, h => T_inj ha hb (Tn_inj n (T_lt ha) (T_lt hb) h)
theorem xor_half (a b : Nat) : (a ^^^ b) / 2 = a / 2 ^^^ b / 2 := by
  apply Nat.eq_of_testBit_eq
  intro i
  simp [Nat.testBit_div_two]
theorem xor_par (a b : Nat) : (a ^^^ b) % 2 = (a % 2 + b % 2) % 2 := by
  have h : (a ^^^ b).testBit 0 = (a.testBit 0 ^^ b.testBit 0) := Nat.testBit_xor ..
  rw [Nat.testBit_zero, Nat.testBit_zero, Nat.testBit_zero] at h
  rcases Nat.mod_two_eq_zero_or_one a with h1 | h1 <;> rcases Nat.mod_two_eq_zero_or_one b with h2 | h2 <;>
    rcases Nat.mod_two_eq_zero_or_one (a ^^^ b) with h3 | h3 <;> rw [h1, h2, h3] at h ⊢ <;> revert h <;> decide
theorem T_xor (a b : Nat) : T (a ^^^ b) = T a ^^^ T b := by
  unfold T
  rw [xor_half]
  have hp := xor_par a b
  by_cases h1 : a % 2 = 1 <;> by_cases h2 : b % 2 = 1
  · rw [if_neg (by omega), if_pos h1, if_pos h2, Nat.xor_comm (b / 2), ← Nat.xor_assoc, xor_self_cancel]
  · rw [if_pos (by omega), if_pos h1, if_neg h2, Nat.xor_assoc, Nat.xor_assoc, Nat.xor_comm (b / 2)]
  · rw [if_pos (by omega), if_neg h1, if_pos h2, Nat.xor_assoc]
  · rw [if_neg (by omega), if_neg h1, if_neg h2]
theorem Tn_xor : ∀ (n : Nat) (a b : Nat), Tn n (a ^^^ b) = Tn n a ^^^ Tn n b
  | 0, _, _ => rfl
  | n + 1, a, b => by unfold Tn; rw [T_xor, Tn_xor n]
theorem byte_lt {l : List Int} (hb : IsBytes l) {x : Int} (h : x ∈ l) : x.toNat < 256 := by
  have := hb x h
  omega
theorem IsBytes.tail {x : Int} {l : List Int} (h : IsBytes (x :: l)) : IsBytes l := fun y hy => h y (List.mem_cons_of_mem _ hy)
theorem crc_lt : ∀ (l : List Int) (a : Nat), IsBytes l → a < 4294967296 → crc a l < 4294967296
  | [], _, _, h => h
  | x :: l, _, hb, h => crc_lt l _ hb.tail (Tn_lt 8 (xlt h (Nat.lt_trans (byte_lt hb List.mem_cons_self) (by decide))))
theorem crc_append : ∀ (l m : List Int) (a : Nat), crc a (l ++ m) = crc (crc a l) m
  | [], _, _ => rfl
  | x :: l, m, a => crc_append l m _
theorem crc_inj : ∀ (l : List Int) (a b : Nat), IsBytes l → a < 4294967296 → b < 4294967296 → crc a l = crc b l → a = b
  | [], _, _, _, _, _, h => h
  | x :: l, a, b, hb, h1, h2, h => by
    have hx : x.toNat < 4294967296 := Nat.lt_trans (byte_lt hb List.mem_cons_self) (by decide)
    exact xor_inj (Tn_inj 8 (xlt h1 hx) (xlt h2 hx) (crc_inj l _ _ hb.tail (Tn_lt 8 (xlt h1 hx)) (Tn_lt 8 (xlt h2 hx)) h))

theorem sum_step : ∀ (m : Nat), m ≤ 8 → ∀ (a : Nat) (l : List Int) (i : Int), a < 4294967296 → sum_Sum.L0 a l i (8 - (m : Int)) = sum_Sum.L0 (Tn m a) l i 8
  | 0, _, a, l, i, _ => by simp [Tn]
  | m + 1, hm, a, l, i, ha => by
    rw [sum_Sum.L0_eq, if_pos (by omega), and32 a ha, w64 (by omega) (by omega)]
    have e : (8 - ((m + 1 : Nat) : Int) + 1) = 8 - (m : Int) := by omega
    have e2 : bits .xor .u32 ((a : Int) / 2) (3988292384 * ((a % 2 : Nat) : Int) % 4294967296) = ((T a : Nat) : Int) := by
      unfold T
      by_cases h : a % 2 = 1
      · rw [if_pos h, h]
        exact xor32 (a / 2) 3988292384 (by omega) (by decide)
      · have h0 : a % 2 = 0 := by omega
        rw [if_neg h, h0]
        have := xor32 (a / 2) 0 (by omega) (by decide)
        rw [Nat.xor_zero] at this
        exact this
    rw [e, e2]
    exact sum_step m (by omega) (T a) l i (T_lt ha)
theorem sum_L (l : List Int) (hb : IsBytes l) (hl : l.length < 4611686018427387904) : ∀ (d i a : Nat), i ≤ l.length → l.length - i = d → a < 4294967296 →
    sum_Sum.L0 a l i 8 = some (((4294967295 ^^^ crc a (l.drop i) : Nat)) : Int) := by
  intro d
  induction d with
  | zero =>
    intro i a hi hd ha
    rw [sum_Sum.L0_eq, if_neg (by omega), if_neg (by omega), List.drop_of_length_le (by omega)]
    exact congrArg some (xor32 4294967295 a (by decide) ha)
  | succ d ih =>
    intro i a hi hd ha
    have hil : i < l.length := by omega
    have hx := hb l[i] (List.getElem_mem hil)
    have hx2 : l[i].toNat < 4294967296 := by omega
    rw [sum_Sum.L0_eq, if_neg (by omega), if_pos (by omega), if_pos (by omega), rd_nat l i hil, List.drop_eq_getElem_cons hil]
    have e1 : bits .xor .u32 (a : Int) (l[i] % 4294967296) = ((a ^^^ l[i].toNat : Nat) : Int) := by
      have e0 : l[i] % 4294967296 = ((l[i].toNat : Nat) : Int) := by omega
      rw [e0]
      exact xor32 a _ ha hx2
    have e2 : wrap64 ((i : Int) + 1) = ((i + 1 : Nat) : Int) := by rw [w64s (by omega) (by omega)]; omega
    have := sum_step 8 (by omega) (a ^^^ l[i].toNat) l ((i + 1 : Nat) : Int) (xlt ha hx2)
    rw [e1, e2]
    rw [show (8 - ((8 : Nat) : Int)) = 0 from rfl] at this
    rw [this]
    exact ih (i + 1) _ (by omega) (by omega) (Tn_lt 8 (xlt ha hx2))
/-- What the program's sum is. -/
theorem sum_is (s : Nat) (l : List Int) (hs : s < 4294967296) (hb : IsBytes l) (hl : l.length < 4611686018427387904) :
    sum_Sum.F s l = some (((4294967295 ^^^ crc (4294967295 ^^^ s) l : Nat)) : Int) := by
  have e : bits .xor .u32 4294967295 (s : Int) = ((4294967295 ^^^ s : Nat) : Int) := xor32 4294967295 s (by decide) hs
  rw [sum_Sum.F_eq, e]
  have := sum_L l hb hl l.length 0 (4294967295 ^^^ s) (by omega) (by omega) (xlt (by decide) hs)
  rw [List.drop_zero] at this
  exact this
theorem ref_step : ∀ (m : Nat), m ≤ 8 → ∀ (a : Nat) (l : List Int) (i : Int), a < 4294967296 → arrasref5_Sum.L1 a l i (8 - (m : Int)) = arrasref5_Sum.L0 (Tn m a) l (wrap64 (i + 1))
  | 0, _, a, l, i, _ => by rw [arrasref5_Sum.L1_eq, if_neg (by omega)]; rfl
  | m + 1, hm, a, l, i, ha => by
    rw [arrasref5_Sum.L1_eq, if_pos (by omega), and32 a ha, w64 (by omega) (by omega)]
    have e : (8 - ((m + 1 : Nat) : Int) + 1) = 8 - (m : Int) := by omega
    rw [e]
    have ih := ref_step m (by omega) (T a) l i (T_lt ha)
    by_cases h : a % 2 = 1
    · have e2 : bits .xor .u32 ((a : Int) / 2) 3988292384 = ((T a : Nat) : Int) := by
        unfold T
        rw [if_pos h]
        exact xor32 (a / 2) 3988292384 (by omega) (by decide)
      rw [if_pos (by omega), e2]
      exact ih
    · have e2 : ((a : Int) / 2) = ((T a : Nat) : Int) := by
        unfold T
        rw [if_neg h]
        omega
      rw [if_neg (by omega), e2]
      exact ih
theorem ref_L (l : List Int) (hb : IsBytes l) (hl : l.length < 4611686018427387904) : ∀ (d i a : Nat), i ≤ l.length → l.length - i = d → a < 4294967296 →
    arrasref5_Sum.L0 a l i = some (((4294967295 ^^^ crc a (l.drop i) : Nat)) : Int) := by
  intro d
  induction d with
  | zero =>
    intro i a hi hd ha
    rw [arrasref5_Sum.L0_eq, if_neg (by omega), List.drop_of_length_le (by omega), Nat.xor_comm]
    exact congrArg some (xor32 a 4294967295 ha (by decide))
  | succ d ih =>
    intro i a hi hd ha
    have hil : i < l.length := by omega
    have hx := hb l[i] (List.getElem_mem hil)
    have hx2 : l[i].toNat < 4294967296 := by omega
    rw [arrasref5_Sum.L0_eq, if_pos (by omega), if_pos (by omega), rd_nat l i hil, List.drop_eq_getElem_cons hil]
    have e1 : bits .xor .u32 (a : Int) (l[i] % 4294967296) = ((a ^^^ l[i].toNat : Nat) : Int) := by
      have e0 : l[i] % 4294967296 = ((l[i].toNat : Nat) : Int) := by omega
      rw [e0]
      exact xor32 a _ ha hx2
    have e2 : wrap64 ((i : Int) + 1) = ((i + 1 : Nat) : Int) := by rw [w64s (by omega) (by omega)]; omega
    have := ref_step 8 (by omega) (a ^^^ l[i].toNat) l (i : Int) (xlt ha hx2)
    rw [e2, show (8 - ((8 : Nat) : Int)) = 0 from rfl] at this
    rw [e1, this]
    exact ih (i + 1) _ (by omega) (by omega) (Tn_lt 8 (xlt ha hx2))
/-- The page's sum is the same. -/
theorem ref_is (s : Nat) (l : List Int) (hs : s < 4294967296) (hb : IsBytes l) (hl : l.length < 4611686018427387904) :
    arrasref5_Sum.F s l = some (((4294967295 ^^^ crc (4294967295 ^^^ s) l : Nat)) : Int) := by
  have e : bits .xor .u32 (s : Int) 4294967295 = ((4294967295 ^^^ s : Nat) : Int) := by
    rw [Nat.xor_comm]; exact xor32 s 4294967295 hs (by decide)
  rw [arrasref5_Sum.F_eq, e]
  have := ref_L l hb hl l.length 0 (4294967295 ^^^ s) (by omega) (by omega) (xlt (by decide) hs)
  rw [List.drop_zero] at this
  exact this
theorem wakes4 : arraslaw4_wakes.F = some true := by
  rw [arraslaw4_wakes.F_eq]
  have := sum_is 0 [49, 50, 51, 52, 53, 54, 55, 56, 57] (by decide) (by intro x hx; simp at hx; omega) (by decide)
  rw [show ((0 : Nat) : Int) = 0 from rfl] at this
  rw [this]
  decide +kernel
theorem rd26 (l : List S26) (i : Nat) (h : i < l.length) : rd_T26 l (i : Int) = l[i] := by simp [rd_T26, h]
theorem u32_of {x : Int} (h : (Lit.int .u32 x).wf = true) : ∃ n : Nat, x = n ∧ n < 4294967296 := by
  simp [Lit.wf, IntKind.min, IntKind.max, IntKind.signed, IntKind.bits] at h
  exact ⟨x.toNat, by omega, by omega⟩
theorem within {a n : Int} (h0 : 0 < n) (h1 : n < 9223372036854775808) : ∃ r : Nat, arraslaw0_Within.f a n = some (r : Int) ∧ (r : Int) < n := by
  have e : ∀ x, IntKind.u64.wrap x = x % 18446744073709551616 := fun x => by simp [IntKind.wrap, IntKind.bits, IntKind.signed]
  unfold arraslaw0_Within.f
  rw [e, e, if_neg (by omega)]
  have e1 : n % 18446744073709551616 = n := by omega
  have h2 : 0 ≤ a % 18446744073709551616 := by omega
  rw [e1, Int.tmod_eq_emod_of_nonneg h2]
  have h3 := Int.emod_nonneg (a % 18446744073709551616) (b := n) (by omega)
  have h4 := Int.emod_lt_of_pos (a % 18446744073709551616) h0
  rw [w64 (by omega) (by omega)]
  exact ⟨(a % 18446744073709551616 % n).toNat, by congr 1; omega, by omega⟩
theorem pow_big : ∀ p, p < 8 → 256 ≤ Tn 8 (2 ^ p) := by decide +kernel
theorem shl_one : ∀ p : Nat, p < 8 → shl .u8 1 (p : Int) = ((2 ^ p : Nat) : Int) := by decide +kernel
theorem pow_lt : ∀ p, p < 8 → 2 ^ p < 256 := by decide
theorem pow_ne : ∀ p, p < 8 → 2 ^ p ≠ 0 := by decide
theorem one_at (s : Nat) (post : List Int) (c : Nat) (p : Nat) (hp : p < 8) (h1 : IsBytes post) (hc : c < 256) (hs : s < 4294967296)
    (h : crc (Tn 8 (s ^^^ (c ^^^ 2 ^ p))) post = crc (Tn 8 (s ^^^ c)) post) : False := by
  have hx : c ^^^ 2 ^ p < 256 := Nat.xor_lt_two_pow (n := 8) hc (pow_lt p hp)
  have m1 : s ^^^ (c ^^^ 2 ^ p) < 4294967296 := xlt hs (Nat.lt_trans hx (by decide))
  have m2 : s ^^^ c < 4294967296 := xlt hs (Nat.lt_trans hc (by decide))
  have e : c ^^^ 2 ^ p = c := xor_inj' (Tn_inj 8 m1 m2 (crc_inj post _ _ h1 (Tn_lt 8 m1) (Tn_lt 8 m2) h))
  have e : c ^^^ 2 ^ p = c ^^^ 0 := by rw [e, Nat.xor_zero]
  exact pow_ne p hp (xor_inj' e)
/-- One turned bit changes the walk's end. -/
theorem one_bit (a : Nat) (pre post : List Int) (c : Nat) (p : Nat) (hp : p < 8) (ha : a < 4294967296) (h0 : IsBytes pre) (h1 : IsBytes post) (hc : c < 256)
    (h : crc a (pre ++ ((c ^^^ 2 ^ p : Nat) : Int) :: post) = crc a (pre ++ (c : Int) :: post)) : False := by
  have h := ((crc_append pre (((c ^^^ 2 ^ p : Nat) : Int) :: post) a).symm.trans h).trans (crc_append pre ((c : Int) :: post) a)
  exact one_at (crc a pre) post c p hp h1 hc (crc_lt pre a h0 ha) h
theorem two_at (s : Nat) (post : List Int) (c d n : Nat) (p : Nat) (hp : p < 8) (h1 : IsBytes post) (hc : c < 256) (hd : d < 256) (hn : n < 256) (hs : s < 4294967296)
    (h : crc (Tn 8 (Tn 8 (s ^^^ (c ^^^ 2 ^ p)) ^^^ (d ^^^ n))) post = crc (Tn 8 (Tn 8 (s ^^^ c) ^^^ d)) post) : False := by
  have hx : c ^^^ 2 ^ p < 256 := Nat.xor_lt_two_pow (n := 8) hc (pow_lt p hp)
  have hy : d ^^^ n < 256 := Nat.xor_lt_two_pow (n := 8) hd hn
  have m1 := xlt (Tn_lt 8 (xlt hs (Nat.lt_trans hx (by decide)))) (Nat.lt_trans hy (by decide))
  have m2 := xlt (Tn_lt 8 (xlt hs (Nat.lt_trans hc (by decide)))) (Nat.lt_trans hd (by decide))
  have e := Tn_inj 8 m1 m2 (crc_inj post _ _ h1 (Tn_lt 8 m1) (Tn_lt 8 m2) h)
  rw [← Nat.xor_assoc s, Tn_xor, Nat.xor_assoc] at e
  have e := xor_inj' e
  rw [Nat.xor_comm d n, ← Nat.xor_assoc] at e
  have e : Tn 8 (2 ^ p) ^^^ n = 0 := xor_inj (c := d) (by rw [e, Nat.zero_xor])
  have e : Tn 8 (2 ^ p) = n := xor_inj (c := n) (by rw [e, Nat.xor_self])
  have := pow_big p hp
  rw [e] at this
  exact absurd hn (Nat.not_lt.2 this)
/-- A turned bit and a few within the next byte change it. -/
theorem two_bytes (a : Nat) (pre post : List Int) (c d n : Nat) (p : Nat) (hp : p < 8) (ha : a < 4294967296) (h0 : IsBytes pre) (h1 : IsBytes post) (hc : c < 256) (hd : d < 256) (hn : n < 256)
    (h : crc a (pre ++ ((c ^^^ 2 ^ p : Nat) : Int) :: ((d ^^^ n : Nat) : Int) :: post) = crc a (pre ++ (c : Int) :: (d : Int) :: post)) : False := by
  have h := ((crc_append pre (((c ^^^ 2 ^ p : Nat) : Int) :: ((d ^^^ n : Nat) : Int) :: post) a).symm.trans h).trans (crc_append pre ((c : Int) :: (d : Int) :: post) a)
  exact two_at (crc a pre) post c d n p hp h1 hc hd hn (crc_lt pre a h0 ha) h
end Go.Proofs.Ytpmcojmhkpaoaaa.PA
