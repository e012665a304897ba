/- Plain laws of numbers as bytes: what is written is taken, cut off it is cut off, what is taken was written so. -/
import Derived.Test.YtpmcojmhkpaoaaaLibC
set_option linter.unusedVariables false
set_option linter.unusedSimpArgs false
namespace Go.Proofs.Ytpmcojmhkpaoaaa.PA
open Go.RowKit Go.Proofs.YtpmcojmhkpaoaaaW.PrintWords Go.Proofs.YtpmcojmhkpaoaaaW.PrintLast Go.Proofs.YtpmcojmhkpaoaaaW.PrintMore

theorem enc_bytes : ∀ n, IsBytes (enc n) := by
  intro n
  induction n using Nat.strongRecOn with
  | _ n ih =>
    by_cases h : n < 128
    · rw [enc_small h]
      intro x hx
      simp at hx
      omega
    · rw [enc_big h]
      intro x hx
      rcases List.mem_cons.1 hx with h1 | h1
      · omega
      · exact ih (n / 128) (by omega) x h1
/-- What is written is taken, whatever stands behind it. -/
theorem tk_enc : ∀ (m n i : Nat) (rest : List Int), n + m * 128 ^ i ≤ 4611686018427387904 → i + (enc m).length ≤ 9 → (0 < i → 0 < m) →
    tk (enc m ++ rest) n i = (((n + m * 128 ^ i : Nat) : Int), ((i + (enc m).length : Nat) : Int), 0) := by
  intro m
  induction m using Nat.strongRecOn with
  | _ m ih =>
    intro n i rest h1 h2 h3
    by_cases h : m < 128
    · rw [enc_small h, List.cons_append, List.nil_append]
      unfold tk
      rw [if_neg (by omega), Int.toNat_natCast, if_neg (by
        intro hh
        rcases hh with ⟨a, b⟩ | a
        · have := h3 b
          omega
        · omega)]
      simp
    · rw [enc_big h] at h2 ⊢
      have hl := enc_length_pos (m / 128)
      simp only [List.length_cons] at h2
      rw [List.cons_append]
      unfold tk
      have e : ((m % 128 + 128 : Nat) : Int).toNat - 128 = m % 128 := by omega
      have e2 : n + m % 128 * 128 ^ i + m / 128 * 128 ^ (i + 1) = n + m * 128 ^ i := by
        have e3 : m * 128 ^ i = (128 * (m / 128) + m % 128) * 128 ^ i := by rw [Nat.div_add_mod]
        rw [e3, Nat.pow_succ, Nat.add_mul, Nat.mul_comm (128 ^ i) 128, ← Nat.mul_assoc, Nat.mul_comm (m / 128) 128]
        omega
      rw [if_pos (by omega), if_neg (by omega), e, ih (m / 128) (by omega) _ _ rest (by rw [e2]; exact h1) (by omega) (by omega), e2]
      simp only [List.length_cons]
      have e4 : i + 1 + (enc (m / 128)).length = i + ((enc (m / 128)).length + 1) := by omega
      rw [e4]
theorem tk_put (m : Nat) (rest : List Int) (h : m ≤ 4611686018427387904) : tk (enc m ++ rest) 0 0 = ((m : Int), ((enc m).length : Int), 0) := by
  have := tk_enc m 0 0 rest (by omega) (by have := enc_length9 h; omega) (by omega)
  simpa using this
/-- Cut off anywhere it is cut off. -/
theorem tk_cut : ∀ (m n i j : Nat), i + (enc m).length ≤ 9 → j < (enc m).length → tk ((enc m).take j) n i = (0, 0, 7) := by
  intro m
  induction m using Nat.strongRecOn with
  | _ m ih =>
    intro n i j h2 hj
    by_cases h : m < 128
    · rw [enc_small h] at hj ⊢
      have : j = 0 := by simp at hj; omega
      subst this
      rfl
    · rw [enc_big h] at h2 hj ⊢
      have hl := enc_length_pos (m / 128)
      simp only [List.length_cons] at h2 hj
      match j with
      | 0 => rfl
      | j + 1 =>
        rw [List.take_succ_cons]
        unfold tk
        rw [if_pos (by omega), if_neg (by omega)]
        exact ih (m / 128) (by omega) _ _ j (by omega) (by omega)
/-- What is taken was written so. -/
theorem tk_back : ∀ (l : List Int) (n i : Nat), IsBytes l → (tk l n i).2.2 = 0 → ∃ m : Nat, (tk l n i).1 = ((n + m * 128 ^ i : Nat) : Int) ∧ (tk l n i).2.1 = ((i + (enc m).length : Nat) : Int) ∧ l.take (enc m).length = enc m ∧ (0 < i → 0 < m)
  | [], n, i, _, h => by simp [tk] at h
  | c :: r, n, i, hb, h => by
    have hc := hb c List.mem_cons_self
    have hr : IsBytes r := fun x hx => hb x (List.mem_cons_of_mem _ hx)
    unfold tk at h ⊢
    by_cases h1 : 128 ≤ c
    · rw [if_pos h1] at h ⊢
      by_cases h2 : i = 8
      · rw [if_pos h2] at h
        simp at h
      · rw [if_neg h2] at h ⊢
        obtain ⟨m, e1, e2, e3, e4⟩ := tk_back r _ _ hr h
        have hm := e4 (by omega)
        have hbig : ¬ c.toNat - 128 + 128 * m < 128 := by omega
        have ed : (c.toNat - 128 + 128 * m) / 128 = m := by omega
        have em : (c.toNat - 128 + 128 * m) % 128 = c.toNat - 128 := by omega
        refine ⟨c.toNat - 128 + 128 * m, ?_, ?_, ?_, by omega⟩
        · rw [e1, Nat.pow_succ, Nat.add_mul, Nat.mul_comm (128 ^ i) 128, ← Nat.mul_assoc, Nat.mul_comm m 128]
          congr 1
          omega
        · rw [e2, enc_big hbig, ed]
          simp only [List.length_cons]
          congr 1
          omega
        · rw [enc_big hbig, ed, em, List.length_cons, List.take_succ_cons, e3]
          congr 1
          omega
    · rw [if_neg h1] at h ⊢
      by_cases h2 : (c = 0 ∧ 0 < i) ∨ 4611686018427387904 < n + c.toNat * 128 ^ i
      · rw [if_pos h2] at h
        simp at h
      · rw [if_neg h2]
        refine ⟨c.toNat, rfl, ?_, ?_, fun hi => ?_⟩
        · rw [enc_small (by omega)]
          simp
        · rw [enc_small (by omega)]
          simp
          omega
        · have h3 : ¬ (c = 0 ∧ 0 < i) := fun h => h2 (.inl h)
          omega
theorem tk_was (l : List Int) (hb : IsBytes l) (h : (tk l 0 0).2.2 = 0) : enc (tk l 0 0).1.toNat = l.take (tk l 0 0).2.1.toNat := by
  obtain ⟨m, e1, e2, e3, _⟩ := tk_back l 0 0 hb h
  have f1 : (tk l 0 0).1.toNat = m := by rw [e1]; simp
  have f2 : (tk l 0 0).2.1.toNat = (enc m).length := by rw [e2]; simp
  rw [f1, f2, e3]
end Go.Proofs.Ytpmcojmhkpaoaaa.PA
