/- The plain law behind CodeTakes: any bytes, taken as a number, as a text, as numbers, tell what the page tells. -/
import Derived.Test.YtpmcojmhkpaoaaaStatCodeTakes
import Derived.Test.YtpmcojmhkpaoaaaLibC
set_option linter.unusedVariables false
set_option linter.unusedSimpArgs false
namespace Go.Proofs.Ytpmcojmhkpaoaaa.PA
open Go.RowKit Go.Proofs.YtpmcojmhkpaoaaaW.PrintWords Go.Proofs.YtpmcojmhkpaoaaaW.PrintLast Go.Proofs.YtpmcojmhkpaoaaaW.PrintMore

theorem rd43 (l : List S43) (i : Nat) (h : i < l.length) : rd_T43 l (i : Int) = l[i] := by simp [rd_T43, h]
theorem heavy5 (x : S43) : arraslaw5_heavy.f x.f0 x.f1 x.f2 x.f3 = some (decide ((x.f1.size : Int) > 65546 ∨ (x.f2.length : Int) > 2000 ∨ (x.f3.length : Int) > 3000)) := by
  unfold arraslaw5_heavy.f
  by_cases h1 : (x.f1.size : Int) > 65546
  · rw [if_pos h1]; simp [h1]
  · rw [if_neg h1]
    by_cases h2 : (x.f2.length : Int) > 2000
    · rw [if_pos h2]; simp [h2]
    · rw [if_neg h2]
      congr 1
      exact decide_eq_decide.2 ⟨fun h => .inr (.inr h), fun h => h.elim (absurd · h1) (fun h => h.elim (absurd · h2) id)⟩

theorem codeTakes_L (l : List S43) (hl : l.length ≤ 9223372036854775807) (hok : ∀ a ∈ l, ok_T43 a) : ∀ (d i : Nat), i ≤ l.length → l.length - i = d → arraslaw5_CodeTakes.L0 l (i : Int) = some true := by
  intro d
  induction d with
  | zero =>
    intro i hi hd
    rw [arraslaw5_CodeTakes.L0_eq, if_neg (by omega), arraslaw5_CodeTakes.J1_eq, if_neg (by simp), wakes5]
    rfl
  | succ d ih =>
    intro i hi hd
    have hil : i < l.length := by omega
    rw [arraslaw5_CodeTakes.L0_eq, if_pos (by omega), arraslaw5_CodeTakes.J1_eq]
    by_cases h20 : (i : Int) < 20
    · rw [if_pos (decide_eq_true h20), if_pos (by omega), if_pos (by omega), rd43 l i hil]
      obtain ⟨_, hs, hn, hx⟩ := hok l[i] (List.getElem_mem hil)
      generalize l[i] = x at *
      rw [heavy5, Option.bind_some]
      by_cases hv : (x.f1.size : Int) > 65546 ∨ (x.f2.length : Int) > 2000 ∨ (x.f3.length : Int) > 3000
      · rw [if_pos (decide_eq_true hv)]
      · have hb := IsBytes.of_wf hx.2.2
        have h3 : x.f3.length ≤ 3000 := by omega
        rw [if_neg (by rw [decide_eq_true_eq]; exact hv), copyBytes _ (by omega), Option.bind_some, takeNum _ hb (by omega), Option.bind_some, refTakeNum _ hb (by omega), Option.bind_some, if_pos rfl, if_pos rfl]
        simp only [arraslaw5_num.f, Option.bind_some, bne_self_eq_false]
        rw [arraslaw5_CodeTakes.J2_eq, if_neg (by simp), takeText _ hb (by omega), Option.bind_some, refTakeText _ hb (by omega), Option.bind_some, if_pos rfl, if_pos rfl]
        simp only [arraslaw5_num.f, Option.bind_some, bne_self_eq_false]
        have hlen := tkNums_length x.f3
        rw [arraslaw5_CodeTakes.J3_eq, if_neg (by simp), takeNums _ hb (by omega), Option.bind_some, refTakeNums _ hb (by omega), Option.bind_some, eqNumbers _ _ (by omega), Option.bind_some, if_pos (by simp), if_pos rfl]
        simp only [arraslaw5_num.f, Option.bind_some, if_true]
        rw [eqBytes _ _ (by omega), Option.bind_some, arraslaw5_CodeTakes.J4_eq, if_neg (by simp), numbersOver _ (by omega), Option.bind_some, w64s (by omega) (by omega)]
        exact ih (i + 1) (by omega) (by omega)
    · rw [if_neg (by rw [decide_eq_true_eq]; exact h20), wakes5]
      rfl
theorem arraslaw5_CodeTakes.proof : arraslaw5_CodeTakes.Pure := by
  intro l ⟨hm, _, hok⟩
  refine Go.Proofs.YtpmcojmhkpaoaaaLabel.Lim.rounds (arraslaw5_CodeTakes.F_lim l) ?_
  rw [arraslaw5_CodeTakes.F_eq]
  exact codeTakes_L l hm hok l.length 0 (by omega) (by omega)
end Go.Proofs.Ytpmcojmhkpaoaaa.PA
