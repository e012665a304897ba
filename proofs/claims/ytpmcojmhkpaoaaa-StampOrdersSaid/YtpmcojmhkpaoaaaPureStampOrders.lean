/- The plain law behind StampOrders: what may be, what is a place, and which stands ahead is the page's; the order is handed on. -/
import Derived.Test.YtpmcojmhkpaoaaaStatStampOrders
import Derived.Test.YtpmcojmhkpaoaaaLibS
set_option linter.unusedVariables false
set_option linter.unusedSimpArgs false
namespace Go.Proofs.Ytpmcojmhkpaoaaa.PA
open Go.RowKit Go.Proofs.YtpmcojmhkpaoaaaW.PrintWords Go.Proofs.YtpmcojmhkpaoaaaW.PrintLast Go.Proofs.YtpmcojmhkpaoaaaW.PrintMore

theorem cmp_turned (a b c d : Int) : cmpS a b c d = wrap64 (-cmpS c d a b) := by
  unfold cmpS wrap64
  repeat' split
  all_goals first | omega | rfl
theorem cmp_trans (a b c d e f : Int) (h1 : cmpS a b c d ≤ 0) (h2 : cmpS c d e f ≤ 0) : ¬ cmpS a b e f > 0 := by
  unfold cmpS at *
  repeat' split at h1
  all_goals first | omega | skip
  all_goals repeat' split at h2
  all_goals first | omega | skip
  all_goals repeat' split
  all_goals omega
theorem stampOrders_inner (l : List S70) (hl : l.length ≤ 9223372036854775807) (x : Int) (a b c d : Int) (n : Nat) (hn : n < l.length) (hx : (n : Int) = x)
    (done : arraslaw6_StampOrders.L0 l (wrap64 (x + 1)) = some true) : ∀ (m k : Nat), k ≤ n → n - k = m → arraslaw6_StampOrders.L1 l x (k : Int) a b c d = some true := by
  subst hx
  intro m
  induction m with
  | zero =>
    intro k hk hm
    rw [arraslaw6_StampOrders.L1_eq, if_neg (by omega), done]
  | succ m ih =>
    intro k hk hm
    have go : arraslaw6_StampOrders.J4 l (n : Int) (k : Int) false a b c d = some true := by
      rw [arraslaw6_StampOrders.J4_eq, if_neg (by simp), w64s (by omega) (by omega)]
      exact ih (k + 1) (by omega) (by omega)
    rw [arraslaw6_StampOrders.L1_eq, if_pos (by omega), if_pos (by omega), if_pos (by omega), stampCmp, Option.bind_some]
    by_cases h1 : cmpS a b c d ≤ 0
    · rw [if_pos h1, stampCmp, Option.bind_some]
      by_cases h2 : cmpS c d (rd_T70 l (k : Int)).f0.f0 (rd_T70 l (k : Int)).f0.f1 ≤ 0
      · rw [if_pos h2, stampCmp, Option.bind_some, decide_eq_false (cmp_trans _ _ _ _ _ _ h1 h2)]
        exact go
      · rw [if_neg h2]
        exact go
    · rw [if_neg h1]
      exact go
theorem stampOrders_L (l : List S70) (hl : l.length ≤ 9223372036854775807) (hok : ∀ a ∈ l, ok_T70 a) : ∀ (d i : Nat), i ≤ l.length → l.length - i = d → arraslaw6_StampOrders.L0 l (i : Int) = some true := by
  intro d
  induction d with
  | zero =>
    intro i hi hd
    rw [arraslaw6_StampOrders.L0_eq, if_neg (by omega), arraslaw6_StampOrders.J1_eq, if_neg (by simp), wakes6]
    rfl
  | succ d ih =>
    intro i hi hd
    have hil : i < l.length := by omega
    rw [arraslaw6_StampOrders.L0_eq, if_pos (by omega), arraslaw6_StampOrders.J1_eq]
    by_cases h20 : (i : Int) < 20
    · rw [if_pos (decide_eq_true h20), if_pos (by omega), if_pos (by omega), rd70 l i hil]
      generalize l[i] = x at *
      have done : arraslaw6_StampOrders.L0 l (wrap64 ((i : Int) + 1)) = some true := by
        rw [w64s (by omega) (by omega)]
        exact ih (i + 1) (by omega) (by omega)
      have hJ : ∀ a b c d, arraslaw6_StampOrders.J2 l (i : Int) false a b c d = some true := by
        intro a b c d
        rw [arraslaw6_StampOrders.J2_eq, if_neg (by simp)]
        exact stampOrders_inner l hl (i : Int) a b c d i hil rfl done i 0 (by omega) (by omega)
      have hc : ∀ t r, (((if isStamp t r = true then (0 : Int) else 1) == 0) != isStamp t r) = false := by
        intro t r
        cases isStamp t r <;> rfl
      simp only [stampCheck, arraslaw6_num.f, refStamp, stampPlace, refPlace, stampCmp, refCmp, Option.bind_some, hc, bne_self_eq_false, if_neg Bool.false_ne_true, if_true]
      rw [show (cmpS x.f0.f0 x.f0.f1 x.f1.f0 x.f1.f1 != wrap64 (-cmpS x.f1.f0 x.f1.f1 x.f0.f0 x.f0.f1)) = false by rw [← cmp_turned]; simp]
      exact hJ _ _ _ _
    · rw [if_neg (by rw [decide_eq_true_eq]; exact h20), wakes6]
      rfl
theorem arraslaw6_StampOrders.proof : arraslaw6_StampOrders.Pure := by
  intro l ⟨hm, _, hok⟩
  refine Go.Proofs.YtpmcojmhkpaoaaaLabel.Lim.rounds (arraslaw6_StampOrders.F_lim l) ?_
  rw [arraslaw6_StampOrders.F_eq]
  exact stampOrders_L l hm hok l.length 0 (by omega) (by omega)
end Go.Proofs.Ytpmcojmhkpaoaaa.PA
