-- Printed by this session's wip/myprint.py
import Derived.Test.YtpmcojmhkpaoaaaPAx0
import Derived.Test.YtpmcojmhkpaoaaaPAx3
namespace Go.Proofs.Ytpmcojmhkpaoaaa.PA
open Go.RowKit Go.Proofs.YtpmcojmhkpaoaaaW.PrintWords Go.Proofs.YtpmcojmhkpaoaaaW.PrintLast Go.Proofs.YtpmcojmhkpaoaaaW.PrintMore
attribute [local go_sem] max2_int min2_int max_two min_two max_three min_three max_four min_four   -- for this text's walks alone
set_option linter.unusedVariables false
set_option linter.unusedSimpArgs false

/-! ### have_Is: function 84 -/
set_option maxHeartbeats 8000000 in
set_option maxRecDepth 100000 in
theorem have_Is.calls (k : Nat) (A0 : Option Addr) (c0 : Nat) (l0 : List Int) (r : Bool) (w : World) (hr0 : Kd.C (Kd.int .i64) w A0 l0.length l0) (hc0 : l0.length ≤ c0) (h : have_Is.f k l0 = some r) :
  Calls Try.prog 84 #[.slice A0 l0.length c0] w fun e w' => e = .returned (.bool r) ∧ Drawn0 w w' := by
 have HR0 := Aside0.mk hr0
 have HC0 := Aside0.mk hc0
 clear hr0 hc0
 have H : (have_Is.l0 k l0 0) = some r := h
 clear h
 have H' := Aside0.mk H
 clear H
 go_enter Try.func84, Try.ntmps84
 go_wp2
 refine Go.Proofs.YtpmcojmhkpaoaaaLabel.wp_scope_one 0 rfl ?_
 intro G0_ hG0_
 go_wp2
 refine Go.Proofs.YtpmcojmhkpaoaaaLabel.wp_label_ghost (fun t_ d_ kq a_ w' => ∃ (u2 u3 u4 u5 u6 u7 u8 u9 u10 u11 u12 u13 u14 u15 u16 u17 u18 u19 u20 u21 u22 u23 u24 u25 u26 u27 : Value), (∃ (x3_1 : Int), u3 = .int .i64 x3_1 ∧ Aside0 (have_Is.l0 kq l0 x3_1 = some r) ∧ Aside0 (kq ≤ k) ∧ Drawn0 w w') ∧ a_ = ⟨#[Go.Proofs.YtpmcojmhkpaoaaaLabel.tget t_ 0, Go.Proofs.YtpmcojmhkpaoaaaLabel.tget t_ 1, u2, u3, u4, u5, u6, u7, u8, u9, u10, u11, u12, u13, u14, u15, u16, u17, u18, u19, u20, u21, u22, u23, u24, u25, u26, u27], d_⟩) k ‹_› hG0_ ?atStart ?round
 case atStart =>
  (try dsimp only)
  (repeat apply Exists.intro)
  refine ⟨?rel0, rfl⟩
  exact ⟨(0), (by first | rfl | (simp; done) | (simp [*]; done)), H', ⟨Nat.le_refl _⟩, by repeat (first | exact Drawn0.refl _ | apply Drawn0.step)⟩
 case round =>
  intro gk a_ wr hinv
  (try dsimp only at hinv)
  obtain ⟨u2, u3, u4, u5, u6, u7, u8, u9, u10, u11, u12, u13, u14, u15, u16, u17, u18, u19, u20, u21, u22, u23, u24, u25, u26, u27, hrel, rfl⟩ := hinv
  intro J_ hJ_ hGJ_
  clear hG0_
  dsimp only [Go.Proofs.YtpmcojmhkpaoaaaLabel.tget, List.getD_cons_succ, List.getD_cons_zero] at hJ_ ⊢
  clear H'
  obtain ⟨x3_1, rfl, HA, HK1, ⟨m1, rfl⟩⟩ := hrel
  cases gk with
  | zero => exact absurd HA.out (by simp [have_Is.l0])
  | succ k1 =>
   have H := HA.out
   clear HA
   simp only [have_Is.l0] at H
   by_cases c2 : x3_1 = (l0.length : Int)
   ·rw [if_pos c2] at H
    have c2b0 : (x3_1 == (l0.length : Int)) = true := beq_iff_eq.mpr c2
    have c2b1 : (x3_1 != (l0.length : Int)) = false := bne_eq_false_iff_eq.mpr c2
    clear c2
    by_cases c3 : x3_1 ≥ 1
    ·rw [if_pos c3] at H
     have c3b0 : decide (1 ≤ x3_1) = true := decide_eq_true c3
     clear c3
     obtain rfl := Option.some.inj H
     go_wp2
     (try simp only [Exit.then, Exit.inBlock, Go.Proofs.YtpmcojmhkpaoaaaLabel.Goes.here, Go.Proofs.YtpmcojmhkpaoaaaLabel.Goes.ret, Exit.noGoto_ret])
     go_ret
     exact ⟨by first | rfl | (simp; done) | (simp [*]; done), by repeat (first | exact Drawn0.refl _ | apply Drawn0.step)⟩
    ·rw [if_neg c3] at H
     have c3b0 : decide (1 ≤ x3_1) = false := decide_eq_false c3
     clear c3
     obtain rfl := Option.some.inj H
     go_wp2
     (try simp only [Exit.then, Exit.inBlock, Go.Proofs.YtpmcojmhkpaoaaaLabel.Goes.here, Go.Proofs.YtpmcojmhkpaoaaaLabel.Goes.ret, Exit.noGoto_ret])
     go_ret
     exact ⟨by first | rfl | (simp; done) | (simp [*]; done), by repeat (first | exact Drawn0.refl _ | apply Drawn0.step)⟩
   ·rw [if_neg c2] at H
    have c2b0 : (x3_1 == (l0.length : Int)) = false := beq_eq_false_iff_ne.mpr c2
    have c2b1 : (x3_1 != (l0.length : Int)) = true := bne_iff_ne.mpr c2
    by_cases c4 : 0 ≤ x3_1
    ·rw [if_pos c4] at H
     have c4b0 : decide (0 ≤ x3_1) = true := decide_eq_true c4
     clear c4
     by_cases c5 : x3_1 < (l0.length : Int)
     ·rw [if_pos c5] at H
      have c5b0 : decide (x3_1 < (l0.length : Int)) = true := decide_eq_true c5
      clear c5
      by_cases c6 : (rd l0 x3_1) ≥ 0
      ·rw [if_pos c6] at H
       have c6b0 : decide (0 ≤ (rd l0 x3_1)) = true := decide_eq_true c6
       clear c6
       by_cases c7 : (rd l0 x3_1) ≤ 1099511627776
       ·rw [if_pos c7] at H
        have c7b0 : decide ((rd l0 x3_1) ≤ 1099511627776) = true := decide_eq_true c7
        clear c7
        have H' := Aside0.mk H
        clear H
        have p649 : 0 ≤ (x3_1 : Int) := of_decide_eq_true (by first | (with_reducible assumption) | assumption)
        have q649 : x3_1 < (l0.length : Int) := of_decide_eq_true (by first | (with_reducible assumption) | assumption)
        obtain ⟨ad649, e649, hx649_0⟩ := Kd.at_int HR0.out x3_1 p649 q649
        cases e649
        replace p649 := eq_true p649
        replace q649 := eq_true q649
        have p650 : 0 ≤ (x3_1 : Int) := of_decide_eq_true (by first | (with_reducible assumption) | assumption)
        have q650 : x3_1 < (l0.length : Int) := of_decide_eq_true (by first | (with_reducible assumption) | assumption)
        obtain ⟨ad650, e650, hx650_0⟩ := Kd.at_int HR0.out x3_1 p650 q650
        obtain rfl : ad649 = ad650 := (by injection e650)
        replace p650 := eq_true p650
        replace q650 := eq_true q650
        go_wp2
        go_step3
        (try simp only [Exit.then, Exit.inBlock])
        (first | simp only [Go.Proofs.YtpmcojmhkpaoaaaLabel.Goes.here] | (rw [Go.Proofs.YtpmcojmhkpaoaaaLabel.Goes.there (by decide)]; simp only [Go.Proofs.YtpmcojmhkpaoaaaLabel.Goes.here]))
        go_step
        go_roundg k1
        case measure => have := HK1.out; omega
        case rel => exact ⟨(wrap64 (x3_1 + 1)), (by first | rfl | (simp; done) | (simp [*]; done)), H', ⟨by have := HK1.out; omega⟩, by repeat (first | exact Drawn0.refl _ | apply Drawn0.step)⟩
       ·rw [if_neg c7] at H
        have c7b0 : decide ((rd l0 x3_1) ≤ 1099511627776) = false := decide_eq_false c7
        clear c7
        obtain rfl := Option.some.inj H
        have p649 : 0 ≤ (x3_1 : Int) := of_decide_eq_true (by first | (with_reducible assumption) | assumption)
        have q649 : x3_1 < (l0.length : Int) := of_decide_eq_true (by first | (with_reducible assumption) | assumption)
        obtain ⟨ad649, e649, hx649_0⟩ := Kd.at_int HR0.out x3_1 p649 q649
        cases e649
        replace p649 := eq_true p649
        replace q649 := eq_true q649
        have p650 : 0 ≤ (x3_1 : Int) := of_decide_eq_true (by first | (with_reducible assumption) | assumption)
        have q650 : x3_1 < (l0.length : Int) := of_decide_eq_true (by first | (with_reducible assumption) | assumption)
        obtain ⟨ad650, e650, hx650_0⟩ := Kd.at_int HR0.out x3_1 p650 q650
        obtain rfl : ad649 = ad650 := (by injection e650)
        replace p650 := eq_true p650
        replace q650 := eq_true q650
        go_wp2
        (try simp only [Exit.then, Exit.inBlock, Go.Proofs.YtpmcojmhkpaoaaaLabel.Goes.here, Go.Proofs.YtpmcojmhkpaoaaaLabel.Goes.ret, Exit.noGoto_ret])
        go_ret
        exact ⟨by first | rfl | (simp; done) | (simp [*]; done), by repeat (first | exact Drawn0.refl _ | apply Drawn0.step)⟩
      ·rw [if_neg c6] at H
       have c6b0 : decide (0 ≤ (rd l0 x3_1)) = false := decide_eq_false c6
       clear c6
       obtain rfl := Option.some.inj H
       have p649 : 0 ≤ (x3_1 : Int) := of_decide_eq_true (by first | (with_reducible assumption) | assumption)
       have q649 : x3_1 < (l0.length : Int) := of_decide_eq_true (by first | (with_reducible assumption) | assumption)
       obtain ⟨ad649, e649, hx649_0⟩ := Kd.at_int HR0.out x3_1 p649 q649
       cases e649
       replace p649 := eq_true p649
       replace q649 := eq_true q649
       go_wp2
       (try simp only [Exit.then, Exit.inBlock, Go.Proofs.YtpmcojmhkpaoaaaLabel.Goes.here, Go.Proofs.YtpmcojmhkpaoaaaLabel.Goes.ret, Exit.noGoto_ret])
       go_ret
       exact ⟨by first | rfl | (simp; done) | (simp [*]; done), by repeat (first | exact Drawn0.refl _ | apply Drawn0.step)⟩
     ·rw [if_neg c5] at H
      exact absurd H (by simp)
    ·rw [if_neg c4] at H
     exact absurd H (by simp)

end Go.Proofs.Ytpmcojmhkpaoaaa.PA
