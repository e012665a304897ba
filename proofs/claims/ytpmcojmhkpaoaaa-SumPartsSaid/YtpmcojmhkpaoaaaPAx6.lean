-- Printed by this session's wip/myprint.py
import Derived.Test.YtpmcojmhkpaoaaaPAx0
import Derived.Test.YtpmcojmhkpaoaaaPAx2
namespace Go.Proofs.Ytpmcojmhkpaoaaa.PA
open Go.RowKit Go.Proofs.YtpmcojmhkpaoaaaW.PrintWords Go.Proofs.YtpmcojmhkpaoaaaW.PrintLast Go.Proofs.YtpmcojmhkpaoaaaW.PrintMore
attribute [local go_sem] max2_int min2_int max_two min_two max_three min_three max_four min_four   -- for this text's walks alone
set_option linter.unusedVariables false
set_option linter.unusedSimpArgs false

/-! ### sum_Sum: function 18 -/
set_option maxHeartbeats 8000000 in
set_option maxRecDepth 100000 in
theorem sum_Sum.calls (k : Nat) (a0 : Int) (A1 : Option Addr) (c1 : Nat) (l1 : List Int) (r : Int) (w : World) (hr1 : Kd.C (Kd.int .u8) w A1 l1.length l1) (hc1 : l1.length ≤ c1) (h : sum_Sum.f k a0 l1 = some r) :
  Calls Try.prog 18 #[.int .u32 a0, .slice A1 l1.length c1] w fun e w' => e = .returned (.int .u32 r) ∧ Drawn0 w w' := by
 have HR1 := Aside0.mk hr1
 have HC1 := Aside0.mk hc1
 clear hr1 hc1
 have H : (sum_Sum.l0 k (Go.bits .xor .u32 4294967295 a0) l1 0 8) = some r := h
 clear h
 have H' := Aside0.mk H
 clear H
 go_enter Try.func18, Try.ntmps18
 go_wp2
 refine Go.Proofs.YtpmcojmhkpaoaaaLabel.wp_scope_one 0 rfl ?_
 intro G0_ hG0_
 go_wp2
 refine Go.Proofs.YtpmcojmhkpaoaaaLabel.wp_label_ghost (fun t_ d_ kq a_ w' => ∃ (u0 u4 u5 u6 u9 u10 u11 u12 u13 u14 u15 u16 u17 u18 u19 u20 u21 u22 u23 u24 u25 u26 u27 u28 u29 u30 u31 u32 u33 : Value), (∃ (x0_1 : Int) (x5_1 : Int) (x6_1 : Int), u0 = .int .u32 x0_1 ∧ u5 = .int .i64 x5_1 ∧ u6 = .int .i64 x6_1 ∧ Aside0 (sum_Sum.l0 kq x0_1 l1 x5_1 x6_1 = some r) ∧ Aside0 (kq ≤ k) ∧ Drawn0 w w') ∧ a_ = ⟨#[u0, Go.Proofs.YtpmcojmhkpaoaaaLabel.tget t_ 1, Go.Proofs.YtpmcojmhkpaoaaaLabel.tget t_ 2, Go.Proofs.YtpmcojmhkpaoaaaLabel.tget t_ 3, u4, u5, u6, Go.Proofs.YtpmcojmhkpaoaaaLabel.tget t_ 7, Go.Proofs.YtpmcojmhkpaoaaaLabel.tget t_ 8, u9, u10, u11, u12, u13, u14, u15, u16, u17, u18, u19, u20, u21, u22, u23, u24, u25, u26, u27, u28, u29, u30, u31, u32, u33], d_⟩) k ‹_› hG0_ ?atStart ?round
 case atStart =>
  (try dsimp only)
  (repeat apply Exists.intro)
  refine ⟨?rel0, rfl⟩
  exact ⟨(Go.bits .xor .u32 4294967295 a0), (0), (8), (by first | rfl | (simp; done) | (simp [*]; done)), (by first | rfl | (simp; done) | (simp [*]; done)), (by first | rfl | (simp; done) | (simp [*]; done)), H', ⟨Nat.le_refl _⟩, by repeat (first | exact Drawn0.refl _ | apply Drawn0.step)⟩
 case round =>
  intro gk a_ wr hinv
  (try dsimp only at hinv)
  obtain ⟨u0, u4, u5, u6, u9, u10, u11, u12, u13, u14, u15, u16, u17, u18, u19, u20, u21, u22, u23, u24, u25, u26, u27, u28, u29, u30, u31, u32, u33, hrel, rfl⟩ := hinv
  intro J_ hJ_ hGJ_
  clear hG0_
  dsimp only [Go.Proofs.YtpmcojmhkpaoaaaLabel.tget, List.getD_cons_succ, List.getD_cons_zero] at hJ_ ⊢
  clear H'
  (try clear c1); (try clear p2)
  obtain ⟨x0_1, x5_1, x6_1, rfl, rfl, rfl, HA, HK1, ⟨m1, rfl⟩⟩ := hrel
  cases gk with
  | zero => exact absurd HA.out (by simp [sum_Sum.l0])
  | succ k1 =>
   have H := HA.out
   clear HA
   simp only [sum_Sum.l0] at H
   by_cases c3 : x6_1 < 8
   ·rw [if_pos c3] at H
    have c3b0 : decide (x6_1 < 8) = true := decide_eq_true c3
    clear c3
    have H' := Aside0.mk H
    clear H
    go_wp2
    go_step3
    (try simp only [Exit.then, Exit.inBlock])
    (first | simp only [Go.Proofs.YtpmcojmhkpaoaaaLabel.Goes.here] | (rw [Go.Proofs.YtpmcojmhkpaoaaaLabel.Goes.there (by decide)]; simp only [Go.Proofs.YtpmcojmhkpaoaaaLabel.Goes.here]))
    go_step
    go_roundg k1
    case measure => have := HK1.out; omega
    case rel => exact ⟨(Go.bits .xor .u32 (x0_1 / 2) ((3988292384 * (Go.bits .and .u32 x0_1 1)) % 4294967296)), (x5_1), (wrap64 (x6_1 + 1)), (by first | rfl | (simp; done) | (simp [*]; done)), (by first | rfl | (simp; done) | (simp [*]; done)), (by first | rfl | (simp; done) | (simp [*]; done)), H', ⟨by have := HK1.out; omega⟩, by repeat (first | exact Drawn0.refl _ | apply Drawn0.step)⟩
   ·rw [if_neg c3] at H
    have c3b0 : decide (x6_1 < 8) = false := decide_eq_false c3
    clear c3
    by_cases c4 : x5_1 < (l1.length : Int)
    ·rw [if_pos c4] at H
     have c4b0 : decide (x5_1 < (l1.length : Int)) = true := decide_eq_true c4
     clear c4
     by_cases c5 : 0 ≤ x5_1
     ·rw [if_pos c5] at H
      have c5b0 : decide (0 ≤ x5_1) = true := decide_eq_true c5
      clear c5
      have H' := Aside0.mk H
      clear H
      have p105 : 0 ≤ (x5_1 : Int) := of_decide_eq_true (by first | (with_reducible assumption) | assumption)
      have q105 : x5_1 < (l1.length : Int) := of_decide_eq_true (by first | (with_reducible assumption) | assumption)
      obtain ⟨ad105, e105, hx105_0⟩ := Kd.at_int HR1.out x5_1 p105 q105
      cases e105
      replace p105 := eq_true p105
      replace q105 := eq_true q105
      go_wp2
      go_step3
      (try simp only [Exit.then, Exit.inBlock])
      (first | simp only [Go.Proofs.YtpmcojmhkpaoaaaLabel.Goes.here] | (rw [Go.Proofs.YtpmcojmhkpaoaaaLabel.Goes.there (by decide)]; simp only [Go.Proofs.YtpmcojmhkpaoaaaLabel.Goes.here]))
      go_step
      go_roundg k1
      case measure => have := HK1.out; omega
      case rel => exact ⟨(Go.bits .xor .u32 x0_1 ((rd l1 x5_1) % 4294967296)), (wrap64 (x5_1 + 1)), (0), (by first | rfl | (simp; done) | (simp [*]; done)), (by first | rfl | (simp; done) | (simp [*]; done)), (by first | rfl | (simp; done) | (simp [*]; done)), H', ⟨by have := HK1.out; omega⟩, by repeat (first | exact Drawn0.refl _ | apply Drawn0.step)⟩
     ·rw [if_neg c5] at H
      exact absurd H (by simp)
    ·rw [if_neg c4] at H
     have c4b0 : decide (x5_1 < (l1.length : Int)) = false := decide_eq_false c4
     clear c4
     obtain rfl := Option.some.inj H
     go_wp2
     (try simp only [Exit.then, Exit.inBlock, Go.Proofs.YtpmcojmhkpaoaaaLabel.Goes.here, Go.Proofs.YtpmcojmhkpaoaaaLabel.Goes.ret, Exit.noGoto_ret])
     go_ret
     exact ⟨by first | rfl | (simp; done) | (simp [*]; done), by repeat (first | exact Drawn0.refl _ | apply Drawn0.step)⟩

end Go.Proofs.Ytpmcojmhkpaoaaa.PA
