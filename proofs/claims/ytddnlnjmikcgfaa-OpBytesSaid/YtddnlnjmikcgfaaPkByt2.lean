/- Own texts and the words of this seat, as far as this claim reads them: PCx37, PCx38, PCx39, PCx40, PCx49, PCx50, PCx10, PCx16, PCx11, PCx12, PCx13, PCx22, PCx23, PCx24, PCx25. -/
import Derived.Test.YtddnlnjmikcgfaaPkByt1
section
namespace Go.Proofs.Ytddnlnjmikcgfaa.PC
open Go.RowKit Go.WB.PrintWords Go.WB.PrintLast Go.WB.PrintMore
attribute [local go_sem] cB cZ dE dD bP bQ cO cK
set_option linter.unusedVariables false
set_option linter.unusedSimpArgs false
open Go.LB (sT sZ sS cells3 aK dQ aU)
open Go.SB (rpu rpf rtk rpu0 rpf0 rtk0 rbs rud pS)
set_option maxHeartbeats 40000000
set_option maxRecDepth 100000
theorem fD.calls (a0 : ByteArray) (r : Bool) (w : World) (h : fD.f a0 = some r) :
  Calls Try.prog 59 #[.string a0] w fun e w' => e = .returned (.bool r) ∧ bC w w' := by
 have H : (if (a0.size : Int) ≥ 1 then (if (a0.size : Int) ≤ 64 then (if 0 ≤ (wrap64 ((a0.size : Int) - 1)) then (if (wrap64 ((a0.size : Int) - 1)) < (a0.size : Int) then (some ((bt a0 (wrap64 ((a0.size : Int) - 1))) != 0)) else (none)) else (none)) else (some false)) else (some false)) = some r := h;clear h;by_cases c2 : (a0.size : Int) ≥ 1
 ·rw [if_pos c2] at H
  have c2b0 : decide (1 ≤ (a0.size : Int)) = true := decide_eq_true c2;have c2b1 : decide (1 ≤ a0.size) = true := decide_eq_true (by omega);clear c2;by_cases c3 : (a0.size : Int) ≤ 64
  ·rw [if_pos c3] at H
   have c3b0 : decide ((a0.size : Int) ≤ 64) = true := decide_eq_true c3;have c3b1 : decide (a0.size ≤ 64) = true := decide_eq_true (by omega);clear c3;obtain ⟨ji4, hji4⟩ : ∃ j_ : Int, (wrap64 ((a0.size : Int) - 1)) = j_ := ⟨_, rfl⟩
   replace H : (if 0 ≤ (ji4) then (if (ji4) < (a0.size : Int) then (some ((bt a0 (ji4)) != 0)) else (none)) else (none)) = some r := by first | (rw [hji4] at H; exact H) | (simp only [hji4] at H ⊢; exact H)
   have hji4w : (IntKind.i64.wrap ((a0.size : Int) - 1)) = ji4 := (iY _).trans hji4;by_cases c5 : 0 ≤ (ji4)
   ·rw [if_pos c5] at H
    have c5b0 : decide (0 ≤ (ji4)) = true := decide_eq_true c5;clear c5;by_cases c6 : (ji4) < (a0.size : Int)
    ·rw [if_pos c6] at H
     have c6b0 : decide ((ji4) < (a0.size : Int)) = true := decide_eq_true c6;clear c6;obtain rfl := Option.some.inj H;have p7 : 0 ≤ ((ji4) : Int) := of_decide_eq_true (by first | (with_reducible assumption) | assumption);have q7 : (ji4) < (a0.size : Int) := of_decide_eq_true (by first | (with_reducible assumption) | assumption);have hx7 := bt_at a0 (ji4);replace p7 := eq_true p7;replace q7 := eq_true q7;go_enter Try.func59, Try.ntmps59;go_wp2;go_ret;exact ⟨by first | rfl | (simp; done) | (simp only [← hji4] <;> (first | rfl | simp)) | (simp [*]; done), by repeat (first | exact bC.refl _ | apply bC.step)⟩
    ·rw [if_neg c6] at H
     exact absurd H (by simp)
   ·rw [if_neg c5] at H
    exact absurd H (by simp)
  ·rw [if_neg c3] at H
   have c3b0 : decide ((a0.size : Int) ≤ 64) = false := decide_eq_false c3;have c3b1 : decide (a0.size ≤ 64) = false := decide_eq_false (by omega);clear c3;obtain rfl := Option.some.inj H;go_enter Try.func59, Try.ntmps59;go_wp2;go_ret;exact ⟨by first | rfl | (simp; done) | (simp [*]; done), by repeat (first | exact bC.refl _ | apply bC.step)⟩
 ·rw [if_neg c2] at H
  have c2b0 : decide (1 ≤ (a0.size : Int)) = false := decide_eq_false c2;have c2b1 : decide (1 ≤ a0.size) = false := decide_eq_false (by omega);clear c2;obtain rfl := Option.some.inj H;go_enter Try.func59, Try.ntmps59;go_wp2;go_ret;exact ⟨by first | rfl | (simp; done) | (simp [*]; done), by repeat (first | exact bC.refl _ | apply bC.step)⟩
theorem af.calls (k : Nat) (a0 : Int) (r1 : Int) (r2 : Int) (r3 : Int) (r4 : Bool) (w : World) (h : af.f k a0 = some (r1, r2, r3, r4)) :
  Calls Try.prog 95 #[.int .i64 a0] w fun e w' => e = .returned (.tuple #[.int .i64 r1, .int .i64 r2, .int .i64 r3, .bool r4]) ∧ bC w w' := by
 have H : (if a0 = 0 then (some (0, 2, 0, true)) else (if a0 = 1 then (af.j0 k a0 (a0 == 1)) else (af.j0 k a0 (a0 == 2)))) = some (r1, r2, r3, r4) := h;clear h;by_cases c2 : a0 = 0
 ·rw [if_pos c2] at H
  have c2b0 : (a0 == 0) = true := beq_iff_eq.mpr c2;have c2b1 : (a0 != 0) = false := bne_eq_false_iff_eq.mpr c2;clear c2;simp only [Option.some.injEq, Prod.mk.injEq] at H;obtain ⟨rfl, rfl, rfl, rfl⟩ := H;go_enter Try.func95, Try.ntmps95;go_wp2;refine bodyPost_ret (eT (rs := [.tmp 2, .tmp 3, .tmp 4, .tmp 5]) rfl (by simp) (.tmp (.tmp (.tmp (.tmp .nil))))) rfl ?_;exact ⟨by first | rfl | (simp; done) | (simp [*]; done), by repeat (first | exact bC.refl _ | apply bC.step)⟩
 rw [if_neg c2] at H;have c2b0 : (a0 == 0) = false := beq_eq_false_iff_ne.mpr c2;have c2b1 : (a0 != 0) = true := bne_iff_ne.mpr c2;have HC3 := aa.mk H;clear H;go_enter Try.func95, Try.ntmps95;go_upto_if 9 with (fail);go_cut [9] (fun v9 wc => ∃ (kq : Nat) (x9_2 : Bool), v9 = .bool x9_2 ∧ aa (af.j0 kq a0 x9_2 = some (r1, r2, r3, r4)) ∧ aa (kq ≤ k) ∧ bC w wc)
 case first =>
  have H := HC3.out;clear HC3;by_cases c4 : a0 = 1;rotate_left
  ·rw [if_neg c4] at H
   have c4b0 : (a0 == 1) = false := beq_eq_false_iff_ne.mpr c4;have c4b1 : (a0 != 1) = true := bne_iff_ne.mpr c4;(first | rw [c4b0] | (simp only [iY, i32_w]; rw [c4b0]) | skip);have H' := aa.mk H;clear H;go_wp2;go_meet
   case rel => exact ⟨_, ((a0 == 2)), (by first | rfl | (simp; done) | (simp [*]; done)), H', ⟨by first | omega | exact Nat.le_refl _⟩, by repeat (first | exact bC.refl _ | apply bC.step)⟩
  rw [if_pos c4] at H;have c4b0 : (a0 == 1) = true := beq_iff_eq.mpr c4;have c4b1 : (a0 != 1) = false := bne_eq_false_iff_eq.mpr c4;clear c4;(first | rw [c4b0] | (simp only [iY, i32_w]; rw [c4b0]) | skip);have H' := aa.mk H;clear H;go_wp2;go_meet
  case rel => exact ⟨_, ((a0 == 1)), (by first | rfl | (simp; done) | (simp [*]; done)), H', ⟨by first | omega | exact Nat.le_refl _⟩, by repeat (first | exact bC.refl _ | apply bC.step)⟩
 case rest =>
  clear HC3;(try clear c2 c2b0 c2b1 p2 c4 c4b0 c4b1);obtain ⟨kq, x9_2, rfl, HA, HJ2, ⟨mc2, rfl⟩⟩ := hcut;cases kq with
  | zero => exact absurd HA.out (by simp [af.j0])
  | succ kj2 =>
   have H := HA.out;clear HA;simp only [af.j0] at H;by_cases c5 : x9_2 = true
   ·subst c5
    have H1 : (some (0, 1, 0, true)) = some (r1, r2, r3, r4) := by rw [if_pos rfl] at H; exact H
    clear H;have H := H1;clear H1;simp only [Option.some.injEq, Prod.mk.injEq] at H;obtain ⟨rfl, rfl, rfl, rfl⟩ := H;go_wp2;refine bodyPost_ret (eT (rs := [.tmp 2, .tmp 3, .tmp 4, .tmp 5]) rfl (by simp) (.tmp (.tmp (.tmp (.tmp .nil))))) rfl ?_;exact ⟨by first | rfl | (simp; done) | (simp [*]; done), by repeat (first | exact bC.refl _ | apply bC.step)⟩
   replace c5 := Bool.eq_false_iff.mpr c5;subst c5;have H1 : (if a0 = 3 then (af.j1 kj2 a0 (a0 == 3)) else (if a0 = 4 then (af.j1 kj2 a0 (a0 == 4)) else (if a0 = 6 then (af.j1 kj2 a0 (a0 == 6)) else (if a0 = 8 then (af.j1 kj2 a0 (a0 == 8)) else (af.j1 kj2 a0 (a0 == 11)))))) = some (r1, r2, r3, r4) := by rw [if_neg (show ¬ (false = true) by decide)] at H; exact H
   clear H;have H := H1;clear H1;have HC6 := aa.mk H;clear H;go_upto_if 12 with (fail);go_cut [12] (fun v12 wc => ∃ (kq : Nat) (x12_5 : Bool), v12 = .bool x12_5 ∧ aa (af.j1 kq a0 x12_5 = some (r1, r2, r3, r4)) ∧ aa (kq ≤ kj2) ∧ bC w wc)
   case first =>
    have H := HC6.out;clear HC6;by_cases c7 : a0 = 3
    ·rw [if_pos c7] at H
     have c7b0 : (a0 == 3) = true := beq_iff_eq.mpr c7;have c7b1 : (a0 != 3) = false := bne_eq_false_iff_eq.mpr c7;clear c7;(first | rw [c7b0] | (simp only [iY, i32_w]; rw [c7b0]) | skip);have H' := aa.mk H;clear H;go_wp2;go_meet
     case rel => exact ⟨_, ((a0 == 3)), (by first | rfl | (simp; done) | (simp [*]; done)), H', ⟨by have := HJ2.out; first | omega | exact Nat.le_refl _⟩, by repeat (first | exact bC.refl _ | apply bC.step)⟩
    rw [if_neg c7] at H;have c7b0 : (a0 == 3) = false := beq_eq_false_iff_ne.mpr c7;have c7b1 : (a0 != 3) = true := bne_iff_ne.mpr c7;(first | rw [c7b0] | (simp only [iY, i32_w]; rw [c7b0]) | skip);by_cases c8 : a0 = 4
    ·rw [if_pos c8] at H
     have c8b0 : (a0 == 4) = true := beq_iff_eq.mpr c8;have c8b1 : (a0 != 4) = false := bne_eq_false_iff_eq.mpr c8;clear c8;have H' := aa.mk H;clear H;go_wp2;go_meet
     case rel => exact ⟨_, ((a0 == 4)), (by first | rfl | (simp; done) | (simp [*]; done)), H', ⟨by have := HJ2.out; first | omega | exact Nat.le_refl _⟩, by repeat (first | exact bC.refl _ | apply bC.step)⟩
    rw [if_neg c8] at H;have c8b0 : (a0 == 4) = false := beq_eq_false_iff_ne.mpr c8;have c8b1 : (a0 != 4) = true := bne_iff_ne.mpr c8;by_cases c9 : a0 = 6
    ·rw [if_pos c9] at H
     have c9b0 : (a0 == 6) = true := beq_iff_eq.mpr c9;have c9b1 : (a0 != 6) = false := bne_eq_false_iff_eq.mpr c9;clear c9;have H' := aa.mk H;clear H;go_wp2;go_meet
     case rel => exact ⟨_, ((a0 == 6)), (by first | rfl | (simp; done) | (simp [*]; done)), H', ⟨by have := HJ2.out; first | omega | exact Nat.le_refl _⟩, by repeat (first | exact bC.refl _ | apply bC.step)⟩
    rw [if_neg c9] at H;have c9b0 : (a0 == 6) = false := beq_eq_false_iff_ne.mpr c9;have c9b1 : (a0 != 6) = true := bne_iff_ne.mpr c9;by_cases c10 : a0 = 8;rotate_left
    ·rw [if_neg c10] at H
     have c10b0 : (a0 == 8) = false := beq_eq_false_iff_ne.mpr c10;have c10b1 : (a0 != 8) = true := bne_iff_ne.mpr c10;have H' := aa.mk H;clear H;go_wp2;go_meet
     case rel => exact ⟨_, ((a0 == 11)), (by first | rfl | (simp; done) | (simp [*]; done)), H', ⟨by have := HJ2.out; first | omega | exact Nat.le_refl _⟩, by repeat (first | exact bC.refl _ | apply bC.step)⟩
    rw [if_pos c10] at H;have c10b0 : (a0 == 8) = true := beq_iff_eq.mpr c10;have c10b1 : (a0 != 8) = false := bne_eq_false_iff_eq.mpr c10;clear c10;have H' := aa.mk H;clear H;go_wp2;go_meet
    case rel => exact ⟨_, ((a0 == 8)), (by first | rfl | (simp; done) | (simp [*]; done)), H', ⟨by have := HJ2.out; first | omega | exact Nat.le_refl _⟩, by repeat (first | exact bC.refl _ | apply bC.step)⟩
   case rest =>
    clear HC6;(try clear c1 c2 c2b0 c2b1 p2 c4 c4b0 c4b1 c5 c7 c7b0 c7b1 c8 c8b0 c8b1 c9 c9b0 c9b1 c10 c10b0 c10b1 p2);obtain ⟨kq, x12_5, rfl, HA, HJ5, ⟨mc5, rfl⟩⟩ := hcut;cases kq with
    | zero => exact absurd HA.out (by simp [af.j1])
    | succ kj5 =>
     have H := HA.out;clear HA;simp only [af.j1] at H;by_cases c11 : x12_5 = true
     ·subst c11
      have H1 : (some ((-1), 1099511627776, (-1), true)) = some (r1, r2, r3, r4) := by rw [if_pos rfl] at H; exact H
      clear H;have H := H1;clear H1;simp only [Option.some.injEq, Prod.mk.injEq] at H;obtain ⟨rfl, rfl, rfl, rfl⟩ := H;go_wp2;refine bodyPost_ret (eT (rs := [.tmp 2, .tmp 3, .tmp 4, .tmp 5]) rfl (by simp) (.tmp (.tmp (.tmp (.tmp .nil))))) rfl ?_;exact ⟨by first | rfl | (simp; done) | (simp [*]; done), by repeat (first | exact bC.refl _ | apply bC.step)⟩
     replace c11 := Bool.eq_false_iff.mpr c11;subst c11;have H1 : (if a0 = 5 then (af.j2 kj5 a0 (a0 == 5)) else (af.j2 kj5 a0 (a0 == 7))) = some (r1, r2, r3, r4) := by rw [if_neg (show ¬ (false = true) by decide)] at H; exact H
     clear H;have H := H1;clear H1;have HC12 := aa.mk H;clear H;go_upto_if 18 with (fail);go_cut [18] (fun v18 wc => ∃ (kq : Nat) (x18_11 : Bool), v18 = .bool x18_11 ∧ aa (af.j2 kq a0 x18_11 = some (r1, r2, r3, r4)) ∧ aa (kq ≤ kj5) ∧ bC w wc)
     case first =>
      have H := HC12.out;clear HC12;by_cases c13 : a0 = 5;rotate_left
      ·rw [if_neg c13] at H
       have c13b0 : (a0 == 5) = false := beq_eq_false_iff_ne.mpr c13;have c13b1 : (a0 != 5) = true := bne_iff_ne.mpr c13;(first | rw [c13b0] | (simp only [iY, i32_w]; rw [c13b0]) | skip);have H' := aa.mk H;clear H;go_wp2;go_meet
       case rel => exact ⟨_, ((a0 == 7)), (by first | rfl | (simp; done) | (simp [*]; done)), H', ⟨by have := HJ2.out; have := HJ5.out; first | omega | exact Nat.le_refl _⟩, by repeat (first | exact bC.refl _ | apply bC.step)⟩
      rw [if_pos c13] at H;have c13b0 : (a0 == 5) = true := beq_iff_eq.mpr c13;have c13b1 : (a0 != 5) = false := bne_eq_false_iff_eq.mpr c13;clear c13;(first | rw [c13b0] | (simp only [iY, i32_w]; rw [c13b0]) | skip);have H' := aa.mk H;clear H;go_wp2;go_meet
      case rel => exact ⟨_, ((a0 == 5)), (by first | rfl | (simp; done) | (simp [*]; done)), H', ⟨by have := HJ2.out; have := HJ5.out; first | omega | exact Nat.le_refl _⟩, by repeat (first | exact bC.refl _ | apply bC.step)⟩
     case rest =>
      clear HC12;(try clear c1 c2 c2b0 c2b1 p2 c4 c4b0 c4b1 c5 c7 c7b0 c7b1 c8 c8b0 c8b1 c9 c9b0 c9b1 c10 c10b0 c10b1 c11 c13 c13b0 c13b1 p2);obtain ⟨kq, x18_11, rfl, HA, HJ11, ⟨mc11, rfl⟩⟩ := hcut;cases kq with
      | zero => exact absurd HA.out (by simp [af.j2])
      | succ kj11 =>
       have H := HA.out;clear HA;simp only [af.j2] at H;by_cases c14 : x18_11 = true
       ·subst c14
        have H1 : (some (0, 1099511627776, 0, true)) = some (r1, r2, r3, r4) := by rw [if_pos rfl] at H; exact H
        clear H;have H := H1;clear H1;simp only [Option.some.injEq, Prod.mk.injEq] at H;obtain ⟨rfl, rfl, rfl, rfl⟩ := H;go_wp2;refine bodyPost_ret (eT (rs := [.tmp 2, .tmp 3, .tmp 4, .tmp 5]) rfl (by simp) (.tmp (.tmp (.tmp (.tmp .nil))))) rfl ?_;exact ⟨by first | rfl | (simp; done) | (simp [*]; done), by repeat (first | exact bC.refl _ | apply bC.step)⟩
       replace c14 := Bool.eq_false_iff.mpr c14;subst c14;have H1 : (if a0 = 9 then (some (0, 1048576, 0, true)) else (if a0 = 10 then (some (0, 1048576, 1, true)) else (if a0 = 12 then (af.j3 kj11 a0 (a0 == 12)) else (if a0 = 13 then (af.j3 kj11 a0 (a0 == 13)) else (af.j3 kj11 a0 (a0 == 14)))))) = some (r1, r2, r3, r4) := by rw [if_neg (show ¬ (false = true) by decide)] at H; exact H
       clear H;have H := H1;clear H1;by_cases c15 : a0 = 9
       ·rw [if_pos c15] at H
        have c15b0 : (a0 == 9) = true := beq_iff_eq.mpr c15;have c15b1 : (a0 != 9) = false := bne_eq_false_iff_eq.mpr c15;clear c15;simp only [Option.some.injEq, Prod.mk.injEq] at H;obtain ⟨rfl, rfl, rfl, rfl⟩ := H;go_wp2;refine bodyPost_ret (eT (rs := [.tmp 2, .tmp 3, .tmp 4, .tmp 5]) rfl (by simp) (.tmp (.tmp (.tmp (.tmp .nil))))) rfl ?_;exact ⟨by first | rfl | (simp; done) | (simp [*]; done), by repeat (first | exact bC.refl _ | apply bC.step)⟩
       rw [if_neg c15] at H;have c15b0 : (a0 == 9) = false := beq_eq_false_iff_ne.mpr c15;have c15b1 : (a0 != 9) = true := bne_iff_ne.mpr c15;by_cases c16 : a0 = 10
       ·rw [if_pos c16] at H
        have c16b0 : (a0 == 10) = true := beq_iff_eq.mpr c16;have c16b1 : (a0 != 10) = false := bne_eq_false_iff_eq.mpr c16;clear c16;simp only [Option.some.injEq, Prod.mk.injEq] at H;obtain ⟨rfl, rfl, rfl, rfl⟩ := H;go_wp2;refine bodyPost_ret (eT (rs := [.tmp 2, .tmp 3, .tmp 4, .tmp 5]) rfl (by simp) (.tmp (.tmp (.tmp (.tmp .nil))))) rfl ?_;exact ⟨by first | rfl | (simp; done) | (simp [*]; done), by repeat (first | exact bC.refl _ | apply bC.step)⟩
       rw [if_neg c16] at H;have c16b0 : (a0 == 10) = false := beq_eq_false_iff_ne.mpr c16;have c16b1 : (a0 != 10) = true := bne_iff_ne.mpr c16;have HC17 := aa.mk H;clear H;go_upto_if 25 with (fail);go_cut [25] (fun v25 wc => ∃ (kq : Nat) (x25_16 : Bool), v25 = .bool x25_16 ∧ aa (af.j3 kq a0 x25_16 = some (r1, r2, r3, r4)) ∧ aa (kq ≤ kj11) ∧ bC w wc)
       case first =>
        have H := HC17.out;clear HC17;by_cases c18 : a0 = 12
        ·rw [if_pos c18] at H
         have c18b0 : (a0 == 12) = true := beq_iff_eq.mpr c18;have c18b1 : (a0 != 12) = false := bne_eq_false_iff_eq.mpr c18;clear c18;(first | rw [c18b0] | (simp only [iY, i32_w]; rw [c18b0]) | skip);have H' := aa.mk H;clear H;go_wp2;go_meet
         case rel => exact ⟨_, ((a0 == 12)), (by first | rfl | (simp; done) | (simp [*]; done)), H', ⟨by have := HJ2.out; have := HJ5.out; have := HJ11.out; first | omega | exact Nat.le_refl _⟩, by repeat (first | exact bC.refl _ | apply bC.step)⟩
        rw [if_neg c18] at H;have c18b0 : (a0 == 12) = false := beq_eq_false_iff_ne.mpr c18;have c18b1 : (a0 != 12) = true := bne_iff_ne.mpr c18;(first | rw [c18b0] | (simp only [iY, i32_w]; rw [c18b0]) | skip);by_cases c19 : a0 = 13;rotate_left
        ·rw [if_neg c19] at H
         have c19b0 : (a0 == 13) = false := beq_eq_false_iff_ne.mpr c19;have c19b1 : (a0 != 13) = true := bne_iff_ne.mpr c19;have H' := aa.mk H;clear H;go_wp2;go_meet
         case rel => exact ⟨_, ((a0 == 14)), (by first | rfl | (simp; done) | (simp [*]; done)), H', ⟨by have := HJ2.out; have := HJ5.out; have := HJ11.out; first | omega | exact Nat.le_refl _⟩, by repeat (first | exact bC.refl _ | apply bC.step)⟩
        rw [if_pos c19] at H;have c19b0 : (a0 == 13) = true := beq_iff_eq.mpr c19;have c19b1 : (a0 != 13) = false := bne_eq_false_iff_eq.mpr c19;clear c19;have H' := aa.mk H;clear H;go_wp2;go_meet
        case rel => exact ⟨_, ((a0 == 13)), (by first | rfl | (simp; done) | (simp [*]; done)), H', ⟨by have := HJ2.out; have := HJ5.out; have := HJ11.out; first | omega | exact Nat.le_refl _⟩, by repeat (first | exact bC.refl _ | apply bC.step)⟩
       case rest =>
        clear HC17;(try clear c1 c2 c2b0 c2b1 p2 c4 c4b0 c4b1 c5 c7 c7b0 c7b1 c8 c8b0 c8b1 c9 c9b0 c9b1 c10 c10b0 c10b1 c11 c13 c13b0 c13b1 c14 c15 c15b0 c15b1 c16 c16b0 c16b1 c18 c18b0 c18b1 c19 c19b0 c19b1 p2);obtain ⟨kq, x25_16, rfl, HA, HJ16, ⟨mc16, rfl⟩⟩ := hcut;cases kq with
        | zero => exact absurd HA.out (by simp [af.j3])
        | succ kj16 =>
         have H := HA.out;clear HA;simp only [af.j3] at H;by_cases c20 : x25_16 = true
         ·subst c20
          have H1 : (some (0, 1073741824, 0, true)) = some (r1, r2, r3, r4) := by rw [if_pos rfl] at H; exact H
          clear H;have H := H1;clear H1;simp only [Option.some.injEq, Prod.mk.injEq] at H;obtain ⟨rfl, rfl, rfl, rfl⟩ := H;go_wp2;refine bodyPost_ret (eT (rs := [.tmp 2, .tmp 3, .tmp 4, .tmp 5]) rfl (by simp) (.tmp (.tmp (.tmp (.tmp .nil))))) rfl ?_;exact ⟨by first | rfl | (simp; done) | (simp [*]; done), by repeat (first | exact bC.refl _ | apply bC.step)⟩
         replace c20 := Bool.eq_false_iff.mpr c20;subst c20;have H1 : (if a0 = 15 then (some (0, 4, 0, true)) else (if a0 = 16 then (some (0, 3, 0, true)) else (if a0 = 17 then (some (0, 16777215, 0, true)) else (if a0 = 18 then (some (64, 64000, 1024, true)) else (some (0, 0, 0, false)))))) = some (r1, r2, r3, r4) := by rw [if_neg (show ¬ (false = true) by decide)] at H; exact H
         clear H;have H := H1;clear H1;by_cases c21 : a0 = 15
         ·rw [if_pos c21] at H
          have c21b0 : (a0 == 15) = true := beq_iff_eq.mpr c21;have c21b1 : (a0 != 15) = false := bne_eq_false_iff_eq.mpr c21;clear c21;simp only [Option.some.injEq, Prod.mk.injEq] at H;obtain ⟨rfl, rfl, rfl, rfl⟩ := H;go_wp2;refine bodyPost_ret (eT (rs := [.tmp 2, .tmp 3, .tmp 4, .tmp 5]) rfl (by simp) (.tmp (.tmp (.tmp (.tmp .nil))))) rfl ?_;exact ⟨by first | rfl | (simp; done) | (simp [*]; done), by repeat (first | exact bC.refl _ | apply bC.step)⟩
         rw [if_neg c21] at H;have c21b0 : (a0 == 15) = false := beq_eq_false_iff_ne.mpr c21;have c21b1 : (a0 != 15) = true := bne_iff_ne.mpr c21;by_cases c22 : a0 = 16
         ·rw [if_pos c22] at H
          have c22b0 : (a0 == 16) = true := beq_iff_eq.mpr c22;have c22b1 : (a0 != 16) = false := bne_eq_false_iff_eq.mpr c22;clear c22;simp only [Option.some.injEq, Prod.mk.injEq] at H;obtain ⟨rfl, rfl, rfl, rfl⟩ := H;go_wp2;refine bodyPost_ret (eT (rs := [.tmp 2, .tmp 3, .tmp 4, .tmp 5]) rfl (by simp) (.tmp (.tmp (.tmp (.tmp .nil))))) rfl ?_;exact ⟨by first | rfl | (simp; done) | (simp [*]; done), by repeat (first | exact bC.refl _ | apply bC.step)⟩
         rw [if_neg c22] at H;have c22b0 : (a0 == 16) = false := beq_eq_false_iff_ne.mpr c22;have c22b1 : (a0 != 16) = true := bne_iff_ne.mpr c22;by_cases c23 : a0 = 17
         ·rw [if_pos c23] at H
          have c23b0 : (a0 == 17) = true := beq_iff_eq.mpr c23;have c23b1 : (a0 != 17) = false := bne_eq_false_iff_eq.mpr c23;clear c23;simp only [Option.some.injEq, Prod.mk.injEq] at H;obtain ⟨rfl, rfl, rfl, rfl⟩ := H;go_wp2;refine bodyPost_ret (eT (rs := [.tmp 2, .tmp 3, .tmp 4, .tmp 5]) rfl (by simp) (.tmp (.tmp (.tmp (.tmp .nil))))) rfl ?_;exact ⟨by first | rfl | (simp; done) | (simp [*]; done), by repeat (first | exact bC.refl _ | apply bC.step)⟩
         rw [if_neg c23] at H;have c23b0 : (a0 == 17) = false := beq_eq_false_iff_ne.mpr c23;have c23b1 : (a0 != 17) = true := bne_iff_ne.mpr c23;by_cases c24 : a0 = 18
         ·rw [if_pos c24] at H
          have c24b0 : (a0 == 18) = true := beq_iff_eq.mpr c24;have c24b1 : (a0 != 18) = false := bne_eq_false_iff_eq.mpr c24;clear c24;simp only [Option.some.injEq, Prod.mk.injEq] at H;obtain ⟨rfl, rfl, rfl, rfl⟩ := H;go_wp2;refine bodyPost_ret (eT (rs := [.tmp 2, .tmp 3, .tmp 4, .tmp 5]) rfl (by simp) (.tmp (.tmp (.tmp (.tmp .nil))))) rfl ?_;exact ⟨by first | rfl | (simp; done) | (simp [*]; done), by repeat (first | exact bC.refl _ | apply bC.step)⟩
         rw [if_neg c24] at H;have c24b0 : (a0 == 18) = false := beq_eq_false_iff_ne.mpr c24;have c24b1 : (a0 != 18) = true := bne_iff_ne.mpr c24;simp only [Option.some.injEq, Prod.mk.injEq] at H;obtain ⟨rfl, rfl, rfl, rfl⟩ := H;go_wp2;refine bodyPost_ret (eT (rs := [.tmp 2, .tmp 3, .tmp 4, .tmp 5]) rfl (by simp) (.tmp (.tmp (.tmp (.tmp .nil))))) rfl ?_;exact ⟨by first | rfl | (simp; done) | (simp [*]; done), by repeat (first | exact bC.refl _ | apply bC.step)⟩
theorem bO.calls (k : Nat) (a0 : Int) (a1 : Int) (r : Int) (w : World) (h : bO.f k a0 a1 = some r) :
  Calls Try.prog 60 #[.int .i64 a0, .int .i64 a1] w fun e w' => e = .returned (.int .i64 r) ∧ bC w w' := by
 have H : ((af.f k a0).bind fun bt264 => (if bt264.2.2.2 = true then (if a1 < bt264.1 then (some 9) else (if a1 > bt264.2.1 then (some 9) else (some 0))) else (some 3))) = some r := h;clear h;replace H := Option.bind_eq_some_iff.mp H;obtain ⟨⟨t264, t265, t266, t267⟩, A30, H⟩ := H;replace H : (if t267 = true then (if a1 < t264 then (some 9) else (if a1 > t265 then (some 9) else (some 0))) else (some 3)) = some r := H;have A3 := aa.mk A30;clear A30;by_cases c4 : t267 = true
 ·subst c4
  have H1 : (if a1 < t264 then (some 9) else (if a1 > t265 then (some 9) else (some 0))) = some r := by rw [if_pos rfl] at H; exact H
  clear H;have H := H1;clear H1;by_cases c5 : a1 < t264
  ·rw [if_pos c5] at H
   have c5b0 : decide (a1 < t264) = true := decide_eq_true c5;clear c5;obtain rfl := Option.some.inj H;go_enter Try.func60, Try.ntmps60;go_wp2_with (first | ((with_reducible refine aQ (f := 95) rfl ?_); refine bZ (some 11) rfl rfl Try.func95 (by kernel_rfl) rfl #[.int .i64 a0] rfl (by (try simp only [SB.lA, SB.lC, SB.lN]); first | done | rfl | (simp only [SB.lD, SB.lT]; rfl)) ?_; (with_reducible refine (af.calls k a0 t264 t265 t266 true _ A3.out).mono ?_); rintro e w' ⟨rfl, ⟨nd, rfl⟩⟩; refine ⟨_, rfl, ?_⟩));go_ret;exact ⟨by first | rfl | (simp; done) | (simp [*]; done), by repeat (first | exact bC.refl _ | apply bC.step)⟩
  ·rw [if_neg c5] at H
   have c5b0 : decide (a1 < t264) = false := decide_eq_false c5;clear c5;by_cases c6 : a1 > t265
   ·rw [if_pos c6] at H
    have c6b0 : decide (t265 < a1) = true := decide_eq_true c6;clear c6;obtain rfl := Option.some.inj H;go_enter Try.func60, Try.ntmps60;go_wp2_with (first | ((with_reducible refine aQ (f := 95) rfl ?_); refine bZ (some 11) rfl rfl Try.func95 (by kernel_rfl) rfl #[.int .i64 a0] rfl (by (try simp only [SB.lA, SB.lC, SB.lN]); first | done | rfl | (simp only [SB.lD, SB.lT]; rfl)) ?_; (with_reducible refine (af.calls k a0 t264 t265 t266 true _ A3.out).mono ?_); rintro e w' ⟨rfl, ⟨nd, rfl⟩⟩; refine ⟨_, rfl, ?_⟩));go_ret;exact ⟨by first | rfl | (simp; done) | (simp [*]; done), by repeat (first | exact bC.refl _ | apply bC.step)⟩
   ·rw [if_neg c6] at H
    have c6b0 : decide (t265 < a1) = false := decide_eq_false c6;clear c6;obtain rfl := Option.some.inj H;go_enter Try.func60, Try.ntmps60;go_wp2_with (first | ((with_reducible refine aQ (f := 95) rfl ?_); refine bZ (some 11) rfl rfl Try.func95 (by kernel_rfl) rfl #[.int .i64 a0] rfl (by (try simp only [SB.lA, SB.lC, SB.lN]); first | done | rfl | (simp only [SB.lD, SB.lT]; rfl)) ?_; (with_reducible refine (af.calls k a0 t264 t265 t266 true _ A3.out).mono ?_); rintro e w' ⟨rfl, ⟨nd, rfl⟩⟩; refine ⟨_, rfl, ?_⟩));go_ret;exact ⟨by first | rfl | (simp; done) | (simp [*]; done), by repeat (first | exact bC.refl _ | apply bC.step)⟩
 ·replace c4 := Bool.eq_false_iff.mpr c4
  subst c4;have H1 : (some 3) = some r := by rw [if_neg (show ¬ (false = true) by decide)] at H; exact H
  clear H;have H := H1;clear H1;obtain rfl := Option.some.inj H;go_enter Try.func60, Try.ntmps60;go_wp2_with (first | ((with_reducible refine aQ (f := 95) rfl ?_); refine bZ (some 11) rfl rfl Try.func95 (by kernel_rfl) rfl #[.int .i64 a0] rfl (by (try simp only [SB.lA, SB.lC, SB.lN]); first | done | rfl | (simp only [SB.lD, SB.lT]; rfl)) ?_; (with_reducible refine (af.calls k a0 t264 t265 t266 false _ A3.out).mono ?_); rintro e w' ⟨rfl, ⟨nd, rfl⟩⟩; refine ⟨_, rfl, ?_⟩));go_ret;exact ⟨by first | rfl | (simp; done) | (simp [*]; done), by repeat (first | exact bC.refl _ | apply bC.step)⟩
end Go.Proofs.Ytddnlnjmikcgfaa.PC
end
section
namespace Go.Proofs.Ytddnlnjmikcgfaa.PC
open Go.RowKit Go.WB.PrintWords Go.WB.PrintLast Go.WB.PrintMore
attribute [local go_sem] cB cZ dE dD bP bQ cO cK
set_option linter.unusedVariables false
set_option linter.unusedSimpArgs false
open Go.LB (sT sZ sS cells3 aK dQ aU)
open Go.SB (rpu rpf rtk rpu0 rpf0 rtk0 rbs rud pS)
set_option maxHeartbeats 40000000
set_option maxRecDepth 100000
def ai.T1 : Bool × List (List Nat × List Nat) := (true, [([], []), ([0], [0]), ([1], [1]), ([2], [2]), ([3, 2], [3]), ([4], [4]), ([5, 4], [4, 5]), ([6, 4, 4], [4, 6]), ([7, 4], [4, 7]), ([4, 8], [4, 8]), ([9, 7], [9]), ([10], [10]), ([11, 10], [10, 11]), ([12, 10], [10, 12]), ([10], [10]), ([14, 10], [10, 14]), ([15, 10], [10, 15]), ([13, 16, 10], [10, 13, 16]), ([10, 17], [10, 17]), ([18, 10], [18]), ([19], [19]), ([20, 19], [19, 20]), ([21, 19], [19, 21]), ([19, 22], [19, 22]), ([23, 19], [23]), ([24], [24]), ([25, 24], [24, 25]), ([26, 24], [24, 26]), ([24, 27], [24, 27]), ([28, 24], [28]), ([29], [29]), ([30, 29], [29, 30]), ([29], [29]), ([32, 29], [29, 32]), ([29], [29]), ([34, 29], [29, 34]), ([35, 29], [29, 35]), ([33, 36, 29], [29, 33, 36]), ([37, 29], [29, 37]), ([38, 29], [29, 38]), ([31, 39, 29], [29, 31, 39]), ([29, 40], [29, 40]), ([41, 29], [41]), ([42], [42]), ([43, 42], [42, 43]), ([44, 42, 42], [42, 44]), ([45, 42], [42, 45]), ([42, 46], [42, 46])])
def ai.B1 : List Nat := [0, 1, 3, 7, 15, 31, 63, 127, 255, 511, 1023, 2047, 4095, 8191, 2047, 18431, 51199, 131071, 262143, 524287, 1048575, 2097151, 4194303, 8388607, 16777215, 33554431, 67108863, 134217727, 268435455, 536870911, 1073741823, 2147483647, 1073741823, 5368709119, 1073741823, 18253611007, 52613349375, 134217727999, 271656681471, 546534588415, 1099511627775, 2199023255551, 4398046511103, 8796093022207, 17592186044415, 35184372088831, 70368744177663, 140737488355327]
theorem ai.tab1 : rtab .any (opsOf Try.f25 1) = ai.T1 := by kernel_rfl
theorem ai.bits1 : fQ ai.T1.2 ai.B1 = true := by kernel_rfl
def ai.T6 : Bool × List (List Nat × List Nat) := (true, [([], []), ([0], [0]), ([], []), ([2], [2]), ([0, 1], []), ([4, 1, 0, 1], [1, 4]), ([0, 1, 2, 3, 4, 5], []), ([6, 3, 5, 0, 1, 2, 3, 4, 5], [3, 6])])
def ai.B6 : List Nat := [0, 1, 0, 4, 3, 19, 63, 127]
theorem ai.tab6 : rtab .any (opsOf Try.f25 6) = ai.T6 := by kernel_rfl
theorem ai.bits6 : fQ ai.T6.2 ai.B6 = true := by kernel_rfl
def ai.T9 : Bool × List (List Nat × List Nat) := (true, [([], []), ([0], [0]), ([], []), ([2], [2]), ([0, 1], []), ([4, 1, 0, 1], [1, 4]), ([0, 1, 2, 3, 4, 5], []), ([6, 3, 5, 0, 1, 2, 3, 4, 5], [3, 6])])
def ai.B9 : List Nat := [0, 1, 0, 4, 3, 19, 63, 127]
theorem ai.tab9 : rtab .any (opsOf Try.f25 9) = ai.T9 := by kernel_rfl
theorem ai.bits9 : fQ ai.T9.2 ai.B9 = true := by kernel_rfl
theorem ai.calls (k : Nat) (a0_0 : Int) (a0_1 : Int) (a0_2 : Int) (A0_3 : Option Addr) (c0_3 : Nat) (l0_3 : List Int) (a0_4 : Int) (a0_5 : Int) (a0_6 : Int) (a0_7 : Int) (a0_8 : Int) (a0_9 : ByteArray) (a0_10 : Int) (a0_11 : Int) (r : Bool) (w : World) (hr0_3 : Kd.C (Kd.int .i64) w A0_3 l0_3.length l0_3) (hc0_3 : l0_3.length ≤ c0_3) (h : ai.f k a0_0 a0_1 a0_2 l0_3 a0_4 a0_5 a0_6 a0_7 a0_8 a0_9 a0_10 a0_11 = some r) :
  Calls Try.prog 25 #[.agg #[.int .i64 a0_0, .int .i64 a0_1, .int .i64 a0_2, .slice A0_3 l0_3.length c0_3, .int .i64 a0_4, .int .i64 a0_5, .int .i64 a0_6, .int .i64 a0_7, .int .i64 a0_8, .string a0_9, .int .i64 a0_10, .int .i64 a0_11]] w fun e w' => e = .returned (.bool r) ∧ Below w.heap.size w w' := by
 have hu28 := Try.underlying28;have hu25 := Try.underlying25;have HR0_3 := aa.mk hr0_3;have HC0_3 := aa.mk hc0_3;clear hr0_3 hc0_3;have HB := aa.mk (Below.refl w.heap.size w);have H : ((cu.f a0_0 a0_1).bind fun t269 => (if t269 = true then ((aM.f k l0_3).bind fun t270 => (if t270 = true then (if (l0_3.length : Int) ≤ a0_1 then (ai.j0 k true a0_0 a0_1 a0_2 l0_3 a0_4 a0_5 a0_6 a0_7 a0_8 a0_9 a0_10 a0_11) else (if a0_2 < 1 then (ai.j0 k true a0_0 a0_1 a0_2 l0_3 a0_4 a0_5 a0_6 a0_7 a0_8 a0_9 a0_10 a0_11) else (if a0_2 > 1099511627776 then (ai.j0 k true a0_0 a0_1 a0_2 l0_3 a0_4 a0_5 a0_6 a0_7 a0_8 a0_9 a0_10 a0_11) else (if 0 ≤ a0_1 then (if a0_1 < (l0_3.length : Int) then (if a0_2 = (wrap64 ((rd l0_3 a0_1) + 1)) then ((cu.f a0_5 a0_6).bind fun t272 => (ai.j0 k (!t272) a0_0 a0_1 a0_2 l0_3 a0_4 a0_5 a0_6 a0_7 a0_8 a0_9 a0_10 a0_11)) else (ai.j0 k true a0_0 a0_1 a0_2 l0_3 a0_4 a0_5 a0_6 a0_7 a0_8 a0_9 a0_10 a0_11)) else (none)) else (none))))) else (ai.j0 k true a0_0 a0_1 a0_2 l0_3 a0_4 a0_5 a0_6 a0_7 a0_8 a0_9 a0_10 a0_11))) else (ai.j0 k true a0_0 a0_1 a0_2 l0_3 a0_4 a0_5 a0_6 a0_7 a0_8 a0_9 a0_10 a0_11))) = some r := h;clear h;have HC2 := aa.mk H;clear H;go_enter Try.func25, Try.ntmps25;go_upto_region 1 with (first | ((with_reducible refine bJ (N := 1) rfl ?_); (try (refine fH (by rfl) ?_; dsimp only)); refine bD ?hg (N := 1) ?hd (cs := #[.int .i64 a0_0, .int .i64 a0_1, .int .i64 a0_2, .slice A0_3 l0_3.length c0_3, .int .i64 a0_4, .int .i64 a0_5, .int .i64 a0_6, .int .i64 a0_7, .int .i64 a0_8, .string a0_9, .int .i64 a0_10, .int .i64 a0_11]) (t := 28) ?hr ?_; (case hd => rfl); (case hg => rfl); (case hr => first | (go_simp; done) | (go_simp; rfl)); intro gb268 hg w3 hbox hb; replace hb : Below (World.heap w).size w w3 := ⟨hb.os, hb.tape, hb.output, hb.size, hb.block⟩; have n0_ := aa.mk (aj HB.out hb); have n1_ := aa.mk (hbox); have n2_ := aa.mk ((by rw [hg]; exact HB.out.size : w.heap.size ≤ gb268)); have n3_ := n2_; clear HB; have HB := n0_; have BK268 := n1_; have GW268 := n2_; have GE268 := n3_; clear n0_ n1_ n2_ n3_ hb hbox hg));(try simp only [pS]);go_cut [51] (fun v51 wc => ∃ (kq : Nat) (x51_1 : Bool), v51 = .bool x51_1 ∧ aa (ai.j0 kq x51_1 a0_0 a0_1 a0_2 l0_3 a0_4 a0_5 a0_6 a0_7 a0_8 a0_9 a0_10 a0_11 = some r) ∧ aa (kq ≤ k) ∧ aa (wc.heap[gb268]? = some (.cells #[.int .i64 a0_0, .int .i64 a0_1, .int .i64 a0_2, (.slice A0_3 l0_3.length c0_3), .int .i64 a0_4, .int .i64 a0_5, .int .i64 a0_6, .int .i64 a0_7, .int .i64 a0_8, .string a0_9, .int .i64 a0_10, .int .i64 a0_11] 28 (0, 0))) ∧ aa (Below w.heap.size w wc))
 case first =>
  have H := HC2.out;clear HC2;replace H := Option.bind_eq_some_iff.mp H;obtain ⟨t269, A40, H⟩ := H;(try dsimp only at H);have A4 := aa.mk A40;clear A40;by_cases c5 : t269 = true;rotate_left
  ·replace c5 := Bool.eq_false_iff.mpr c5
   subst c5;have H1 : (ai.j0 k true a0_0 a0_1 a0_2 l0_3 a0_4 a0_5 a0_6 a0_7 a0_8 a0_9 a0_10 a0_11) = some r := by rw [if_neg (show ¬ (false = true) by decide)] at H; exact H
   clear H;have H := H1;clear H1;have H' := aa.mk H;clear H;try go_wp2
   have n0_ := aa.mk (av BK268.out);have n1_ := aa.mk (aJ HB.out);clear BK268 HB;have BK268 := n0_;have HB := n1_;clear n0_ n1_;refine eD (n := 48) (S := fun w' => w'.cell? ⟨gb268, 0, none⟩ = some (.int .i64 a0_0) ∧ w'.cell? ⟨gb268, 1, none⟩ = some (.int .i64 a0_1) ∧ w'.cell? ⟨gb268, 2, none⟩ = some (.int .i64 a0_2) ∧ w'.cell? ⟨gb268, 3, none⟩ = some (.slice A0_3 l0_3.length c0_3) ∧ w'.cell? ⟨gb268, 4, none⟩ = some (.int .i64 a0_4) ∧ w'.cell? ⟨gb268, 5, none⟩ = some (.int .i64 a0_5) ∧ w'.cell? ⟨gb268, 6, none⟩ = some (.int .i64 a0_6) ∧ w'.cell? ⟨gb268, 7, none⟩ = some (.int .i64 a0_7) ∧ w'.cell? ⟨gb268, 8, none⟩ = some (.int .i64 a0_8) ∧ w'.cell? ⟨gb268, 9, none⟩ = some (.string a0_9) ∧ w'.cell? ⟨gb268, 10, none⟩ = some (.int .i64 a0_10) ∧ w'.cell? ⟨gb268, 11, none⟩ = some (.int .i64 a0_11)) (ds := []) (rbs 48 0) (by kernel_rfl) rfl rfl (LB.aK BK268.out) (fun hHeld => ?_); refine dx ai.tab1 ai.bits1 (fun HT_ HW_ => ?_);generalize w3.drew = w28 at BK268 HB hHeld ⊢;apply rpu 0 (some 4) HT_ (rbs 48 1) rfl rfl (by kernel_rfl) (fun _ _ _ h => h) (by rfl)
   ·intro w';go_simp;with_reducible rfl
   ·simp only [pS];rfl
   apply rtk 1 (some 5) HT_ HW_ hHeld (rbs 48 3) rfl rfl (by kernel_rfl) (fun _ _ _ h => h) (by rfl)
   ·rintro w' ⟨s0, s1, s2, s3, s4, s5, s6, s7, s8, s9, s10, s11⟩;go_simp;with_reducible rfl
   ·simp only [pS];rfl
   refine gy (i := 2) (N := some 6) (rbs 48 7) rfl rfl (di HT_.out (by kernel_rfl)) (by decide) (fun K hK => ?_);refine dY Try.func56 (by kernel_rfl) rfl #[.agg #[.int .i64 a0_0, .int .i64 a0_1]] (by rfl) rfl rfl (by (try simp only [SB.lA, SB.lC, SB.lN]); first | done | rfl | (simp only [SB.lD, SB.lT]; rfl)) ?_;with_reducible refine (cu.calls a0_0 a0_1 false _ A4.out).mono ?_
   rintro e w29 ⟨rfl, hb⟩;refine ⟨_, rfl, ?_⟩;replace hb : Below (World.heap w28).size w28 w29 := ⟨hb.os, hb.tape, hb.output, hb.size, hb.block⟩
   have n0_ := aa.mk (aZ BK268.out hb);have n1_ := aa.mk (aj HB.out hb);clear BK268 HB;have BK268 := n0_;have HB := n1_;clear n0_ n1_;(try clear hb hb2 hk hi);refine hK.out _ _ (LB.aK BK268.out) (fun hHeld => ?_);clear hK K;refine dV (a' := ?_) ?_ ?_;rotate_left
   ·show Act.put _ (some 6) _ = _
    simp only [pS];rfl
   apply rpu 3 (some 7) HT_ (rbs 48 15) rfl rfl (by kernel_rfl) (fun _ _ _ h => h) (by rfl)
   ·intro w';go_simp;with_reducible rfl
   ·simp only [pS];rfl
   apply rpu 4 (some 8) HT_ (rbs 48 31) rfl rfl (by kernel_rfl) (fun _ _ _ h => h) (by rfl)
   ·intro w';go_simp;with_reducible rfl
   ·simp only [pS];rfl
   apply rpf 5 (some 9) HT_ (rbs 48 63) rfl rfl (by kernel_rfl) (fun _ _ _ h => h) (by rfl)
   ·simp only [pS];rfl
   apply rpf 6 (some 10) HT_ (rbs 48 127) rfl rfl (by kernel_rfl) (fun _ _ _ h => h) (by rfl)
   ·simp only [pS];rfl
   apply rpf 7 (some 11) HT_ (rbs 48 255) rfl rfl (by kernel_rfl) (fun _ _ _ h => h) (by rfl)
   ·simp only [pS];rfl
   apply rpf 8 (some 12) HT_ (rbs 48 511) rfl rfl (by kernel_rfl) (fun _ _ _ h => h) (by rfl)
   ·simp only [pS];rfl
   apply rpu 9 (some 13) HT_ (rbs 48 1023) rfl rfl (by kernel_rfl) (fun _ _ _ h => h) (by rfl)
   ·intro w';go_simp;with_reducible rfl
   ·simp only [pS];rfl
   apply rpu 10 (some 14) HT_ (rbs 48 2047) rfl rfl (by kernel_rfl) (fun _ _ _ h => h) (by rfl)
   ·intro w';go_simp;with_reducible rfl
   ·simp only [pS];rfl
   apply rpf 11 (some 15) HT_ (rbs 48 4095) rfl rfl (by kernel_rfl) (fun _ _ _ h => h) (by rfl)
   ·simp only [pS];rfl
   apply rpf 12 (some 16) HT_ (rbs 48 8191) rfl rfl (by kernel_rfl) (fun _ _ _ h => h) (by rfl)
   ·simp only [pS];rfl
   apply rpf 13 (some 17) HT_ (rbs 48 16383) rfl rfl (by kernel_rfl) (fun _ _ _ h => h) (by rfl)
   ·simp only [pS];rfl
   apply rpf 14 (some 18) HT_ (rbs 48 32767) rfl rfl (by kernel_rfl) (fun _ _ _ h => h) (by rfl)
   ·simp only [pS];rfl
   apply rpf 15 (some 19) HT_ (rbs 48 65535) rfl rfl (by kernel_rfl) (fun _ _ _ h => h) (by rfl)
   ·simp only [pS];rfl
   apply rpf 16 (some 20) HT_ (rbs 48 131071) rfl rfl (by kernel_rfl) (fun _ _ _ h => h) (by rfl)
   ·simp only [pS];rfl
   apply rpf 17 (some 21) HT_ (rbs 48 262143) rfl rfl (by kernel_rfl) (fun _ _ _ h => h) (by rfl)
   ·simp only [pS];rfl
   apply rpu 18 (some 22) HT_ (rbs 48 524287) rfl rfl (by kernel_rfl) (fun _ _ _ h => h) (by rfl)
   ·intro w';go_simp;with_reducible rfl
   ·simp only [pS];rfl
   apply rpu 19 (some 23) HT_ (rbs 48 1048575) rfl rfl (by kernel_rfl) (fun _ _ _ h => h) (by rfl)
   ·intro w';go_simp;with_reducible rfl
   ·simp only [pS];rfl
   apply rpf 20 (some 24) HT_ (rbs 48 2097151) rfl rfl (by kernel_rfl) (fun _ _ _ h => h) (by rfl)
   ·simp only [pS];rfl
   apply rpf 21 (some 25) HT_ (rbs 48 4194303) rfl rfl (by kernel_rfl) (fun _ _ _ h => h) (by rfl)
   ·simp only [pS];rfl
   apply rpf 22 (some 26) HT_ (rbs 48 8388607) rfl rfl (by kernel_rfl) (fun _ _ _ h => h) (by rfl)
   ·simp only [pS];rfl
   apply rpu 23 (some 27) HT_ (rbs 48 16777215) rfl rfl (by kernel_rfl) (fun _ _ _ h => h) (by rfl)
   ·intro w';go_simp;with_reducible rfl
   ·simp only [pS];rfl
   apply rpu 24 (some 28) HT_ (rbs 48 33554431) rfl rfl (by kernel_rfl) (fun _ _ _ h => h) (by rfl)
   ·intro w';go_simp;with_reducible rfl
   ·simp only [pS];rfl
   apply rpf 25 (some 29) HT_ (rbs 48 67108863) rfl rfl (by kernel_rfl) (fun _ _ _ h => h) (by rfl)
   ·simp only [pS];rfl
   apply rpf 26 (some 30) HT_ (rbs 48 134217727) rfl rfl (by kernel_rfl) (fun _ _ _ h => h) (by rfl)
   ·simp only [pS];rfl
   apply rpf 27 (some 31) HT_ (rbs 48 268435455) rfl rfl (by kernel_rfl) (fun _ _ _ h => h) (by rfl)
   ·simp only [pS];rfl
   apply rpu 28 (some 32) HT_ (rbs 48 536870911) rfl rfl (by kernel_rfl) (fun _ _ _ h => h) (by rfl)
   ·intro w';go_simp;with_reducible rfl
   ·simp only [pS];rfl
   apply rpu 29 (some 33) HT_ (rbs 48 1073741823) rfl rfl (by kernel_rfl) (fun _ _ _ h => h) (by rfl)
   ·intro w';go_simp;with_reducible rfl
   ·simp only [pS];rfl
   apply rpf 30 (some 34) HT_ (rbs 48 2147483647) rfl rfl (by kernel_rfl) (fun _ _ _ h => h) (by rfl)
   ·simp only [pS];rfl
   apply rpf 31 (some 35) HT_ (rbs 48 4294967295) rfl rfl (by kernel_rfl) (fun _ _ _ h => h) (by rfl)
   ·simp only [pS];rfl
   apply rpf 32 (some 36) HT_ (rbs 48 8589934591) rfl rfl (by kernel_rfl) (fun _ _ _ h => h) (by rfl)
   ·simp only [pS];rfl
   apply rpf 33 (some 37) HT_ (rbs 48 17179869183) rfl rfl (by kernel_rfl) (fun _ _ _ h => h) (by rfl)
   ·simp only [pS];rfl
   apply rpf 34 (some 38) HT_ (rbs 48 34359738367) rfl rfl (by kernel_rfl) (fun _ _ _ h => h) (by rfl)
   ·simp only [pS];rfl
   apply rpf 35 (some 39) HT_ (rbs 48 68719476735) rfl rfl (by kernel_rfl) (fun _ _ _ h => h) (by rfl)
   ·simp only [pS];rfl
   apply rpf 36 (some 40) HT_ (rbs 48 137438953471) rfl rfl (by kernel_rfl) (fun _ _ _ h => h) (by rfl)
   ·simp only [pS];rfl
   apply rpf 37 (some 41) HT_ (rbs 48 274877906943) rfl rfl (by kernel_rfl) (fun _ _ _ h => h) (by rfl)
   ·simp only [pS];rfl
   apply rpf 38 (some 42) HT_ (rbs 48 549755813887) rfl rfl (by kernel_rfl) (fun _ _ _ h => h) (by rfl)
   ·simp only [pS];rfl
   apply rpf 39 (some 43) HT_ (rbs 48 1099511627775) rfl rfl (by kernel_rfl) (fun _ _ _ h => h) (by rfl)
   ·simp only [pS];rfl
   apply rpf 40 (some 44) HT_ (rbs 48 2199023255551) rfl rfl (by kernel_rfl) (fun _ _ _ h => h) (by rfl)
   ·simp only [pS];rfl
   apply rpu 41 (some 45) HT_ (rbs 48 4398046511103) rfl rfl (by kernel_rfl) (fun _ _ _ h => h) (by rfl)
   ·intro w';go_simp;with_reducible rfl
   ·simp only [pS];rfl
   apply rpu 42 (some 46) HT_ (rbs 48 8796093022207) rfl rfl (by kernel_rfl) (fun _ _ _ h => h) (by rfl)
   ·intro w';go_simp;with_reducible rfl
   ·simp only [pS];rfl
   apply rpf 43 (some 47) HT_ (rbs 48 17592186044415) rfl rfl (by kernel_rfl) (fun _ _ _ h => h) (by rfl)
   ·simp only [pS];rfl
   apply rpf 44 (some 48) HT_ (rbs 48 35184372088831) rfl rfl (by kernel_rfl) (fun _ _ _ h => h) (by rfl)
   ·simp only [pS];rfl
   apply rpf 45 (some 49) HT_ (rbs 48 70368744177663) rfl rfl (by kernel_rfl) (fun _ _ _ h => h) (by rfl)
   ·simp only [pS];rfl
   apply rpf 46 (some 50) HT_ (rbs 48 140737488355327) rfl rfl (by kernel_rfl) (fun _ _ _ h => h) (by rfl)
   ·simp only [pS];rfl
   apply rpu 47 (some 51) HT_ (rbs 48 281474976710655) rfl rfl (by kernel_rfl) (fun _ _ _ h => h) (by rfl)
   ·intro w';go_simp;with_reducible rfl
   ·simp only [pS];rfl
   refine gz (dS HT_.out (by kernel_rfl)) ?_;try go_wp2
   go_meet
   case rel => exact ⟨_, (true), (by first | rfl | (simp; done) | (simp [*]; done)), H', ⟨by first | omega | exact Nat.le_refl _⟩, ⟨by exact BK268.out⟩, ⟨by exact rud HB.out rfl rfl rfl rfl⟩⟩
  subst c5;have H1 : ((aM.f k l0_3).bind fun t270 => (if t270 = true then (if (l0_3.length : Int) ≤ a0_1 then (ai.j0 k true a0_0 a0_1 a0_2 l0_3 a0_4 a0_5 a0_6 a0_7 a0_8 a0_9 a0_10 a0_11) else (if a0_2 < 1 then (ai.j0 k true a0_0 a0_1 a0_2 l0_3 a0_4 a0_5 a0_6 a0_7 a0_8 a0_9 a0_10 a0_11) else (if a0_2 > 1099511627776 then (ai.j0 k true a0_0 a0_1 a0_2 l0_3 a0_4 a0_5 a0_6 a0_7 a0_8 a0_9 a0_10 a0_11) else (if 0 ≤ a0_1 then (if a0_1 < (l0_3.length : Int) then (if a0_2 = (wrap64 ((rd l0_3 a0_1) + 1)) then ((cu.f a0_5 a0_6).bind fun t272 => (ai.j0 k (!t272) a0_0 a0_1 a0_2 l0_3 a0_4 a0_5 a0_6 a0_7 a0_8 a0_9 a0_10 a0_11)) else (ai.j0 k true a0_0 a0_1 a0_2 l0_3 a0_4 a0_5 a0_6 a0_7 a0_8 a0_9 a0_10 a0_11)) else (none)) else (none))))) else (ai.j0 k true a0_0 a0_1 a0_2 l0_3 a0_4 a0_5 a0_6 a0_7 a0_8 a0_9 a0_10 a0_11))) = some r := by rw [if_pos rfl] at H; exact H
  clear H;have H := H1;clear H1;replace H := Option.bind_eq_some_iff.mp H;obtain ⟨t270, A60, H⟩ := H;(try dsimp only at H);have A6 := aa.mk A60;clear A60;by_cases c7 : t270 = true;rotate_left
  ·replace c7 := Bool.eq_false_iff.mpr c7
   subst c7;have H1 : (ai.j0 k true a0_0 a0_1 a0_2 l0_3 a0_4 a0_5 a0_6 a0_7 a0_8 a0_9 a0_10 a0_11) = some r := by rw [if_neg (show ¬ (false = true) by decide)] at H; exact H
   clear H;have H := H1;clear H1;have H' := aa.mk H;clear H;try go_wp2
   have n0_ := aa.mk (av BK268.out);have n1_ := aa.mk (aJ HB.out);clear BK268 HB;have BK268 := n0_;have HB := n1_;clear n0_ n1_;refine eD (n := 48) (S := fun w' => w'.cell? ⟨gb268, 0, none⟩ = some (.int .i64 a0_0) ∧ w'.cell? ⟨gb268, 1, none⟩ = some (.int .i64 a0_1) ∧ w'.cell? ⟨gb268, 2, none⟩ = some (.int .i64 a0_2) ∧ w'.cell? ⟨gb268, 3, none⟩ = some (.slice A0_3 l0_3.length c0_3) ∧ w'.cell? ⟨gb268, 4, none⟩ = some (.int .i64 a0_4) ∧ w'.cell? ⟨gb268, 5, none⟩ = some (.int .i64 a0_5) ∧ w'.cell? ⟨gb268, 6, none⟩ = some (.int .i64 a0_6) ∧ w'.cell? ⟨gb268, 7, none⟩ = some (.int .i64 a0_7) ∧ w'.cell? ⟨gb268, 8, none⟩ = some (.int .i64 a0_8) ∧ w'.cell? ⟨gb268, 9, none⟩ = some (.string a0_9) ∧ w'.cell? ⟨gb268, 10, none⟩ = some (.int .i64 a0_10) ∧ w'.cell? ⟨gb268, 11, none⟩ = some (.int .i64 a0_11)) (ds := []) (rbs 48 0) (by kernel_rfl) rfl rfl (LB.aK BK268.out) (fun hHeld => ?_); refine dx ai.tab1 ai.bits1 (fun HT_ HW_ => ?_);generalize w3.drew = w26 at BK268 HB hHeld ⊢;apply rpu 0 (some 4) HT_ (rbs 48 1) rfl rfl (by kernel_rfl) (fun _ _ _ h => h) (by rfl)
   ·intro w';go_simp;with_reducible rfl
   ·simp only [pS];rfl
   apply rtk 1 (some 5) HT_ HW_ hHeld (rbs 48 3) rfl rfl (by kernel_rfl) (fun _ _ _ h => h) (by rfl)
   ·rintro w' ⟨s0, s1, s2, s3, s4, s5, s6, s7, s8, s9, s10, s11⟩;go_simp;with_reducible rfl
   ·simp only [pS];rfl
   refine gy (i := 2) (N := some 6) (rbs 48 7) rfl rfl (di HT_.out (by kernel_rfl)) (by decide) (fun K hK => ?_);refine dY Try.func56 (by kernel_rfl) rfl #[.agg #[.int .i64 a0_0, .int .i64 a0_1]] (by rfl) rfl rfl (by (try simp only [SB.lA, SB.lC, SB.lN]); first | done | rfl | (simp only [SB.lD, SB.lT]; rfl)) ?_;with_reducible refine (cu.calls a0_0 a0_1 true _ A4.out).mono ?_
   rintro e w27 ⟨rfl, hb⟩;refine ⟨_, rfl, ?_⟩;replace hb : Below (World.heap w26).size w26 w27 := ⟨hb.os, hb.tape, hb.output, hb.size, hb.block⟩
   have n0_ := aa.mk (aZ BK268.out hb);have n1_ := aa.mk (aj HB.out hb);clear BK268 HB;have BK268 := n0_;have HB := n1_;clear n0_ n1_;(try clear hb hb2 hk hi);refine hK.out _ _ (LB.aK BK268.out) (fun hHeld => ?_);clear hK K;refine dV (a' := ?_) ?_ ?_;rotate_left
   ·show Act.put _ (some 6) _ = _
    simp only [pS];rfl
   apply rpu 3 (some 7) HT_ (rbs 48 15) rfl rfl (by kernel_rfl) (fun _ _ _ h => h) (by rfl)
   ·intro w';go_simp;with_reducible rfl
   ·simp only [pS];rfl
   apply rpu 4 (some 8) HT_ (rbs 48 31) rfl rfl (by kernel_rfl) (fun _ _ _ h => h) (by rfl)
   ·intro w';go_simp;with_reducible rfl
   ·simp only [pS];rfl
   apply rpu 5 (some 9) HT_ (rbs 48 63) rfl rfl (by kernel_rfl) (fun _ _ _ h => h) (by rfl)
   ·intro w';go_simp;with_reducible rfl
   ·simp only [pS];rfl
   apply rtk 6 (some 10) HT_ HW_ hHeld (rbs 48 127) rfl rfl (by kernel_rfl) (fun _ _ _ h => h) (by rfl)
   ·rintro w' ⟨s0, s1, s2, s3, s4, s5, s6, s7, s8, s9, s10, s11⟩;go_simp;with_reducible rfl
   ·simp only [pS];rfl
   refine gy (i := 7) (N := some 11) (rbs 48 255) rfl rfl (di HT_.out (by kernel_rfl)) (by decide) (fun K hK => ?_);refine dY Try.func57 (by kernel_rfl) rfl #[.slice A0_3 l0_3.length c0_3] (by rfl) rfl rfl (by (try simp only [SB.lA, SB.lC, SB.lN]); first | done | rfl | (simp only [SB.lD, SB.lT]; rfl)) ?_;with_reducible refine (aM.calls k _ _ l0_3 false _ ?side1 ?side2 A6.out).mono ?_
   (case side1 => repeat (first | exact (Kd.dh HR0_3.out HB.out) | with_reducible first | refine Kd.bN ?_ _ | refine Kd.bM ?_ _ | refine Kd.dm ?_));(case side2 => exact HC0_3.out);rintro e w' ⟨rfl, ⟨nd, rfl⟩⟩;refine ⟨_, rfl, ?_⟩;refine hK.out _ _ (LB.aK BK268.out) (fun hHeld => ?_);clear hK K;refine dV (a' := ?_) ?_ ?_;rotate_left
   ·show Act.put _ (some 11) _ = _
    simp only [pS];rfl
   apply rpu 8 (some 12) HT_ (rbs 48 511) rfl rfl (by kernel_rfl) (fun _ _ _ h => h) (by rfl)
   ·intro w';go_simp;with_reducible rfl
   ·simp only [pS];rfl
   apply rpu 9 (some 13) HT_ (rbs 48 1023) rfl rfl (by kernel_rfl) (fun _ _ _ h => h) (by rfl)
   ·intro w';go_simp;with_reducible rfl
   ·simp only [pS];rfl
   apply rpu 10 (some 14) HT_ (rbs 48 2047) rfl rfl (by kernel_rfl) (fun _ _ _ h => h) (by rfl)
   ·intro w';go_simp;with_reducible rfl
   ·simp only [pS];rfl
   apply rpf 11 (some 15) HT_ (rbs 48 4095) rfl rfl (by kernel_rfl) (fun _ _ _ h => h) (by rfl)
   ·simp only [pS];rfl
   apply rpf 12 (some 16) HT_ (rbs 48 8191) rfl rfl (by kernel_rfl) (fun _ _ _ h => h) (by rfl)
   ·simp only [pS];rfl
   apply rpf 13 (some 17) HT_ (rbs 48 16383) rfl rfl (by kernel_rfl) (fun _ _ _ h => h) (by rfl)
   ·simp only [pS];rfl
   apply rpf 14 (some 18) HT_ (rbs 48 32767) rfl rfl (by kernel_rfl) (fun _ _ _ h => h) (by rfl)
   ·simp only [pS];rfl
   apply rpf 15 (some 19) HT_ (rbs 48 65535) rfl rfl (by kernel_rfl) (fun _ _ _ h => h) (by rfl)
   ·simp only [pS];rfl
   apply rpf 16 (some 20) HT_ (rbs 48 131071) rfl rfl (by kernel_rfl) (fun _ _ _ h => h) (by rfl)
   ·simp only [pS];rfl
   apply rpf 17 (some 21) HT_ (rbs 48 262143) rfl rfl (by kernel_rfl) (fun _ _ _ h => h) (by rfl)
   ·simp only [pS];rfl
   apply rpu 18 (some 22) HT_ (rbs 48 524287) rfl rfl (by kernel_rfl) (fun _ _ _ h => h) (by rfl)
   ·intro w';go_simp;with_reducible rfl
   ·simp only [pS];rfl
   apply rpu 19 (some 23) HT_ (rbs 48 1048575) rfl rfl (by kernel_rfl) (fun _ _ _ h => h) (by rfl)
   ·intro w';go_simp;with_reducible rfl
   ·simp only [pS];rfl
   apply rpf 20 (some 24) HT_ (rbs 48 2097151) rfl rfl (by kernel_rfl) (fun _ _ _ h => h) (by rfl)
   ·simp only [pS];rfl
   apply rpf 21 (some 25) HT_ (rbs 48 4194303) rfl rfl (by kernel_rfl) (fun _ _ _ h => h) (by rfl)
   ·simp only [pS];rfl
   apply rpf 22 (some 26) HT_ (rbs 48 8388607) rfl rfl (by kernel_rfl) (fun _ _ _ h => h) (by rfl)
   ·simp only [pS];rfl
   apply rpu 23 (some 27) HT_ (rbs 48 16777215) rfl rfl (by kernel_rfl) (fun _ _ _ h => h) (by rfl)
   ·intro w';go_simp;with_reducible rfl
   ·simp only [pS];rfl
   apply rpu 24 (some 28) HT_ (rbs 48 33554431) rfl rfl (by kernel_rfl) (fun _ _ _ h => h) (by rfl)
   ·intro w';go_simp;with_reducible rfl
   ·simp only [pS];rfl
   apply rpf 25 (some 29) HT_ (rbs 48 67108863) rfl rfl (by kernel_rfl) (fun _ _ _ h => h) (by rfl)
   ·simp only [pS];rfl
   apply rpf 26 (some 30) HT_ (rbs 48 134217727) rfl rfl (by kernel_rfl) (fun _ _ _ h => h) (by rfl)
   ·simp only [pS];rfl
   apply rpf 27 (some 31) HT_ (rbs 48 268435455) rfl rfl (by kernel_rfl) (fun _ _ _ h => h) (by rfl)
   ·simp only [pS];rfl
   apply rpu 28 (some 32) HT_ (rbs 48 536870911) rfl rfl (by kernel_rfl) (fun _ _ _ h => h) (by rfl)
   ·intro w';go_simp;with_reducible rfl
   ·simp only [pS];rfl
   apply rpu 29 (some 33) HT_ (rbs 48 1073741823) rfl rfl (by kernel_rfl) (fun _ _ _ h => h) (by rfl)
   ·intro w';go_simp;with_reducible rfl
   ·simp only [pS];rfl
   apply rpf 30 (some 34) HT_ (rbs 48 2147483647) rfl rfl (by kernel_rfl) (fun _ _ _ h => h) (by rfl)
   ·simp only [pS];rfl
   apply rpf 31 (some 35) HT_ (rbs 48 4294967295) rfl rfl (by kernel_rfl) (fun _ _ _ h => h) (by rfl)
   ·simp only [pS];rfl
   apply rpf 32 (some 36) HT_ (rbs 48 8589934591) rfl rfl (by kernel_rfl) (fun _ _ _ h => h) (by rfl)
   ·simp only [pS];rfl
   apply rpf 33 (some 37) HT_ (rbs 48 17179869183) rfl rfl (by kernel_rfl) (fun _ _ _ h => h) (by rfl)
   ·simp only [pS];rfl
   apply rpf 34 (some 38) HT_ (rbs 48 34359738367) rfl rfl (by kernel_rfl) (fun _ _ _ h => h) (by rfl)
   ·simp only [pS];rfl
   apply rpf 35 (some 39) HT_ (rbs 48 68719476735) rfl rfl (by kernel_rfl) (fun _ _ _ h => h) (by rfl)
   ·simp only [pS];rfl
   apply rpf 36 (some 40) HT_ (rbs 48 137438953471) rfl rfl (by kernel_rfl) (fun _ _ _ h => h) (by rfl)
   ·simp only [pS];rfl
   apply rpf 37 (some 41) HT_ (rbs 48 274877906943) rfl rfl (by kernel_rfl) (fun _ _ _ h => h) (by rfl)
   ·simp only [pS];rfl
   apply rpf 38 (some 42) HT_ (rbs 48 549755813887) rfl rfl (by kernel_rfl) (fun _ _ _ h => h) (by rfl)
   ·simp only [pS];rfl
   apply rpf 39 (some 43) HT_ (rbs 48 1099511627775) rfl rfl (by kernel_rfl) (fun _ _ _ h => h) (by rfl)
   ·simp only [pS];rfl
   apply rpf 40 (some 44) HT_ (rbs 48 2199023255551) rfl rfl (by kernel_rfl) (fun _ _ _ h => h) (by rfl)
   ·simp only [pS];rfl
   apply rpu 41 (some 45) HT_ (rbs 48 4398046511103) rfl rfl (by kernel_rfl) (fun _ _ _ h => h) (by rfl)
   ·intro w';go_simp;with_reducible rfl
   ·simp only [pS];rfl
   apply rpu 42 (some 46) HT_ (rbs 48 8796093022207) rfl rfl (by kernel_rfl) (fun _ _ _ h => h) (by rfl)
   ·intro w';go_simp;with_reducible rfl
   ·simp only [pS];rfl
   apply rpf 43 (some 47) HT_ (rbs 48 17592186044415) rfl rfl (by kernel_rfl) (fun _ _ _ h => h) (by rfl)
   ·simp only [pS];rfl
   apply rpf 44 (some 48) HT_ (rbs 48 35184372088831) rfl rfl (by kernel_rfl) (fun _ _ _ h => h) (by rfl)
   ·simp only [pS];rfl
   apply rpf 45 (some 49) HT_ (rbs 48 70368744177663) rfl rfl (by kernel_rfl) (fun _ _ _ h => h) (by rfl)
   ·simp only [pS];rfl
   apply rpf 46 (some 50) HT_ (rbs 48 140737488355327) rfl rfl (by kernel_rfl) (fun _ _ _ h => h) (by rfl)
   ·simp only [pS];rfl
   apply rpu 47 (some 51) HT_ (rbs 48 281474976710655) rfl rfl (by kernel_rfl) (fun _ _ _ h => h) (by rfl)
   ·intro w';go_simp;with_reducible rfl
   ·simp only [pS];rfl
   refine gz (dS HT_.out (by kernel_rfl)) ?_;try go_wp2
   go_meet
   case rel => exact ⟨_, (true), (by first | rfl | (simp; done) | (simp [*]; done)), H', ⟨by first | omega | exact Nat.le_refl _⟩, ⟨by exact BK268.out⟩, ⟨by exact rud HB.out rfl rfl rfl rfl⟩⟩
  subst c7;have H1 : (if (l0_3.length : Int) ≤ a0_1 then (ai.j0 k true a0_0 a0_1 a0_2 l0_3 a0_4 a0_5 a0_6 a0_7 a0_8 a0_9 a0_10 a0_11) else (if a0_2 < 1 then (ai.j0 k true a0_0 a0_1 a0_2 l0_3 a0_4 a0_5 a0_6 a0_7 a0_8 a0_9 a0_10 a0_11) else (if a0_2 > 1099511627776 then (ai.j0 k true a0_0 a0_1 a0_2 l0_3 a0_4 a0_5 a0_6 a0_7 a0_8 a0_9 a0_10 a0_11) else (if 0 ≤ a0_1 then (if a0_1 < (l0_3.length : Int) then (if a0_2 = (wrap64 ((rd l0_3 a0_1) + 1)) then ((cu.f a0_5 a0_6).bind fun t272 => (ai.j0 k (!t272) a0_0 a0_1 a0_2 l0_3 a0_4 a0_5 a0_6 a0_7 a0_8 a0_9 a0_10 a0_11)) else (ai.j0 k true a0_0 a0_1 a0_2 l0_3 a0_4 a0_5 a0_6 a0_7 a0_8 a0_9 a0_10 a0_11)) else (none)) else (none))))) = some r := by rw [if_pos rfl] at H; exact H
  clear H;have H := H1;clear H1;by_cases c8 : (l0_3.length : Int) ≤ a0_1
  ·rw [if_pos c8] at H
   have c8b0 : decide ((l0_3.length : Int) ≤ a0_1) = true := decide_eq_true c8;clear c8;(first | rw [c8b0] | (simp only [iY, i32_w]; rw [c8b0]) | skip);have H' := aa.mk H;clear H;try go_wp2
   have n0_ := aa.mk (av BK268.out);have n1_ := aa.mk (aJ HB.out);clear BK268 HB;have BK268 := n0_;have HB := n1_;clear n0_ n1_;refine eD (n := 48) (S := fun w' => w'.cell? ⟨gb268, 0, none⟩ = some (.int .i64 a0_0) ∧ w'.cell? ⟨gb268, 1, none⟩ = some (.int .i64 a0_1) ∧ w'.cell? ⟨gb268, 2, none⟩ = some (.int .i64 a0_2) ∧ w'.cell? ⟨gb268, 3, none⟩ = some (.slice A0_3 l0_3.length c0_3) ∧ w'.cell? ⟨gb268, 4, none⟩ = some (.int .i64 a0_4) ∧ w'.cell? ⟨gb268, 5, none⟩ = some (.int .i64 a0_5) ∧ w'.cell? ⟨gb268, 6, none⟩ = some (.int .i64 a0_6) ∧ w'.cell? ⟨gb268, 7, none⟩ = some (.int .i64 a0_7) ∧ w'.cell? ⟨gb268, 8, none⟩ = some (.int .i64 a0_8) ∧ w'.cell? ⟨gb268, 9, none⟩ = some (.string a0_9) ∧ w'.cell? ⟨gb268, 10, none⟩ = some (.int .i64 a0_10) ∧ w'.cell? ⟨gb268, 11, none⟩ = some (.int .i64 a0_11)) (ds := []) (rbs 48 0) (by kernel_rfl) rfl rfl (LB.aK BK268.out) (fun hHeld => ?_); refine dx ai.tab1 ai.bits1 (fun HT_ HW_ => ?_);generalize w3.drew = w9 at BK268 HB hHeld ⊢;apply rpu 0 (some 4) HT_ (rbs 48 1) rfl rfl (by kernel_rfl) (fun _ _ _ h => h) (by rfl)
   ·intro w';go_simp;with_reducible rfl
   ·simp only [pS];rfl
   apply rtk 1 (some 5) HT_ HW_ hHeld (rbs 48 3) rfl rfl (by kernel_rfl) (fun _ _ _ h => h) (by rfl)
   ·rintro w' ⟨s0, s1, s2, s3, s4, s5, s6, s7, s8, s9, s10, s11⟩;go_simp;with_reducible rfl
   ·simp only [pS];rfl
   refine gy (i := 2) (N := some 6) (rbs 48 7) rfl rfl (di HT_.out (by kernel_rfl)) (by decide) (fun K hK => ?_);refine dY Try.func56 (by kernel_rfl) rfl #[.agg #[.int .i64 a0_0, .int .i64 a0_1]] (by rfl) rfl rfl (by (try simp only [SB.lA, SB.lC, SB.lN]); first | done | rfl | (simp only [SB.lD, SB.lT]; rfl)) ?_;with_reducible refine (cu.calls a0_0 a0_1 true _ A4.out).mono ?_
   rintro e w10 ⟨rfl, hb⟩;refine ⟨_, rfl, ?_⟩;replace hb : Below (World.heap w9).size w9 w10 := ⟨hb.os, hb.tape, hb.output, hb.size, hb.block⟩
   have n0_ := aa.mk (aZ BK268.out hb);have n1_ := aa.mk (aj HB.out hb);clear BK268 HB;have BK268 := n0_;have HB := n1_;clear n0_ n1_;(try clear hb hb2 hk hi);refine hK.out _ _ (LB.aK BK268.out) (fun hHeld => ?_);clear hK K;refine dV (a' := ?_) ?_ ?_;rotate_left
   ·show Act.put _ (some 6) _ = _
    simp only [pS];rfl
   apply rpu 3 (some 7) HT_ (rbs 48 15) rfl rfl (by kernel_rfl) (fun _ _ _ h => h) (by rfl)
   ·intro w';go_simp;with_reducible rfl
   ·simp only [pS];rfl
   apply rpu 4 (some 8) HT_ (rbs 48 31) rfl rfl (by kernel_rfl) (fun _ _ _ h => h) (by rfl)
   ·intro w';go_simp;with_reducible rfl
   ·simp only [pS];rfl
   apply rpu 5 (some 9) HT_ (rbs 48 63) rfl rfl (by kernel_rfl) (fun _ _ _ h => h) (by rfl)
   ·intro w';go_simp;with_reducible rfl
   ·simp only [pS];rfl
   apply rtk 6 (some 10) HT_ HW_ hHeld (rbs 48 127) rfl rfl (by kernel_rfl) (fun _ _ _ h => h) (by rfl)
   ·rintro w' ⟨s0, s1, s2, s3, s4, s5, s6, s7, s8, s9, s10, s11⟩;go_simp;with_reducible rfl
   ·simp only [pS];rfl
   refine gy (i := 7) (N := some 11) (rbs 48 255) rfl rfl (di HT_.out (by kernel_rfl)) (by decide) (fun K hK => ?_);refine dY Try.func57 (by kernel_rfl) rfl #[.slice A0_3 l0_3.length c0_3] (by rfl) rfl rfl (by (try simp only [SB.lA, SB.lC, SB.lN]); first | done | rfl | (simp only [SB.lD, SB.lT]; rfl)) ?_;with_reducible refine (aM.calls k _ _ l0_3 true _ ?side1 ?side2 A6.out).mono ?_
   (case side1 => repeat (first | exact (Kd.dh HR0_3.out HB.out) | with_reducible first | refine Kd.bN ?_ _ | refine Kd.bM ?_ _ | refine Kd.dm ?_));(case side2 => exact HC0_3.out);rintro e w' ⟨rfl, ⟨nd, rfl⟩⟩;refine ⟨_, rfl, ?_⟩;refine hK.out _ _ (LB.aK BK268.out) (fun hHeld => ?_);clear hK K;refine dV (a' := ?_) ?_ ?_;rotate_left
   ·show Act.put _ (some 11) _ = _
    simp only [pS];rfl
   apply rpu 8 (some 12) HT_ (rbs 48 511) rfl rfl (by kernel_rfl) (fun _ _ _ h => h) (by rfl)
   ·intro w';go_simp;with_reducible rfl
   ·simp only [pS];rfl
   apply rpu 9 (some 13) HT_ (rbs 48 1023) rfl rfl (by kernel_rfl) (fun _ _ _ h => h) (by rfl)
   ·intro w';go_simp;with_reducible rfl
   ·simp only [pS];rfl
   apply rpu 10 (some 14) HT_ (rbs 48 2047) rfl rfl (by kernel_rfl) (fun _ _ _ h => h) (by rfl)
   ·intro w';go_simp;with_reducible rfl
   ·simp only [pS];rfl
   apply rpu 11 (some 15) HT_ (rbs 48 4095) rfl rfl (by kernel_rfl) (fun _ _ _ h => h) (by rfl)
   ·intro w';go_simp;with_reducible rfl
   ·simp only [pS];rfl
   apply rpu 14 (some 18) HT_ (rbs 48 20479) rfl rfl (by kernel_rfl) (fun _ _ _ h => h) (by rfl)
   ·intro w';go_simp;with_reducible rfl
   ·simp only [pS];rfl
   apply rpu 15 (some 19) HT_ (rbs 48 53247) rfl rfl (by kernel_rfl) (fun _ _ _ h => h) (by rfl)
   ·intro w';go_simp;with_reducible rfl
   ·simp only [pS];rfl
   apply rtk 12 (some 16) HT_ HW_ hHeld (rbs 48 57343) rfl rfl (by kernel_rfl) (fun _ _ _ h => h) (by rfl)
   ·rintro w' ⟨s0, s1, s2, s3, s4, s5, s6, s7, s8, s9, s10, s11⟩;go_simp;with_reducible rfl
   ·simp only [pS];rfl
   apply rpu 13 (some 17) HT_ (rbs 48 65535) rfl rfl (by kernel_rfl) (fun _ _ _ h => h) (by rfl)
   ·intro w';go_simp;with_reducible rfl
   ·simp only [pS];rfl
   apply rtk 16 (some 20) HT_ HW_ hHeld (rbs 48 131071) rfl rfl (by kernel_rfl) (fun _ _ _ h => h) (by rfl)
   ·rintro w' ⟨s0, s1, s2, s3, s4, s5, s6, s7, s8, s9, s10, s11⟩;go_simp;with_reducible rfl
   ·simp only [pS];rfl
   apply rpu 17 (some 21) HT_ (rbs 48 262143) rfl rfl (by kernel_rfl) (fun _ _ _ h => h) (by rfl)
   ·intro w';go_simp;with_reducible rfl
   ·simp only [pS];rfl
   apply rpu 18 (some 22) HT_ (rbs 48 524287) rfl rfl (by kernel_rfl) (fun _ _ _ h => h) (by rfl)
   ·intro w';go_simp;with_reducible rfl
   ·simp only [pS];rfl
   apply rpu 19 (some 23) HT_ (rbs 48 1048575) rfl rfl (by kernel_rfl) (fun _ _ _ h => h) (by rfl)
   ·intro w';go_simp;with_reducible rfl
   ·simp only [pS];rfl
   apply rpf 20 (some 24) HT_ (rbs 48 2097151) rfl rfl (by kernel_rfl) (fun _ _ _ h => h) (by rfl)
   ·simp only [pS];rfl
   apply rpf 21 (some 25) HT_ (rbs 48 4194303) rfl rfl (by kernel_rfl) (fun _ _ _ h => h) (by rfl)
   ·simp only [pS];rfl
   apply rpf 22 (some 26) HT_ (rbs 48 8388607) rfl rfl (by kernel_rfl) (fun _ _ _ h => h) (by rfl)
   ·simp only [pS];rfl
   apply rpu 23 (some 27) HT_ (rbs 48 16777215) rfl rfl (by kernel_rfl) (fun _ _ _ h => h) (by rfl)
   ·intro w';go_simp;with_reducible rfl
   ·simp only [pS];rfl
   apply rpu 24 (some 28) HT_ (rbs 48 33554431) rfl rfl (by kernel_rfl) (fun _ _ _ h => h) (by rfl)
   ·intro w';go_simp;with_reducible rfl
   ·simp only [pS];rfl
   apply rpf 25 (some 29) HT_ (rbs 48 67108863) rfl rfl (by kernel_rfl) (fun _ _ _ h => h) (by rfl)
   ·simp only [pS];rfl
   apply rpf 26 (some 30) HT_ (rbs 48 134217727) rfl rfl (by kernel_rfl) (fun _ _ _ h => h) (by rfl)
   ·simp only [pS];rfl
   apply rpf 27 (some 31) HT_ (rbs 48 268435455) rfl rfl (by kernel_rfl) (fun _ _ _ h => h) (by rfl)
   ·simp only [pS];rfl
   apply rpu 28 (some 32) HT_ (rbs 48 536870911) rfl rfl (by kernel_rfl) (fun _ _ _ h => h) (by rfl)
   ·intro w';go_simp;with_reducible rfl
   ·simp only [pS];rfl
   apply rpu 29 (some 33) HT_ (rbs 48 1073741823) rfl rfl (by kernel_rfl) (fun _ _ _ h => h) (by rfl)
   ·intro w';go_simp;with_reducible rfl
   ·simp only [pS];rfl
   apply rpf 30 (some 34) HT_ (rbs 48 2147483647) rfl rfl (by kernel_rfl) (fun _ _ _ h => h) (by rfl)
   ·simp only [pS];rfl
   apply rpf 31 (some 35) HT_ (rbs 48 4294967295) rfl rfl (by kernel_rfl) (fun _ _ _ h => h) (by rfl)
   ·simp only [pS];rfl
   apply rpf 32 (some 36) HT_ (rbs 48 8589934591) rfl rfl (by kernel_rfl) (fun _ _ _ h => h) (by rfl)
   ·simp only [pS];rfl
   apply rpf 33 (some 37) HT_ (rbs 48 17179869183) rfl rfl (by kernel_rfl) (fun _ _ _ h => h) (by rfl)
   ·simp only [pS];rfl
   apply rpf 34 (some 38) HT_ (rbs 48 34359738367) rfl rfl (by kernel_rfl) (fun _ _ _ h => h) (by rfl)
   ·simp only [pS];rfl
   apply rpf 35 (some 39) HT_ (rbs 48 68719476735) rfl rfl (by kernel_rfl) (fun _ _ _ h => h) (by rfl)
   ·simp only [pS];rfl
   apply rpf 36 (some 40) HT_ (rbs 48 137438953471) rfl rfl (by kernel_rfl) (fun _ _ _ h => h) (by rfl)
   ·simp only [pS];rfl
   apply rpf 37 (some 41) HT_ (rbs 48 274877906943) rfl rfl (by kernel_rfl) (fun _ _ _ h => h) (by rfl)
   ·simp only [pS];rfl
   apply rpf 38 (some 42) HT_ (rbs 48 549755813887) rfl rfl (by kernel_rfl) (fun _ _ _ h => h) (by rfl)
   ·simp only [pS];rfl
   apply rpf 39 (some 43) HT_ (rbs 48 1099511627775) rfl rfl (by kernel_rfl) (fun _ _ _ h => h) (by rfl)
   ·simp only [pS];rfl
   apply rpf 40 (some 44) HT_ (rbs 48 2199023255551) rfl rfl (by kernel_rfl) (fun _ _ _ h => h) (by rfl)
   ·simp only [pS];rfl
   apply rpu 41 (some 45) HT_ (rbs 48 4398046511103) rfl rfl (by kernel_rfl) (fun _ _ _ h => h) (by rfl)
   ·intro w';go_simp;with_reducible rfl
   ·simp only [pS];rfl
   apply rpu 42 (some 46) HT_ (rbs 48 8796093022207) rfl rfl (by kernel_rfl) (fun _ _ _ h => h) (by rfl)
   ·intro w';go_simp;with_reducible rfl
   ·simp only [pS];rfl
   apply rpf 43 (some 47) HT_ (rbs 48 17592186044415) rfl rfl (by kernel_rfl) (fun _ _ _ h => h) (by rfl)
   ·simp only [pS];rfl
   apply rpf 44 (some 48) HT_ (rbs 48 35184372088831) rfl rfl (by kernel_rfl) (fun _ _ _ h => h) (by rfl)
   ·simp only [pS];rfl
   apply rpf 45 (some 49) HT_ (rbs 48 70368744177663) rfl rfl (by kernel_rfl) (fun _ _ _ h => h) (by rfl)
   ·simp only [pS];rfl
   apply rpf 46 (some 50) HT_ (rbs 48 140737488355327) rfl rfl (by kernel_rfl) (fun _ _ _ h => h) (by rfl)
   ·simp only [pS];rfl
   apply rpu 47 (some 51) HT_ (rbs 48 281474976710655) rfl rfl (by kernel_rfl) (fun _ _ _ h => h) (by rfl)
   ·intro w';go_simp;with_reducible rfl
   ·simp only [pS];rfl
   refine gz (dS HT_.out (by kernel_rfl)) ?_;try go_wp2
   go_meet
   case rel => exact ⟨_, (true), (by first | rfl | (simp; done) | (simp [*]; done)), H', ⟨by first | omega | exact Nat.le_refl _⟩, ⟨by exact BK268.out⟩, ⟨by exact rud HB.out rfl rfl rfl rfl⟩⟩
  rw [if_neg c8] at H;have c8b0 : decide ((l0_3.length : Int) ≤ a0_1) = false := decide_eq_false c8;clear c8;(first | rw [c8b0] | (simp only [iY, i32_w]; rw [c8b0]) | skip);by_cases c11 : a0_2 < 1
  ·rw [if_pos c11] at H
   have c11b0 : decide (a0_2 < 1) = true := decide_eq_true c11;clear c11;have H' := aa.mk H;clear H;try go_wp2
   have n0_ := aa.mk (av BK268.out);have n1_ := aa.mk (aJ HB.out);clear BK268 HB;have BK268 := n0_;have HB := n1_;clear n0_ n1_;refine eD (n := 48) (S := fun w' => w'.cell? ⟨gb268, 0, none⟩ = some (.int .i64 a0_0) ∧ w'.cell? ⟨gb268, 1, none⟩ = some (.int .i64 a0_1) ∧ w'.cell? ⟨gb268, 2, none⟩ = some (.int .i64 a0_2) ∧ w'.cell? ⟨gb268, 3, none⟩ = some (.slice A0_3 l0_3.length c0_3) ∧ w'.cell? ⟨gb268, 4, none⟩ = some (.int .i64 a0_4) ∧ w'.cell? ⟨gb268, 5, none⟩ = some (.int .i64 a0_5) ∧ w'.cell? ⟨gb268, 6, none⟩ = some (.int .i64 a0_6) ∧ w'.cell? ⟨gb268, 7, none⟩ = some (.int .i64 a0_7) ∧ w'.cell? ⟨gb268, 8, none⟩ = some (.int .i64 a0_8) ∧ w'.cell? ⟨gb268, 9, none⟩ = some (.string a0_9) ∧ w'.cell? ⟨gb268, 10, none⟩ = some (.int .i64 a0_10) ∧ w'.cell? ⟨gb268, 11, none⟩ = some (.int .i64 a0_11)) (ds := []) (rbs 48 0) (by kernel_rfl) rfl rfl (LB.aK BK268.out) (fun hHeld => ?_); refine dx ai.tab1 ai.bits1 (fun HT_ HW_ => ?_);generalize w3.drew = w12 at BK268 HB hHeld ⊢;apply rpu 0 (some 4) HT_ (rbs 48 1) rfl rfl (by kernel_rfl) (fun _ _ _ h => h) (by rfl)
   ·intro w';go_simp;with_reducible rfl
   ·simp only [pS];rfl
   apply rtk 1 (some 5) HT_ HW_ hHeld (rbs 48 3) rfl rfl (by kernel_rfl) (fun _ _ _ h => h) (by rfl)
   ·rintro w' ⟨s0, s1, s2, s3, s4, s5, s6, s7, s8, s9, s10, s11⟩;go_simp;with_reducible rfl
   ·simp only [pS];rfl
   refine gy (i := 2) (N := some 6) (rbs 48 7) rfl rfl (di HT_.out (by kernel_rfl)) (by decide) (fun K hK => ?_);refine dY Try.func56 (by kernel_rfl) rfl #[.agg #[.int .i64 a0_0, .int .i64 a0_1]] (by rfl) rfl rfl (by (try simp only [SB.lA, SB.lC, SB.lN]); first | done | rfl | (simp only [SB.lD, SB.lT]; rfl)) ?_;with_reducible refine (cu.calls a0_0 a0_1 true _ A4.out).mono ?_
   rintro e w13 ⟨rfl, hb⟩;refine ⟨_, rfl, ?_⟩;replace hb : Below (World.heap w12).size w12 w13 := ⟨hb.os, hb.tape, hb.output, hb.size, hb.block⟩
   have n0_ := aa.mk (aZ BK268.out hb);have n1_ := aa.mk (aj HB.out hb);clear BK268 HB;have BK268 := n0_;have HB := n1_;clear n0_ n1_;(try clear hb hb2 hk hi);refine hK.out _ _ (LB.aK BK268.out) (fun hHeld => ?_);clear hK K;refine dV (a' := ?_) ?_ ?_;rotate_left
   ·show Act.put _ (some 6) _ = _
    simp only [pS];rfl
   apply rpu 3 (some 7) HT_ (rbs 48 15) rfl rfl (by kernel_rfl) (fun _ _ _ h => h) (by rfl)
   ·intro w';go_simp;with_reducible rfl
   ·simp only [pS];rfl
   apply rpu 4 (some 8) HT_ (rbs 48 31) rfl rfl (by kernel_rfl) (fun _ _ _ h => h) (by rfl)
   ·intro w';go_simp;with_reducible rfl
   ·simp only [pS];rfl
   apply rpu 5 (some 9) HT_ (rbs 48 63) rfl rfl (by kernel_rfl) (fun _ _ _ h => h) (by rfl)
   ·intro w';go_simp;with_reducible rfl
   ·simp only [pS];rfl
   apply rtk 6 (some 10) HT_ HW_ hHeld (rbs 48 127) rfl rfl (by kernel_rfl) (fun _ _ _ h => h) (by rfl)
   ·rintro w' ⟨s0, s1, s2, s3, s4, s5, s6, s7, s8, s9, s10, s11⟩;go_simp;with_reducible rfl
   ·simp only [pS];rfl
   refine gy (i := 7) (N := some 11) (rbs 48 255) rfl rfl (di HT_.out (by kernel_rfl)) (by decide) (fun K hK => ?_);refine dY Try.func57 (by kernel_rfl) rfl #[.slice A0_3 l0_3.length c0_3] (by rfl) rfl rfl (by (try simp only [SB.lA, SB.lC, SB.lN]); first | done | rfl | (simp only [SB.lD, SB.lT]; rfl)) ?_;with_reducible refine (aM.calls k _ _ l0_3 true _ ?side1 ?side2 A6.out).mono ?_
   (case side1 => repeat (first | exact (Kd.dh HR0_3.out HB.out) | with_reducible first | refine Kd.bN ?_ _ | refine Kd.bM ?_ _ | refine Kd.dm ?_));(case side2 => exact HC0_3.out);rintro e w' ⟨rfl, ⟨nd, rfl⟩⟩;refine ⟨_, rfl, ?_⟩;refine hK.out _ _ (LB.aK BK268.out) (fun hHeld => ?_);clear hK K;refine dV (a' := ?_) ?_ ?_;rotate_left
   ·show Act.put _ (some 11) _ = _
    simp only [pS];rfl
   apply rpu 8 (some 12) HT_ (rbs 48 511) rfl rfl (by kernel_rfl) (fun _ _ _ h => h) (by rfl)
   ·intro w';go_simp;with_reducible rfl
   ·simp only [pS];rfl
   apply rpu 9 (some 13) HT_ (rbs 48 1023) rfl rfl (by kernel_rfl) (fun _ _ _ h => h) (by rfl)
   ·intro w';go_simp;with_reducible rfl
   ·simp only [pS];rfl
   apply rpu 10 (some 14) HT_ (rbs 48 2047) rfl rfl (by kernel_rfl) (fun _ _ _ h => h) (by rfl)
   ·intro w';go_simp;with_reducible rfl
   ·simp only [pS];rfl
   apply rpu 11 (some 15) HT_ (rbs 48 4095) rfl rfl (by kernel_rfl) (fun _ _ _ h => h) (by rfl)
   ·intro w';go_simp;with_reducible rfl
   ·simp only [pS];rfl
   apply rpu 14 (some 18) HT_ (rbs 48 20479) rfl rfl (by kernel_rfl) (fun _ _ _ h => h) (by rfl)
   ·intro w';go_simp;with_reducible rfl
   ·simp only [pS];rfl
   apply rpu 15 (some 19) HT_ (rbs 48 53247) rfl rfl (by kernel_rfl) (fun _ _ _ h => h) (by rfl)
   ·intro w';go_simp;with_reducible rfl
   ·simp only [pS];rfl
   apply rtk 12 (some 16) HT_ HW_ hHeld (rbs 48 57343) rfl rfl (by kernel_rfl) (fun _ _ _ h => h) (by rfl)
   ·rintro w' ⟨s0, s1, s2, s3, s4, s5, s6, s7, s8, s9, s10, s11⟩;go_simp;with_reducible rfl
   ·simp only [pS];rfl
   apply rpu 13 (some 17) HT_ (rbs 48 65535) rfl rfl (by kernel_rfl) (fun _ _ _ h => h) (by rfl)
   ·intro w';go_simp;with_reducible rfl
   ·simp only [pS];rfl
   apply rtk 16 (some 20) HT_ HW_ hHeld (rbs 48 131071) rfl rfl (by kernel_rfl) (fun _ _ _ h => h) (by rfl)
   ·rintro w' ⟨s0, s1, s2, s3, s4, s5, s6, s7, s8, s9, s10, s11⟩;go_simp;with_reducible rfl
   ·simp only [pS];rfl
   apply rpu 17 (some 21) HT_ (rbs 48 262143) rfl rfl (by kernel_rfl) (fun _ _ _ h => h) (by rfl)
   ·intro w';go_simp;with_reducible rfl
   ·simp only [pS];rfl
   apply rpu 18 (some 22) HT_ (rbs 48 524287) rfl rfl (by kernel_rfl) (fun _ _ _ h => h) (by rfl)
   ·intro w';go_simp;with_reducible rfl
   ·simp only [pS];rfl
   apply rpu 19 (some 23) HT_ (rbs 48 1048575) rfl rfl (by kernel_rfl) (fun _ _ _ h => h) (by rfl)
   ·intro w';go_simp;with_reducible rfl
   ·simp only [pS];rfl
   apply rpu 20 (some 24) HT_ (rbs 48 2097151) rfl rfl (by kernel_rfl) (fun _ _ _ h => h) (by rfl)
   ·intro w';go_simp;with_reducible rfl
   ·simp only [pS];rfl
   apply rtk 21 (some 25) HT_ HW_ hHeld (rbs 48 4194303) rfl rfl (by kernel_rfl) (fun _ _ _ h => h) (by rfl)
   ·rintro w' ⟨s0, s1, s2, s3, s4, s5, s6, s7, s8, s9, s10, s11⟩;go_simp;with_reducible rfl
   ·simp only [pS];rfl
   apply rpu 22 (some 26) HT_ (rbs 48 8388607) rfl rfl (by kernel_rfl) (fun _ _ _ h => h) (by rfl)
   ·intro w';go_simp;with_reducible rfl
   ·simp only [pS];rfl
   apply rpu 23 (some 27) HT_ (rbs 48 16777215) rfl rfl (by kernel_rfl) (fun _ _ _ h => h) (by rfl)
   ·intro w';go_simp;with_reducible rfl
   ·simp only [pS];rfl
   apply rpu 24 (some 28) HT_ (rbs 48 33554431) rfl rfl (by kernel_rfl) (fun _ _ _ h => h) (by rfl)
   ·intro w';go_simp;with_reducible rfl
   ·simp only [pS];rfl
   apply rpf 25 (some 29) HT_ (rbs 48 67108863) rfl rfl (by kernel_rfl) (fun _ _ _ h => h) (by rfl)
   ·simp only [pS];rfl
   apply rpf 26 (some 30) HT_ (rbs 48 134217727) rfl rfl (by kernel_rfl) (fun _ _ _ h => h) (by rfl)
   ·simp only [pS];rfl
   apply rpf 27 (some 31) HT_ (rbs 48 268435455) rfl rfl (by kernel_rfl) (fun _ _ _ h => h) (by rfl)
   ·simp only [pS];rfl
   apply rpu 28 (some 32) HT_ (rbs 48 536870911) rfl rfl (by kernel_rfl) (fun _ _ _ h => h) (by rfl)
   ·intro w';go_simp;with_reducible rfl
   ·simp only [pS];rfl
   apply rpu 29 (some 33) HT_ (rbs 48 1073741823) rfl rfl (by kernel_rfl) (fun _ _ _ h => h) (by rfl)
   ·intro w';go_simp;with_reducible rfl
   ·simp only [pS];rfl
   apply rpf 30 (some 34) HT_ (rbs 48 2147483647) rfl rfl (by kernel_rfl) (fun _ _ _ h => h) (by rfl)
   ·simp only [pS];rfl
   apply rpf 31 (some 35) HT_ (rbs 48 4294967295) rfl rfl (by kernel_rfl) (fun _ _ _ h => h) (by rfl)
   ·simp only [pS];rfl
   apply rpf 32 (some 36) HT_ (rbs 48 8589934591) rfl rfl (by kernel_rfl) (fun _ _ _ h => h) (by rfl)
   ·simp only [pS];rfl
   apply rpf 33 (some 37) HT_ (rbs 48 17179869183) rfl rfl (by kernel_rfl) (fun _ _ _ h => h) (by rfl)
   ·simp only [pS];rfl
   apply rpf 34 (some 38) HT_ (rbs 48 34359738367) rfl rfl (by kernel_rfl) (fun _ _ _ h => h) (by rfl)
   ·simp only [pS];rfl
   apply rpf 35 (some 39) HT_ (rbs 48 68719476735) rfl rfl (by kernel_rfl) (fun _ _ _ h => h) (by rfl)
   ·simp only [pS];rfl
   apply rpf 36 (some 40) HT_ (rbs 48 137438953471) rfl rfl (by kernel_rfl) (fun _ _ _ h => h) (by rfl)
   ·simp only [pS];rfl
   apply rpf 37 (some 41) HT_ (rbs 48 274877906943) rfl rfl (by kernel_rfl) (fun _ _ _ h => h) (by rfl)
   ·simp only [pS];rfl
   apply rpf 38 (some 42) HT_ (rbs 48 549755813887) rfl rfl (by kernel_rfl) (fun _ _ _ h => h) (by rfl)
   ·simp only [pS];rfl
   apply rpf 39 (some 43) HT_ (rbs 48 1099511627775) rfl rfl (by kernel_rfl) (fun _ _ _ h => h) (by rfl)
   ·simp only [pS];rfl
   apply rpf 40 (some 44) HT_ (rbs 48 2199023255551) rfl rfl (by kernel_rfl) (fun _ _ _ h => h) (by rfl)
   ·simp only [pS];rfl
   apply rpu 41 (some 45) HT_ (rbs 48 4398046511103) rfl rfl (by kernel_rfl) (fun _ _ _ h => h) (by rfl)
   ·intro w';go_simp;with_reducible rfl
   ·simp only [pS];rfl
   apply rpu 42 (some 46) HT_ (rbs 48 8796093022207) rfl rfl (by kernel_rfl) (fun _ _ _ h => h) (by rfl)
   ·intro w';go_simp;with_reducible rfl
   ·simp only [pS];rfl
   apply rpf 43 (some 47) HT_ (rbs 48 17592186044415) rfl rfl (by kernel_rfl) (fun _ _ _ h => h) (by rfl)
   ·simp only [pS];rfl
   apply rpf 44 (some 48) HT_ (rbs 48 35184372088831) rfl rfl (by kernel_rfl) (fun _ _ _ h => h) (by rfl)
   ·simp only [pS];rfl
   apply rpf 45 (some 49) HT_ (rbs 48 70368744177663) rfl rfl (by kernel_rfl) (fun _ _ _ h => h) (by rfl)
   ·simp only [pS];rfl
   apply rpf 46 (some 50) HT_ (rbs 48 140737488355327) rfl rfl (by kernel_rfl) (fun _ _ _ h => h) (by rfl)
   ·simp only [pS];rfl
   apply rpu 47 (some 51) HT_ (rbs 48 281474976710655) rfl rfl (by kernel_rfl) (fun _ _ _ h => h) (by rfl)
   ·intro w';go_simp;with_reducible rfl
   ·simp only [pS];rfl
   refine gz (dS HT_.out (by kernel_rfl)) ?_;try go_wp2
   go_meet
   case rel => exact ⟨_, (true), (by first | rfl | (simp; done) | (simp [*]; done)), H', ⟨by first | omega | exact Nat.le_refl _⟩, ⟨by exact BK268.out⟩, ⟨by exact rud HB.out rfl rfl rfl rfl⟩⟩
  rw [if_neg c11] at H;have c11b0 : decide (a0_2 < 1) = false := decide_eq_false c11;clear c11;by_cases c14 : a0_2 > 1099511627776
  ·rw [if_pos c14] at H
   have c14b0 : decide (1099511627776 < a0_2) = true := decide_eq_true c14;clear c14;have H' := aa.mk H;clear H;try go_wp2
   have n0_ := aa.mk (av BK268.out);have n1_ := aa.mk (aJ HB.out);clear BK268 HB;have BK268 := n0_;have HB := n1_;clear n0_ n1_;refine eD (n := 48) (S := fun w' => w'.cell? ⟨gb268, 0, none⟩ = some (.int .i64 a0_0) ∧ w'.cell? ⟨gb268, 1, none⟩ = some (.int .i64 a0_1) ∧ w'.cell? ⟨gb268, 2, none⟩ = some (.int .i64 a0_2) ∧ w'.cell? ⟨gb268, 3, none⟩ = some (.slice A0_3 l0_3.length c0_3) ∧ w'.cell? ⟨gb268, 4, none⟩ = some (.int .i64 a0_4) ∧ w'.cell? ⟨gb268, 5, none⟩ = some (.int .i64 a0_5) ∧ w'.cell? ⟨gb268, 6, none⟩ = some (.int .i64 a0_6) ∧ w'.cell? ⟨gb268, 7, none⟩ = some (.int .i64 a0_7) ∧ w'.cell? ⟨gb268, 8, none⟩ = some (.int .i64 a0_8) ∧ w'.cell? ⟨gb268, 9, none⟩ = some (.string a0_9) ∧ w'.cell? ⟨gb268, 10, none⟩ = some (.int .i64 a0_10) ∧ w'.cell? ⟨gb268, 11, none⟩ = some (.int .i64 a0_11)) (ds := []) (rbs 48 0) (by kernel_rfl) rfl rfl (LB.aK BK268.out) (fun hHeld => ?_); refine dx ai.tab1 ai.bits1 (fun HT_ HW_ => ?_);generalize w3.drew = w15 at BK268 HB hHeld ⊢;apply rpu 0 (some 4) HT_ (rbs 48 1) rfl rfl (by kernel_rfl) (fun _ _ _ h => h) (by rfl)
   ·intro w';go_simp;with_reducible rfl
   ·simp only [pS];rfl
   apply rtk 1 (some 5) HT_ HW_ hHeld (rbs 48 3) rfl rfl (by kernel_rfl) (fun _ _ _ h => h) (by rfl)
   ·rintro w' ⟨s0, s1, s2, s3, s4, s5, s6, s7, s8, s9, s10, s11⟩;go_simp;with_reducible rfl
   ·simp only [pS];rfl
   refine gy (i := 2) (N := some 6) (rbs 48 7) rfl rfl (di HT_.out (by kernel_rfl)) (by decide) (fun K hK => ?_);refine dY Try.func56 (by kernel_rfl) rfl #[.agg #[.int .i64 a0_0, .int .i64 a0_1]] (by rfl) rfl rfl (by (try simp only [SB.lA, SB.lC, SB.lN]); first | done | rfl | (simp only [SB.lD, SB.lT]; rfl)) ?_;with_reducible refine (cu.calls a0_0 a0_1 true _ A4.out).mono ?_
   rintro e w16 ⟨rfl, hb⟩;refine ⟨_, rfl, ?_⟩;replace hb : Below (World.heap w15).size w15 w16 := ⟨hb.os, hb.tape, hb.output, hb.size, hb.block⟩
   have n0_ := aa.mk (aZ BK268.out hb);have n1_ := aa.mk (aj HB.out hb);clear BK268 HB;have BK268 := n0_;have HB := n1_;clear n0_ n1_;(try clear hb hb2 hk hi);refine hK.out _ _ (LB.aK BK268.out) (fun hHeld => ?_);clear hK K;refine dV (a' := ?_) ?_ ?_;rotate_left
   ·show Act.put _ (some 6) _ = _
    simp only [pS];rfl
   apply rpu 3 (some 7) HT_ (rbs 48 15) rfl rfl (by kernel_rfl) (fun _ _ _ h => h) (by rfl)
   ·intro w';go_simp;with_reducible rfl
   ·simp only [pS];rfl
   apply rpu 4 (some 8) HT_ (rbs 48 31) rfl rfl (by kernel_rfl) (fun _ _ _ h => h) (by rfl)
   ·intro w';go_simp;with_reducible rfl
   ·simp only [pS];rfl
   apply rpu 5 (some 9) HT_ (rbs 48 63) rfl rfl (by kernel_rfl) (fun _ _ _ h => h) (by rfl)
   ·intro w';go_simp;with_reducible rfl
   ·simp only [pS];rfl
   apply rtk 6 (some 10) HT_ HW_ hHeld (rbs 48 127) rfl rfl (by kernel_rfl) (fun _ _ _ h => h) (by rfl)
   ·rintro w' ⟨s0, s1, s2, s3, s4, s5, s6, s7, s8, s9, s10, s11⟩;go_simp;with_reducible rfl
   ·simp only [pS];rfl
   refine gy (i := 7) (N := some 11) (rbs 48 255) rfl rfl (di HT_.out (by kernel_rfl)) (by decide) (fun K hK => ?_);refine dY Try.func57 (by kernel_rfl) rfl #[.slice A0_3 l0_3.length c0_3] (by rfl) rfl rfl (by (try simp only [SB.lA, SB.lC, SB.lN]); first | done | rfl | (simp only [SB.lD, SB.lT]; rfl)) ?_;with_reducible refine (aM.calls k _ _ l0_3 true _ ?side1 ?side2 A6.out).mono ?_
   (case side1 => repeat (first | exact (Kd.dh HR0_3.out HB.out) | with_reducible first | refine Kd.bN ?_ _ | refine Kd.bM ?_ _ | refine Kd.dm ?_));(case side2 => exact HC0_3.out);rintro e w' ⟨rfl, ⟨nd, rfl⟩⟩;refine ⟨_, rfl, ?_⟩;refine hK.out _ _ (LB.aK BK268.out) (fun hHeld => ?_);clear hK K;refine dV (a' := ?_) ?_ ?_;rotate_left
   ·show Act.put _ (some 11) _ = _
    simp only [pS];rfl
   apply rpu 8 (some 12) HT_ (rbs 48 511) rfl rfl (by kernel_rfl) (fun _ _ _ h => h) (by rfl)
   ·intro w';go_simp;with_reducible rfl
   ·simp only [pS];rfl
   apply rpu 9 (some 13) HT_ (rbs 48 1023) rfl rfl (by kernel_rfl) (fun _ _ _ h => h) (by rfl)
   ·intro w';go_simp;with_reducible rfl
   ·simp only [pS];rfl
   apply rpu 10 (some 14) HT_ (rbs 48 2047) rfl rfl (by kernel_rfl) (fun _ _ _ h => h) (by rfl)
   ·intro w';go_simp;with_reducible rfl
   ·simp only [pS];rfl
   apply rpu 11 (some 15) HT_ (rbs 48 4095) rfl rfl (by kernel_rfl) (fun _ _ _ h => h) (by rfl)
   ·intro w';go_simp;with_reducible rfl
   ·simp only [pS];rfl
   apply rpu 14 (some 18) HT_ (rbs 48 20479) rfl rfl (by kernel_rfl) (fun _ _ _ h => h) (by rfl)
   ·intro w';go_simp;with_reducible rfl
   ·simp only [pS];rfl
   apply rpu 15 (some 19) HT_ (rbs 48 53247) rfl rfl (by kernel_rfl) (fun _ _ _ h => h) (by rfl)
   ·intro w';go_simp;with_reducible rfl
   ·simp only [pS];rfl
   apply rtk 12 (some 16) HT_ HW_ hHeld (rbs 48 57343) rfl rfl (by kernel_rfl) (fun _ _ _ h => h) (by rfl)
   ·rintro w' ⟨s0, s1, s2, s3, s4, s5, s6, s7, s8, s9, s10, s11⟩;go_simp;with_reducible rfl
   ·simp only [pS];rfl
   apply rpu 13 (some 17) HT_ (rbs 48 65535) rfl rfl (by kernel_rfl) (fun _ _ _ h => h) (by rfl)
   ·intro w';go_simp;with_reducible rfl
   ·simp only [pS];rfl
   apply rtk 16 (some 20) HT_ HW_ hHeld (rbs 48 131071) rfl rfl (by kernel_rfl) (fun _ _ _ h => h) (by rfl)
   ·rintro w' ⟨s0, s1, s2, s3, s4, s5, s6, s7, s8, s9, s10, s11⟩;go_simp;with_reducible rfl
   ·simp only [pS];rfl
   apply rpu 17 (some 21) HT_ (rbs 48 262143) rfl rfl (by kernel_rfl) (fun _ _ _ h => h) (by rfl)
   ·intro w';go_simp;with_reducible rfl
   ·simp only [pS];rfl
   apply rpu 18 (some 22) HT_ (rbs 48 524287) rfl rfl (by kernel_rfl) (fun _ _ _ h => h) (by rfl)
   ·intro w';go_simp;with_reducible rfl
   ·simp only [pS];rfl
   apply rpu 19 (some 23) HT_ (rbs 48 1048575) rfl rfl (by kernel_rfl) (fun _ _ _ h => h) (by rfl)
   ·intro w';go_simp;with_reducible rfl
   ·simp only [pS];rfl
   apply rpu 20 (some 24) HT_ (rbs 48 2097151) rfl rfl (by kernel_rfl) (fun _ _ _ h => h) (by rfl)
   ·intro w';go_simp;with_reducible rfl
   ·simp only [pS];rfl
   apply rtk 21 (some 25) HT_ HW_ hHeld (rbs 48 4194303) rfl rfl (by kernel_rfl) (fun _ _ _ h => h) (by rfl)
   ·rintro w' ⟨s0, s1, s2, s3, s4, s5, s6, s7, s8, s9, s10, s11⟩;go_simp;with_reducible rfl
   ·simp only [pS];rfl
   apply rpu 22 (some 26) HT_ (rbs 48 8388607) rfl rfl (by kernel_rfl) (fun _ _ _ h => h) (by rfl)
   ·intro w';go_simp;with_reducible rfl
   ·simp only [pS];rfl
   apply rpu 23 (some 27) HT_ (rbs 48 16777215) rfl rfl (by kernel_rfl) (fun _ _ _ h => h) (by rfl)
   ·intro w';go_simp;with_reducible rfl
   ·simp only [pS];rfl
   apply rpu 24 (some 28) HT_ (rbs 48 33554431) rfl rfl (by kernel_rfl) (fun _ _ _ h => h) (by rfl)
   ·intro w';go_simp;with_reducible rfl
   ·simp only [pS];rfl
   apply rpu 25 (some 29) HT_ (rbs 48 67108863) rfl rfl (by kernel_rfl) (fun _ _ _ h => h) (by rfl)
   ·intro w';go_simp;with_reducible rfl
   ·simp only [pS];rfl
   apply rtk 26 (some 30) HT_ HW_ hHeld (rbs 48 134217727) rfl rfl (by kernel_rfl) (fun _ _ _ h => h) (by rfl)
   ·rintro w' ⟨s0, s1, s2, s3, s4, s5, s6, s7, s8, s9, s10, s11⟩;go_simp;with_reducible rfl
   ·simp only [pS];rfl
   apply rpu 27 (some 31) HT_ (rbs 48 268435455) rfl rfl (by kernel_rfl) (fun _ _ _ h => h) (by rfl)
   ·intro w';go_simp;with_reducible rfl
   ·simp only [pS];rfl
   apply rpu 28 (some 32) HT_ (rbs 48 536870911) rfl rfl (by kernel_rfl) (fun _ _ _ h => h) (by rfl)
   ·intro w';go_simp;with_reducible rfl
   ·simp only [pS];rfl
   apply rpu 29 (some 33) HT_ (rbs 48 1073741823) rfl rfl (by kernel_rfl) (fun _ _ _ h => h) (by rfl)
   ·intro w';go_simp;with_reducible rfl
   ·simp only [pS];rfl
   apply rpf 30 (some 34) HT_ (rbs 48 2147483647) rfl rfl (by kernel_rfl) (fun _ _ _ h => h) (by rfl)
   ·simp only [pS];rfl
   apply rpf 31 (some 35) HT_ (rbs 48 4294967295) rfl rfl (by kernel_rfl) (fun _ _ _ h => h) (by rfl)
   ·simp only [pS];rfl
   apply rpf 32 (some 36) HT_ (rbs 48 8589934591) rfl rfl (by kernel_rfl) (fun _ _ _ h => h) (by rfl)
   ·simp only [pS];rfl
   apply rpf 33 (some 37) HT_ (rbs 48 17179869183) rfl rfl (by kernel_rfl) (fun _ _ _ h => h) (by rfl)
   ·simp only [pS];rfl
   apply rpf 34 (some 38) HT_ (rbs 48 34359738367) rfl rfl (by kernel_rfl) (fun _ _ _ h => h) (by rfl)
   ·simp only [pS];rfl
   apply rpf 35 (some 39) HT_ (rbs 48 68719476735) rfl rfl (by kernel_rfl) (fun _ _ _ h => h) (by rfl)
   ·simp only [pS];rfl
   apply rpf 36 (some 40) HT_ (rbs 48 137438953471) rfl rfl (by kernel_rfl) (fun _ _ _ h => h) (by rfl)
   ·simp only [pS];rfl
   apply rpf 37 (some 41) HT_ (rbs 48 274877906943) rfl rfl (by kernel_rfl) (fun _ _ _ h => h) (by rfl)
   ·simp only [pS];rfl
   apply rpf 38 (some 42) HT_ (rbs 48 549755813887) rfl rfl (by kernel_rfl) (fun _ _ _ h => h) (by rfl)
   ·simp only [pS];rfl
   apply rpf 39 (some 43) HT_ (rbs 48 1099511627775) rfl rfl (by kernel_rfl) (fun _ _ _ h => h) (by rfl)
   ·simp only [pS];rfl
   apply rpf 40 (some 44) HT_ (rbs 48 2199023255551) rfl rfl (by kernel_rfl) (fun _ _ _ h => h) (by rfl)
   ·simp only [pS];rfl
   apply rpu 41 (some 45) HT_ (rbs 48 4398046511103) rfl rfl (by kernel_rfl) (fun _ _ _ h => h) (by rfl)
   ·intro w';go_simp;with_reducible rfl
   ·simp only [pS];rfl
   apply rpu 42 (some 46) HT_ (rbs 48 8796093022207) rfl rfl (by kernel_rfl) (fun _ _ _ h => h) (by rfl)
   ·intro w';go_simp;with_reducible rfl
   ·simp only [pS];rfl
   apply rpf 43 (some 47) HT_ (rbs 48 17592186044415) rfl rfl (by kernel_rfl) (fun _ _ _ h => h) (by rfl)
   ·simp only [pS];rfl
   apply rpf 44 (some 48) HT_ (rbs 48 35184372088831) rfl rfl (by kernel_rfl) (fun _ _ _ h => h) (by rfl)
   ·simp only [pS];rfl
   apply rpf 45 (some 49) HT_ (rbs 48 70368744177663) rfl rfl (by kernel_rfl) (fun _ _ _ h => h) (by rfl)
   ·simp only [pS];rfl
   apply rpf 46 (some 50) HT_ (rbs 48 140737488355327) rfl rfl (by kernel_rfl) (fun _ _ _ h => h) (by rfl)
   ·simp only [pS];rfl
   apply rpu 47 (some 51) HT_ (rbs 48 281474976710655) rfl rfl (by kernel_rfl) (fun _ _ _ h => h) (by rfl)
   ·intro w';go_simp;with_reducible rfl
   ·simp only [pS];rfl
   refine gz (dS HT_.out (by kernel_rfl)) ?_;try go_wp2
   go_meet
   case rel => exact ⟨_, (true), (by first | rfl | (simp; done) | (simp [*]; done)), H', ⟨by first | omega | exact Nat.le_refl _⟩, ⟨by exact BK268.out⟩, ⟨by exact rud HB.out rfl rfl rfl rfl⟩⟩
  rw [if_neg c14] at H;have c14b0 : decide (1099511627776 < a0_2) = false := decide_eq_false c14;clear c14;by_cases c17 : 0 ≤ a0_1;rotate_left
  ·rw [if_neg c17] at H
   exact absurd H (by simp)
  rw [if_pos c17] at H;have c17b0 : decide (0 ≤ a0_1) = true := decide_eq_true c17;clear c17;by_cases c18 : a0_1 < (l0_3.length : Int);rotate_left
  ·rw [if_neg c18] at H
   exact absurd H (by simp)
  rw [if_pos c18] at H;have c18b0 : decide (a0_1 < (l0_3.length : Int)) = true := decide_eq_true c18;clear c18;by_cases c19 : a0_2 = (wrap64 ((rd l0_3 a0_1) + 1));rotate_left
  ·rw [if_neg c19] at H
   have c19b0 : (a0_2 == (wrap64 ((rd l0_3 a0_1) + 1))) = false := beq_eq_false_iff_ne.mpr c19;have c19b1 : (a0_2 != (wrap64 ((rd l0_3 a0_1) + 1))) = true := bne_iff_ne.mpr c19;have H' := aa.mk H;clear H;try go_wp2
   have n0_ := aa.mk (av BK268.out);have n1_ := aa.mk (aJ HB.out);clear BK268 HB;have BK268 := n0_;have HB := n1_;clear n0_ n1_;have p271 : 0 ≤ (a0_1 : Int) := of_decide_eq_true (by first | (with_reducible assumption) | assumption);have q271 : a0_1 < (l0_3.length : Int) := of_decide_eq_true (by first | (with_reducible assumption) | assumption);obtain ⟨ad271, e271, hx271_0⟩ := Kd.fG HR0_3.out a0_1 p271 q271;have hw271_0 := hx271_0;cases e271
   replace hx271_0 := (HB.out.cell (World.block_lt_of_cell? w _ hx271_0)).trans hx271_0;replace p271 := eq_true p271;replace q271 := eq_true q271;refine eD (n := 48) (S := fun w' => w'.cell? ⟨gb268, 0, none⟩ = some (.int .i64 a0_0) ∧ w'.cell? ⟨gb268, 1, none⟩ = some (.int .i64 a0_1) ∧ w'.cell? ⟨gb268, 2, none⟩ = some (.int .i64 a0_2) ∧ w'.cell? ⟨gb268, 3, none⟩ = some (.slice (some ad271) l0_3.length c0_3) ∧ w'.cell? ⟨gb268, 4, none⟩ = some (.int .i64 a0_4) ∧ w'.cell? ⟨gb268, 5, none⟩ = some (.int .i64 a0_5) ∧ w'.cell? ⟨gb268, 6, none⟩ = some (.int .i64 a0_6) ∧ w'.cell? ⟨gb268, 7, none⟩ = some (.int .i64 a0_7) ∧ w'.cell? ⟨gb268, 8, none⟩ = some (.int .i64 a0_8) ∧ w'.cell? ⟨gb268, 9, none⟩ = some (.string a0_9) ∧ w'.cell? ⟨gb268, 10, none⟩ = some (.int .i64 a0_10) ∧ w'.cell? ⟨gb268, 11, none⟩ = some (.int .i64 a0_11) ∧ w'.cell? (ad271.add (a0_1).toNat) = some (.int .i64 (rd l0_3 a0_1))) (ds := []) (rbs 48 0) (by kernel_rfl) rfl rfl ⟨(ag BK268.out 0).trans rfl, (ag BK268.out 1).trans rfl, (ag BK268.out 2).trans rfl, (ag BK268.out 3).trans rfl, (ag BK268.out 4).trans rfl, (ag BK268.out 5).trans rfl, (ag BK268.out 6).trans rfl, (ag BK268.out 7).trans rfl, (ag BK268.out 8).trans rfl, (ag BK268.out 9).trans rfl, (ag BK268.out 10).trans rfl, (ag BK268.out 11).trans rfl, ((HB.out.cell (World.block_lt_of_cell? w _ hw271_0)).trans hw271_0)⟩ (fun hHeld => ?_); refine dx ai.tab1 ai.bits1 (fun HT_ HW_ => ?_);generalize w3.drew = w24 at BK268 HB hx271_0 hHeld ⊢;apply rpu 0 (some 4) HT_ (rbs 48 1) rfl rfl (by kernel_rfl) (fun _ _ _ h => h) (by rfl)
   ·intro w';go_simp;with_reducible rfl
   ·simp only [pS];rfl
   apply rtk 1 (some 5) HT_ HW_ hHeld (rbs 48 3) rfl rfl (by kernel_rfl) (fun _ _ _ h => h) (by rfl)
   ·rintro w' ⟨s0, s1, s2, s3, s4, s5, s6, s7, s8, s9, s10, s11, s12⟩;go_simp;with_reducible rfl
   ·simp only [pS];rfl
   refine gy (i := 2) (N := some 6) (rbs 48 7) rfl rfl (di HT_.out (by kernel_rfl)) (by decide) (fun K hK => ?_);refine dY Try.func56 (by kernel_rfl) rfl #[.agg #[.int .i64 a0_0, .int .i64 a0_1]] (by rfl) rfl rfl (by (try simp only [SB.lA, SB.lC, SB.lN]); first | done | rfl | (simp only [SB.lD, SB.lT]; rfl)) ?_;with_reducible refine (cu.calls a0_0 a0_1 true _ A4.out).mono ?_
   rintro e w25 ⟨rfl, hb⟩;refine ⟨_, rfl, ?_⟩;replace hb : Below (World.heap w24).size w24 w25 := ⟨hb.os, hb.tape, hb.output, hb.size, hb.block⟩
   have n0_ := aa.mk (aZ BK268.out hb);have n1_ := aa.mk (aj HB.out hb);clear BK268 HB;have BK268 := n0_;have HB := n1_;clear n0_ n1_;(try clear hb hb2 hk hi);refine hK.out _ _ ⟨(ag BK268.out 0).trans rfl, (ag BK268.out 1).trans rfl, (ag BK268.out 2).trans rfl, (ag BK268.out 3).trans rfl, (ag BK268.out 4).trans rfl, (ag BK268.out 5).trans rfl, (ag BK268.out 6).trans rfl, (ag BK268.out 7).trans rfl, (ag BK268.out 8).trans rfl, (ag BK268.out 9).trans rfl, (ag BK268.out 10).trans rfl, (ag BK268.out 11).trans rfl, ((HB.out.cell (World.block_lt_of_cell? w _ hw271_0)).trans hw271_0)⟩ (fun hHeld => ?_);clear hK K;refine dV (a' := ?_) ?_ ?_;rotate_left
   ·show Act.put _ (some 6) _ = _
    simp only [pS];rfl
   apply rpu 3 (some 7) HT_ (rbs 48 15) rfl rfl (by kernel_rfl) (fun _ _ _ h => h) (by rfl)
   ·intro w';go_simp;with_reducible rfl
   ·simp only [pS];rfl
   apply rpu 4 (some 8) HT_ (rbs 48 31) rfl rfl (by kernel_rfl) (fun _ _ _ h => h) (by rfl)
   ·intro w';go_simp;with_reducible rfl
   ·simp only [pS];rfl
   apply rpu 5 (some 9) HT_ (rbs 48 63) rfl rfl (by kernel_rfl) (fun _ _ _ h => h) (by rfl)
   ·intro w';go_simp;with_reducible rfl
   ·simp only [pS];rfl
   apply rtk 6 (some 10) HT_ HW_ hHeld (rbs 48 127) rfl rfl (by kernel_rfl) (fun _ _ _ h => h) (by rfl)
   ·rintro w' ⟨s0, s1, s2, s3, s4, s5, s6, s7, s8, s9, s10, s11, s12⟩;go_simp;with_reducible rfl
   ·simp only [pS];rfl
   refine gy (i := 7) (N := some 11) (rbs 48 255) rfl rfl (di HT_.out (by kernel_rfl)) (by decide) (fun K hK => ?_);refine dY Try.func57 (by kernel_rfl) rfl #[.slice (some ad271) l0_3.length c0_3] (by rfl) rfl rfl (by (try simp only [SB.lA, SB.lC, SB.lN]); first | done | rfl | (simp only [SB.lD, SB.lT]; rfl)) ?_;with_reducible refine (aM.calls k _ _ l0_3 true _ ?side1 ?side2 A6.out).mono ?_
   (case side1 => repeat (first | exact (Kd.dh HR0_3.out HB.out) | with_reducible first | refine Kd.bN ?_ _ | refine Kd.bM ?_ _ | refine Kd.dm ?_));(case side2 => exact HC0_3.out);rintro e w' ⟨rfl, ⟨nd, rfl⟩⟩;refine ⟨_, rfl, ?_⟩;refine hK.out _ _ ⟨(ag BK268.out 0).trans rfl, (ag BK268.out 1).trans rfl, (ag BK268.out 2).trans rfl, (ag BK268.out 3).trans rfl, (ag BK268.out 4).trans rfl, (ag BK268.out 5).trans rfl, (ag BK268.out 6).trans rfl, (ag BK268.out 7).trans rfl, (ag BK268.out 8).trans rfl, (ag BK268.out 9).trans rfl, (ag BK268.out 10).trans rfl, (ag BK268.out 11).trans rfl, ((HB.out.cell (World.block_lt_of_cell? w _ hw271_0)).trans hw271_0)⟩ (fun hHeld => ?_);clear hK K;refine dV (a' := ?_) ?_ ?_;rotate_left
   ·show Act.put _ (some 11) _ = _
    simp only [pS];rfl
   apply rpu 8 (some 12) HT_ (rbs 48 511) rfl rfl (by kernel_rfl) (fun _ _ _ h => h) (by rfl)
   ·intro w';go_simp;with_reducible rfl
   ·simp only [pS];rfl
   apply rpu 9 (some 13) HT_ (rbs 48 1023) rfl rfl (by kernel_rfl) (fun _ _ _ h => h) (by rfl)
   ·intro w';go_simp;with_reducible rfl
   ·simp only [pS];rfl
   apply rpu 10 (some 14) HT_ (rbs 48 2047) rfl rfl (by kernel_rfl) (fun _ _ _ h => h) (by rfl)
   ·intro w';go_simp;with_reducible rfl
   ·simp only [pS];rfl
   apply rpu 11 (some 15) HT_ (rbs 48 4095) rfl rfl (by kernel_rfl) (fun _ _ _ h => h) (by rfl)
   ·intro w';go_simp;with_reducible rfl
   ·simp only [pS];rfl
   apply rpu 14 (some 18) HT_ (rbs 48 20479) rfl rfl (by kernel_rfl) (fun _ _ _ h => h) (by rfl)
   ·intro w';go_simp;with_reducible rfl
   ·simp only [pS];rfl
   apply rpu 15 (some 19) HT_ (rbs 48 53247) rfl rfl (by kernel_rfl) (fun _ _ _ h => h) (by rfl)
   ·intro w';go_simp;with_reducible rfl
   ·simp only [pS];rfl
   apply rtk 12 (some 16) HT_ HW_ hHeld (rbs 48 57343) rfl rfl (by kernel_rfl) (fun _ _ _ h => h) (by rfl)
   ·rintro w' ⟨s0, s1, s2, s3, s4, s5, s6, s7, s8, s9, s10, s11, s12⟩;go_simp;with_reducible rfl
   ·simp only [pS];rfl
   apply rpu 13 (some 17) HT_ (rbs 48 65535) rfl rfl (by kernel_rfl) (fun _ _ _ h => h) (by rfl)
   ·intro w';go_simp;with_reducible rfl
   ·simp only [pS];rfl
   apply rtk 16 (some 20) HT_ HW_ hHeld (rbs 48 131071) rfl rfl (by kernel_rfl) (fun _ _ _ h => h) (by rfl)
   ·rintro w' ⟨s0, s1, s2, s3, s4, s5, s6, s7, s8, s9, s10, s11, s12⟩;go_simp;with_reducible rfl
   ·simp only [pS];rfl
   apply rpu 17 (some 21) HT_ (rbs 48 262143) rfl rfl (by kernel_rfl) (fun _ _ _ h => h) (by rfl)
   ·intro w';go_simp;with_reducible rfl
   ·simp only [pS];rfl
   apply rpu 18 (some 22) HT_ (rbs 48 524287) rfl rfl (by kernel_rfl) (fun _ _ _ h => h) (by rfl)
   ·intro w';go_simp;with_reducible rfl
   ·simp only [pS];rfl
   apply rpu 19 (some 23) HT_ (rbs 48 1048575) rfl rfl (by kernel_rfl) (fun _ _ _ h => h) (by rfl)
   ·intro w';go_simp;with_reducible rfl
   ·simp only [pS];rfl
   apply rpu 20 (some 24) HT_ (rbs 48 2097151) rfl rfl (by kernel_rfl) (fun _ _ _ h => h) (by rfl)
   ·intro w';go_simp;with_reducible rfl
   ·simp only [pS];rfl
   apply rtk 21 (some 25) HT_ HW_ hHeld (rbs 48 4194303) rfl rfl (by kernel_rfl) (fun _ _ _ h => h) (by rfl)
   ·rintro w' ⟨s0, s1, s2, s3, s4, s5, s6, s7, s8, s9, s10, s11, s12⟩;go_simp;with_reducible rfl
   ·simp only [pS];rfl
   apply rpu 22 (some 26) HT_ (rbs 48 8388607) rfl rfl (by kernel_rfl) (fun _ _ _ h => h) (by rfl)
   ·intro w';go_simp;with_reducible rfl
   ·simp only [pS];rfl
   apply rpu 23 (some 27) HT_ (rbs 48 16777215) rfl rfl (by kernel_rfl) (fun _ _ _ h => h) (by rfl)
   ·intro w';go_simp;with_reducible rfl
   ·simp only [pS];rfl
   apply rpu 24 (some 28) HT_ (rbs 48 33554431) rfl rfl (by kernel_rfl) (fun _ _ _ h => h) (by rfl)
   ·intro w';go_simp;with_reducible rfl
   ·simp only [pS];rfl
   apply rpu 25 (some 29) HT_ (rbs 48 67108863) rfl rfl (by kernel_rfl) (fun _ _ _ h => h) (by rfl)
   ·intro w';go_simp;with_reducible rfl
   ·simp only [pS];rfl
   apply rtk 26 (some 30) HT_ HW_ hHeld (rbs 48 134217727) rfl rfl (by kernel_rfl) (fun _ _ _ h => h) (by rfl)
   ·rintro w' ⟨s0, s1, s2, s3, s4, s5, s6, s7, s8, s9, s10, s11, s12⟩;go_simp;with_reducible rfl
   ·simp only [pS];rfl
   apply rpu 27 (some 31) HT_ (rbs 48 268435455) rfl rfl (by kernel_rfl) (fun _ _ _ h => h) (by rfl)
   ·intro w';go_simp;with_reducible rfl
   ·simp only [pS];rfl
   apply rpu 28 (some 32) HT_ (rbs 48 536870911) rfl rfl (by kernel_rfl) (fun _ _ _ h => h) (by rfl)
   ·intro w';go_simp;with_reducible rfl
   ·simp only [pS];rfl
   apply rpu 29 (some 33) HT_ (rbs 48 1073741823) rfl rfl (by kernel_rfl) (fun _ _ _ h => h) (by rfl)
   ·intro w';go_simp;with_reducible rfl
   ·simp only [pS];rfl
   apply rpu 30 (some 34) HT_ (rbs 48 2147483647) rfl rfl (by kernel_rfl) (fun _ _ _ h => h) (by rfl)
   ·intro w';go_simp;with_reducible rfl
   ·simp only [pS];rfl
   apply rpu 32 (some 36) HT_ (rbs 48 6442450943) rfl rfl (by kernel_rfl) (fun _ _ _ h => h) (by rfl)
   ·intro w';go_simp;with_reducible rfl
   ·simp only [pS];rfl
   apply rpu 34 (some 38) HT_ (rbs 48 23622320127) rfl rfl (by kernel_rfl) (fun _ _ _ h => h) (by rfl)
   ·intro w';go_simp;with_reducible rfl
   ·simp only [pS];rfl
   apply rpu 35 (some 39) HT_ (rbs 48 57982058495) rfl rfl (by kernel_rfl) (fun _ _ _ h => h) (by rfl)
   ·intro w';go_simp;with_reducible rfl
   ·simp only [pS];rfl
   apply rtk 31 (some 35) HT_ HW_ hHeld (rbs 48 60129542143) rfl rfl (by kernel_rfl) (fun _ _ _ h => h) (by rfl)
   ·rintro w' ⟨s0, s1, s2, s3, s4, s5, s6, s7, s8, s9, s10, s11, s12⟩;go_simp;with_reducible rfl
   ·simp only [pS];rfl
   apply rtk 33 (some 37) HT_ HW_ hHeld (rbs 48 68719476735) rfl rfl (by kernel_rfl) (fun _ _ _ h => h) (by rfl)
   ·rintro w' ⟨s0, s1, s2, s3, s4, s5, s6, s7, s8, s9, s10, s11, s12⟩;go_simp;with_reducible rfl
   ·simp only [pS];rfl
   apply rtk 36 (some 40) HT_ HW_ hHeld (rbs 48 137438953471) rfl rfl (by kernel_rfl) (fun _ _ _ h => h) (by rfl)
   ·rintro w' ⟨s0, s1, s2, s3, s4, s5, s6, s7, s8, s9, s10, s11, s12⟩;go_simp;with_reducible rfl
   ·simp only [pS];rfl
   apply rpu 37 (some 41) HT_ (rbs 48 274877906943) rfl rfl (by kernel_rfl) (fun _ _ _ h => h) (by rfl)
   ·intro w';go_simp;with_reducible rfl
   ·simp only [pS];rfl
   apply rtk 38 (some 42) HT_ HW_ hHeld (rbs 48 549755813887) rfl rfl (by kernel_rfl) (fun _ _ _ h => h) (by rfl)
   ·rintro w' ⟨s0, s1, s2, s3, s4, s5, s6, s7, s8, s9, s10, s11, s12⟩;go_simp;with_reducible rfl
   ·simp only [pS];rfl
   apply rpu 39 (some 43) HT_ (rbs 48 1099511627775) rfl rfl (by kernel_rfl) (fun _ _ _ h => h) (by rfl)
   ·intro w';go_simp;with_reducible rfl
   ·simp only [pS];rfl
   apply rpu 40 (some 44) HT_ (rbs 48 2199023255551) rfl rfl (by kernel_rfl) (fun _ _ _ h => h) (by rfl)
   ·intro w';go_simp;with_reducible rfl
   ·simp only [pS];rfl
   apply rpu 41 (some 45) HT_ (rbs 48 4398046511103) rfl rfl (by kernel_rfl) (fun _ _ _ h => h) (by rfl)
   ·intro w';go_simp;with_reducible rfl
   ·simp only [pS];rfl
   apply rpu 42 (some 46) HT_ (rbs 48 8796093022207) rfl rfl (by kernel_rfl) (fun _ _ _ h => h) (by rfl)
   ·intro w';go_simp;with_reducible rfl
   ·simp only [pS];rfl
   apply rpf 43 (some 47) HT_ (rbs 48 17592186044415) rfl rfl (by kernel_rfl) (fun _ _ _ h => h) (by rfl)
   ·simp only [pS];rfl
   apply rpf 44 (some 48) HT_ (rbs 48 35184372088831) rfl rfl (by kernel_rfl) (fun _ _ _ h => h) (by rfl)
   ·simp only [pS];rfl
   apply rpf 45 (some 49) HT_ (rbs 48 70368744177663) rfl rfl (by kernel_rfl) (fun _ _ _ h => h) (by rfl)
   ·simp only [pS];rfl
   apply rpf 46 (some 50) HT_ (rbs 48 140737488355327) rfl rfl (by kernel_rfl) (fun _ _ _ h => h) (by rfl)
   ·simp only [pS];rfl
   apply rpu 47 (some 51) HT_ (rbs 48 281474976710655) rfl rfl (by kernel_rfl) (fun _ _ _ h => h) (by rfl)
   ·intro w';go_simp;with_reducible rfl
   ·simp only [pS];rfl
   refine gz (dS HT_.out (by kernel_rfl)) ?_;try go_wp2
   go_meet
   case rel => exact ⟨_, (true), (by first | rfl | (simp; done) | (simp [*]; done)), H', ⟨by first | omega | exact Nat.le_refl _⟩, ⟨by exact BK268.out⟩, ⟨by exact rud HB.out rfl rfl rfl rfl⟩⟩
  rw [if_pos c19] at H;have c19b0 : (a0_2 == (wrap64 ((rd l0_3 a0_1) + 1))) = true := beq_iff_eq.mpr c19;have c19b1 : (a0_2 != (wrap64 ((rd l0_3 a0_1) + 1))) = false := bne_eq_false_iff_eq.mpr c19;clear c19;replace H := Option.bind_eq_some_iff.mp H;obtain ⟨t272, A200, H⟩ := H;replace H : (ai.j0 k (!t272) a0_0 a0_1 a0_2 l0_3 a0_4 a0_5 a0_6 a0_7 a0_8 a0_9 a0_10 a0_11) = some r := H;have A20 := aa.mk A200;clear A200;have H' := aa.mk H;clear H;try go_wp2
  have n0_ := aa.mk (av BK268.out);have n1_ := aa.mk (aJ HB.out);clear BK268 HB;have BK268 := n0_;have HB := n1_;clear n0_ n1_;have p271 : 0 ≤ (a0_1 : Int) := of_decide_eq_true (by first | (with_reducible assumption) | assumption);have q271 : a0_1 < (l0_3.length : Int) := of_decide_eq_true (by first | (with_reducible assumption) | assumption);obtain ⟨ad271, e271, hx271_0⟩ := Kd.fG HR0_3.out a0_1 p271 q271;have hw271_0 := hx271_0;cases e271
  replace hx271_0 := (HB.out.cell (World.block_lt_of_cell? w _ hx271_0)).trans hx271_0;replace p271 := eq_true p271;replace q271 := eq_true q271;refine eD (n := 48) (S := fun w' => w'.cell? ⟨gb268, 0, none⟩ = some (.int .i64 a0_0) ∧ w'.cell? ⟨gb268, 1, none⟩ = some (.int .i64 a0_1) ∧ w'.cell? ⟨gb268, 2, none⟩ = some (.int .i64 a0_2) ∧ w'.cell? ⟨gb268, 3, none⟩ = some (.slice (some ad271) l0_3.length c0_3) ∧ w'.cell? ⟨gb268, 4, none⟩ = some (.int .i64 a0_4) ∧ w'.cell? ⟨gb268, 5, none⟩ = some (.int .i64 a0_5) ∧ w'.cell? ⟨gb268, 6, none⟩ = some (.int .i64 a0_6) ∧ w'.cell? ⟨gb268, 7, none⟩ = some (.int .i64 a0_7) ∧ w'.cell? ⟨gb268, 8, none⟩ = some (.int .i64 a0_8) ∧ w'.cell? ⟨gb268, 9, none⟩ = some (.string a0_9) ∧ w'.cell? ⟨gb268, 10, none⟩ = some (.int .i64 a0_10) ∧ w'.cell? ⟨gb268, 11, none⟩ = some (.int .i64 a0_11) ∧ w'.cell? (ad271.add (a0_1).toNat) = some (.int .i64 (rd l0_3 a0_1))) (ds := []) (rbs 48 0) (by kernel_rfl) rfl rfl ⟨(ag BK268.out 0).trans rfl, (ag BK268.out 1).trans rfl, (ag BK268.out 2).trans rfl, (ag BK268.out 3).trans rfl, (ag BK268.out 4).trans rfl, (ag BK268.out 5).trans rfl, (ag BK268.out 6).trans rfl, (ag BK268.out 7).trans rfl, (ag BK268.out 8).trans rfl, (ag BK268.out 9).trans rfl, (ag BK268.out 10).trans rfl, (ag BK268.out 11).trans rfl, ((HB.out.cell (World.block_lt_of_cell? w _ hw271_0)).trans hw271_0)⟩ (fun hHeld => ?_); refine dx ai.tab1 ai.bits1 (fun HT_ HW_ => ?_);generalize w3.drew = w21 at BK268 HB hx271_0 hHeld ⊢;apply rpu 0 (some 4) HT_ (rbs 48 1) rfl rfl (by kernel_rfl) (fun _ _ _ h => h) (by rfl)
  ·intro w';go_simp;with_reducible rfl
  ·simp only [pS];rfl
  apply rtk 1 (some 5) HT_ HW_ hHeld (rbs 48 3) rfl rfl (by kernel_rfl) (fun _ _ _ h => h) (by rfl)
  ·rintro w' ⟨s0, s1, s2, s3, s4, s5, s6, s7, s8, s9, s10, s11, s12⟩;go_simp;with_reducible rfl
  ·simp only [pS];rfl
  refine gy (i := 2) (N := some 6) (rbs 48 7) rfl rfl (di HT_.out (by kernel_rfl)) (by decide) (fun K hK => ?_);refine dY Try.func56 (by kernel_rfl) rfl #[.agg #[.int .i64 a0_0, .int .i64 a0_1]] (by rfl) rfl rfl (by (try simp only [SB.lA, SB.lC, SB.lN]); first | done | rfl | (simp only [SB.lD, SB.lT]; rfl)) ?_;with_reducible refine (cu.calls a0_0 a0_1 true _ A4.out).mono ?_
  rintro e w22 ⟨rfl, hb⟩;refine ⟨_, rfl, ?_⟩;replace hb : Below (World.heap w21).size w21 w22 := ⟨hb.os, hb.tape, hb.output, hb.size, hb.block⟩
  have n0_ := aa.mk (aZ BK268.out hb);have n1_ := aa.mk (aj HB.out hb);clear BK268 HB;have BK268 := n0_;have HB := n1_;clear n0_ n1_;(try clear hb hb2 hk hi);refine hK.out _ _ ⟨(ag BK268.out 0).trans rfl, (ag BK268.out 1).trans rfl, (ag BK268.out 2).trans rfl, (ag BK268.out 3).trans rfl, (ag BK268.out 4).trans rfl, (ag BK268.out 5).trans rfl, (ag BK268.out 6).trans rfl, (ag BK268.out 7).trans rfl, (ag BK268.out 8).trans rfl, (ag BK268.out 9).trans rfl, (ag BK268.out 10).trans rfl, (ag BK268.out 11).trans rfl, ((HB.out.cell (World.block_lt_of_cell? w _ hw271_0)).trans hw271_0)⟩ (fun hHeld => ?_);clear hK K;refine dV (a' := ?_) ?_ ?_;rotate_left
  ·show Act.put _ (some 6) _ = _
   simp only [pS];rfl
  apply rpu 3 (some 7) HT_ (rbs 48 15) rfl rfl (by kernel_rfl) (fun _ _ _ h => h) (by rfl)
  ·intro w';go_simp;with_reducible rfl
  ·simp only [pS];rfl
  apply rpu 4 (some 8) HT_ (rbs 48 31) rfl rfl (by kernel_rfl) (fun _ _ _ h => h) (by rfl)
  ·intro w';go_simp;with_reducible rfl
  ·simp only [pS];rfl
  apply rpu 5 (some 9) HT_ (rbs 48 63) rfl rfl (by kernel_rfl) (fun _ _ _ h => h) (by rfl)
  ·intro w';go_simp;with_reducible rfl
  ·simp only [pS];rfl
  apply rtk 6 (some 10) HT_ HW_ hHeld (rbs 48 127) rfl rfl (by kernel_rfl) (fun _ _ _ h => h) (by rfl)
  ·rintro w' ⟨s0, s1, s2, s3, s4, s5, s6, s7, s8, s9, s10, s11, s12⟩;go_simp;with_reducible rfl
  ·simp only [pS];rfl
  refine gy (i := 7) (N := some 11) (rbs 48 255) rfl rfl (di HT_.out (by kernel_rfl)) (by decide) (fun K hK => ?_);refine dY Try.func57 (by kernel_rfl) rfl #[.slice (some ad271) l0_3.length c0_3] (by rfl) rfl rfl (by (try simp only [SB.lA, SB.lC, SB.lN]); first | done | rfl | (simp only [SB.lD, SB.lT]; rfl)) ?_;with_reducible refine (aM.calls k _ _ l0_3 true _ ?side1 ?side2 A6.out).mono ?_
  (case side1 => repeat (first | exact (Kd.dh HR0_3.out HB.out) | with_reducible first | refine Kd.bN ?_ _ | refine Kd.bM ?_ _ | refine Kd.dm ?_));(case side2 => exact HC0_3.out);rintro e w' ⟨rfl, ⟨nd, rfl⟩⟩;refine ⟨_, rfl, ?_⟩;refine hK.out _ _ ⟨(ag BK268.out 0).trans rfl, (ag BK268.out 1).trans rfl, (ag BK268.out 2).trans rfl, (ag BK268.out 3).trans rfl, (ag BK268.out 4).trans rfl, (ag BK268.out 5).trans rfl, (ag BK268.out 6).trans rfl, (ag BK268.out 7).trans rfl, (ag BK268.out 8).trans rfl, (ag BK268.out 9).trans rfl, (ag BK268.out 10).trans rfl, (ag BK268.out 11).trans rfl, ((HB.out.cell (World.block_lt_of_cell? w _ hw271_0)).trans hw271_0)⟩ (fun hHeld => ?_);clear hK K;refine dV (a' := ?_) ?_ ?_;rotate_left
  ·show Act.put _ (some 11) _ = _
   simp only [pS];rfl
  apply rpu 8 (some 12) HT_ (rbs 48 511) rfl rfl (by kernel_rfl) (fun _ _ _ h => h) (by rfl)
  ·intro w';go_simp;with_reducible rfl
  ·simp only [pS];rfl
  apply rpu 9 (some 13) HT_ (rbs 48 1023) rfl rfl (by kernel_rfl) (fun _ _ _ h => h) (by rfl)
  ·intro w';go_simp;with_reducible rfl
  ·simp only [pS];rfl
  apply rpu 10 (some 14) HT_ (rbs 48 2047) rfl rfl (by kernel_rfl) (fun _ _ _ h => h) (by rfl)
  ·intro w';go_simp;with_reducible rfl
  ·simp only [pS];rfl
  apply rpu 11 (some 15) HT_ (rbs 48 4095) rfl rfl (by kernel_rfl) (fun _ _ _ h => h) (by rfl)
  ·intro w';go_simp;with_reducible rfl
  ·simp only [pS];rfl
  apply rpu 14 (some 18) HT_ (rbs 48 20479) rfl rfl (by kernel_rfl) (fun _ _ _ h => h) (by rfl)
  ·intro w';go_simp;with_reducible rfl
  ·simp only [pS];rfl
  apply rpu 15 (some 19) HT_ (rbs 48 53247) rfl rfl (by kernel_rfl) (fun _ _ _ h => h) (by rfl)
  ·intro w';go_simp;with_reducible rfl
  ·simp only [pS];rfl
  apply rtk 12 (some 16) HT_ HW_ hHeld (rbs 48 57343) rfl rfl (by kernel_rfl) (fun _ _ _ h => h) (by rfl)
  ·rintro w' ⟨s0, s1, s2, s3, s4, s5, s6, s7, s8, s9, s10, s11, s12⟩;go_simp;with_reducible rfl
  ·simp only [pS];rfl
  apply rpu 13 (some 17) HT_ (rbs 48 65535) rfl rfl (by kernel_rfl) (fun _ _ _ h => h) (by rfl)
  ·intro w';go_simp;with_reducible rfl
  ·simp only [pS];rfl
  apply rtk 16 (some 20) HT_ HW_ hHeld (rbs 48 131071) rfl rfl (by kernel_rfl) (fun _ _ _ h => h) (by rfl)
  ·rintro w' ⟨s0, s1, s2, s3, s4, s5, s6, s7, s8, s9, s10, s11, s12⟩;go_simp;with_reducible rfl
  ·simp only [pS];rfl
  apply rpu 17 (some 21) HT_ (rbs 48 262143) rfl rfl (by kernel_rfl) (fun _ _ _ h => h) (by rfl)
  ·intro w';go_simp;with_reducible rfl
  ·simp only [pS];rfl
  apply rpu 18 (some 22) HT_ (rbs 48 524287) rfl rfl (by kernel_rfl) (fun _ _ _ h => h) (by rfl)
  ·intro w';go_simp;with_reducible rfl
  ·simp only [pS];rfl
  apply rpu 19 (some 23) HT_ (rbs 48 1048575) rfl rfl (by kernel_rfl) (fun _ _ _ h => h) (by rfl)
  ·intro w';go_simp;with_reducible rfl
  ·simp only [pS];rfl
  apply rpu 20 (some 24) HT_ (rbs 48 2097151) rfl rfl (by kernel_rfl) (fun _ _ _ h => h) (by rfl)
  ·intro w';go_simp;with_reducible rfl
  ·simp only [pS];rfl
  apply rtk 21 (some 25) HT_ HW_ hHeld (rbs 48 4194303) rfl rfl (by kernel_rfl) (fun _ _ _ h => h) (by rfl)
  ·rintro w' ⟨s0, s1, s2, s3, s4, s5, s6, s7, s8, s9, s10, s11, s12⟩;go_simp;with_reducible rfl
  ·simp only [pS];rfl
  apply rpu 22 (some 26) HT_ (rbs 48 8388607) rfl rfl (by kernel_rfl) (fun _ _ _ h => h) (by rfl)
  ·intro w';go_simp;with_reducible rfl
  ·simp only [pS];rfl
  apply rpu 23 (some 27) HT_ (rbs 48 16777215) rfl rfl (by kernel_rfl) (fun _ _ _ h => h) (by rfl)
  ·intro w';go_simp;with_reducible rfl
  ·simp only [pS];rfl
  apply rpu 24 (some 28) HT_ (rbs 48 33554431) rfl rfl (by kernel_rfl) (fun _ _ _ h => h) (by rfl)
  ·intro w';go_simp;with_reducible rfl
  ·simp only [pS];rfl
  apply rpu 25 (some 29) HT_ (rbs 48 67108863) rfl rfl (by kernel_rfl) (fun _ _ _ h => h) (by rfl)
  ·intro w';go_simp;with_reducible rfl
  ·simp only [pS];rfl
  apply rtk 26 (some 30) HT_ HW_ hHeld (rbs 48 134217727) rfl rfl (by kernel_rfl) (fun _ _ _ h => h) (by rfl)
  ·rintro w' ⟨s0, s1, s2, s3, s4, s5, s6, s7, s8, s9, s10, s11, s12⟩;go_simp;with_reducible rfl
  ·simp only [pS];rfl
  apply rpu 27 (some 31) HT_ (rbs 48 268435455) rfl rfl (by kernel_rfl) (fun _ _ _ h => h) (by rfl)
  ·intro w';go_simp;with_reducible rfl
  ·simp only [pS];rfl
  apply rpu 28 (some 32) HT_ (rbs 48 536870911) rfl rfl (by kernel_rfl) (fun _ _ _ h => h) (by rfl)
  ·intro w';go_simp;with_reducible rfl
  ·simp only [pS];rfl
  apply rpu 29 (some 33) HT_ (rbs 48 1073741823) rfl rfl (by kernel_rfl) (fun _ _ _ h => h) (by rfl)
  ·intro w';go_simp;with_reducible rfl
  ·simp only [pS];rfl
  apply rpu 30 (some 34) HT_ (rbs 48 2147483647) rfl rfl (by kernel_rfl) (fun _ _ _ h => h) (by rfl)
  ·intro w';go_simp;with_reducible rfl
  ·simp only [pS];rfl
  apply rpu 32 (some 36) HT_ (rbs 48 6442450943) rfl rfl (by kernel_rfl) (fun _ _ _ h => h) (by rfl)
  ·intro w';go_simp;with_reducible rfl
  ·simp only [pS];rfl
  apply rpu 34 (some 38) HT_ (rbs 48 23622320127) rfl rfl (by kernel_rfl) (fun _ _ _ h => h) (by rfl)
  ·intro w';go_simp;with_reducible rfl
  ·simp only [pS];rfl
  apply rpu 35 (some 39) HT_ (rbs 48 57982058495) rfl rfl (by kernel_rfl) (fun _ _ _ h => h) (by rfl)
  ·intro w';go_simp;with_reducible rfl
  ·simp only [pS];rfl
  apply rtk 31 (some 35) HT_ HW_ hHeld (rbs 48 60129542143) rfl rfl (by kernel_rfl) (fun _ _ _ h => h) (by rfl)
  ·rintro w' ⟨s0, s1, s2, s3, s4, s5, s6, s7, s8, s9, s10, s11, s12⟩;go_simp;with_reducible rfl
  ·simp only [pS];rfl
  apply rtk 33 (some 37) HT_ HW_ hHeld (rbs 48 68719476735) rfl rfl (by kernel_rfl) (fun _ _ _ h => h) (by rfl)
  ·rintro w' ⟨s0, s1, s2, s3, s4, s5, s6, s7, s8, s9, s10, s11, s12⟩;go_simp;with_reducible rfl
  ·simp only [pS];rfl
  apply rtk 36 (some 40) HT_ HW_ hHeld (rbs 48 137438953471) rfl rfl (by kernel_rfl) (fun _ _ _ h => h) (by rfl)
  ·rintro w' ⟨s0, s1, s2, s3, s4, s5, s6, s7, s8, s9, s10, s11, s12⟩;go_simp;with_reducible rfl
  ·simp only [pS];rfl
  apply rpu 37 (some 41) HT_ (rbs 48 274877906943) rfl rfl (by kernel_rfl) (fun _ _ _ h => h) (by rfl)
  ·intro w';go_simp;with_reducible rfl
  ·simp only [pS];rfl
  apply rtk 38 (some 42) HT_ HW_ hHeld (rbs 48 549755813887) rfl rfl (by kernel_rfl) (fun _ _ _ h => h) (by rfl)
  ·rintro w' ⟨s0, s1, s2, s3, s4, s5, s6, s7, s8, s9, s10, s11, s12⟩;go_simp;with_reducible rfl
  ·simp only [pS];rfl
  apply rpu 39 (some 43) HT_ (rbs 48 1099511627775) rfl rfl (by kernel_rfl) (fun _ _ _ h => h) (by rfl)
  ·intro w';go_simp;with_reducible rfl
  ·simp only [pS];rfl
  apply rpu 40 (some 44) HT_ (rbs 48 2199023255551) rfl rfl (by kernel_rfl) (fun _ _ _ h => h) (by rfl)
  ·intro w';go_simp;with_reducible rfl
  ·simp only [pS];rfl
  apply rpu 41 (some 45) HT_ (rbs 48 4398046511103) rfl rfl (by kernel_rfl) (fun _ _ _ h => h) (by rfl)
  ·intro w';go_simp;with_reducible rfl
  ·simp only [pS];rfl
  apply rpu 42 (some 46) HT_ (rbs 48 8796093022207) rfl rfl (by kernel_rfl) (fun _ _ _ h => h) (by rfl)
  ·intro w';go_simp;with_reducible rfl
  ·simp only [pS];rfl
  apply rpu 43 (some 47) HT_ (rbs 48 17592186044415) rfl rfl (by kernel_rfl) (fun _ _ _ h => h) (by rfl)
  ·intro w';go_simp;with_reducible rfl
  ·simp only [pS];rfl
  apply rtk 44 (some 48) HT_ HW_ hHeld (rbs 48 35184372088831) rfl rfl (by kernel_rfl) (fun _ _ _ h => h) (by rfl)
  ·rintro w' ⟨s0, s1, s2, s3, s4, s5, s6, s7, s8, s9, s10, s11, s12⟩;go_simp;with_reducible rfl
  ·simp only [pS];rfl
  refine gy (i := 45) (N := some 49) (rbs 48 70368744177663) rfl rfl (di HT_.out (by kernel_rfl)) (by decide) (fun K hK => ?_);refine dY Try.func56 (by kernel_rfl) rfl #[.agg #[.int .i64 a0_5, .int .i64 a0_6]] (by rfl) rfl rfl (by (try simp only [SB.lA, SB.lC, SB.lN]); first | done | rfl | (simp only [SB.lD, SB.lT]; rfl)) ?_;with_reducible refine (cu.calls a0_5 a0_6 t272 _ A20.out).mono ?_
  rintro e w23 ⟨rfl, hb⟩;refine ⟨_, rfl, ?_⟩;replace hb : Below (World.heap w22).size w22 w23 := ⟨hb.os, hb.tape, hb.output, hb.size, hb.block⟩
  have n0_ := aa.mk (aZ BK268.out hb);have n1_ := aa.mk (aj HB.out hb);clear BK268 HB;have BK268 := n0_;have HB := n1_;clear n0_ n1_;(try clear hb hb2 hk hi);refine hK.out _ _ ⟨(ag BK268.out 0).trans rfl, (ag BK268.out 1).trans rfl, (ag BK268.out 2).trans rfl, (ag BK268.out 3).trans rfl, (ag BK268.out 4).trans rfl, (ag BK268.out 5).trans rfl, (ag BK268.out 6).trans rfl, (ag BK268.out 7).trans rfl, (ag BK268.out 8).trans rfl, (ag BK268.out 9).trans rfl, (ag BK268.out 10).trans rfl, (ag BK268.out 11).trans rfl, ((HB.out.cell (World.block_lt_of_cell? w _ hw271_0)).trans hw271_0)⟩ (fun hHeld => ?_);clear hK K;refine dV (a' := ?_) ?_ ?_;rotate_left
  ·show Act.put _ (some 49) _ = _
   simp only [pS];rfl
  apply rpu 46 (some 50) HT_ (rbs 48 140737488355327) rfl rfl (by kernel_rfl) (fun _ _ _ h => h) (by rfl)
  ·intro w';go_simp;with_reducible rfl
  ·simp only [pS];rfl
  apply rpu 47 (some 51) HT_ (rbs 48 281474976710655) rfl rfl (by kernel_rfl) (fun _ _ _ h => h) (by rfl)
  ·intro w';go_simp;with_reducible rfl
  ·simp only [pS];rfl
  refine gz (dS HT_.out (by kernel_rfl)) ?_;try go_wp2
  go_meet
  case rel => exact ⟨_, (!t272), (by first | rfl | (simp; done) | (simp [*]; done)), H', ⟨by first | omega | exact Nat.le_refl _⟩, ⟨by exact BK268.out⟩, ⟨by exact rud HB.out rfl rfl rfl rfl⟩⟩
 case rest =>
  clear HC2;(try clear p2 c5);obtain ⟨kq, x51_1, rfl, HA, HJ1, BK268, HB⟩ := hcut;cases kq with
  | zero => exact absurd HA.out (by simp [ai.j0])
  | succ kj1 =>
   have H := HA.out;clear HA;simp only [ai.j0] at H;by_cases c30 : x51_1 = true
   ·subst c30
    have H1 : (some false) = some r := by rw [if_pos rfl] at H; exact H
    clear H;have H := H1;clear H1;obtain rfl := Option.some.inj H;go_wp2;go_ret;exact ⟨by first | rfl | (simp [au, ak] <;> rfl) | (simp [*, au, ak] <;> rfl), by exact rud HB.out rfl rfl rfl rfl⟩
   replace c30 := Bool.eq_false_iff.mpr c30;subst c30;have H1 : (if a0_4 = 1 then ((aV.f kj1 a0_0 a0_1 a0_2 l0_3 a0_4 a0_5 a0_6 a0_7 a0_8 a0_9 0 0 a0_0 a0_1 a0_2 l0_3 a0_4 a0_5 a0_6 a0_7 a0_8 a0_9 a0_10 a0_11).bind fun t274 => (if t274 = true then ((df.f a0_7 a0_8).bind fun t275 => (if t275 = true then ((fD.f a0_9).bind fun t276 => (some t276)) else (some false))) else (some false))) else (if a0_4 = 2 then ((aV.f kj1 a0_0 a0_1 a0_2 l0_3 a0_4 a0_5 a0_6 0 0 (⟨#[]⟩ : ByteArray) a0_10 a0_11 a0_0 a0_1 a0_2 l0_3 a0_4 a0_5 a0_6 a0_7 a0_8 a0_9 a0_10 a0_11).bind fun t277 => (if t277 = true then ((bO.f kj1 a0_10 a0_11).bind fun t278 => (some (t278 == 0))) else (some false))) else (some false))) = some r := by rw [if_neg (show ¬ (false = true) by decide)] at H; exact H
   clear H;have H := H1;clear H1;by_cases c31 : a0_4 = 1;rotate_left
   ·rw [if_neg c31] at H
    have c31b0 : (a0_4 == 1) = false := beq_eq_false_iff_ne.mpr c31;have c31b1 : (a0_4 != 1) = true := bne_iff_ne.mpr c31;by_cases c81 : a0_4 = 2;rotate_left
    ·rw [if_neg c81] at H
     have c81b0 : (a0_4 == 2) = false := beq_eq_false_iff_ne.mpr c81;have c81b1 : (a0_4 != 2) = true := bne_iff_ne.mpr c81;obtain rfl := Option.some.inj H;obtain ⟨C32_0, C32_1, C32_2, C32_3, C32_4, C32_5, C32_6, C32_7, C32_8, C32_9, C32_a, C32_b⟩ := LB.aK BK268.out;obtain ⟨F32_0, F32_1, F32_2, F32_3, F32_4, F32_5, F32_6, F32_7, F32_8, F32_9, F32_a, F32_b⟩ := LB.aU BK268.out;go_wp2_with (first | ((with_reducible refine bJ (N := 3) rfl ?_); (try (refine fH (by rfl) ?_; dsimp only)); refine bD ?hg (N := 3) ?hd (cs := #[.int .i64 0, .int .i64 0, .int .i64 0, .slice none 0 0, .int .i64 0, .int .i64 0, .int .i64 0, .int .i64 0, .int .i64 0, .string (⟨#[]⟩ : ByteArray), .int .i64 0, .int .i64 0]) (t := 28) ?hr ?_; (case hd => rfl); (case hg => rfl); (case hr => first | (go_simp; done) | (go_simp; rfl)); intro gb273 hg w111 hbox hb; replace hb : Below (World.heap wc).size wc w111 := ⟨hb.os, hb.tape, hb.output, hb.size, hb.block⟩; have n0_ := aa.mk (aZ BK268.out hb); have n1_ := aa.mk (aj HB.out hb); have n2_ := aa.mk (hbox); have n3_ := aa.mk ((by rw [hg]; exact HB.out.size : w.heap.size ≤ gb273)); have n4_ := n3_; have n5_ := aa.mk ((by rw [hg]; exact Nat.ne_of_lt (gB BK268.out) : gb268 ≠ gb273)); have n6_ := aa.mk (Ne.symm n5_.out); clear BK268 HB; have BK268 := n0_; have HB := n1_; have BK273 := n2_; have GW273 := n3_; have GE273 := n4_; have NB268_273 := n5_; have NB273_268 := n6_; clear n0_ n1_ n2_ n3_ n4_ n5_ n6_ hb hbox hg; have hnb112 := NB273_268.out; have hnc112 := NB268_273.out; obtain ⟨C35_0, C35_1, C35_2, C35_3, C35_4, C35_5, C35_6, C35_7, C35_8, C35_9, C35_a, C35_b⟩ := LB.aK BK273.out; obtain ⟨F35_0, F35_1, F35_2, F35_3, F35_4, F35_5, F35_6, F35_7, F35_8, F35_9, F35_a, F35_b⟩ := LB.aU BK273.out; obtain ⟨C36_0, C36_1, C36_2, C36_3, C36_4, C36_5, C36_6, C36_7, C36_8, C36_9, C36_a, C36_b⟩ := LB.aK BK268.out; obtain ⟨F36_0, F36_1, F36_2, F36_3, F36_4, F36_5, F36_6, F36_7, F36_8, F36_9, F36_a, F36_b⟩ := LB.aU BK268.out));go_ret;exact ⟨by first | rfl | (simp [au, ak] <;> rfl) | (simp [*, au, ak] <;> rfl), by repeat (first | (with_reducible first | exact HB.out | apply bq | apply aT | apply aJ | refine aW ?_ GE268.out | refine aW ?_ GE273.out) | exact HB.out)⟩
    rw [if_pos c81] at H;have c81b0 : (a0_4 == 2) = true := beq_iff_eq.mpr c81;have c81b1 : (a0_4 != 2) = false := bne_eq_false_iff_eq.mpr c81;clear c81;replace H := Option.bind_eq_some_iff.mp H;obtain ⟨t277, A820, H⟩ := H;replace H : (if t277 = true then ((bO.f kj1 a0_10 a0_11).bind fun t278 => (some (t278 == 0))) else (some false)) = some r := H;have A82 := aa.mk A820;clear A820;by_cases c83 : t277 = true;rotate_left
    ·replace c83 := Bool.eq_false_iff.mpr c83
     subst c83;have H1 : (some false) = some r := by rw [if_neg (show ¬ (false = true) by decide)] at H; exact H
     clear H;have H := H1;clear H1;obtain rfl := Option.some.inj H;obtain ⟨C2q_0, C2q_1, C2q_2, C2q_3, C2q_4, C2q_5, C2q_6, C2q_7, C2q_8, C2q_9, C2q_a, C2q_b⟩ := LB.aK BK268.out;obtain ⟨F2q_0, F2q_1, F2q_2, F2q_3, F2q_4, F2q_5, F2q_6, F2q_7, F2q_8, F2q_9, F2q_a, F2q_b⟩ := LB.aU BK268.out;try go_wp2_with (first | ((with_reducible refine bJ (N := 3) rfl ?_); (try (refine fH (by rfl) ?_; dsimp only)); refine bD ?hg (N := 3) ?hd (cs := #[.int .i64 0, .int .i64 0, .int .i64 0, .slice none 0 0, .int .i64 0, .int .i64 0, .int .i64 0, .int .i64 0, .int .i64 0, .string (⟨#[]⟩ : ByteArray), .int .i64 0, .int .i64 0]) (t := 28) ?hr ?_; (case hd => rfl); (case hg => rfl); (case hr => first | (go_simp; done) | (go_simp; rfl)); intro gb273 hg w99 hbox hb; replace hb : Below (World.heap wc).size wc w99 := ⟨hb.os, hb.tape, hb.output, hb.size, hb.block⟩; have n0_ := aa.mk (aZ BK268.out hb); have n1_ := aa.mk (aj HB.out hb); have n2_ := aa.mk (hbox); have n3_ := aa.mk ((by rw [hg]; exact HB.out.size : w.heap.size ≤ gb273)); have n4_ := n3_; have n5_ := aa.mk ((by rw [hg]; exact Nat.ne_of_lt (gB BK268.out) : gb268 ≠ gb273)); have n6_ := aa.mk (Ne.symm n5_.out); clear BK268 HB; have BK268 := n0_; have HB := n1_; have BK273 := n2_; have GW273 := n3_; have GE273 := n4_; have NB268_273 := n5_; have NB273_268 := n6_; clear n0_ n1_ n2_ n3_ n4_ n5_ n6_ hb hbox hg; have hnb100 := NB273_268.out; have hnc100 := NB268_273.out; obtain ⟨C2t_0, C2t_1, C2t_2, C2t_3, C2t_4, C2t_5, C2t_6, C2t_7, C2t_8, C2t_9, C2t_a, C2t_b⟩ := LB.aK BK273.out; obtain ⟨F2t_0, F2t_1, F2t_2, F2t_3, F2t_4, F2t_5, F2t_6, F2t_7, F2t_8, F2t_9, F2t_a, F2t_b⟩ := LB.aU BK273.out; obtain ⟨C2u_0, C2u_1, C2u_2, C2u_3, C2u_4, C2u_5, C2u_6, C2u_7, C2u_8, C2u_9, C2u_a, C2u_b⟩ := LB.aK BK268.out; obtain ⟨F2u_0, F2u_1, F2u_2, F2u_3, F2u_4, F2u_5, F2u_6, F2u_7, F2u_8, F2u_9, F2u_a, F2u_b⟩ := LB.aU BK268.out))
     generalize hq_ : ((((((((((((w99.setCell ⟨gb273, 0, none⟩ (.int .i64 a0_0)).setCell ⟨gb273, 1, none⟩ (.int .i64 a0_1)).setCell ⟨gb273, 2, none⟩ (.int .i64 a0_2)).setCell ⟨gb273, 3, none⟩ (.slice A0_3 l0_3.length c0_3)).setCell ⟨gb273, 4, none⟩ (.int .i64 a0_4)).setCell ⟨gb273, 5, none⟩ (.int .i64 a0_5)).setCell ⟨gb273, 6, none⟩ (.int .i64 a0_6)).setCell ⟨gb273, 7, none⟩ (.int .i64 0)).setCell ⟨gb273, 8, none⟩ (.int .i64 0)).setCell ⟨gb273, 9, none⟩ (.string (⟨#[]⟩ : ByteArray))).setCell ⟨gb273, 10, none⟩ (.int .i64 0)).setCell ⟨gb273, 11, none⟩ (.int .i64 0)) = w103;have n0_ : aa (w103.heap[gb268]? = some (.cells #[.int .i64 a0_0, .int .i64 a0_1, .int .i64 a0_2, .slice A0_3 l0_3.length c0_3, .int .i64 a0_4, .int .i64 a0_5, .int .i64 a0_6, .int .i64 a0_7, .int .i64 a0_8, .string a0_9, .int .i64 a0_10, .int .i64 a0_11] 28 (0, 0))) := ⟨by rw [← hq_]; exact by (with_reducible repeat (first | refine ax ?_ _ | refine av ?_ | refine ay ?_ _)); refine LB.bfar12 (sb := gb273) ?_ NB268_273.out; (with_reducible repeat (first | refine ax ?_ _ | refine av ?_ | refine ay ?_ _)); exact BK268.out⟩
     have n1_ : aa (w103.heap[gb273]? = some (.cells #[.int .i64 a0_0, .int .i64 a0_1, .int .i64 a0_2, .slice A0_3 l0_3.length c0_3, .int .i64 a0_4, .int .i64 a0_5, .int .i64 a0_6, .int .i64 0, .int .i64 0, .string (⟨#[]⟩ : ByteArray), .int .i64 0, .int .i64 0] 28 (0, 0))) := ⟨by rw [← hq_]; exact by (with_reducible repeat (first | refine ax ?_ _ | refine av ?_ | refine ay ?_ _)); exact LB.put12 BK273.out⟩
     have n2_ : aa (Below w.heap.size w w103) := ⟨by rw [← hq_]; exact by repeat (first | (with_reducible first | exact HB.out | apply bq | apply aT | apply aJ | refine aW ?_ GE268.out | refine aW ?_ GE273.out) | exact HB.out)⟩
     clear hq_;(try clear BK268 BK273 HB);have BK268 := n0_;have BK273 := n1_;have HB := n2_;clear n0_ n1_ n2_;have n0_ := aa.mk (av BK268.out);have n1_ := aa.mk (av BK273.out);have n2_ := aa.mk (aJ HB.out);clear BK268 BK273 HB;have BK268 := n0_;have BK273 := n1_;have HB := n2_;clear n0_ n1_ n2_;refine eD (n := 8) (S := fun w' => w'.cell? ⟨gb268, 0, none⟩ = some (.int .i64 a0_0) ∧ w'.cell? ⟨gb268, 1, none⟩ = some (.int .i64 a0_1) ∧ w'.cell? ⟨gb268, 2, none⟩ = some (.int .i64 a0_2) ∧ w'.cell? ⟨gb268, 3, none⟩ = some (.slice A0_3 l0_3.length c0_3) ∧ w'.cell? ⟨gb268, 4, none⟩ = some (.int .i64 a0_4) ∧ w'.cell? ⟨gb268, 5, none⟩ = some (.int .i64 a0_5) ∧ w'.cell? ⟨gb268, 6, none⟩ = some (.int .i64 a0_6) ∧ w'.cell? ⟨gb268, 7, none⟩ = some (.int .i64 a0_7) ∧ w'.cell? ⟨gb268, 8, none⟩ = some (.int .i64 a0_8) ∧ w'.cell? ⟨gb268, 9, none⟩ = some (.string a0_9) ∧ w'.cell? ⟨gb268, 10, none⟩ = some (.int .i64 a0_10) ∧ w'.cell? ⟨gb268, 11, none⟩ = some (.int .i64 a0_11)) (ds := []) (rbs 8 0) (by kernel_rfl) rfl rfl (LB.aK BK268.out) (fun hHeld => ?_); refine dx ai.tab9 ai.bits9 (fun HT_ HW_ => ?_);generalize w103.drew = w104 at BK268 BK273 HB hHeld ⊢;apply rpu 0 (some 88) HT_ (rbs 8 1) rfl rfl (by kernel_rfl) (fun _ _ _ h => h) (by rfl)
     ·intro w';go_simp;with_reducible rfl
     ·simp only [pS];rfl
     apply rpu 2 (some 90) HT_ (rbs 8 5) rfl rfl (by kernel_rfl) (fun _ _ _ h => h) (by rfl)
     ·intro w';go_simp;with_reducible rfl
     ·simp only [pS];rfl
     apply rtk 1 (some 89) HT_ HW_ hHeld (rbs 8 7) rfl rfl (by kernel_rfl) (fun _ _ _ h => h) (by rfl)
     ·rintro w' ⟨s0, s1, s2, s3, s4, s5, s6, s7, s8, s9, s10, s11⟩;go_simp;with_reducible rfl
     ·simp only [pS];rfl
     apply rpu 4 (some 92) HT_ (rbs 8 23) rfl rfl (by kernel_rfl) (fun _ _ _ h => h) (by rfl)
     ·intro w';go_simp;with_reducible rfl
     ·simp only [pS];rfl
     apply rtk 3 (some 91) HT_ HW_ hHeld (rbs 8 31) rfl rfl (by kernel_rfl) (fun _ _ _ h => h) (by rfl)
     ·rintro w' ⟨s0, s1, s2, s3, s4, s5, s6, s7, s8, s9, s10, s11⟩;go_simp;with_reducible rfl
     ·simp only [pS];rfl
     refine gy (i := 5) (N := none) (rbs 8 63) rfl rfl (di HT_.out (by kernel_rfl)) (by decide) (fun K hK => ?_);have hs105 : w104.cell? ⟨gb273, 10, none⟩ = some (.int .i64 0) := (ag BK273.out 10).trans rfl;have hfs105 := aN BK273.out 10;have hns105_0 := NB268_273.out;have hms105_0 := NB273_268.out;refine skip_ (w1 := ?_) (by rfl) rfl ?_ ?_;rotate_left
     ·go_simp
      rfl
     refine hK.out _ _ ⟨((cell_far (p := ⟨gb273, _, none⟩) NB268_273.out _).trans (hHeld.1)), ((cell_far (p := ⟨gb273, _, none⟩) NB268_273.out _).trans (hHeld.2.1)), ((cell_far (p := ⟨gb273, _, none⟩) NB268_273.out _).trans (hHeld.2.2.1)), ((cell_far (p := ⟨gb273, _, none⟩) NB268_273.out _).trans (hHeld.2.2.2.1)), ((cell_far (p := ⟨gb273, _, none⟩) NB268_273.out _).trans (hHeld.2.2.2.2.1)), ((cell_far (p := ⟨gb273, _, none⟩) NB268_273.out _).trans (hHeld.2.2.2.2.2.1)), ((cell_far (p := ⟨gb273, _, none⟩) NB268_273.out _).trans (hHeld.2.2.2.2.2.2.1)), ((cell_far (p := ⟨gb273, _, none⟩) NB268_273.out _).trans (hHeld.2.2.2.2.2.2.2.1)), ((cell_far (p := ⟨gb273, _, none⟩) NB268_273.out _).trans (hHeld.2.2.2.2.2.2.2.2.1)), ((cell_far (p := ⟨gb273, _, none⟩) NB268_273.out _).trans (hHeld.2.2.2.2.2.2.2.2.2.1)), ((cell_far (p := ⟨gb273, _, none⟩) NB268_273.out _).trans (hHeld.2.2.2.2.2.2.2.2.2.2.1)), ((cell_far (p := ⟨gb273, _, none⟩) NB268_273.out _).trans (hHeld.2.2.2.2.2.2.2.2.2.2.2))⟩ (fun hHeld => ?_);clear hK K;apply rpu 6 (some 93) HT_ (rbs 8 127) rfl rfl (by kernel_rfl) (fun _ _ _ h => h) (by rfl)
     ·intro w';go_simp;with_reducible rfl
     ·simp only [pS];rfl
     refine gy (i := 7) (N := none) (rbs 8 255) rfl rfl (di HT_.out (by kernel_rfl)) (by decide) (fun K hK => ?_);have hs106 : w104.cell? ⟨gb273, 11, none⟩ = some (.int .i64 0) := (ag BK273.out 11).trans rfl;have hfs106 := aN BK273.out 11;have hns106_0 := NB268_273.out;have hms106_0 := NB273_268.out;refine skip_ (w1 := ?_) (by rfl) rfl ?_ ?_;rotate_left
     ·go_simp
      rfl
     refine hK.out _ _ ⟨((cell_far (p := ⟨gb273, _, none⟩) NB268_273.out _).trans (hHeld.1)), ((cell_far (p := ⟨gb273, _, none⟩) NB268_273.out _).trans (hHeld.2.1)), ((cell_far (p := ⟨gb273, _, none⟩) NB268_273.out _).trans (hHeld.2.2.1)), ((cell_far (p := ⟨gb273, _, none⟩) NB268_273.out _).trans (hHeld.2.2.2.1)), ((cell_far (p := ⟨gb273, _, none⟩) NB268_273.out _).trans (hHeld.2.2.2.2.1)), ((cell_far (p := ⟨gb273, _, none⟩) NB268_273.out _).trans (hHeld.2.2.2.2.2.1)), ((cell_far (p := ⟨gb273, _, none⟩) NB268_273.out _).trans (hHeld.2.2.2.2.2.2.1)), ((cell_far (p := ⟨gb273, _, none⟩) NB268_273.out _).trans (hHeld.2.2.2.2.2.2.2.1)), ((cell_far (p := ⟨gb273, _, none⟩) NB268_273.out _).trans (hHeld.2.2.2.2.2.2.2.2.1)), ((cell_far (p := ⟨gb273, _, none⟩) NB268_273.out _).trans (hHeld.2.2.2.2.2.2.2.2.2.1)), ((cell_far (p := ⟨gb273, _, none⟩) NB268_273.out _).trans (hHeld.2.2.2.2.2.2.2.2.2.2.1)), ((cell_far (p := ⟨gb273, _, none⟩) NB268_273.out _).trans (hHeld.2.2.2.2.2.2.2.2.2.2.2))⟩ (fun hHeld => ?_);clear hK K;refine gz (dS HT_.out (by kernel_rfl)) ?_;obtain ⟨C2z_0, C2z_1, C2z_2, C2z_3, C2z_4, C2z_5, C2z_6, C2z_7, C2z_8, C2z_9, C2z_a, C2z_b⟩ := LB.aK BK273.out;obtain ⟨F2z_0, F2z_1, F2z_2, F2z_3, F2z_4, F2z_5, F2z_6, F2z_7, F2z_8, F2z_9, F2z_a, F2z_b⟩ := LB.aU BK273.out;obtain ⟨C30_0, C30_1, C30_2, C30_3, C30_4, C30_5, C30_6, C30_7, C30_8, C30_9, C30_a, C30_b⟩ := LB.aK BK268.out;obtain ⟨F30_0, F30_1, F30_2, F30_3, F30_4, F30_5, F30_6, F30_7, F30_8, F30_9, F30_a, F30_b⟩ := LB.aU BK268.out;try go_wp2_with (first | ((with_reducible refine aQ (f := 19) rfl ?_); refine bZ (some 96) rfl rfl Try.func19 (by kernel_rfl) rfl #[.agg #[.int .i64 a0_0, .int .i64 a0_1, .int .i64 a0_2, .slice A0_3 l0_3.length c0_3, .int .i64 a0_4, .int .i64 a0_5, .int .i64 a0_6, .int .i64 0, .int .i64 0, .string (⟨#[]⟩ : ByteArray), .int .i64 a0_10, .int .i64 a0_11], .agg #[.int .i64 a0_0, .int .i64 a0_1, .int .i64 a0_2, .slice A0_3 l0_3.length c0_3, .int .i64 a0_4, .int .i64 a0_5, .int .i64 a0_6, .int .i64 a0_7, .int .i64 a0_8, .string a0_9, .int .i64 a0_10, .int .i64 a0_11]] rfl (by (try simp only [SB.lA, SB.lC, SB.lN]); first | done | rfl | (simp only [SB.lD, SB.lT]; rfl)) ?_; (with_reducible refine (aV.calls kj1 a0_0 a0_1 a0_2 _ _ l0_3 a0_4 a0_5 a0_6 0 0 (⟨#[]⟩ : ByteArray) a0_10 a0_11 a0_0 a0_1 a0_2 _ _ l0_3 a0_4 a0_5 a0_6 a0_7 a0_8 a0_9 a0_10 a0_11 false _ ?side1 ?side2 ?side3 ?side4 A82.out).mono ?_); (case side1 => exact Kd.dh HR0_3.out (by repeat (first | (with_reducible first | exact HB.out | apply bq | apply aT | apply aJ | refine aW ?_ GE268.out | refine aW ?_ GE273.out) | exact HB.out))); (case side2 => exact HC0_3.out); (case side3 => exact Kd.dh HR0_3.out (by repeat (first | (with_reducible first | exact HB.out | apply bq | apply aT | apply aJ | refine aW ?_ GE268.out | refine aW ?_ GE273.out) | exact HB.out))); (case side4 => exact HC0_3.out); rintro e w109 ⟨rfl, hb⟩; refine ⟨_, rfl, ?_⟩; have n0_ := aa.mk (aZ (g := gb268) (o := .cells #[.int .i64 a0_0, .int .i64 a0_1, .int .i64 a0_2, .slice A0_3 l0_3.length c0_3, .int .i64 a0_4, .int .i64 a0_5, .int .i64 a0_6, .int .i64 a0_7, .int .i64 a0_8, .string a0_9, .int .i64 a0_10, .int .i64 a0_11] 28 (0, 0)) (by (with_reducible repeat (first | refine ax ?_ _ | refine av ?_ | refine ay ?_ _)); refine iI ?_ NB268_273.out _; (with_reducible repeat (first | refine ax ?_ _ | refine av ?_ | refine ay ?_ _)); refine iI ?_ NB268_273.out _; (with_reducible repeat (first | refine ax ?_ _ | refine av ?_ | refine ay ?_ _)); exact BK268.out) hb); have n1_ := aa.mk (aZ (g := gb273) (o := .cells #[.int .i64 a0_0, .int .i64 a0_1, .int .i64 a0_2, .slice A0_3 l0_3.length c0_3, .int .i64 a0_4, .int .i64 a0_5, .int .i64 a0_6, .int .i64 0, .int .i64 0, .string (⟨#[]⟩ : ByteArray), .int .i64 a0_10, .int .i64 a0_11] 28 (0, 0)) (by (with_reducible repeat (first | refine ax ?_ _ | refine av ?_ | refine ay ?_ _)); refine bK (cs := #[.int .i64 a0_0, .int .i64 a0_1, .int .i64 a0_2, .slice A0_3 l0_3.length c0_3, .int .i64 a0_4, .int .i64 a0_5, .int .i64 a0_6, .int .i64 0, .int .i64 0, .string (⟨#[]⟩ : ByteArray), .int .i64 a0_10, .int .i64 0]) ?_ 11 _ rfl; (with_reducible repeat (first | refine ax ?_ _ | refine av ?_ | refine ay ?_ _)); refine bK (cs := #[.int .i64 a0_0, .int .i64 a0_1, .int .i64 a0_2, .slice A0_3 l0_3.length c0_3, .int .i64 a0_4, .int .i64 a0_5, .int .i64 a0_6, .int .i64 0, .int .i64 0, .string (⟨#[]⟩ : ByteArray), .int .i64 0, .int .i64 0]) ?_ 10 _ rfl; (with_reducible repeat (first | refine ax ?_ _ | refine av ?_ | refine ay ?_ _)); exact BK273.out) hb); have n2_ := aa.mk (aj (by repeat (first | (with_reducible first | exact HB.out | apply bq | apply aT | apply aJ | refine aW ?_ GE268.out | refine aW ?_ GE273.out) | exact HB.out)) hb); clear BK268 BK273 HB; have BK268 := n0_; have BK273 := n1_; have HB := n2_; clear n0_ n1_ n2_; (try clear hb hb2 hk hi)))
     go_ret;exact ⟨by first | rfl | (simp [au, ak] <;> rfl) | (simp [*, au, ak] <;> rfl), by exact rud HB.out rfl rfl rfl rfl⟩
    subst c83;have H1 : ((bO.f kj1 a0_10 a0_11).bind fun t278 => (some (t278 == 0))) = some r := by rw [if_pos rfl] at H; exact H
    clear H;have H := H1;clear H1;replace H := Option.bind_eq_some_iff.mp H;obtain ⟨t278, A840, H⟩ := H;replace H : (some (t278 == 0)) = some r := H;have A84 := aa.mk A840;clear A840;obtain rfl := Option.some.inj H;obtain ⟨C2d_0, C2d_1, C2d_2, C2d_3, C2d_4, C2d_5, C2d_6, C2d_7, C2d_8, C2d_9, C2d_a, C2d_b⟩ := LB.aK BK268.out;obtain ⟨F2d_0, F2d_1, F2d_2, F2d_3, F2d_4, F2d_5, F2d_6, F2d_7, F2d_8, F2d_9, F2d_a, F2d_b⟩ := LB.aU BK268.out;try go_wp2_with (first | ((with_reducible refine bJ (N := 3) rfl ?_); (try (refine fH (by rfl) ?_; dsimp only)); refine bD ?hg (N := 3) ?hd (cs := #[.int .i64 0, .int .i64 0, .int .i64 0, .slice none 0 0, .int .i64 0, .int .i64 0, .int .i64 0, .int .i64 0, .int .i64 0, .string (⟨#[]⟩ : ByteArray), .int .i64 0, .int .i64 0]) (t := 28) ?hr ?_; (case hd => rfl); (case hg => rfl); (case hr => first | (go_simp; done) | (go_simp; rfl)); intro gb273 hg w86 hbox hb; replace hb : Below (World.heap wc).size wc w86 := ⟨hb.os, hb.tape, hb.output, hb.size, hb.block⟩; have n0_ := aa.mk (aZ BK268.out hb); have n1_ := aa.mk (aj HB.out hb); have n2_ := aa.mk (hbox); have n3_ := aa.mk ((by rw [hg]; exact HB.out.size : w.heap.size ≤ gb273)); have n4_ := n3_; have n5_ := aa.mk ((by rw [hg]; exact Nat.ne_of_lt (gB BK268.out) : gb268 ≠ gb273)); have n6_ := aa.mk (Ne.symm n5_.out); clear BK268 HB; have BK268 := n0_; have HB := n1_; have BK273 := n2_; have GW273 := n3_; have GE273 := n4_; have NB268_273 := n5_; have NB273_268 := n6_; clear n0_ n1_ n2_ n3_ n4_ n5_ n6_ hb hbox hg; have hnb87 := NB273_268.out; have hnc87 := NB268_273.out; obtain ⟨C2g_0, C2g_1, C2g_2, C2g_3, C2g_4, C2g_5, C2g_6, C2g_7, C2g_8, C2g_9, C2g_a, C2g_b⟩ := LB.aK BK273.out; obtain ⟨F2g_0, F2g_1, F2g_2, F2g_3, F2g_4, F2g_5, F2g_6, F2g_7, F2g_8, F2g_9, F2g_a, F2g_b⟩ := LB.aU BK273.out; obtain ⟨C2h_0, C2h_1, C2h_2, C2h_3, C2h_4, C2h_5, C2h_6, C2h_7, C2h_8, C2h_9, C2h_a, C2h_b⟩ := LB.aK BK268.out; obtain ⟨F2h_0, F2h_1, F2h_2, F2h_3, F2h_4, F2h_5, F2h_6, F2h_7, F2h_8, F2h_9, F2h_a, F2h_b⟩ := LB.aU BK268.out))
    generalize hq_ : ((((((((((((w86.setCell ⟨gb273, 0, none⟩ (.int .i64 a0_0)).setCell ⟨gb273, 1, none⟩ (.int .i64 a0_1)).setCell ⟨gb273, 2, none⟩ (.int .i64 a0_2)).setCell ⟨gb273, 3, none⟩ (.slice A0_3 l0_3.length c0_3)).setCell ⟨gb273, 4, none⟩ (.int .i64 a0_4)).setCell ⟨gb273, 5, none⟩ (.int .i64 a0_5)).setCell ⟨gb273, 6, none⟩ (.int .i64 a0_6)).setCell ⟨gb273, 7, none⟩ (.int .i64 0)).setCell ⟨gb273, 8, none⟩ (.int .i64 0)).setCell ⟨gb273, 9, none⟩ (.string (⟨#[]⟩ : ByteArray))).setCell ⟨gb273, 10, none⟩ (.int .i64 0)).setCell ⟨gb273, 11, none⟩ (.int .i64 0)) = w90;have n0_ : aa (w90.heap[gb268]? = some (.cells #[.int .i64 a0_0, .int .i64 a0_1, .int .i64 a0_2, .slice A0_3 l0_3.length c0_3, .int .i64 a0_4, .int .i64 a0_5, .int .i64 a0_6, .int .i64 a0_7, .int .i64 a0_8, .string a0_9, .int .i64 a0_10, .int .i64 a0_11] 28 (0, 0))) := ⟨by rw [← hq_]; exact by (with_reducible repeat (first | refine ax ?_ _ | refine av ?_ | refine ay ?_ _)); refine LB.bfar12 (sb := gb273) ?_ NB268_273.out; (with_reducible repeat (first | refine ax ?_ _ | refine av ?_ | refine ay ?_ _)); exact BK268.out⟩
    have n1_ : aa (w90.heap[gb273]? = some (.cells #[.int .i64 a0_0, .int .i64 a0_1, .int .i64 a0_2, .slice A0_3 l0_3.length c0_3, .int .i64 a0_4, .int .i64 a0_5, .int .i64 a0_6, .int .i64 0, .int .i64 0, .string (⟨#[]⟩ : ByteArray), .int .i64 0, .int .i64 0] 28 (0, 0))) := ⟨by rw [← hq_]; exact by (with_reducible repeat (first | refine ax ?_ _ | refine av ?_ | refine ay ?_ _)); exact LB.put12 BK273.out⟩
    have n2_ : aa (Below w.heap.size w w90) := ⟨by rw [← hq_]; exact by repeat (first | (with_reducible first | exact HB.out | apply bq | apply aT | apply aJ | refine aW ?_ GE268.out | refine aW ?_ GE273.out) | exact HB.out)⟩
    clear hq_;(try clear BK268 BK273 HB);have BK268 := n0_;have BK273 := n1_;have HB := n2_;clear n0_ n1_ n2_;have n0_ := aa.mk (av BK268.out);have n1_ := aa.mk (av BK273.out);have n2_ := aa.mk (aJ HB.out);clear BK268 BK273 HB;have BK268 := n0_;have BK273 := n1_;have HB := n2_;clear n0_ n1_ n2_;refine eD (n := 8) (S := fun w' => w'.cell? ⟨gb268, 0, none⟩ = some (.int .i64 a0_0) ∧ w'.cell? ⟨gb268, 1, none⟩ = some (.int .i64 a0_1) ∧ w'.cell? ⟨gb268, 2, none⟩ = some (.int .i64 a0_2) ∧ w'.cell? ⟨gb268, 3, none⟩ = some (.slice A0_3 l0_3.length c0_3) ∧ w'.cell? ⟨gb268, 4, none⟩ = some (.int .i64 a0_4) ∧ w'.cell? ⟨gb268, 5, none⟩ = some (.int .i64 a0_5) ∧ w'.cell? ⟨gb268, 6, none⟩ = some (.int .i64 a0_6) ∧ w'.cell? ⟨gb268, 7, none⟩ = some (.int .i64 a0_7) ∧ w'.cell? ⟨gb268, 8, none⟩ = some (.int .i64 a0_8) ∧ w'.cell? ⟨gb268, 9, none⟩ = some (.string a0_9) ∧ w'.cell? ⟨gb268, 10, none⟩ = some (.int .i64 a0_10) ∧ w'.cell? ⟨gb268, 11, none⟩ = some (.int .i64 a0_11)) (ds := []) (rbs 8 0) (by kernel_rfl) rfl rfl (LB.aK BK268.out) (fun hHeld => ?_); refine dx ai.tab9 ai.bits9 (fun HT_ HW_ => ?_);generalize w90.drew = w91 at BK268 BK273 HB hHeld ⊢;apply rpu 0 (some 88) HT_ (rbs 8 1) rfl rfl (by kernel_rfl) (fun _ _ _ h => h) (by rfl)
    ·intro w';go_simp;with_reducible rfl
    ·simp only [pS];rfl
    apply rpu 2 (some 90) HT_ (rbs 8 5) rfl rfl (by kernel_rfl) (fun _ _ _ h => h) (by rfl)
    ·intro w';go_simp;with_reducible rfl
    ·simp only [pS];rfl
    apply rtk 1 (some 89) HT_ HW_ hHeld (rbs 8 7) rfl rfl (by kernel_rfl) (fun _ _ _ h => h) (by rfl)
    ·rintro w' ⟨s0, s1, s2, s3, s4, s5, s6, s7, s8, s9, s10, s11⟩;go_simp;with_reducible rfl
    ·simp only [pS];rfl
    apply rpu 4 (some 92) HT_ (rbs 8 23) rfl rfl (by kernel_rfl) (fun _ _ _ h => h) (by rfl)
    ·intro w';go_simp;with_reducible rfl
    ·simp only [pS];rfl
    apply rtk 3 (some 91) HT_ HW_ hHeld (rbs 8 31) rfl rfl (by kernel_rfl) (fun _ _ _ h => h) (by rfl)
    ·rintro w' ⟨s0, s1, s2, s3, s4, s5, s6, s7, s8, s9, s10, s11⟩;go_simp;with_reducible rfl
    ·simp only [pS];rfl
    refine gy (i := 5) (N := none) (rbs 8 63) rfl rfl (di HT_.out (by kernel_rfl)) (by decide) (fun K hK => ?_);have hs92 : w91.cell? ⟨gb273, 10, none⟩ = some (.int .i64 0) := (ag BK273.out 10).trans rfl;have hfs92 := aN BK273.out 10;have hns92_0 := NB268_273.out;have hms92_0 := NB273_268.out;refine skip_ (w1 := ?_) (by rfl) rfl ?_ ?_;rotate_left
    ·go_simp
     rfl
    refine hK.out _ _ ⟨((cell_far (p := ⟨gb273, _, none⟩) NB268_273.out _).trans (hHeld.1)), ((cell_far (p := ⟨gb273, _, none⟩) NB268_273.out _).trans (hHeld.2.1)), ((cell_far (p := ⟨gb273, _, none⟩) NB268_273.out _).trans (hHeld.2.2.1)), ((cell_far (p := ⟨gb273, _, none⟩) NB268_273.out _).trans (hHeld.2.2.2.1)), ((cell_far (p := ⟨gb273, _, none⟩) NB268_273.out _).trans (hHeld.2.2.2.2.1)), ((cell_far (p := ⟨gb273, _, none⟩) NB268_273.out _).trans (hHeld.2.2.2.2.2.1)), ((cell_far (p := ⟨gb273, _, none⟩) NB268_273.out _).trans (hHeld.2.2.2.2.2.2.1)), ((cell_far (p := ⟨gb273, _, none⟩) NB268_273.out _).trans (hHeld.2.2.2.2.2.2.2.1)), ((cell_far (p := ⟨gb273, _, none⟩) NB268_273.out _).trans (hHeld.2.2.2.2.2.2.2.2.1)), ((cell_far (p := ⟨gb273, _, none⟩) NB268_273.out _).trans (hHeld.2.2.2.2.2.2.2.2.2.1)), ((cell_far (p := ⟨gb273, _, none⟩) NB268_273.out _).trans (hHeld.2.2.2.2.2.2.2.2.2.2.1)), ((cell_far (p := ⟨gb273, _, none⟩) NB268_273.out _).trans (hHeld.2.2.2.2.2.2.2.2.2.2.2))⟩ (fun hHeld => ?_);clear hK K;apply rpu 6 (some 93) HT_ (rbs 8 127) rfl rfl (by kernel_rfl) (fun _ _ _ h => h) (by rfl)
    ·intro w';go_simp;with_reducible rfl
    ·simp only [pS];rfl
    refine gy (i := 7) (N := none) (rbs 8 255) rfl rfl (di HT_.out (by kernel_rfl)) (by decide) (fun K hK => ?_);have hs93 : w91.cell? ⟨gb273, 11, none⟩ = some (.int .i64 0) := (ag BK273.out 11).trans rfl;have hfs93 := aN BK273.out 11;have hns93_0 := NB268_273.out;have hms93_0 := NB273_268.out;refine skip_ (w1 := ?_) (by rfl) rfl ?_ ?_;rotate_left
    ·go_simp
     rfl
    refine hK.out _ _ ⟨((cell_far (p := ⟨gb273, _, none⟩) NB268_273.out _).trans (hHeld.1)), ((cell_far (p := ⟨gb273, _, none⟩) NB268_273.out _).trans (hHeld.2.1)), ((cell_far (p := ⟨gb273, _, none⟩) NB268_273.out _).trans (hHeld.2.2.1)), ((cell_far (p := ⟨gb273, _, none⟩) NB268_273.out _).trans (hHeld.2.2.2.1)), ((cell_far (p := ⟨gb273, _, none⟩) NB268_273.out _).trans (hHeld.2.2.2.2.1)), ((cell_far (p := ⟨gb273, _, none⟩) NB268_273.out _).trans (hHeld.2.2.2.2.2.1)), ((cell_far (p := ⟨gb273, _, none⟩) NB268_273.out _).trans (hHeld.2.2.2.2.2.2.1)), ((cell_far (p := ⟨gb273, _, none⟩) NB268_273.out _).trans (hHeld.2.2.2.2.2.2.2.1)), ((cell_far (p := ⟨gb273, _, none⟩) NB268_273.out _).trans (hHeld.2.2.2.2.2.2.2.2.1)), ((cell_far (p := ⟨gb273, _, none⟩) NB268_273.out _).trans (hHeld.2.2.2.2.2.2.2.2.2.1)), ((cell_far (p := ⟨gb273, _, none⟩) NB268_273.out _).trans (hHeld.2.2.2.2.2.2.2.2.2.2.1)), ((cell_far (p := ⟨gb273, _, none⟩) NB268_273.out _).trans (hHeld.2.2.2.2.2.2.2.2.2.2.2))⟩ (fun hHeld => ?_);clear hK K;refine gz (dS HT_.out (by kernel_rfl)) ?_;obtain ⟨C2m_0, C2m_1, C2m_2, C2m_3, C2m_4, C2m_5, C2m_6, C2m_7, C2m_8, C2m_9, C2m_a, C2m_b⟩ := LB.aK BK273.out;obtain ⟨F2m_0, F2m_1, F2m_2, F2m_3, F2m_4, F2m_5, F2m_6, F2m_7, F2m_8, F2m_9, F2m_a, F2m_b⟩ := LB.aU BK273.out;obtain ⟨C2n_0, C2n_1, C2n_2, C2n_3, C2n_4, C2n_5, C2n_6, C2n_7, C2n_8, C2n_9, C2n_a, C2n_b⟩ := LB.aK BK268.out;obtain ⟨F2n_0, F2n_1, F2n_2, F2n_3, F2n_4, F2n_5, F2n_6, F2n_7, F2n_8, F2n_9, F2n_a, F2n_b⟩ := LB.aU BK268.out;try go_wp2_with (first | ((with_reducible refine aQ (f := 19) rfl ?_); refine bZ (some 96) rfl rfl Try.func19 (by kernel_rfl) rfl #[.agg #[.int .i64 a0_0, .int .i64 a0_1, .int .i64 a0_2, .slice A0_3 l0_3.length c0_3, .int .i64 a0_4, .int .i64 a0_5, .int .i64 a0_6, .int .i64 0, .int .i64 0, .string (⟨#[]⟩ : ByteArray), .int .i64 a0_10, .int .i64 a0_11], .agg #[.int .i64 a0_0, .int .i64 a0_1, .int .i64 a0_2, .slice A0_3 l0_3.length c0_3, .int .i64 a0_4, .int .i64 a0_5, .int .i64 a0_6, .int .i64 a0_7, .int .i64 a0_8, .string a0_9, .int .i64 a0_10, .int .i64 a0_11]] rfl (by (try simp only [SB.lA, SB.lC, SB.lN]); first | done | rfl | (simp only [SB.lD, SB.lT]; rfl)) ?_; (with_reducible refine (aV.calls kj1 a0_0 a0_1 a0_2 _ _ l0_3 a0_4 a0_5 a0_6 0 0 (⟨#[]⟩ : ByteArray) a0_10 a0_11 a0_0 a0_1 a0_2 _ _ l0_3 a0_4 a0_5 a0_6 a0_7 a0_8 a0_9 a0_10 a0_11 true _ ?side1 ?side2 ?side3 ?side4 A82.out).mono ?_); (case side1 => exact Kd.dh HR0_3.out (by repeat (first | (with_reducible first | exact HB.out | apply bq | apply aT | apply aJ | refine aW ?_ GE268.out | refine aW ?_ GE273.out) | exact HB.out))); (case side2 => exact HC0_3.out); (case side3 => exact Kd.dh HR0_3.out (by repeat (first | (with_reducible first | exact HB.out | apply bq | apply aT | apply aJ | refine aW ?_ GE268.out | refine aW ?_ GE273.out) | exact HB.out))); (case side4 => exact HC0_3.out); rintro e w96 ⟨rfl, hb⟩; refine ⟨_, rfl, ?_⟩; have n0_ := aa.mk (aZ (g := gb268) (o := .cells #[.int .i64 a0_0, .int .i64 a0_1, .int .i64 a0_2, .slice A0_3 l0_3.length c0_3, .int .i64 a0_4, .int .i64 a0_5, .int .i64 a0_6, .int .i64 a0_7, .int .i64 a0_8, .string a0_9, .int .i64 a0_10, .int .i64 a0_11] 28 (0, 0)) (by (with_reducible repeat (first | refine ax ?_ _ | refine av ?_ | refine ay ?_ _)); refine iI ?_ NB268_273.out _; (with_reducible repeat (first | refine ax ?_ _ | refine av ?_ | refine ay ?_ _)); refine iI ?_ NB268_273.out _; (with_reducible repeat (first | refine ax ?_ _ | refine av ?_ | refine ay ?_ _)); exact BK268.out) hb); have n1_ := aa.mk (aZ (g := gb273) (o := .cells #[.int .i64 a0_0, .int .i64 a0_1, .int .i64 a0_2, .slice A0_3 l0_3.length c0_3, .int .i64 a0_4, .int .i64 a0_5, .int .i64 a0_6, .int .i64 0, .int .i64 0, .string (⟨#[]⟩ : ByteArray), .int .i64 a0_10, .int .i64 a0_11] 28 (0, 0)) (by (with_reducible repeat (first | refine ax ?_ _ | refine av ?_ | refine ay ?_ _)); refine bK (cs := #[.int .i64 a0_0, .int .i64 a0_1, .int .i64 a0_2, .slice A0_3 l0_3.length c0_3, .int .i64 a0_4, .int .i64 a0_5, .int .i64 a0_6, .int .i64 0, .int .i64 0, .string (⟨#[]⟩ : ByteArray), .int .i64 a0_10, .int .i64 0]) ?_ 11 _ rfl; (with_reducible repeat (first | refine ax ?_ _ | refine av ?_ | refine ay ?_ _)); refine bK (cs := #[.int .i64 a0_0, .int .i64 a0_1, .int .i64 a0_2, .slice A0_3 l0_3.length c0_3, .int .i64 a0_4, .int .i64 a0_5, .int .i64 a0_6, .int .i64 0, .int .i64 0, .string (⟨#[]⟩ : ByteArray), .int .i64 0, .int .i64 0]) ?_ 10 _ rfl; (with_reducible repeat (first | refine ax ?_ _ | refine av ?_ | refine ay ?_ _)); exact BK273.out) hb); have n2_ := aa.mk (aj (by repeat (first | (with_reducible first | exact HB.out | apply bq | apply aT | apply aJ | refine aW ?_ GE268.out | refine aW ?_ GE273.out) | exact HB.out)) hb); clear BK268 BK273 HB; have BK268 := n0_; have BK273 := n1_; have HB := n2_; clear n0_ n1_ n2_; (try clear hb hb2 hk hi); obtain ⟨C2p_0, C2p_1, C2p_2, C2p_3, C2p_4, C2p_5, C2p_6, C2p_7, C2p_8, C2p_9, C2p_a, C2p_b⟩ := LB.aK BK268.out; obtain ⟨F2p_0, F2p_1, F2p_2, F2p_3, F2p_4, F2p_5, F2p_6, F2p_7, F2p_8, F2p_9, F2p_a, F2p_b⟩ := LB.aU BK268.out) | (go_at_call 60; (with_reducible refine (bO.calls kj1 a0_10 a0_11 t278 _ A84.out).mono ?_); rintro e w' ⟨rfl, ⟨nd, rfl⟩⟩))
    go_ret;exact ⟨by first | rfl | (simp [au, ak] <;> rfl) | (simp [*, au, ak] <;> rfl), by exact rud HB.out rfl rfl rfl rfl⟩
   rw [if_pos c31] at H;have c31b0 : (a0_4 == 1) = true := beq_iff_eq.mpr c31;have c31b1 : (a0_4 != 1) = false := bne_eq_false_iff_eq.mpr c31;clear c31;replace H := Option.bind_eq_some_iff.mp H;obtain ⟨t274, A320, H⟩ := H;(try dsimp only at H);have A32 := aa.mk A320;clear A320;by_cases c33 : t274 = true;rotate_left
   ·replace c33 := Bool.eq_false_iff.mpr c33
    subst c33;have H1 : (some false) = some r := by rw [if_neg (show ¬ (false = true) by decide)] at H; exact H
    clear H;have H := H1;clear H1;obtain rfl := Option.some.inj H;obtain ⟨C1w_0, C1w_1, C1w_2, C1w_3, C1w_4, C1w_5, C1w_6, C1w_7, C1w_8, C1w_9, C1w_a, C1w_b⟩ := LB.aK BK268.out;obtain ⟨F1w_0, F1w_1, F1w_2, F1w_3, F1w_4, F1w_5, F1w_6, F1w_7, F1w_8, F1w_9, F1w_a, F1w_b⟩ := LB.aU BK268.out;try go_wp2_with (first | ((with_reducible refine bJ (N := 3) rfl ?_); (try (refine fH (by rfl) ?_; dsimp only)); refine bD ?hg (N := 3) ?hd (cs := #[.int .i64 0, .int .i64 0, .int .i64 0, .slice none 0 0, .int .i64 0, .int .i64 0, .int .i64 0, .int .i64 0, .int .i64 0, .string (⟨#[]⟩ : ByteArray), .int .i64 0, .int .i64 0]) (t := 28) ?hr ?_; (case hd => rfl); (case hg => rfl); (case hr => first | (go_simp; done) | (go_simp; rfl)); intro gb273 hg w69 hbox hb; replace hb : Below (World.heap wc).size wc w69 := ⟨hb.os, hb.tape, hb.output, hb.size, hb.block⟩; have n0_ := aa.mk (aZ BK268.out hb); have n1_ := aa.mk (aj HB.out hb); have n2_ := aa.mk (hbox); have n3_ := aa.mk ((by rw [hg]; exact HB.out.size : w.heap.size ≤ gb273)); have n4_ := n3_; have n5_ := aa.mk ((by rw [hg]; exact Nat.ne_of_lt (gB BK268.out) : gb268 ≠ gb273)); have n6_ := aa.mk (Ne.symm n5_.out); clear BK268 HB; have BK268 := n0_; have HB := n1_; have BK273 := n2_; have GW273 := n3_; have GE273 := n4_; have NB268_273 := n5_; have NB273_268 := n6_; clear n0_ n1_ n2_ n3_ n4_ n5_ n6_ hb hbox hg; have hnb70 := NB273_268.out; have hnc70 := NB268_273.out; obtain ⟨C1z_0, C1z_1, C1z_2, C1z_3, C1z_4, C1z_5, C1z_6, C1z_7, C1z_8, C1z_9, C1z_a, C1z_b⟩ := LB.aK BK273.out; obtain ⟨F1z_0, F1z_1, F1z_2, F1z_3, F1z_4, F1z_5, F1z_6, F1z_7, F1z_8, F1z_9, F1z_a, F1z_b⟩ := LB.aU BK273.out; obtain ⟨C20_0, C20_1, C20_2, C20_3, C20_4, C20_5, C20_6, C20_7, C20_8, C20_9, C20_a, C20_b⟩ := LB.aK BK268.out; obtain ⟨F20_0, F20_1, F20_2, F20_3, F20_4, F20_5, F20_6, F20_7, F20_8, F20_9, F20_a, F20_b⟩ := LB.aU BK268.out))
    generalize hq_ : ((((((((((((w69.setCell ⟨gb273, 0, none⟩ (.int .i64 a0_0)).setCell ⟨gb273, 1, none⟩ (.int .i64 a0_1)).setCell ⟨gb273, 2, none⟩ (.int .i64 a0_2)).setCell ⟨gb273, 3, none⟩ (.slice A0_3 l0_3.length c0_3)).setCell ⟨gb273, 4, none⟩ (.int .i64 a0_4)).setCell ⟨gb273, 5, none⟩ (.int .i64 a0_5)).setCell ⟨gb273, 6, none⟩ (.int .i64 a0_6)).setCell ⟨gb273, 7, none⟩ (.int .i64 0)).setCell ⟨gb273, 8, none⟩ (.int .i64 0)).setCell ⟨gb273, 9, none⟩ (.string (⟨#[]⟩ : ByteArray))).setCell ⟨gb273, 10, none⟩ (.int .i64 0)).setCell ⟨gb273, 11, none⟩ (.int .i64 0)) = w73;have n0_ : aa (w73.heap[gb268]? = some (.cells #[.int .i64 a0_0, .int .i64 a0_1, .int .i64 a0_2, .slice A0_3 l0_3.length c0_3, .int .i64 a0_4, .int .i64 a0_5, .int .i64 a0_6, .int .i64 a0_7, .int .i64 a0_8, .string a0_9, .int .i64 a0_10, .int .i64 a0_11] 28 (0, 0))) := ⟨by rw [← hq_]; exact by (with_reducible repeat (first | refine ax ?_ _ | refine av ?_ | refine ay ?_ _)); refine LB.bfar12 (sb := gb273) ?_ NB268_273.out; (with_reducible repeat (first | refine ax ?_ _ | refine av ?_ | refine ay ?_ _)); exact BK268.out⟩
    have n1_ : aa (w73.heap[gb273]? = some (.cells #[.int .i64 a0_0, .int .i64 a0_1, .int .i64 a0_2, .slice A0_3 l0_3.length c0_3, .int .i64 a0_4, .int .i64 a0_5, .int .i64 a0_6, .int .i64 0, .int .i64 0, .string (⟨#[]⟩ : ByteArray), .int .i64 0, .int .i64 0] 28 (0, 0))) := ⟨by rw [← hq_]; exact by (with_reducible repeat (first | refine ax ?_ _ | refine av ?_ | refine ay ?_ _)); exact LB.put12 BK273.out⟩
    have n2_ : aa (Below w.heap.size w w73) := ⟨by rw [← hq_]; exact by repeat (first | (with_reducible first | exact HB.out | apply bq | apply aT | apply aJ | refine aW ?_ GE268.out | refine aW ?_ GE273.out) | exact HB.out)⟩
    clear hq_;(try clear BK268 BK273 HB);have BK268 := n0_;have BK273 := n1_;have HB := n2_;clear n0_ n1_ n2_;have n0_ := aa.mk (av BK268.out);have n1_ := aa.mk (av BK273.out);have n2_ := aa.mk (aJ HB.out);clear BK268 BK273 HB;have BK268 := n0_;have BK273 := n1_;have HB := n2_;clear n0_ n1_ n2_;refine eD (n := 8) (S := fun w' => w'.cell? ⟨gb268, 0, none⟩ = some (.int .i64 a0_0) ∧ w'.cell? ⟨gb268, 1, none⟩ = some (.int .i64 a0_1) ∧ w'.cell? ⟨gb268, 2, none⟩ = some (.int .i64 a0_2) ∧ w'.cell? ⟨gb268, 3, none⟩ = some (.slice A0_3 l0_3.length c0_3) ∧ w'.cell? ⟨gb268, 4, none⟩ = some (.int .i64 a0_4) ∧ w'.cell? ⟨gb268, 5, none⟩ = some (.int .i64 a0_5) ∧ w'.cell? ⟨gb268, 6, none⟩ = some (.int .i64 a0_6) ∧ w'.cell? ⟨gb268, 7, none⟩ = some (.int .i64 a0_7) ∧ w'.cell? ⟨gb268, 8, none⟩ = some (.int .i64 a0_8) ∧ w'.cell? ⟨gb268, 9, none⟩ = some (.string a0_9) ∧ w'.cell? ⟨gb268, 10, none⟩ = some (.int .i64 a0_10) ∧ w'.cell? ⟨gb268, 11, none⟩ = some (.int .i64 a0_11)) (ds := []) (rbs 8 0) (by kernel_rfl) rfl rfl (LB.aK BK268.out) (fun hHeld => ?_); refine dx ai.tab6 ai.bits6 (fun HT_ HW_ => ?_);generalize w73.drew = w74 at BK268 BK273 HB hHeld ⊢;apply rpu 0 (some 67) HT_ (rbs 8 1) rfl rfl (by kernel_rfl) (fun _ _ _ h => h) (by rfl)
    ·intro w';go_simp;with_reducible rfl
    ·simp only [pS];rfl
    apply rpu 2 (some 69) HT_ (rbs 8 5) rfl rfl (by kernel_rfl) (fun _ _ _ h => h) (by rfl)
    ·intro w';go_simp;with_reducible rfl
    ·simp only [pS];rfl
    apply rtk 1 (some 68) HT_ HW_ hHeld (rbs 8 7) rfl rfl (by kernel_rfl) (fun _ _ _ h => h) (by rfl)
    ·rintro w' ⟨s0, s1, s2, s3, s4, s5, s6, s7, s8, s9, s10, s11⟩;go_simp;with_reducible rfl
    ·simp only [pS];rfl
    apply rpu 4 (some 71) HT_ (rbs 8 23) rfl rfl (by kernel_rfl) (fun _ _ _ h => h) (by rfl)
    ·intro w';go_simp;with_reducible rfl
    ·simp only [pS];rfl
    apply rtk 3 (some 70) HT_ HW_ hHeld (rbs 8 31) rfl rfl (by kernel_rfl) (fun _ _ _ h => h) (by rfl)
    ·rintro w' ⟨s0, s1, s2, s3, s4, s5, s6, s7, s8, s9, s10, s11⟩;go_simp;with_reducible rfl
    ·simp only [pS];rfl
    refine gy (i := 5) (N := none) (rbs 8 63) rfl rfl (di HT_.out (by kernel_rfl)) (by decide) (fun K hK => ?_);have hs75 : w74.cell? ⟨gb273, 7, none⟩ = some (.int .i64 0) := (ag BK273.out 7).trans rfl;have hfs75 := aN BK273.out 7;have hns75_0 := NB268_273.out;have hms75_0 := NB273_268.out;have hs76 : w74.cell? ⟨gb273, 8, none⟩ = some (.int .i64 0) := (ag BK273.out 8).trans rfl;have hfs76 := aN BK273.out 8;have hns76_0 := NB268_273.out;have hms76_0 := NB273_268.out;refine skip_ (w1 := ?_) (by rfl) rfl ?_ ?_;rotate_left
    ·go_simp
     rfl
    refine hK.out _ _ ⟨((LB.far2 (g := gb273) NB268_273.out).trans (hHeld.1)), ((LB.far2 (g := gb273) NB268_273.out).trans (hHeld.2.1)), ((LB.far2 (g := gb273) NB268_273.out).trans (hHeld.2.2.1)), ((LB.far2 (g := gb273) NB268_273.out).trans (hHeld.2.2.2.1)), ((LB.far2 (g := gb273) NB268_273.out).trans (hHeld.2.2.2.2.1)), ((LB.far2 (g := gb273) NB268_273.out).trans (hHeld.2.2.2.2.2.1)), ((LB.far2 (g := gb273) NB268_273.out).trans (hHeld.2.2.2.2.2.2.1)), ((LB.far2 (g := gb273) NB268_273.out).trans (hHeld.2.2.2.2.2.2.2.1)), ((LB.far2 (g := gb273) NB268_273.out).trans (hHeld.2.2.2.2.2.2.2.2.1)), ((LB.far2 (g := gb273) NB268_273.out).trans (hHeld.2.2.2.2.2.2.2.2.2.1)), ((LB.far2 (g := gb273) NB268_273.out).trans (hHeld.2.2.2.2.2.2.2.2.2.2.1)), ((LB.far2 (g := gb273) NB268_273.out).trans (hHeld.2.2.2.2.2.2.2.2.2.2.2))⟩ (fun hHeld => ?_);clear hK K;apply rpu 6 (some 72) HT_ (rbs 8 127) rfl rfl (by kernel_rfl) (fun _ _ _ h => h) (by rfl)
    ·intro w';go_simp;with_reducible rfl
    ·simp only [pS];rfl
    refine gy (i := 7) (N := none) (rbs 8 255) rfl rfl (di HT_.out (by kernel_rfl)) (by decide) (fun K hK => ?_);have hs77 : w74.cell? ⟨gb273, 9, none⟩ = some (.string (⟨#[]⟩ : ByteArray)) := (ag BK273.out 9).trans rfl;have hfs77 := aN BK273.out 9;have hns77_0 := NB268_273.out;have hms77_0 := NB273_268.out;refine skip_ (w1 := ?_) (by rfl) rfl ?_ ?_;rotate_left
    ·go_simp
     rfl
    refine hK.out _ _ ⟨((cell_far (p := ⟨gb273, _, none⟩) NB268_273.out _).trans (hHeld.1)), ((cell_far (p := ⟨gb273, _, none⟩) NB268_273.out _).trans (hHeld.2.1)), ((cell_far (p := ⟨gb273, _, none⟩) NB268_273.out _).trans (hHeld.2.2.1)), ((cell_far (p := ⟨gb273, _, none⟩) NB268_273.out _).trans (hHeld.2.2.2.1)), ((cell_far (p := ⟨gb273, _, none⟩) NB268_273.out _).trans (hHeld.2.2.2.2.1)), ((cell_far (p := ⟨gb273, _, none⟩) NB268_273.out _).trans (hHeld.2.2.2.2.2.1)), ((cell_far (p := ⟨gb273, _, none⟩) NB268_273.out _).trans (hHeld.2.2.2.2.2.2.1)), ((cell_far (p := ⟨gb273, _, none⟩) NB268_273.out _).trans (hHeld.2.2.2.2.2.2.2.1)), ((cell_far (p := ⟨gb273, _, none⟩) NB268_273.out _).trans (hHeld.2.2.2.2.2.2.2.2.1)), ((cell_far (p := ⟨gb273, _, none⟩) NB268_273.out _).trans (hHeld.2.2.2.2.2.2.2.2.2.1)), ((cell_far (p := ⟨gb273, _, none⟩) NB268_273.out _).trans (hHeld.2.2.2.2.2.2.2.2.2.2.1)), ((cell_far (p := ⟨gb273, _, none⟩) NB268_273.out _).trans (hHeld.2.2.2.2.2.2.2.2.2.2.2))⟩ (fun hHeld => ?_);clear hK K;refine gz (dS HT_.out (by kernel_rfl)) ?_;obtain ⟨C26_0, C26_1, C26_2, C26_3, C26_4, C26_5, C26_6, C26_7, C26_8, C26_9, C26_a, C26_b⟩ := LB.aK BK273.out;obtain ⟨F26_0, F26_1, F26_2, F26_3, F26_4, F26_5, F26_6, F26_7, F26_8, F26_9, F26_a, F26_b⟩ := LB.aU BK273.out;obtain ⟨C27_0, C27_1, C27_2, C27_3, C27_4, C27_5, C27_6, C27_7, C27_8, C27_9, C27_a, C27_b⟩ := LB.aK BK268.out;obtain ⟨F27_0, F27_1, F27_2, F27_3, F27_4, F27_5, F27_6, F27_7, F27_8, F27_9, F27_a, F27_b⟩ := LB.aU BK268.out;try go_wp2_with (first | ((with_reducible refine aQ (f := 19) rfl ?_); refine bZ (some 75) rfl rfl Try.func19 (by kernel_rfl) rfl #[.agg #[.int .i64 a0_0, .int .i64 a0_1, .int .i64 a0_2, .slice A0_3 l0_3.length c0_3, .int .i64 a0_4, .int .i64 a0_5, .int .i64 a0_6, .int .i64 a0_7, .int .i64 a0_8, .string a0_9, .int .i64 0, .int .i64 0], .agg #[.int .i64 a0_0, .int .i64 a0_1, .int .i64 a0_2, .slice A0_3 l0_3.length c0_3, .int .i64 a0_4, .int .i64 a0_5, .int .i64 a0_6, .int .i64 a0_7, .int .i64 a0_8, .string a0_9, .int .i64 a0_10, .int .i64 a0_11]] rfl (by (try simp only [SB.lA, SB.lC, SB.lN]); first | done | rfl | (simp only [SB.lD, SB.lT]; rfl)) ?_; (with_reducible refine (aV.calls kj1 a0_0 a0_1 a0_2 _ _ l0_3 a0_4 a0_5 a0_6 a0_7 a0_8 a0_9 0 0 a0_0 a0_1 a0_2 _ _ l0_3 a0_4 a0_5 a0_6 a0_7 a0_8 a0_9 a0_10 a0_11 false _ ?side1 ?side2 ?side3 ?side4 A32.out).mono ?_); (case side1 => exact Kd.dh HR0_3.out (by repeat (first | (with_reducible first | exact HB.out | apply bq | apply aT | apply aJ | refine aW ?_ GE268.out | refine aW ?_ GE273.out) | exact HB.out))); (case side2 => exact HC0_3.out); (case side3 => exact Kd.dh HR0_3.out (by repeat (first | (with_reducible first | exact HB.out | apply bq | apply aT | apply aJ | refine aW ?_ GE268.out | refine aW ?_ GE273.out) | exact HB.out))); (case side4 => exact HC0_3.out); rintro e w80 ⟨rfl, hb⟩; refine ⟨_, rfl, ?_⟩; have n0_ := aa.mk (aZ (g := gb268) (o := .cells #[.int .i64 a0_0, .int .i64 a0_1, .int .i64 a0_2, .slice A0_3 l0_3.length c0_3, .int .i64 a0_4, .int .i64 a0_5, .int .i64 a0_6, .int .i64 a0_7, .int .i64 a0_8, .string a0_9, .int .i64 a0_10, .int .i64 a0_11] 28 (0, 0)) (by (with_reducible repeat (first | refine ax ?_ _ | refine av ?_ | refine ay ?_ _)); refine iI ?_ NB268_273.out _; (with_reducible repeat (first | refine ax ?_ _ | refine av ?_ | refine ay ?_ _)); refine iI ?_ NB268_273.out _; (with_reducible repeat (first | refine ax ?_ _ | refine av ?_ | refine ay ?_ _)); refine iI ?_ NB268_273.out _; (with_reducible repeat (first | refine ax ?_ _ | refine av ?_ | refine ay ?_ _)); exact BK268.out) hb); have n1_ := aa.mk (aZ (g := gb273) (o := .cells #[.int .i64 a0_0, .int .i64 a0_1, .int .i64 a0_2, .slice A0_3 l0_3.length c0_3, .int .i64 a0_4, .int .i64 a0_5, .int .i64 a0_6, .int .i64 a0_7, .int .i64 a0_8, .string a0_9, .int .i64 0, .int .i64 0] 28 (0, 0)) (by (with_reducible repeat (first | refine ax ?_ _ | refine av ?_ | refine ay ?_ _)); refine bK (cs := #[.int .i64 a0_0, .int .i64 a0_1, .int .i64 a0_2, .slice A0_3 l0_3.length c0_3, .int .i64 a0_4, .int .i64 a0_5, .int .i64 a0_6, .int .i64 a0_7, .int .i64 a0_8, .string (⟨#[]⟩ : ByteArray), .int .i64 0, .int .i64 0]) ?_ 9 _ rfl; (with_reducible repeat (first | refine ax ?_ _ | refine av ?_ | refine ay ?_ _)); refine bK (cs := #[.int .i64 a0_0, .int .i64 a0_1, .int .i64 a0_2, .slice A0_3 l0_3.length c0_3, .int .i64 a0_4, .int .i64 a0_5, .int .i64 a0_6, .int .i64 a0_7, .int .i64 0, .string (⟨#[]⟩ : ByteArray), .int .i64 0, .int .i64 0]) ?_ 8 _ rfl; (with_reducible repeat (first | refine ax ?_ _ | refine av ?_ | refine ay ?_ _)); refine bK (cs := #[.int .i64 a0_0, .int .i64 a0_1, .int .i64 a0_2, .slice A0_3 l0_3.length c0_3, .int .i64 a0_4, .int .i64 a0_5, .int .i64 a0_6, .int .i64 0, .int .i64 0, .string (⟨#[]⟩ : ByteArray), .int .i64 0, .int .i64 0]) ?_ 7 _ rfl; (with_reducible repeat (first | refine ax ?_ _ | refine av ?_ | refine ay ?_ _)); exact BK273.out) hb); have n2_ := aa.mk (aj (by repeat (first | (with_reducible first | exact HB.out | apply bq | apply aT | apply aJ | refine aW ?_ GE268.out | refine aW ?_ GE273.out) | exact HB.out)) hb); clear BK268 BK273 HB; have BK268 := n0_; have BK273 := n1_; have HB := n2_; clear n0_ n1_ n2_; (try clear hb hb2 hk hi)))
    go_ret;exact ⟨by first | rfl | (simp [au, ak] <;> rfl) | (simp [*, au, ak] <;> rfl), by exact rud HB.out rfl rfl rfl rfl⟩
   subst c33;have H1 : ((df.f a0_7 a0_8).bind fun t275 => (if t275 = true then ((fD.f a0_9).bind fun t276 => (some t276)) else (some false))) = some r := by rw [if_pos rfl] at H; exact H
   clear H;have H := H1;clear H1;replace H := Option.bind_eq_some_iff.mp H;obtain ⟨t275, A340, H⟩ := H;replace H : (if t275 = true then ((fD.f a0_9).bind fun t276 => (some t276)) else (some false)) = some r := H;have A34 := aa.mk A340;clear A340;by_cases c35 : t275 = true;rotate_left
   ·replace c35 := Bool.eq_false_iff.mpr c35
    subst c35;have H1 : (some false) = some r := by rw [if_neg (show ¬ (false = true) by decide)] at H; exact H
    clear H;have H := H1;clear H1;obtain rfl := Option.some.inj H;obtain ⟨C1h_0, C1h_1, C1h_2, C1h_3, C1h_4, C1h_5, C1h_6, C1h_7, C1h_8, C1h_9, C1h_a, C1h_b⟩ := LB.aK BK268.out;obtain ⟨F1h_0, F1h_1, F1h_2, F1h_3, F1h_4, F1h_5, F1h_6, F1h_7, F1h_8, F1h_9, F1h_a, F1h_b⟩ := LB.aU BK268.out;try go_wp2_with (first | ((with_reducible refine bJ (N := 3) rfl ?_); (try (refine fH (by rfl) ?_; dsimp only)); refine bD ?hg (N := 3) ?hd (cs := #[.int .i64 0, .int .i64 0, .int .i64 0, .slice none 0 0, .int .i64 0, .int .i64 0, .int .i64 0, .int .i64 0, .int .i64 0, .string (⟨#[]⟩ : ByteArray), .int .i64 0, .int .i64 0]) (t := 28) ?hr ?_; (case hd => rfl); (case hg => rfl); (case hr => first | (go_simp; done) | (go_simp; rfl)); intro gb273 hg w54 hbox hb; replace hb : Below (World.heap wc).size wc w54 := ⟨hb.os, hb.tape, hb.output, hb.size, hb.block⟩; have n0_ := aa.mk (aZ BK268.out hb); have n1_ := aa.mk (aj HB.out hb); have n2_ := aa.mk (hbox); have n3_ := aa.mk ((by rw [hg]; exact HB.out.size : w.heap.size ≤ gb273)); have n4_ := n3_; have n5_ := aa.mk ((by rw [hg]; exact Nat.ne_of_lt (gB BK268.out) : gb268 ≠ gb273)); have n6_ := aa.mk (Ne.symm n5_.out); clear BK268 HB; have BK268 := n0_; have HB := n1_; have BK273 := n2_; have GW273 := n3_; have GE273 := n4_; have NB268_273 := n5_; have NB273_268 := n6_; clear n0_ n1_ n2_ n3_ n4_ n5_ n6_ hb hbox hg; have hnb55 := NB273_268.out; have hnc55 := NB268_273.out; obtain ⟨C1k_0, C1k_1, C1k_2, C1k_3, C1k_4, C1k_5, C1k_6, C1k_7, C1k_8, C1k_9, C1k_a, C1k_b⟩ := LB.aK BK273.out; obtain ⟨F1k_0, F1k_1, F1k_2, F1k_3, F1k_4, F1k_5, F1k_6, F1k_7, F1k_8, F1k_9, F1k_a, F1k_b⟩ := LB.aU BK273.out; obtain ⟨C1l_0, C1l_1, C1l_2, C1l_3, C1l_4, C1l_5, C1l_6, C1l_7, C1l_8, C1l_9, C1l_a, C1l_b⟩ := LB.aK BK268.out; obtain ⟨F1l_0, F1l_1, F1l_2, F1l_3, F1l_4, F1l_5, F1l_6, F1l_7, F1l_8, F1l_9, F1l_a, F1l_b⟩ := LB.aU BK268.out))
    generalize hq_ : ((((((((((((w54.setCell ⟨gb273, 0, none⟩ (.int .i64 a0_0)).setCell ⟨gb273, 1, none⟩ (.int .i64 a0_1)).setCell ⟨gb273, 2, none⟩ (.int .i64 a0_2)).setCell ⟨gb273, 3, none⟩ (.slice A0_3 l0_3.length c0_3)).setCell ⟨gb273, 4, none⟩ (.int .i64 a0_4)).setCell ⟨gb273, 5, none⟩ (.int .i64 a0_5)).setCell ⟨gb273, 6, none⟩ (.int .i64 a0_6)).setCell ⟨gb273, 7, none⟩ (.int .i64 0)).setCell ⟨gb273, 8, none⟩ (.int .i64 0)).setCell ⟨gb273, 9, none⟩ (.string (⟨#[]⟩ : ByteArray))).setCell ⟨gb273, 10, none⟩ (.int .i64 0)).setCell ⟨gb273, 11, none⟩ (.int .i64 0)) = w58;have n0_ : aa (w58.heap[gb268]? = some (.cells #[.int .i64 a0_0, .int .i64 a0_1, .int .i64 a0_2, .slice A0_3 l0_3.length c0_3, .int .i64 a0_4, .int .i64 a0_5, .int .i64 a0_6, .int .i64 a0_7, .int .i64 a0_8, .string a0_9, .int .i64 a0_10, .int .i64 a0_11] 28 (0, 0))) := ⟨by rw [← hq_]; exact by (with_reducible repeat (first | refine ax ?_ _ | refine av ?_ | refine ay ?_ _)); refine LB.bfar12 (sb := gb273) ?_ NB268_273.out; (with_reducible repeat (first | refine ax ?_ _ | refine av ?_ | refine ay ?_ _)); exact BK268.out⟩
    have n1_ : aa (w58.heap[gb273]? = some (.cells #[.int .i64 a0_0, .int .i64 a0_1, .int .i64 a0_2, .slice A0_3 l0_3.length c0_3, .int .i64 a0_4, .int .i64 a0_5, .int .i64 a0_6, .int .i64 0, .int .i64 0, .string (⟨#[]⟩ : ByteArray), .int .i64 0, .int .i64 0] 28 (0, 0))) := ⟨by rw [← hq_]; exact by (with_reducible repeat (first | refine ax ?_ _ | refine av ?_ | refine ay ?_ _)); exact LB.put12 BK273.out⟩
    have n2_ : aa (Below w.heap.size w w58) := ⟨by rw [← hq_]; exact by repeat (first | (with_reducible first | exact HB.out | apply bq | apply aT | apply aJ | refine aW ?_ GE268.out | refine aW ?_ GE273.out) | exact HB.out)⟩
    clear hq_;(try clear BK268 BK273 HB);have BK268 := n0_;have BK273 := n1_;have HB := n2_;clear n0_ n1_ n2_;have n0_ := aa.mk (av BK268.out);have n1_ := aa.mk (av BK273.out);have n2_ := aa.mk (aJ HB.out);clear BK268 BK273 HB;have BK268 := n0_;have BK273 := n1_;have HB := n2_;clear n0_ n1_ n2_;refine eD (n := 8) (S := fun w' => w'.cell? ⟨gb268, 0, none⟩ = some (.int .i64 a0_0) ∧ w'.cell? ⟨gb268, 1, none⟩ = some (.int .i64 a0_1) ∧ w'.cell? ⟨gb268, 2, none⟩ = some (.int .i64 a0_2) ∧ w'.cell? ⟨gb268, 3, none⟩ = some (.slice A0_3 l0_3.length c0_3) ∧ w'.cell? ⟨gb268, 4, none⟩ = some (.int .i64 a0_4) ∧ w'.cell? ⟨gb268, 5, none⟩ = some (.int .i64 a0_5) ∧ w'.cell? ⟨gb268, 6, none⟩ = some (.int .i64 a0_6) ∧ w'.cell? ⟨gb268, 7, none⟩ = some (.int .i64 a0_7) ∧ w'.cell? ⟨gb268, 8, none⟩ = some (.int .i64 a0_8) ∧ w'.cell? ⟨gb268, 9, none⟩ = some (.string a0_9) ∧ w'.cell? ⟨gb268, 10, none⟩ = some (.int .i64 a0_10) ∧ w'.cell? ⟨gb268, 11, none⟩ = some (.int .i64 a0_11)) (ds := []) (rbs 8 0) (by kernel_rfl) rfl rfl (LB.aK BK268.out) (fun hHeld => ?_); refine dx ai.tab6 ai.bits6 (fun HT_ HW_ => ?_);generalize w58.drew = w59 at BK268 BK273 HB hHeld ⊢;apply rpu 0 (some 67) HT_ (rbs 8 1) rfl rfl (by kernel_rfl) (fun _ _ _ h => h) (by rfl)
    ·intro w';go_simp;with_reducible rfl
    ·simp only [pS];rfl
    apply rpu 2 (some 69) HT_ (rbs 8 5) rfl rfl (by kernel_rfl) (fun _ _ _ h => h) (by rfl)
    ·intro w';go_simp;with_reducible rfl
    ·simp only [pS];rfl
    apply rtk 1 (some 68) HT_ HW_ hHeld (rbs 8 7) rfl rfl (by kernel_rfl) (fun _ _ _ h => h) (by rfl)
    ·rintro w' ⟨s0, s1, s2, s3, s4, s5, s6, s7, s8, s9, s10, s11⟩;go_simp;with_reducible rfl
    ·simp only [pS];rfl
    apply rpu 4 (some 71) HT_ (rbs 8 23) rfl rfl (by kernel_rfl) (fun _ _ _ h => h) (by rfl)
    ·intro w';go_simp;with_reducible rfl
    ·simp only [pS];rfl
    apply rtk 3 (some 70) HT_ HW_ hHeld (rbs 8 31) rfl rfl (by kernel_rfl) (fun _ _ _ h => h) (by rfl)
    ·rintro w' ⟨s0, s1, s2, s3, s4, s5, s6, s7, s8, s9, s10, s11⟩;go_simp;with_reducible rfl
    ·simp only [pS];rfl
    refine gy (i := 5) (N := none) (rbs 8 63) rfl rfl (di HT_.out (by kernel_rfl)) (by decide) (fun K hK => ?_);have hs60 : w59.cell? ⟨gb273, 7, none⟩ = some (.int .i64 0) := (ag BK273.out 7).trans rfl;have hfs60 := aN BK273.out 7;have hns60_0 := NB268_273.out;have hms60_0 := NB273_268.out;have hs61 : w59.cell? ⟨gb273, 8, none⟩ = some (.int .i64 0) := (ag BK273.out 8).trans rfl;have hfs61 := aN BK273.out 8;have hns61_0 := NB268_273.out;have hms61_0 := NB273_268.out;refine skip_ (w1 := ?_) (by rfl) rfl ?_ ?_;rotate_left
    ·go_simp
     rfl
    refine hK.out _ _ ⟨((LB.far2 (g := gb273) NB268_273.out).trans (hHeld.1)), ((LB.far2 (g := gb273) NB268_273.out).trans (hHeld.2.1)), ((LB.far2 (g := gb273) NB268_273.out).trans (hHeld.2.2.1)), ((LB.far2 (g := gb273) NB268_273.out).trans (hHeld.2.2.2.1)), ((LB.far2 (g := gb273) NB268_273.out).trans (hHeld.2.2.2.2.1)), ((LB.far2 (g := gb273) NB268_273.out).trans (hHeld.2.2.2.2.2.1)), ((LB.far2 (g := gb273) NB268_273.out).trans (hHeld.2.2.2.2.2.2.1)), ((LB.far2 (g := gb273) NB268_273.out).trans (hHeld.2.2.2.2.2.2.2.1)), ((LB.far2 (g := gb273) NB268_273.out).trans (hHeld.2.2.2.2.2.2.2.2.1)), ((LB.far2 (g := gb273) NB268_273.out).trans (hHeld.2.2.2.2.2.2.2.2.2.1)), ((LB.far2 (g := gb273) NB268_273.out).trans (hHeld.2.2.2.2.2.2.2.2.2.2.1)), ((LB.far2 (g := gb273) NB268_273.out).trans (hHeld.2.2.2.2.2.2.2.2.2.2.2))⟩ (fun hHeld => ?_);clear hK K;apply rpu 6 (some 72) HT_ (rbs 8 127) rfl rfl (by kernel_rfl) (fun _ _ _ h => h) (by rfl)
    ·intro w';go_simp;with_reducible rfl
    ·simp only [pS];rfl
    refine gy (i := 7) (N := none) (rbs 8 255) rfl rfl (di HT_.out (by kernel_rfl)) (by decide) (fun K hK => ?_);have hs62 : w59.cell? ⟨gb273, 9, none⟩ = some (.string (⟨#[]⟩ : ByteArray)) := (ag BK273.out 9).trans rfl;have hfs62 := aN BK273.out 9;have hns62_0 := NB268_273.out;have hms62_0 := NB273_268.out;refine skip_ (w1 := ?_) (by rfl) rfl ?_ ?_;rotate_left
    ·go_simp
     rfl
    refine hK.out _ _ ⟨((cell_far (p := ⟨gb273, _, none⟩) NB268_273.out _).trans (hHeld.1)), ((cell_far (p := ⟨gb273, _, none⟩) NB268_273.out _).trans (hHeld.2.1)), ((cell_far (p := ⟨gb273, _, none⟩) NB268_273.out _).trans (hHeld.2.2.1)), ((cell_far (p := ⟨gb273, _, none⟩) NB268_273.out _).trans (hHeld.2.2.2.1)), ((cell_far (p := ⟨gb273, _, none⟩) NB268_273.out _).trans (hHeld.2.2.2.2.1)), ((cell_far (p := ⟨gb273, _, none⟩) NB268_273.out _).trans (hHeld.2.2.2.2.2.1)), ((cell_far (p := ⟨gb273, _, none⟩) NB268_273.out _).trans (hHeld.2.2.2.2.2.2.1)), ((cell_far (p := ⟨gb273, _, none⟩) NB268_273.out _).trans (hHeld.2.2.2.2.2.2.2.1)), ((cell_far (p := ⟨gb273, _, none⟩) NB268_273.out _).trans (hHeld.2.2.2.2.2.2.2.2.1)), ((cell_far (p := ⟨gb273, _, none⟩) NB268_273.out _).trans (hHeld.2.2.2.2.2.2.2.2.2.1)), ((cell_far (p := ⟨gb273, _, none⟩) NB268_273.out _).trans (hHeld.2.2.2.2.2.2.2.2.2.2.1)), ((cell_far (p := ⟨gb273, _, none⟩) NB268_273.out _).trans (hHeld.2.2.2.2.2.2.2.2.2.2.2))⟩ (fun hHeld => ?_);clear hK K;refine gz (dS HT_.out (by kernel_rfl)) ?_;obtain ⟨C1r_0, C1r_1, C1r_2, C1r_3, C1r_4, C1r_5, C1r_6, C1r_7, C1r_8, C1r_9, C1r_a, C1r_b⟩ := LB.aK BK273.out;obtain ⟨F1r_0, F1r_1, F1r_2, F1r_3, F1r_4, F1r_5, F1r_6, F1r_7, F1r_8, F1r_9, F1r_a, F1r_b⟩ := LB.aU BK273.out;obtain ⟨C1s_0, C1s_1, C1s_2, C1s_3, C1s_4, C1s_5, C1s_6, C1s_7, C1s_8, C1s_9, C1s_a, C1s_b⟩ := LB.aK BK268.out;obtain ⟨F1s_0, F1s_1, F1s_2, F1s_3, F1s_4, F1s_5, F1s_6, F1s_7, F1s_8, F1s_9, F1s_a, F1s_b⟩ := LB.aU BK268.out;try go_wp2_with (first | ((with_reducible refine aQ (f := 19) rfl ?_); refine bZ (some 75) rfl rfl Try.func19 (by kernel_rfl) rfl #[.agg #[.int .i64 a0_0, .int .i64 a0_1, .int .i64 a0_2, .slice A0_3 l0_3.length c0_3, .int .i64 a0_4, .int .i64 a0_5, .int .i64 a0_6, .int .i64 a0_7, .int .i64 a0_8, .string a0_9, .int .i64 0, .int .i64 0], .agg #[.int .i64 a0_0, .int .i64 a0_1, .int .i64 a0_2, .slice A0_3 l0_3.length c0_3, .int .i64 a0_4, .int .i64 a0_5, .int .i64 a0_6, .int .i64 a0_7, .int .i64 a0_8, .string a0_9, .int .i64 a0_10, .int .i64 a0_11]] rfl (by (try simp only [SB.lA, SB.lC, SB.lN]); first | done | rfl | (simp only [SB.lD, SB.lT]; rfl)) ?_; (with_reducible refine (aV.calls kj1 a0_0 a0_1 a0_2 _ _ l0_3 a0_4 a0_5 a0_6 a0_7 a0_8 a0_9 0 0 a0_0 a0_1 a0_2 _ _ l0_3 a0_4 a0_5 a0_6 a0_7 a0_8 a0_9 a0_10 a0_11 true _ ?side1 ?side2 ?side3 ?side4 A32.out).mono ?_); (case side1 => exact Kd.dh HR0_3.out (by repeat (first | (with_reducible first | exact HB.out | apply bq | apply aT | apply aJ | refine aW ?_ GE268.out | refine aW ?_ GE273.out) | exact HB.out))); (case side2 => exact HC0_3.out); (case side3 => exact Kd.dh HR0_3.out (by repeat (first | (with_reducible first | exact HB.out | apply bq | apply aT | apply aJ | refine aW ?_ GE268.out | refine aW ?_ GE273.out) | exact HB.out))); (case side4 => exact HC0_3.out); rintro e w65 ⟨rfl, hb⟩; refine ⟨_, rfl, ?_⟩; have n0_ := aa.mk (aZ (g := gb268) (o := .cells #[.int .i64 a0_0, .int .i64 a0_1, .int .i64 a0_2, .slice A0_3 l0_3.length c0_3, .int .i64 a0_4, .int .i64 a0_5, .int .i64 a0_6, .int .i64 a0_7, .int .i64 a0_8, .string a0_9, .int .i64 a0_10, .int .i64 a0_11] 28 (0, 0)) (by (with_reducible repeat (first | refine ax ?_ _ | refine av ?_ | refine ay ?_ _)); refine iI ?_ NB268_273.out _; (with_reducible repeat (first | refine ax ?_ _ | refine av ?_ | refine ay ?_ _)); refine iI ?_ NB268_273.out _; (with_reducible repeat (first | refine ax ?_ _ | refine av ?_ | refine ay ?_ _)); refine iI ?_ NB268_273.out _; (with_reducible repeat (first | refine ax ?_ _ | refine av ?_ | refine ay ?_ _)); exact BK268.out) hb); have n1_ := aa.mk (aZ (g := gb273) (o := .cells #[.int .i64 a0_0, .int .i64 a0_1, .int .i64 a0_2, .slice A0_3 l0_3.length c0_3, .int .i64 a0_4, .int .i64 a0_5, .int .i64 a0_6, .int .i64 a0_7, .int .i64 a0_8, .string a0_9, .int .i64 0, .int .i64 0] 28 (0, 0)) (by (with_reducible repeat (first | refine ax ?_ _ | refine av ?_ | refine ay ?_ _)); refine bK (cs := #[.int .i64 a0_0, .int .i64 a0_1, .int .i64 a0_2, .slice A0_3 l0_3.length c0_3, .int .i64 a0_4, .int .i64 a0_5, .int .i64 a0_6, .int .i64 a0_7, .int .i64 a0_8, .string (⟨#[]⟩ : ByteArray), .int .i64 0, .int .i64 0]) ?_ 9 _ rfl; (with_reducible repeat (first | refine ax ?_ _ | refine av ?_ | refine ay ?_ _)); refine bK (cs := #[.int .i64 a0_0, .int .i64 a0_1, .int .i64 a0_2, .slice A0_3 l0_3.length c0_3, .int .i64 a0_4, .int .i64 a0_5, .int .i64 a0_6, .int .i64 a0_7, .int .i64 0, .string (⟨#[]⟩ : ByteArray), .int .i64 0, .int .i64 0]) ?_ 8 _ rfl; (with_reducible repeat (first | refine ax ?_ _ | refine av ?_ | refine ay ?_ _)); refine bK (cs := #[.int .i64 a0_0, .int .i64 a0_1, .int .i64 a0_2, .slice A0_3 l0_3.length c0_3, .int .i64 a0_4, .int .i64 a0_5, .int .i64 a0_6, .int .i64 0, .int .i64 0, .string (⟨#[]⟩ : ByteArray), .int .i64 0, .int .i64 0]) ?_ 7 _ rfl; (with_reducible repeat (first | refine ax ?_ _ | refine av ?_ | refine ay ?_ _)); exact BK273.out) hb); have n2_ := aa.mk (aj (by repeat (first | (with_reducible first | exact HB.out | apply bq | apply aT | apply aJ | refine aW ?_ GE268.out | refine aW ?_ GE273.out) | exact HB.out)) hb); clear BK268 BK273 HB; have BK268 := n0_; have BK273 := n1_; have HB := n2_; clear n0_ n1_ n2_; (try clear hb hb2 hk hi); obtain ⟨C1u_0, C1u_1, C1u_2, C1u_3, C1u_4, C1u_5, C1u_6, C1u_7, C1u_8, C1u_9, C1u_a, C1u_b⟩ := LB.aK BK268.out; obtain ⟨F1u_0, F1u_1, F1u_2, F1u_3, F1u_4, F1u_5, F1u_6, F1u_7, F1u_8, F1u_9, F1u_a, F1u_b⟩ := LB.aU BK268.out) | (go_at_call 58; (with_reducible refine (df.calls a0_7 a0_8 false _ A34.out).mono ?_); rintro e w67 ⟨rfl, hb⟩; replace hb : Below (World.heap w65).size w65 w67 := ⟨hb.os, hb.tape, hb.output, hb.size, hb.block⟩; have n0_ := aa.mk (aZ BK268.out hb); have n1_ := aa.mk (aZ BK273.out hb); have n2_ := aa.mk (aj HB.out hb); clear BK268 BK273 HB; have BK268 := n0_; have BK273 := n1_; have HB := n2_; clear n0_ n1_ n2_; (try clear hb hb2 hk hi)))
    go_ret;exact ⟨by first | rfl | (simp [au, ak] <;> rfl) | (simp [*, au, ak] <;> rfl), by exact rud HB.out rfl rfl rfl rfl⟩
   subst c35;have H1 : ((fD.f a0_9).bind fun t276 => (some t276)) = some r := by rw [if_pos rfl] at H; exact H
   clear H;have H := H1;clear H1;replace H := Option.bind_eq_some_iff.mp H;obtain ⟨t276, A360, H⟩ := H;replace H : (some t276) = some r := H;have A36 := aa.mk A360;clear A360;obtain rfl := Option.some.inj H;obtain ⟨C11_0, C11_1, C11_2, C11_3, C11_4, C11_5, C11_6, C11_7, C11_8, C11_9, C11_a, C11_b⟩ := LB.aK BK268.out;obtain ⟨F11_0, F11_1, F11_2, F11_3, F11_4, F11_5, F11_6, F11_7, F11_8, F11_9, F11_a, F11_b⟩ := LB.aU BK268.out;try go_wp2_with (first | ((with_reducible refine bJ (N := 3) rfl ?_); (try (refine fH (by rfl) ?_; dsimp only)); refine bD ?hg (N := 3) ?hd (cs := #[.int .i64 0, .int .i64 0, .int .i64 0, .slice none 0 0, .int .i64 0, .int .i64 0, .int .i64 0, .int .i64 0, .int .i64 0, .string (⟨#[]⟩ : ByteArray), .int .i64 0, .int .i64 0]) (t := 28) ?hr ?_; (case hd => rfl); (case hg => rfl); (case hr => first | (go_simp; done) | (go_simp; rfl)); intro gb273 hg w38 hbox hb; replace hb : Below (World.heap wc).size wc w38 := ⟨hb.os, hb.tape, hb.output, hb.size, hb.block⟩; have n0_ := aa.mk (aZ BK268.out hb); have n1_ := aa.mk (aj HB.out hb); have n2_ := aa.mk (hbox); have n3_ := aa.mk ((by rw [hg]; exact HB.out.size : w.heap.size ≤ gb273)); have n4_ := n3_; have n5_ := aa.mk ((by rw [hg]; exact Nat.ne_of_lt (gB BK268.out) : gb268 ≠ gb273)); have n6_ := aa.mk (Ne.symm n5_.out); clear BK268 HB; have BK268 := n0_; have HB := n1_; have BK273 := n2_; have GW273 := n3_; have GE273 := n4_; have NB268_273 := n5_; have NB273_268 := n6_; clear n0_ n1_ n2_ n3_ n4_ n5_ n6_ hb hbox hg; have hnb39 := NB273_268.out; have hnc39 := NB268_273.out; obtain ⟨C14_0, C14_1, C14_2, C14_3, C14_4, C14_5, C14_6, C14_7, C14_8, C14_9, C14_a, C14_b⟩ := LB.aK BK273.out; obtain ⟨F14_0, F14_1, F14_2, F14_3, F14_4, F14_5, F14_6, F14_7, F14_8, F14_9, F14_a, F14_b⟩ := LB.aU BK273.out; obtain ⟨C15_0, C15_1, C15_2, C15_3, C15_4, C15_5, C15_6, C15_7, C15_8, C15_9, C15_a, C15_b⟩ := LB.aK BK268.out; obtain ⟨F15_0, F15_1, F15_2, F15_3, F15_4, F15_5, F15_6, F15_7, F15_8, F15_9, F15_a, F15_b⟩ := LB.aU BK268.out))
   generalize hq_ : ((((((((((((w38.setCell ⟨gb273, 0, none⟩ (.int .i64 a0_0)).setCell ⟨gb273, 1, none⟩ (.int .i64 a0_1)).setCell ⟨gb273, 2, none⟩ (.int .i64 a0_2)).setCell ⟨gb273, 3, none⟩ (.slice A0_3 l0_3.length c0_3)).setCell ⟨gb273, 4, none⟩ (.int .i64 a0_4)).setCell ⟨gb273, 5, none⟩ (.int .i64 a0_5)).setCell ⟨gb273, 6, none⟩ (.int .i64 a0_6)).setCell ⟨gb273, 7, none⟩ (.int .i64 0)).setCell ⟨gb273, 8, none⟩ (.int .i64 0)).setCell ⟨gb273, 9, none⟩ (.string (⟨#[]⟩ : ByteArray))).setCell ⟨gb273, 10, none⟩ (.int .i64 0)).setCell ⟨gb273, 11, none⟩ (.int .i64 0)) = w42;have n0_ : aa (w42.heap[gb268]? = some (.cells #[.int .i64 a0_0, .int .i64 a0_1, .int .i64 a0_2, .slice A0_3 l0_3.length c0_3, .int .i64 a0_4, .int .i64 a0_5, .int .i64 a0_6, .int .i64 a0_7, .int .i64 a0_8, .string a0_9, .int .i64 a0_10, .int .i64 a0_11] 28 (0, 0))) := ⟨by rw [← hq_]; exact by (with_reducible repeat (first | refine ax ?_ _ | refine av ?_ | refine ay ?_ _)); refine LB.bfar12 (sb := gb273) ?_ NB268_273.out; (with_reducible repeat (first | refine ax ?_ _ | refine av ?_ | refine ay ?_ _)); exact BK268.out⟩
   have n1_ : aa (w42.heap[gb273]? = some (.cells #[.int .i64 a0_0, .int .i64 a0_1, .int .i64 a0_2, .slice A0_3 l0_3.length c0_3, .int .i64 a0_4, .int .i64 a0_5, .int .i64 a0_6, .int .i64 0, .int .i64 0, .string (⟨#[]⟩ : ByteArray), .int .i64 0, .int .i64 0] 28 (0, 0))) := ⟨by rw [← hq_]; exact by (with_reducible repeat (first | refine ax ?_ _ | refine av ?_ | refine ay ?_ _)); exact LB.put12 BK273.out⟩
   have n2_ : aa (Below w.heap.size w w42) := ⟨by rw [← hq_]; exact by repeat (first | (with_reducible first | exact HB.out | apply bq | apply aT | apply aJ | refine aW ?_ GE268.out | refine aW ?_ GE273.out) | exact HB.out)⟩
   clear hq_;(try clear BK268 BK273 HB);have BK268 := n0_;have BK273 := n1_;have HB := n2_;clear n0_ n1_ n2_;have n0_ := aa.mk (av BK268.out);have n1_ := aa.mk (av BK273.out);have n2_ := aa.mk (aJ HB.out);clear BK268 BK273 HB;have BK268 := n0_;have BK273 := n1_;have HB := n2_;clear n0_ n1_ n2_;refine eD (n := 8) (S := fun w' => w'.cell? ⟨gb268, 0, none⟩ = some (.int .i64 a0_0) ∧ w'.cell? ⟨gb268, 1, none⟩ = some (.int .i64 a0_1) ∧ w'.cell? ⟨gb268, 2, none⟩ = some (.int .i64 a0_2) ∧ w'.cell? ⟨gb268, 3, none⟩ = some (.slice A0_3 l0_3.length c0_3) ∧ w'.cell? ⟨gb268, 4, none⟩ = some (.int .i64 a0_4) ∧ w'.cell? ⟨gb268, 5, none⟩ = some (.int .i64 a0_5) ∧ w'.cell? ⟨gb268, 6, none⟩ = some (.int .i64 a0_6) ∧ w'.cell? ⟨gb268, 7, none⟩ = some (.int .i64 a0_7) ∧ w'.cell? ⟨gb268, 8, none⟩ = some (.int .i64 a0_8) ∧ w'.cell? ⟨gb268, 9, none⟩ = some (.string a0_9) ∧ w'.cell? ⟨gb268, 10, none⟩ = some (.int .i64 a0_10) ∧ w'.cell? ⟨gb268, 11, none⟩ = some (.int .i64 a0_11)) (ds := []) (rbs 8 0) (by kernel_rfl) rfl rfl (LB.aK BK268.out) (fun hHeld => ?_); refine dx ai.tab6 ai.bits6 (fun HT_ HW_ => ?_);generalize w42.drew = w43 at BK268 BK273 HB hHeld ⊢;apply rpu 0 (some 67) HT_ (rbs 8 1) rfl rfl (by kernel_rfl) (fun _ _ _ h => h) (by rfl)
   ·intro w';go_simp;with_reducible rfl
   ·simp only [pS];rfl
   apply rpu 2 (some 69) HT_ (rbs 8 5) rfl rfl (by kernel_rfl) (fun _ _ _ h => h) (by rfl)
   ·intro w';go_simp;with_reducible rfl
   ·simp only [pS];rfl
   apply rtk 1 (some 68) HT_ HW_ hHeld (rbs 8 7) rfl rfl (by kernel_rfl) (fun _ _ _ h => h) (by rfl)
   ·rintro w' ⟨s0, s1, s2, s3, s4, s5, s6, s7, s8, s9, s10, s11⟩;go_simp;with_reducible rfl
   ·simp only [pS];rfl
   apply rpu 4 (some 71) HT_ (rbs 8 23) rfl rfl (by kernel_rfl) (fun _ _ _ h => h) (by rfl)
   ·intro w';go_simp;with_reducible rfl
   ·simp only [pS];rfl
   apply rtk 3 (some 70) HT_ HW_ hHeld (rbs 8 31) rfl rfl (by kernel_rfl) (fun _ _ _ h => h) (by rfl)
   ·rintro w' ⟨s0, s1, s2, s3, s4, s5, s6, s7, s8, s9, s10, s11⟩;go_simp;with_reducible rfl
   ·simp only [pS];rfl
   refine gy (i := 5) (N := none) (rbs 8 63) rfl rfl (di HT_.out (by kernel_rfl)) (by decide) (fun K hK => ?_);have hs44 : w43.cell? ⟨gb273, 7, none⟩ = some (.int .i64 0) := (ag BK273.out 7).trans rfl;have hfs44 := aN BK273.out 7;have hns44_0 := NB268_273.out;have hms44_0 := NB273_268.out;have hs45 : w43.cell? ⟨gb273, 8, none⟩ = some (.int .i64 0) := (ag BK273.out 8).trans rfl;have hfs45 := aN BK273.out 8;have hns45_0 := NB268_273.out;have hms45_0 := NB273_268.out;refine skip_ (w1 := ?_) (by rfl) rfl ?_ ?_;rotate_left
   ·go_simp
    rfl
   refine hK.out _ _ ⟨((LB.far2 (g := gb273) NB268_273.out).trans (hHeld.1)), ((LB.far2 (g := gb273) NB268_273.out).trans (hHeld.2.1)), ((LB.far2 (g := gb273) NB268_273.out).trans (hHeld.2.2.1)), ((LB.far2 (g := gb273) NB268_273.out).trans (hHeld.2.2.2.1)), ((LB.far2 (g := gb273) NB268_273.out).trans (hHeld.2.2.2.2.1)), ((LB.far2 (g := gb273) NB268_273.out).trans (hHeld.2.2.2.2.2.1)), ((LB.far2 (g := gb273) NB268_273.out).trans (hHeld.2.2.2.2.2.2.1)), ((LB.far2 (g := gb273) NB268_273.out).trans (hHeld.2.2.2.2.2.2.2.1)), ((LB.far2 (g := gb273) NB268_273.out).trans (hHeld.2.2.2.2.2.2.2.2.1)), ((LB.far2 (g := gb273) NB268_273.out).trans (hHeld.2.2.2.2.2.2.2.2.2.1)), ((LB.far2 (g := gb273) NB268_273.out).trans (hHeld.2.2.2.2.2.2.2.2.2.2.1)), ((LB.far2 (g := gb273) NB268_273.out).trans (hHeld.2.2.2.2.2.2.2.2.2.2.2))⟩ (fun hHeld => ?_);clear hK K;apply rpu 6 (some 72) HT_ (rbs 8 127) rfl rfl (by kernel_rfl) (fun _ _ _ h => h) (by rfl)
   ·intro w';go_simp;with_reducible rfl
   ·simp only [pS];rfl
   refine gy (i := 7) (N := none) (rbs 8 255) rfl rfl (di HT_.out (by kernel_rfl)) (by decide) (fun K hK => ?_);have hs46 : w43.cell? ⟨gb273, 9, none⟩ = some (.string (⟨#[]⟩ : ByteArray)) := (ag BK273.out 9).trans rfl;have hfs46 := aN BK273.out 9;have hns46_0 := NB268_273.out;have hms46_0 := NB273_268.out;refine skip_ (w1 := ?_) (by rfl) rfl ?_ ?_;rotate_left
   ·go_simp
    rfl
   refine hK.out _ _ ⟨((cell_far (p := ⟨gb273, _, none⟩) NB268_273.out _).trans (hHeld.1)), ((cell_far (p := ⟨gb273, _, none⟩) NB268_273.out _).trans (hHeld.2.1)), ((cell_far (p := ⟨gb273, _, none⟩) NB268_273.out _).trans (hHeld.2.2.1)), ((cell_far (p := ⟨gb273, _, none⟩) NB268_273.out _).trans (hHeld.2.2.2.1)), ((cell_far (p := ⟨gb273, _, none⟩) NB268_273.out _).trans (hHeld.2.2.2.2.1)), ((cell_far (p := ⟨gb273, _, none⟩) NB268_273.out _).trans (hHeld.2.2.2.2.2.1)), ((cell_far (p := ⟨gb273, _, none⟩) NB268_273.out _).trans (hHeld.2.2.2.2.2.2.1)), ((cell_far (p := ⟨gb273, _, none⟩) NB268_273.out _).trans (hHeld.2.2.2.2.2.2.2.1)), ((cell_far (p := ⟨gb273, _, none⟩) NB268_273.out _).trans (hHeld.2.2.2.2.2.2.2.2.1)), ((cell_far (p := ⟨gb273, _, none⟩) NB268_273.out _).trans (hHeld.2.2.2.2.2.2.2.2.2.1)), ((cell_far (p := ⟨gb273, _, none⟩) NB268_273.out _).trans (hHeld.2.2.2.2.2.2.2.2.2.2.1)), ((cell_far (p := ⟨gb273, _, none⟩) NB268_273.out _).trans (hHeld.2.2.2.2.2.2.2.2.2.2.2))⟩ (fun hHeld => ?_);clear hK K;refine gz (dS HT_.out (by kernel_rfl)) ?_;obtain ⟨C1b_0, C1b_1, C1b_2, C1b_3, C1b_4, C1b_5, C1b_6, C1b_7, C1b_8, C1b_9, C1b_a, C1b_b⟩ := LB.aK BK273.out;obtain ⟨F1b_0, F1b_1, F1b_2, F1b_3, F1b_4, F1b_5, F1b_6, F1b_7, F1b_8, F1b_9, F1b_a, F1b_b⟩ := LB.aU BK273.out;obtain ⟨C1c_0, C1c_1, C1c_2, C1c_3, C1c_4, C1c_5, C1c_6, C1c_7, C1c_8, C1c_9, C1c_a, C1c_b⟩ := LB.aK BK268.out;obtain ⟨F1c_0, F1c_1, F1c_2, F1c_3, F1c_4, F1c_5, F1c_6, F1c_7, F1c_8, F1c_9, F1c_a, F1c_b⟩ := LB.aU BK268.out;try go_wp2_with (first | ((with_reducible refine aQ (f := 19) rfl ?_); refine bZ (some 75) rfl rfl Try.func19 (by kernel_rfl) rfl #[.agg #[.int .i64 a0_0, .int .i64 a0_1, .int .i64 a0_2, .slice A0_3 l0_3.length c0_3, .int .i64 a0_4, .int .i64 a0_5, .int .i64 a0_6, .int .i64 a0_7, .int .i64 a0_8, .string a0_9, .int .i64 0, .int .i64 0], .agg #[.int .i64 a0_0, .int .i64 a0_1, .int .i64 a0_2, .slice A0_3 l0_3.length c0_3, .int .i64 a0_4, .int .i64 a0_5, .int .i64 a0_6, .int .i64 a0_7, .int .i64 a0_8, .string a0_9, .int .i64 a0_10, .int .i64 a0_11]] rfl (by (try simp only [SB.lA, SB.lC, SB.lN]); first | done | rfl | (simp only [SB.lD, SB.lT]; rfl)) ?_; (with_reducible refine (aV.calls kj1 a0_0 a0_1 a0_2 _ _ l0_3 a0_4 a0_5 a0_6 a0_7 a0_8 a0_9 0 0 a0_0 a0_1 a0_2 _ _ l0_3 a0_4 a0_5 a0_6 a0_7 a0_8 a0_9 a0_10 a0_11 true _ ?side1 ?side2 ?side3 ?side4 A32.out).mono ?_); (case side1 => exact Kd.dh HR0_3.out (by repeat (first | (with_reducible first | exact HB.out | apply bq | apply aT | apply aJ | refine aW ?_ GE268.out | refine aW ?_ GE273.out) | exact HB.out))); (case side2 => exact HC0_3.out); (case side3 => exact Kd.dh HR0_3.out (by repeat (first | (with_reducible first | exact HB.out | apply bq | apply aT | apply aJ | refine aW ?_ GE268.out | refine aW ?_ GE273.out) | exact HB.out))); (case side4 => exact HC0_3.out); rintro e w49 ⟨rfl, hb⟩; refine ⟨_, rfl, ?_⟩; have n0_ := aa.mk (aZ (g := gb268) (o := .cells #[.int .i64 a0_0, .int .i64 a0_1, .int .i64 a0_2, .slice A0_3 l0_3.length c0_3, .int .i64 a0_4, .int .i64 a0_5, .int .i64 a0_6, .int .i64 a0_7, .int .i64 a0_8, .string a0_9, .int .i64 a0_10, .int .i64 a0_11] 28 (0, 0)) (by (with_reducible repeat (first | refine ax ?_ _ | refine av ?_ | refine ay ?_ _)); refine iI ?_ NB268_273.out _; (with_reducible repeat (first | refine ax ?_ _ | refine av ?_ | refine ay ?_ _)); refine iI ?_ NB268_273.out _; (with_reducible repeat (first | refine ax ?_ _ | refine av ?_ | refine ay ?_ _)); refine iI ?_ NB268_273.out _; (with_reducible repeat (first | refine ax ?_ _ | refine av ?_ | refine ay ?_ _)); exact BK268.out) hb); have n1_ := aa.mk (aZ (g := gb273) (o := .cells #[.int .i64 a0_0, .int .i64 a0_1, .int .i64 a0_2, .slice A0_3 l0_3.length c0_3, .int .i64 a0_4, .int .i64 a0_5, .int .i64 a0_6, .int .i64 a0_7, .int .i64 a0_8, .string a0_9, .int .i64 0, .int .i64 0] 28 (0, 0)) (by (with_reducible repeat (first | refine ax ?_ _ | refine av ?_ | refine ay ?_ _)); refine bK (cs := #[.int .i64 a0_0, .int .i64 a0_1, .int .i64 a0_2, .slice A0_3 l0_3.length c0_3, .int .i64 a0_4, .int .i64 a0_5, .int .i64 a0_6, .int .i64 a0_7, .int .i64 a0_8, .string (⟨#[]⟩ : ByteArray), .int .i64 0, .int .i64 0]) ?_ 9 _ rfl; (with_reducible repeat (first | refine ax ?_ _ | refine av ?_ | refine ay ?_ _)); refine bK (cs := #[.int .i64 a0_0, .int .i64 a0_1, .int .i64 a0_2, .slice A0_3 l0_3.length c0_3, .int .i64 a0_4, .int .i64 a0_5, .int .i64 a0_6, .int .i64 a0_7, .int .i64 0, .string (⟨#[]⟩ : ByteArray), .int .i64 0, .int .i64 0]) ?_ 8 _ rfl; (with_reducible repeat (first | refine ax ?_ _ | refine av ?_ | refine ay ?_ _)); refine bK (cs := #[.int .i64 a0_0, .int .i64 a0_1, .int .i64 a0_2, .slice A0_3 l0_3.length c0_3, .int .i64 a0_4, .int .i64 a0_5, .int .i64 a0_6, .int .i64 0, .int .i64 0, .string (⟨#[]⟩ : ByteArray), .int .i64 0, .int .i64 0]) ?_ 7 _ rfl; (with_reducible repeat (first | refine ax ?_ _ | refine av ?_ | refine ay ?_ _)); exact BK273.out) hb); have n2_ := aa.mk (aj (by repeat (first | (with_reducible first | exact HB.out | apply bq | apply aT | apply aJ | refine aW ?_ GE268.out | refine aW ?_ GE273.out) | exact HB.out)) hb); clear BK268 BK273 HB; have BK268 := n0_; have BK273 := n1_; have HB := n2_; clear n0_ n1_ n2_; (try clear hb hb2 hk hi); obtain ⟨C1e_0, C1e_1, C1e_2, C1e_3, C1e_4, C1e_5, C1e_6, C1e_7, C1e_8, C1e_9, C1e_a, C1e_b⟩ := LB.aK BK268.out; obtain ⟨F1e_0, F1e_1, F1e_2, F1e_3, F1e_4, F1e_5, F1e_6, F1e_7, F1e_8, F1e_9, F1e_a, F1e_b⟩ := LB.aU BK268.out) | (go_at_call 58; (with_reducible refine (df.calls a0_7 a0_8 true _ A34.out).mono ?_); rintro e w51 ⟨rfl, hb⟩; replace hb : Below (World.heap w49).size w49 w51 := ⟨hb.os, hb.tape, hb.output, hb.size, hb.block⟩; have n0_ := aa.mk (aZ BK268.out hb); have n1_ := aa.mk (aZ BK273.out hb); have n2_ := aa.mk (aj HB.out hb); clear BK268 BK273 HB; have BK268 := n0_; have BK273 := n1_; have HB := n2_; clear n0_ n1_ n2_; (try clear hb hb2 hk hi); obtain ⟨C1g_0, C1g_1, C1g_2, C1g_3, C1g_4, C1g_5, C1g_6, C1g_7, C1g_8, C1g_9, C1g_a, C1g_b⟩ := LB.aK BK268.out; obtain ⟨F1g_0, F1g_1, F1g_2, F1g_3, F1g_4, F1g_5, F1g_6, F1g_7, F1g_8, F1g_9, F1g_a, F1g_b⟩ := LB.aU BK268.out) | (go_at_call 59; (with_reducible refine (fD.calls a0_9 t276 _ A36.out).mono ?_); rintro e w' ⟨rfl, ⟨nd, rfl⟩⟩))
   go_ret;exact ⟨by first | rfl | (simp [au, ak] <;> rfl) | (simp [*, au, ak] <;> rfl), by exact rud HB.out rfl rfl rfl rfl⟩
end Go.Proofs.Ytddnlnjmikcgfaa.PC
end
section
namespace Go.Proofs.Ytddnlnjmikcgfaa.PC
open Go.RowKit Go.WB.PrintWords Go.WB.PrintLast Go.WB.PrintMore
attribute [local go_sem] cB cZ dE dD bP bQ cO cK
set_option linter.unusedVariables false
set_option linter.unusedSimpArgs false
set_option maxHeartbeats 40000000
set_option maxRecDepth 100000
theorem bU.calls (a0 : Int) (r : Int) (w : World) (h : bU.f a0 = some r) :
  Calls Try.prog 18 #[.int .i64 a0] w fun e w' => e = .returned (.int .i64 r) ∧ bC w w' := by
 have H : (some a0) = some r := h;clear h;obtain rfl := Option.some.inj H;go_enter Try.func18, Try.ntmps18;go_wp2;go_ret;exact ⟨by first | rfl | (simp; done) | (simp [*]; done), by repeat (first | exact bC.refl _ | apply bC.step)⟩
end Go.Proofs.Ytddnlnjmikcgfaa.PC
end
section
namespace Go.Proofs.Ytddnlnjmikcgfaa.PC
open Go.RowKit Go.WB.PrintWords Go.WB.PrintLast Go.WB.PrintMore
attribute [local go_sem] cB cZ dE dD bP bQ cO cK
set_option linter.unusedVariables false
set_option linter.unusedSimpArgs false
open Go.LB (sT sZ sS cells3 aK dQ aU)
open Go.SB (rpu rpf rtk rpu0 rpf0 rtk0 rbs rud pS)
set_option maxHeartbeats 40000000
set_option maxRecDepth 100000
theorem aI.calls (k : Nat) (A0 : Option Addr) (c0 : Nat) (l0 : List Int) (A1 : Option Addr) (c1 : Nat) (l1 : List Int) (r : Bool) (w : World) (hr0 : Kd.C (Kd.int .u8) w A0 l0.length l0) (hc0 : l0.length ≤ c0) (hr1 : Kd.C (Kd.int .u8) w A1 l1.length l1) (hc1 : l1.length ≤ c1) (h : aI.f k l0 l1 = some r) :
  Calls Try.prog 20 #[.slice A0 l0.length c0, .slice A1 l1.length c1] w fun e w' => e = .returned (.bool r) ∧ bC w w' := by
 have HR0 := aa.mk hr0;have HC0 := aa.mk hc0;clear hr0 hc0;have HR1 := aa.mk hr1;have HC1 := aa.mk hc1;clear hr1 hc1;have H : (if (l0.length : Int) = (l1.length : Int) then (aI.l0 k l0 l1 0) else (some false)) = some r := h;clear h;by_cases c3 : (l0.length : Int) = (l1.length : Int)
 ·rw [if_pos c3] at H
  have c3b0 : ((l0.length : Int) == (l1.length : Int)) = true := beq_iff_eq.mpr c3;have c3b1 : ((l0.length : Int) != (l1.length : Int)) = false := bne_eq_false_iff_eq.mpr c3;have c3b2 : (l0.length == l1.length) = true := by first | simpa using c3 | (simp at c3 ⊢; omega)
  clear c3;have H' := aa.mk H;clear H;go_enter Try.func20, Try.ntmps20;go_wp2;repeat (go_quiet (fail); try go_wp2)
  go_loopg [5] k (fun kq v5 w' => ∃ (x5_1 : Int), v5 = .int .i64 x5_1 ∧ aa (aI.l0 kq l0 l1 x5_1 = some r) ∧ aa (kq ≤ k) ∧ bC w w')
  case atStart => exact ⟨(0), (by first | rfl | (simp; done) | (simp [*]; done)), H', ⟨Nat.le_refl _⟩, by repeat (first | exact bC.refl _ | apply bC.step)⟩
  case round =>
   clear H';(try clear c1 c2 p2 c3 c3b0 c3b1 c3b2);obtain ⟨x5_1, rfl, HA, HK1, ⟨m1, rfl⟩⟩ := hrel;cases gk with
   | zero => exact absurd HA.out (by simp [aI.l0])
   | succ k1 =>
    have H := HA.out;clear HA;simp only [aI.l0] at H;by_cases c4 : x5_1 < (l0.length : Int)
    ·rw [if_pos c4] at H
     have c4b0 : decide (x5_1 < (l0.length : Int)) = true := decide_eq_true c4;clear c4;by_cases c5 : 0 ≤ x5_1
     ·rw [if_pos c5] at H
      have c5b0 : decide (0 ≤ x5_1) = true := decide_eq_true c5;clear c5;by_cases c6 : x5_1 < (l1.length : Int)
      ·rw [if_pos c6] at H
       have c6b0 : decide (x5_1 < (l1.length : Int)) = true := decide_eq_true c6;clear c6;by_cases c7 : (rd l0 x5_1) = (rd l1 x5_1)
       ·rw [if_pos c7] at H
        have c7b0 : ((rd l0 x5_1) == (rd l1 x5_1)) = true := beq_iff_eq.mpr c7;have c7b1 : ((rd l0 x5_1) != (rd l1 x5_1)) = false := bne_eq_false_iff_eq.mpr c7;clear c7;have H' := aa.mk H;clear H;have p357 : 0 ≤ (x5_1 : Int) := of_decide_eq_true (by first | (with_reducible assumption) | assumption);have q357 : x5_1 < (l0.length : Int) := of_decide_eq_true (by first | (with_reducible assumption) | assumption);obtain ⟨ad357, e357, hx357_0⟩ := Kd.fG HR0.out x5_1 p357 q357;cases e357
        replace p357 := eq_true p357;replace q357 := eq_true q357;have p358 : 0 ≤ (x5_1 : Int) := of_decide_eq_true (by first | (with_reducible assumption) | assumption);have q358 : x5_1 < (l1.length : Int) := of_decide_eq_true (by first | (with_reducible assumption) | assumption);obtain ⟨ad358, e358, hx358_0⟩ := Kd.fG HR1.out x5_1 p358 q358;cases e358
        replace p358 := eq_true p358;replace q358 := eq_true q358;go_wp2;repeat (go_quiet (fail); try go_wp2)
        go_roundg k1
        case measure => have := HK1.out; omega
        case rel => exact ⟨(wrap64 (x5_1 + 1)), (by first | rfl | (simp; done) | (simp [*]; done)), H', ⟨by have := HK1.out; omega⟩, by repeat (first | exact bC.refl _ | apply bC.step)⟩
       ·rw [if_neg c7] at H
        have c7b0 : ((rd l0 x5_1) == (rd l1 x5_1)) = false := beq_eq_false_iff_ne.mpr c7;have c7b1 : ((rd l0 x5_1) != (rd l1 x5_1)) = true := bne_iff_ne.mpr c7;obtain rfl := Option.some.inj H;have p357 : 0 ≤ (x5_1 : Int) := of_decide_eq_true (by first | (with_reducible assumption) | assumption);have q357 : x5_1 < (l0.length : Int) := of_decide_eq_true (by first | (with_reducible assumption) | assumption);obtain ⟨ad357, e357, hx357_0⟩ := Kd.fG HR0.out x5_1 p357 q357;cases e357
        replace p357 := eq_true p357;replace q357 := eq_true q357;have p358 : 0 ≤ (x5_1 : Int) := of_decide_eq_true (by first | (with_reducible assumption) | assumption);have q358 : x5_1 < (l1.length : Int) := of_decide_eq_true (by first | (with_reducible assumption) | assumption);obtain ⟨ad358, e358, hx358_0⟩ := Kd.fG HR1.out x5_1 p358 q358;cases e358
        replace p358 := eq_true p358;replace q358 := eq_true q358;go_wp2;repeat (go_quiet (fail); try go_wp2)
        go_ret;exact ⟨by first | rfl | (simp; done) | (simp [*]; done), by repeat (first | exact bC.refl _ | apply bC.step)⟩
      ·rw [if_neg c6] at H
       exact absurd H (by simp)
     ·rw [if_neg c5] at H
      exact absurd H (by simp)
    ·rw [if_neg c4] at H
     have c4b0 : decide (x5_1 < (l0.length : Int)) = false := decide_eq_false c4;clear c4;obtain rfl := Option.some.inj H;go_wp2;repeat (go_quiet (fail); try go_wp2)
     go_ret;exact ⟨by first | rfl | (simp; done) | (simp [*]; done), by repeat (first | exact bC.refl _ | apply bC.step)⟩
 ·rw [if_neg c3] at H
  have c3b0 : ((l0.length : Int) == (l1.length : Int)) = false := beq_eq_false_iff_ne.mpr c3;have c3b1 : ((l0.length : Int) != (l1.length : Int)) = true := bne_iff_ne.mpr c3;have c3b2 : (l0.length == l1.length) = false := by first | simpa using c3 | (simp at c3 ⊢; omega)
  obtain rfl := Option.some.inj H;go_enter Try.func20, Try.ntmps20;go_wp2;repeat (go_quiet (fail); try go_wp2)
  go_ret;exact ⟨by first | rfl | (simp; done) | (simp [*]; done), by repeat (first | exact bC.refl _ | apply bC.step)⟩
theorem fq.calls (a0_0 : Int) (a0_1 : Int) (r : Bool) (w : World) (h : fq.f a0_0 a0_1 = some r) :
  Calls Try.prog 83 #[.agg #[.int .i64 a0_0, .int .i64 a0_1]] w fun e w' => e = .returned (.bool r) ∧ Below w.heap.size w w' := by
 have hu25 := Try.underlying25;have HB := aa.mk (Below.refl w.heap.size w);have H : (if a0_0 ≥ 1 then (if a0_0 ≤ 1099511627776 then (if a0_1 ≥ 0 then (some (decide (a0_1 < 16))) else (some false)) else (some false)) else (some false)) = some r := h;clear h;by_cases c2 : a0_0 ≥ 1
 ·rw [if_pos c2] at H
  have c2b0 : decide (1 ≤ a0_0) = true := decide_eq_true c2;clear c2;by_cases c3 : a0_0 ≤ 1099511627776
  ·rw [if_pos c3] at H
   have c3b0 : decide (a0_0 ≤ 1099511627776) = true := decide_eq_true c3;clear c3;by_cases c4 : a0_1 ≥ 0
   ·rw [if_pos c4] at H
    have c4b0 : decide (0 ≤ a0_1) = true := decide_eq_true c4;clear c4;obtain rfl := Option.some.inj H;go_enter Try.func83, Try.ntmps83;go_wp2_with (first | ((with_reducible refine bJ (N := 1) rfl ?_); refine bD ?hg (N := 1) ?hd (cs := #[.int .i64 a0_0, .int .i64 a0_1]) (t := 25) ?hr ?_; (case hd => rfl); (case hg => rfl); (case hr => first | (go_simp; done) | (go_simp; rfl)); intro gb112 hg w5 hbox hb; replace hb : Below (World.heap w).size w w5 := ⟨hb.os, hb.tape, hb.output, hb.size, hb.block⟩; have n0_ := aa.mk (aj HB.out hb); have n1_ := aa.mk (hbox); have n2_ := aa.mk ((by rw [hg]; exact HB.out.size : w.heap.size ≤ gb112)); have n3_ := n2_; clear HB; have HB := n0_; have BK112 := n1_; have GW112 := n2_; have GE112 := n3_; clear n0_ n1_ n2_ n3_ hb hbox hg; have C6_0 : w5.cell? ⟨gb112, 0, none⟩ = some (.int .i64 a0_0) := (ag BK112.out 0).trans rfl; have C6_1 : w5.cell? ⟨gb112, 1, none⟩ = some (.int .i64 a0_1) := (ag BK112.out 1).trans rfl; have F6_0 := aN BK112.out 0; have F6_1 := aN BK112.out 1));go_ret;exact ⟨by first | rfl | (simp [au, ak] <;> rfl) | (simp [*, au, ak] <;> rfl), by exact rud HB.out rfl rfl rfl rfl⟩
   ·rw [if_neg c4] at H
    have c4b0 : decide (0 ≤ a0_1) = false := decide_eq_false c4;clear c4;obtain rfl := Option.some.inj H;go_enter Try.func83, Try.ntmps83;go_wp2_with (first | ((with_reducible refine bJ (N := 1) rfl ?_); refine bD ?hg (N := 1) ?hd (cs := #[.int .i64 a0_0, .int .i64 a0_1]) (t := 25) ?hr ?_; (case hd => rfl); (case hg => rfl); (case hr => first | (go_simp; done) | (go_simp; rfl)); intro gb112 hg w7 hbox hb; replace hb : Below (World.heap w).size w w7 := ⟨hb.os, hb.tape, hb.output, hb.size, hb.block⟩; have n0_ := aa.mk (aj HB.out hb); have n1_ := aa.mk (hbox); have n2_ := aa.mk ((by rw [hg]; exact HB.out.size : w.heap.size ≤ gb112)); have n3_ := n2_; clear HB; have HB := n0_; have BK112 := n1_; have GW112 := n2_; have GE112 := n3_; clear n0_ n1_ n2_ n3_ hb hbox hg; have C8_0 : w7.cell? ⟨gb112, 0, none⟩ = some (.int .i64 a0_0) := (ag BK112.out 0).trans rfl; have C8_1 : w7.cell? ⟨gb112, 1, none⟩ = some (.int .i64 a0_1) := (ag BK112.out 1).trans rfl; have F8_0 := aN BK112.out 0; have F8_1 := aN BK112.out 1));go_ret;exact ⟨by first | rfl | (simp [au, ak] <;> rfl) | (simp [*, au, ak] <;> rfl), by exact rud HB.out rfl rfl rfl rfl⟩
  ·rw [if_neg c3] at H
   have c3b0 : decide (a0_0 ≤ 1099511627776) = false := decide_eq_false c3;clear c3;obtain rfl := Option.some.inj H;go_enter Try.func83, Try.ntmps83;go_wp2_with (first | ((with_reducible refine bJ (N := 1) rfl ?_); refine bD ?hg (N := 1) ?hd (cs := #[.int .i64 a0_0, .int .i64 a0_1]) (t := 25) ?hr ?_; (case hd => rfl); (case hg => rfl); (case hr => first | (go_simp; done) | (go_simp; rfl)); intro gb112 hg w9 hbox hb; replace hb : Below (World.heap w).size w w9 := ⟨hb.os, hb.tape, hb.output, hb.size, hb.block⟩; have n0_ := aa.mk (aj HB.out hb); have n1_ := aa.mk (hbox); have n2_ := aa.mk ((by rw [hg]; exact HB.out.size : w.heap.size ≤ gb112)); have n3_ := n2_; clear HB; have HB := n0_; have BK112 := n1_; have GW112 := n2_; have GE112 := n3_; clear n0_ n1_ n2_ n3_ hb hbox hg; have Ca_0 : w9.cell? ⟨gb112, 0, none⟩ = some (.int .i64 a0_0) := (ag BK112.out 0).trans rfl; have Ca_1 : w9.cell? ⟨gb112, 1, none⟩ = some (.int .i64 a0_1) := (ag BK112.out 1).trans rfl; have Fa_0 := aN BK112.out 0; have Fa_1 := aN BK112.out 1));go_ret;exact ⟨by first | rfl | (simp [au, ak] <;> rfl) | (simp [*, au, ak] <;> rfl), by exact rud HB.out rfl rfl rfl rfl⟩
 ·rw [if_neg c2] at H
  have c2b0 : decide (1 ≤ a0_0) = false := decide_eq_false c2;clear c2;obtain rfl := Option.some.inj H;go_enter Try.func83, Try.ntmps83;go_wp2_with (first | ((with_reducible refine bJ (N := 1) rfl ?_); refine bD ?hg (N := 1) ?hd (cs := #[.int .i64 a0_0, .int .i64 a0_1]) (t := 25) ?hr ?_; (case hd => rfl); (case hg => rfl); (case hr => first | (go_simp; done) | (go_simp; rfl)); intro gb112 hg w11 hbox hb; replace hb : Below (World.heap w).size w w11 := ⟨hb.os, hb.tape, hb.output, hb.size, hb.block⟩; have n0_ := aa.mk (aj HB.out hb); have n1_ := aa.mk (hbox); have n2_ := aa.mk ((by rw [hg]; exact HB.out.size : w.heap.size ≤ gb112)); have n3_ := n2_; clear HB; have HB := n0_; have BK112 := n1_; have GW112 := n2_; have GE112 := n3_; clear n0_ n1_ n2_ n3_ hb hbox hg; have Cc_0 : w11.cell? ⟨gb112, 0, none⟩ = some (.int .i64 a0_0) := (ag BK112.out 0).trans rfl; have Cc_1 : w11.cell? ⟨gb112, 1, none⟩ = some (.int .i64 a0_1) := (ag BK112.out 1).trans rfl; have Fc_0 := aN BK112.out 0; have Fc_1 := aN BK112.out 1));go_ret;exact ⟨by first | rfl | (simp [au, ak] <;> rfl) | (simp [*, au, ak] <;> rfl), by exact rud HB.out rfl rfl rfl rfl⟩
theorem dn.calls (k : Nat) (A0 : Option Addr) (c0 : Nat) (l0 : List Int) (r : Bool) (w : World) (hr0 : Kd.C (Kd.int .i64) w A0 l0.length l0) (hc0 : l0.length ≤ c0) (h : dn.f k l0 = some r) :
  Calls Try.prog 84 #[.slice A0 l0.length c0] w fun e w' => e = .returned (.bool r) ∧ bC w w' := by
 have HR0 := aa.mk hr0;have HC0 := aa.mk hc0;clear hr0 hc0;have H : (dn.l0 k l0 0) = some r := h;clear h;have H' := aa.mk H;clear H;go_enter Try.func84, Try.ntmps84;go_wp2;refine LB.je 0 rfl ?_;intro G0_ hG0_;go_wp2;refine LB.wp_label_ghost (fun t_ d_ kq a_ w' => ∃ (u2 u3 u4 u5 u6 u7 u8 u9 u10 u11 u12 u13 u14 u15 u16 u17 u18 u19 u20 u21 u22 u23 u24 u25 u26 u27 : Value), (∃ (x3_1 : Int), u3 = .int .i64 x3_1 ∧ aa (dn.l0 kq l0 x3_1 = some r) ∧ aa (kq ≤ k) ∧ bC w w') ∧ a_ = ⟨#[LB.tget t_ 0, LB.tget t_ 1, u2, u3, u4, u5, u6, u7, u8, u9, u10, u11, u12, u13, u14, u15, u16, u17, u18, u19, u20, u21, u22, u23, u24, u25, u26, u27], d_⟩) k ‹_› hG0_ ?atStart ?round
 case atStart =>
  (try dsimp only);(repeat apply Exists.intro);refine ⟨?rel0, rfl⟩;exact ⟨(0), (by first | rfl | (simp; done) | (simp [*]; done)), H', ⟨Nat.le_refl _⟩, by repeat (first | exact bC.refl _ | apply bC.step)⟩
 case round =>
  intro gk a_ wr hinv;(try dsimp only at hinv);obtain ⟨u2, u3, u4, u5, u6, u7, u8, u9, u10, u11, u12, u13, u14, u15, u16, u17, u18, u19, u20, u21, u22, u23, u24, u25, u26, u27, hrel, rfl⟩ := hinv;intro J_ hJ_ hGJ_;clear hG0_;dsimp only [LB.tget, List.getD_cons_succ, List.getD_cons_zero] at hJ_ ⊢;clear H';obtain ⟨x3_1, rfl, HA, HK1, ⟨m1, rfl⟩⟩ := hrel;cases gk with
  | zero => exact absurd HA.out (by simp [dn.l0])
  | succ k1 =>
   have H := HA.out;clear HA;simp only [dn.l0] at H;by_cases c2 : x3_1 = (l0.length : Int)
   ·rw [if_pos c2] at H
    have c2b0 : (x3_1 == (l0.length : Int)) = true := beq_iff_eq.mpr c2;have c2b1 : (x3_1 != (l0.length : Int)) = false := bne_eq_false_iff_eq.mpr c2;clear c2;by_cases c3 : x3_1 ≥ 1
    ·rw [if_pos c3] at H
     have c3b0 : decide (1 ≤ x3_1) = true := decide_eq_true c3;clear c3;obtain rfl := Option.some.inj H;go_wp2;(try simp only [Exit.then, Exit.inBlock, LB.Goes.here, LB.Goes.ret, Exit.noGoto_ret]);go_ret;exact ⟨by first | rfl | (simp; done) | (simp [*]; done), by repeat (first | exact bC.refl _ | apply bC.step)⟩
    ·rw [if_neg c3] at H
     have c3b0 : decide (1 ≤ x3_1) = false := decide_eq_false c3;clear c3;obtain rfl := Option.some.inj H;go_wp2;(try simp only [Exit.then, Exit.inBlock, LB.Goes.here, LB.Goes.ret, Exit.noGoto_ret]);go_ret;exact ⟨by first | rfl | (simp; done) | (simp [*]; done), by repeat (first | exact bC.refl _ | apply bC.step)⟩
   ·rw [if_neg c2] at H
    have c2b0 : (x3_1 == (l0.length : Int)) = false := beq_eq_false_iff_ne.mpr c2;have c2b1 : (x3_1 != (l0.length : Int)) = true := bne_iff_ne.mpr c2;by_cases c4 : 0 ≤ x3_1
    ·rw [if_pos c4] at H
     have c4b0 : decide (0 ≤ x3_1) = true := decide_eq_true c4;clear c4;by_cases c5 : x3_1 < (l0.length : Int)
     ·rw [if_pos c5] at H
      have c5b0 : decide (x3_1 < (l0.length : Int)) = true := decide_eq_true c5;clear c5;by_cases c6 : (rd l0 x3_1) ≥ 0
      ·rw [if_pos c6] at H
       have c6b0 : decide (0 ≤ (rd l0 x3_1)) = true := decide_eq_true c6;clear c6;by_cases c7 : (rd l0 x3_1) ≤ 1099511627776
       ·rw [if_pos c7] at H
        have c7b0 : decide ((rd l0 x3_1) ≤ 1099511627776) = true := decide_eq_true c7;clear c7;have H' := aa.mk H;clear H;have p139 : 0 ≤ (x3_1 : Int) := of_decide_eq_true (by first | (with_reducible assumption) | assumption);have q139 : x3_1 < (l0.length : Int) := of_decide_eq_true (by first | (with_reducible assumption) | assumption);obtain ⟨ad139, e139, hx139_0⟩ := Kd.fG HR0.out x3_1 p139 q139;cases e139
        replace p139 := eq_true p139;replace q139 := eq_true q139;have p140 : 0 ≤ (x3_1 : Int) := of_decide_eq_true (by first | (with_reducible assumption) | assumption);have q140 : x3_1 < (l0.length : Int) := of_decide_eq_true (by first | (with_reducible assumption) | assumption);obtain ⟨ad140, e140, hx140_0⟩ := Kd.fG HR0.out x3_1 p140 q140;obtain rfl : ad139 = ad140 := (by injection e140)
        replace p140 := eq_true p140;replace q140 := eq_true q140;go_wp2;go_step3;(try simp only [Exit.then, Exit.inBlock]);(first | simp only [LB.Goes.here] | (rw [LB.Goes.there (by decide)]; simp only [LB.Goes.here]));go_step;go_roundg k1
        case measure => have := HK1.out; omega
        case rel => exact ⟨(wrap64 (x3_1 + 1)), (by first | rfl | (simp; done) | (simp [*]; done)), H', ⟨by have := HK1.out; omega⟩, by repeat (first | exact bC.refl _ | apply bC.step)⟩
       ·rw [if_neg c7] at H
        have c7b0 : decide ((rd l0 x3_1) ≤ 1099511627776) = false := decide_eq_false c7;clear c7;obtain rfl := Option.some.inj H;have p139 : 0 ≤ (x3_1 : Int) := of_decide_eq_true (by first | (with_reducible assumption) | assumption);have q139 : x3_1 < (l0.length : Int) := of_decide_eq_true (by first | (with_reducible assumption) | assumption);obtain ⟨ad139, e139, hx139_0⟩ := Kd.fG HR0.out x3_1 p139 q139;cases e139
        replace p139 := eq_true p139;replace q139 := eq_true q139;have p140 : 0 ≤ (x3_1 : Int) := of_decide_eq_true (by first | (with_reducible assumption) | assumption);have q140 : x3_1 < (l0.length : Int) := of_decide_eq_true (by first | (with_reducible assumption) | assumption);obtain ⟨ad140, e140, hx140_0⟩ := Kd.fG HR0.out x3_1 p140 q140;obtain rfl : ad139 = ad140 := (by injection e140)
        replace p140 := eq_true p140;replace q140 := eq_true q140;go_wp2;(try simp only [Exit.then, Exit.inBlock, LB.Goes.here, LB.Goes.ret, Exit.noGoto_ret]);go_ret;exact ⟨by first | rfl | (simp; done) | (simp [*]; done), by repeat (first | exact bC.refl _ | apply bC.step)⟩
      ·rw [if_neg c6] at H
       have c6b0 : decide (0 ≤ (rd l0 x3_1)) = false := decide_eq_false c6;clear c6;obtain rfl := Option.some.inj H;have p139 : 0 ≤ (x3_1 : Int) := of_decide_eq_true (by first | (with_reducible assumption) | assumption);have q139 : x3_1 < (l0.length : Int) := of_decide_eq_true (by first | (with_reducible assumption) | assumption);obtain ⟨ad139, e139, hx139_0⟩ := Kd.fG HR0.out x3_1 p139 q139;cases e139
       replace p139 := eq_true p139;replace q139 := eq_true q139;go_wp2;(try simp only [Exit.then, Exit.inBlock, LB.Goes.here, LB.Goes.ret, Exit.noGoto_ret]);go_ret;exact ⟨by first | rfl | (simp; done) | (simp [*]; done), by repeat (first | exact bC.refl _ | apply bC.step)⟩
     ·rw [if_neg c5] at H
      exact absurd H (by simp)
    ·rw [if_neg c4] at H
     exact absurd H (by simp)
end Go.Proofs.Ytddnlnjmikcgfaa.PC
end
section
namespace Go.Proofs.Ytddnlnjmikcgfaa.PC
open Go.RowKit Go.WB.PrintWords Go.WB.PrintLast Go.WB.PrintMore
attribute [local go_sem] cB cZ dE dD bP bQ cO cK
set_option linter.unusedVariables false
set_option linter.unusedSimpArgs false
set_option maxHeartbeats 40000000
set_option maxRecDepth 100000
theorem fB.calls  (r1 : Int) (r2 : Int) (w : World) (h : fB.f  = some (r1, r2)) :
  Calls Try.prog 106 #[] w fun e w' => e = .returned (.agg #[.int .i64 r1, .int .i64 r2]) ∧ Below w.heap.size w w' := by
 have hu25 := Try.underlying25;have HB := aa.mk (Below.refl w.heap.size w);have H : (some (0, 0)) = some (r1, r2) := h;clear h;simp only [Option.some.injEq, Prod.mk.injEq] at H;obtain ⟨rfl, rfl⟩ := H;go_enter Try.func106, Try.ntmps106;go_wp2_with (first | ((with_reducible refine bJ (N := 0) rfl ?_); refine bD ?hg (N := 0) ?hd (cs := #[.int .i64 0, .int .i64 0]) (t := 25) ?hr ?_; (case hd => rfl); (case hg => rfl); (case hr => first | (go_simp; done) | (go_simp; rfl)); intro gb113 hg w1 hbox hb; replace hb : Below (World.heap w).size w w1 := ⟨hb.os, hb.tape, hb.output, hb.size, hb.block⟩; have n0_ := aa.mk (aj HB.out hb); have n1_ := aa.mk (hbox); have n2_ := aa.mk ((by rw [hg]; exact HB.out.size : w.heap.size ≤ gb113)); have n3_ := aa.mk ((by rw [hg]; exact HB.out.size : w.heap.size ≤ gb113)); clear HB; have HB := n0_; have BK113 := n1_; have GW113 := n2_; have GE113 := n3_; clear n0_ n1_ n2_ n3_ hb hbox hg; have C2_0 : w1.cell? ⟨gb113, 0, none⟩ = some (.int .i64 0) := (ag BK113.out 0).trans rfl; have C2_1 : w1.cell? ⟨gb113, 1, none⟩ = some (.int .i64 0) := (ag BK113.out 1).trans rfl; have F2_0 := aN BK113.out 0; have F2_1 := aN BK113.out 1));refine bodyPost_ret (results_cell_row rfl _ _ gb113 25 #[.int .i64 0, .int .i64 0] (0, 0) _ rfl (by (with_reducible repeat (first | refine ax ?_ _ | refine av ?_ | refine ay ?_ _)); exact LB.put2 BK113.out) Try.underlying25 rfl (by kernel_rfl)) rfl ?_;exact ⟨by first | rfl | (simp [au, ak] <;> rfl) | (simp [*, au, ak] <;> rfl), by repeat (first | (with_reducible first | exact HB.out | apply bq | apply aT | apply aJ | refine aW ?_ GE113.out) | exact HB.out)⟩
theorem iJ.calls  (r1 : Int) (r2 : Int) (w : World) (h : iJ.f  = some (r1, r2)) :
  Calls Try.prog 108 #[] w fun e w' => e = .returned (.agg #[.int .i64 r1, .int .i64 r2]) ∧ Below w.heap.size w w' := by
 have hu25 := Try.underlying25;have HB := aa.mk (Below.refl w.heap.size w);have H : (some (0, 1)) = some (r1, r2) := h;clear h;simp only [Option.some.injEq, Prod.mk.injEq] at H;obtain ⟨rfl, rfl⟩ := H;go_enter Try.func108, Try.ntmps108;go_wp2_with (first | ((with_reducible refine bJ (N := 0) rfl ?_); refine bD ?hg (N := 0) ?hd (cs := #[.int .i64 0, .int .i64 0]) (t := 25) ?hr ?_; (case hd => rfl); (case hg => rfl); (case hr => first | (go_simp; done) | (go_simp; rfl)); intro gb114 hg w1 hbox hb; replace hb : Below (World.heap w).size w w1 := ⟨hb.os, hb.tape, hb.output, hb.size, hb.block⟩; have n0_ := aa.mk (aj HB.out hb); have n1_ := aa.mk (hbox); have n2_ := aa.mk ((by rw [hg]; exact HB.out.size : w.heap.size ≤ gb114)); have n3_ := aa.mk ((by rw [hg]; exact HB.out.size : w.heap.size ≤ gb114)); clear HB; have HB := n0_; have BK114 := n1_; have GW114 := n2_; have GE114 := n3_; clear n0_ n1_ n2_ n3_ hb hbox hg; have C2_0 : w1.cell? ⟨gb114, 0, none⟩ = some (.int .i64 0) := (ag BK114.out 0).trans rfl; have C2_1 : w1.cell? ⟨gb114, 1, none⟩ = some (.int .i64 0) := (ag BK114.out 1).trans rfl; have F2_0 := aN BK114.out 0; have F2_1 := aN BK114.out 1));refine bodyPost_ret (results_cell_row rfl _ _ gb114 25 #[.int .i64 0, .int .i64 1] (0, 0) _ rfl (by (with_reducible repeat (first | refine ax ?_ _ | refine av ?_ | refine ay ?_ _)); exact LB.put2 BK114.out) Try.underlying25 rfl (by kernel_rfl)) rfl ?_;exact ⟨by first | rfl | (simp [au, ak] <;> rfl) | (simp [*, au, ak] <;> rfl), by repeat (first | (with_reducible first | exact HB.out | apply bq | apply aT | apply aJ | refine aW ?_ GE114.out) | exact HB.out)⟩
end Go.Proofs.Ytddnlnjmikcgfaa.PC
end
section
namespace Go.Proofs.Ytddnlnjmikcgfaa.PC
open Go.RowKit Go.WB.PrintWords Go.WB.PrintLast Go.WB.PrintMore
attribute [local go_sem] cB cZ dE dD bP bQ cO cK
set_option linter.unusedVariables false
set_option linter.unusedSimpArgs false
attribute [local go_sem high] eqA25
open Go.LB (sT sZ sS cells3 aK dQ aU)
open Go.SB (rpu rpf rtk rpu0 rpf0 rtk0 rbs rud pS)
set_option maxHeartbeats 40000000
set_option maxRecDepth 100000
def dB.T1 : Bool × List (List Nat × List Nat) := (true, [([], []), ([0], [0]), ([1, 1], [1]), ([2], [2]), ([2, 2], [2]), ([3, 4, 2], [2, 3, 4]), ([2, 5], [2, 5]), ([6, 4], [6]), ([7], [7]), ([7, 7], [7]), ([8, 9, 7], [7, 8, 9]), ([7, 10], [7, 10]), ([11, 9, 0, 1, 2, 3, 4, 5, 6, 7, 8, 9, 10, 11], [11])])
def dB.B1 : List Nat := [0, 1, 3, 7, 7, 31, 63, 127, 255, 255, 1023, 2047, 4095]
theorem dB.tab1 : rtab .any (opsOf Try.f103 1) = dB.T1 := by kernel_rfl
theorem dB.bits1 : fQ dB.T1.2 dB.B1 = true := by kernel_rfl
theorem dB.calls (a0_0 : Int) (a0_1 : Int) (r : Bool) (w : World) (h : dB.f a0_0 a0_1 = some r) :
  Calls Try.prog 103 #[.agg #[.int .i64 a0_0, .int .i64 a0_1]] w fun e w' => e = .returned (.bool r) ∧ Below w.heap.size w w' := by
 have hu25 := Try.underlying25;have HB := aa.mk (Below.refl w.heap.size w);have H : ((fq.f a0_0 a0_1).bind fun t116 => (if t116 = true then (some true) else ((fB.f).bind fun bt117 => (if (a0_0 == bt117.1 && (a0_1 == bt117.2)) = true then (some true) else ((iJ.f).bind fun bt119 => (some (a0_0 == bt119.1 && (a0_1 == bt119.2)))))))) = some r := h;clear h;replace H := Option.bind_eq_some_iff.mp H;obtain ⟨t116, A20, H⟩ := H;(try dsimp only at H);have A2 := aa.mk A20;clear A20;by_cases c3 : t116 = true
 ·subst c3
  have H1 : (some true) = some r := by rw [if_pos rfl] at H; exact H
  clear H;have H := H1;clear H1;obtain rfl := Option.some.inj H;go_enter Try.func103, Try.ntmps103;try go_wp2_with (first | ((with_reducible refine bJ (N := 1) rfl ?_); refine bD ?hg (N := 1) ?hd (cs := #[.int .i64 a0_0, .int .i64 a0_1]) (t := 25) ?hr ?_; (case hd => rfl); (case hg => rfl); (case hr => first | (go_simp; done) | (go_simp; rfl)); intro gb115 hg w4 hbox hb; replace hb : Below (World.heap w).size w w4 := ⟨hb.os, hb.tape, hb.output, hb.size, hb.block⟩; have n0_ := aa.mk (aj HB.out hb); have n1_ := aa.mk (hbox); have n2_ := aa.mk ((by rw [hg]; exact HB.out.size : w.heap.size ≤ gb115)); have n3_ := n2_; clear HB; have HB := n0_; have BK115 := n1_; have GW115 := n2_; have GE115 := n3_; clear n0_ n1_ n2_ n3_ hb hbox hg))
  have n0_ := aa.mk (av BK115.out);have n1_ := aa.mk (aJ HB.out);clear BK115 HB;have BK115 := n0_;have HB := n1_;clear n0_ n1_;refine eD (n := 13) (S := fun w' => w'.cell? ⟨gb115, 0, none⟩ = some (.int .i64 a0_0) ∧ w'.cell? ⟨gb115, 1, none⟩ = some (.int .i64 a0_1)) (ds := []) (rbs 13 0) (by kernel_rfl) rfl rfl ⟨(ag BK115.out 0).trans rfl, (ag BK115.out 1).trans rfl⟩ (fun hHeld => ?_); refine dx dB.tab1 dB.bits1 (fun HT_ HW_ => ?_);generalize w4.drew = w5 at BK115 HB hHeld ⊢;apply rtk 0 (some 3) HT_ HW_ hHeld (rbs 13 1) rfl rfl (by kernel_rfl) (fun _ _ _ h => h) (by rfl)
  ·rintro w' ⟨s0, s1⟩;go_simp;with_reducible rfl
  ·simp only [pS];rfl
  refine gy (i := 1) (N := some 4) (rbs 13 3) rfl rfl (di HT_.out (by kernel_rfl)) (by decide) (fun K hK => ?_);refine dY Try.func83 (by kernel_rfl) rfl #[.agg #[.int .i64 a0_0, .int .i64 a0_1]] (by rfl) rfl rfl (by (try simp only [SB.lA, SB.lC, SB.lN]); first | done | rfl | (simp only [SB.lD, SB.lT]; rfl)) ?_;with_reducible refine (fq.calls a0_0 a0_1 true _ A2.out).mono ?_
  rintro e w6 ⟨rfl, hb⟩;refine ⟨_, rfl, ?_⟩;replace hb : Below (World.heap w5).size w5 w6 := ⟨hb.os, hb.tape, hb.output, hb.size, hb.block⟩
  have n0_ := aa.mk (aZ BK115.out hb);have n1_ := aa.mk (aj HB.out hb);clear BK115 HB;have BK115 := n0_;have HB := n1_;clear n0_ n1_;(try clear hb hb2 hk hi);refine hK.out _ _ ⟨(ag BK115.out 0).trans rfl, (ag BK115.out 1).trans rfl⟩ (fun hHeld => ?_);clear hK K;refine dV (a' := ?_) ?_ ?_;rotate_left
  ·show Act.put _ (some 4) _ = _
   simp only [pS];rfl
  apply rpu 2 (some 5) HT_ (rbs 13 7) rfl rfl (by kernel_rfl) (fun _ _ _ h => h) (by rfl)
  ·intro w';go_simp;with_reducible rfl
  ·simp only [pS];rfl
  apply rpf 3 (some 6) HT_ (rbs 13 15) rfl rfl (by kernel_rfl) (fun _ _ _ h => h) (by rfl)
  ·simp only [pS];rfl
  apply rpf 4 (some 7) HT_ (rbs 13 31) rfl rfl (by kernel_rfl) (fun _ _ _ h => h) (by rfl)
  ·simp only [pS];rfl
  apply rpf 5 (some 8) HT_ (rbs 13 63) rfl rfl (by kernel_rfl) (fun _ _ _ h => h) (by rfl)
  ·simp only [pS];rfl
  apply rpu 6 (some 9) HT_ (rbs 13 127) rfl rfl (by kernel_rfl) (fun _ _ _ h => h) (by rfl)
  ·intro w';go_simp;with_reducible rfl
  ·simp only [pS];rfl
  apply rpu 7 (some 10) HT_ (rbs 13 255) rfl rfl (by kernel_rfl) (fun _ _ _ h => h) (by rfl)
  ·intro w';go_simp;with_reducible rfl
  ·simp only [pS];rfl
  apply rpf 8 (some 11) HT_ (rbs 13 511) rfl rfl (by kernel_rfl) (fun _ _ _ h => h) (by rfl)
  ·simp only [pS];rfl
  apply rpf 9 (some 12) HT_ (rbs 13 1023) rfl rfl (by kernel_rfl) (fun _ _ _ h => h) (by rfl)
  ·simp only [pS];rfl
  apply rpf 10 (some 13) HT_ (rbs 13 2047) rfl rfl (by kernel_rfl) (fun _ _ _ h => h) (by rfl)
  ·simp only [pS];rfl
  apply rpu 11 (some 14) HT_ (rbs 13 4095) rfl rfl (by kernel_rfl) (fun _ _ _ h => h) (by rfl)
  ·intro w';go_simp;with_reducible rfl
  ·simp only [pS];rfl
  apply rpu 12 (some 2) HT_ (rbs 13 8191) rfl rfl (by kernel_rfl) (fun _ _ _ h => h) (by rfl)
  ·intro w';go_simp;with_reducible rfl
  ·simp only [pS];rfl
  refine gz (dS HT_.out (by kernel_rfl)) ?_;try go_wp2
  go_ret;exact ⟨by first | rfl | (simp [au, ak] <;> rfl) | (simp [*, au, ak] <;> rfl), by exact rud HB.out rfl rfl rfl rfl⟩
 replace c3 := Bool.eq_false_iff.mpr c3;subst c3;have H1 : ((fB.f).bind fun bt117 => (if (a0_0 == bt117.1 && (a0_1 == bt117.2)) = true then (some true) else ((iJ.f).bind fun bt119 => (some (a0_0 == bt119.1 && (a0_1 == bt119.2)))))) = some r := by rw [if_neg (show ¬ (false = true) by decide)] at H; exact H
 clear H;have H := H1;clear H1;replace H := Option.bind_eq_some_iff.mp H;obtain ⟨⟨t117, t118⟩, A70, H⟩ := H;replace H : (if (a0_0 == t117 && (a0_1 == t118)) = true then (some true) else ((iJ.f).bind fun bt119 => (some (a0_0 == bt119.1 && (a0_1 == bt119.2))))) = some r := H;have A7 := aa.mk A70;clear A70;by_cases c8 : (a0_0 == t117 && (a0_1 == t118)) = true
 ·rw [if_pos c8] at H
  have c8b0 : (a0_0 == t117 && (a0_1 == t118)) = true := c8;(try (have c8b1 : decide (a0_0 = t117 && (a0_1 == t118)) = true := by simpa using c8));(try (have c8b2 : (a0_0 == t117 && (a0_1 == t118)) = true := by simpa using c8));clear c8;obtain rfl := Option.some.inj H;go_enter Try.func103, Try.ntmps103;try go_wp2_with (first | ((with_reducible refine bJ (N := 1) rfl ?_); refine bD ?hg (N := 1) ?hd (cs := #[.int .i64 a0_0, .int .i64 a0_1]) (t := 25) ?hr ?_; (case hd => rfl); (case hg => rfl); (case hr => first | (go_simp; done) | (go_simp; rfl)); intro gb115 hg w9 hbox hb; replace hb : Below (World.heap w).size w w9 := ⟨hb.os, hb.tape, hb.output, hb.size, hb.block⟩; have n0_ := aa.mk (aj HB.out hb); have n1_ := aa.mk (hbox); have n2_ := aa.mk ((by rw [hg]; exact HB.out.size : w.heap.size ≤ gb115)); have n3_ := n2_; clear HB; have HB := n0_; have BK115 := n1_; have GW115 := n2_; have GE115 := n3_; clear n0_ n1_ n2_ n3_ hb hbox hg))
  have n0_ := aa.mk (av BK115.out);have n1_ := aa.mk (aJ HB.out);clear BK115 HB;have BK115 := n0_;have HB := n1_;clear n0_ n1_;refine eD (n := 13) (S := fun w' => w'.cell? ⟨gb115, 0, none⟩ = some (.int .i64 a0_0) ∧ w'.cell? ⟨gb115, 1, none⟩ = some (.int .i64 a0_1)) (ds := []) (rbs 13 0) (by kernel_rfl) rfl rfl ⟨(ag BK115.out 0).trans rfl, (ag BK115.out 1).trans rfl⟩ (fun hHeld => ?_); refine dx dB.tab1 dB.bits1 (fun HT_ HW_ => ?_);generalize w9.drew = w10 at BK115 HB hHeld ⊢;apply rtk 0 (some 3) HT_ HW_ hHeld (rbs 13 1) rfl rfl (by kernel_rfl) (fun _ _ _ h => h) (by rfl)
  ·rintro w' ⟨s0, s1⟩;go_simp;with_reducible rfl
  ·simp only [pS];rfl
  refine gy (i := 1) (N := some 4) (rbs 13 3) rfl rfl (di HT_.out (by kernel_rfl)) (by decide) (fun K hK => ?_);refine dY Try.func83 (by kernel_rfl) rfl #[.agg #[.int .i64 a0_0, .int .i64 a0_1]] (by rfl) rfl rfl (by (try simp only [SB.lA, SB.lC, SB.lN]); first | done | rfl | (simp only [SB.lD, SB.lT]; rfl)) ?_;with_reducible refine (fq.calls a0_0 a0_1 false _ A2.out).mono ?_
  rintro e w11 ⟨rfl, hb⟩;refine ⟨_, rfl, ?_⟩;replace hb : Below (World.heap w10).size w10 w11 := ⟨hb.os, hb.tape, hb.output, hb.size, hb.block⟩
  have n0_ := aa.mk (aZ BK115.out hb);have n1_ := aa.mk (aj HB.out hb);clear BK115 HB;have BK115 := n0_;have HB := n1_;clear n0_ n1_;(try clear hb hb2 hk hi);refine hK.out _ _ ⟨(ag BK115.out 0).trans rfl, (ag BK115.out 1).trans rfl⟩ (fun hHeld => ?_);clear hK K;refine dV (a' := ?_) ?_ ?_;rotate_left
  ·show Act.put _ (some 4) _ = _
   simp only [pS];rfl
  apply rpu 2 (some 5) HT_ (rbs 13 7) rfl rfl (by kernel_rfl) (fun _ _ _ h => h) (by rfl)
  ·intro w';go_simp;with_reducible rfl
  ·simp only [pS];rfl
  apply rtk 3 (some 6) HT_ HW_ hHeld (rbs 13 15) rfl rfl (by kernel_rfl) (fun _ _ _ h => h) (by rfl)
  ·rintro w' ⟨s0, s1⟩;go_simp;with_reducible rfl
  ·simp only [pS];rfl
  refine gy (i := 4) (N := some 7) (rbs 13 31) rfl rfl (di HT_.out (by kernel_rfl)) (by decide) (fun K hK => ?_);refine dY Try.func106 (by kernel_rfl) rfl #[] (by rfl) rfl rfl (by (try simp only [SB.lA, SB.lC, SB.lN]); first | done | rfl | (simp only [SB.lD, SB.lT]; rfl)) ?_;with_reducible refine (fB.calls  t117 t118 _ A7.out).mono ?_
  rintro e w12 ⟨rfl, hb⟩;refine ⟨_, rfl, ?_⟩;replace hb : Below (World.heap w11).size w11 w12 := ⟨hb.os, hb.tape, hb.output, hb.size, hb.block⟩
  have n0_ := aa.mk (aZ BK115.out hb);have n1_ := aa.mk (aj HB.out hb);clear BK115 HB;have BK115 := n0_;have HB := n1_;clear n0_ n1_;(try clear hb hb2 hk hi);refine hK.out _ _ ⟨(ag BK115.out 0).trans rfl, (ag BK115.out 1).trans rfl⟩ (fun hHeld => ?_);clear hK K;refine dV (a' := ?_) ?_ ?_;rotate_left
  ·show Act.put _ (some 7) _ = _
   simp only [pS];rfl
  apply rpu 5 (some 8) HT_ (rbs 13 63) rfl rfl (by kernel_rfl) (fun _ _ _ h => h) (by rfl)
  ·intro w';go_simp;with_reducible rfl
  ·simp only [pS];rfl
  apply rpu 6 (some 9) HT_ (rbs 13 127) rfl rfl (by kernel_rfl) (fun _ _ _ h => h) (by rfl)
  ·intro w';go_simp;with_reducible rfl
  ·simp only [pS];rfl
  apply rpu 7 (some 10) HT_ (rbs 13 255) rfl rfl (by kernel_rfl) (fun _ _ _ h => h) (by rfl)
  ·intro w';go_simp;with_reducible rfl
  ·simp only [pS];rfl
  apply rpf 8 (some 11) HT_ (rbs 13 511) rfl rfl (by kernel_rfl) (fun _ _ _ h => h) (by rfl)
  ·simp only [pS];rfl
  apply rpf 9 (some 12) HT_ (rbs 13 1023) rfl rfl (by kernel_rfl) (fun _ _ _ h => h) (by rfl)
  ·simp only [pS];rfl
  apply rpf 10 (some 13) HT_ (rbs 13 2047) rfl rfl (by kernel_rfl) (fun _ _ _ h => h) (by rfl)
  ·simp only [pS];rfl
  apply rpu 11 (some 14) HT_ (rbs 13 4095) rfl rfl (by kernel_rfl) (fun _ _ _ h => h) (by rfl)
  ·intro w';go_simp;with_reducible rfl
  ·simp only [pS];rfl
  apply rpu 12 (some 2) HT_ (rbs 13 8191) rfl rfl (by kernel_rfl) (fun _ _ _ h => h) (by rfl)
  ·intro w';go_simp;with_reducible rfl
  ·simp only [pS];rfl
  refine gz (dS HT_.out (by kernel_rfl)) ?_;try go_wp2
  go_ret;exact ⟨by first | rfl | (simp [au, ak] <;> rfl) | (simp [*, au, ak] <;> rfl), by exact rud HB.out rfl rfl rfl rfl⟩
 rw [if_neg c8] at H;have c8b0 : (a0_0 == t117 && (a0_1 == t118)) = false := by simpa using c8
 (try (have c8b1 : decide (a0_0 = t117 && (a0_1 == t118)) = false := by simpa using c8));(try (have c8b2 : (a0_0 == t117 && (a0_1 == t118)) = false := by simpa using c8));(try (have c8b3 : ¬ (a0_0 = t117 && (a0_1 == t118)) := by simpa using c8));clear c8;replace H := Option.bind_eq_some_iff.mp H;obtain ⟨⟨t119, t120⟩, A130, H⟩ := H;replace H : (some (a0_0 == t119 && (a0_1 == t120))) = some r := H;have A13 := aa.mk A130;clear A130;obtain rfl := Option.some.inj H;go_enter Try.func103, Try.ntmps103;try go_wp2_with (first | ((with_reducible refine bJ (N := 1) rfl ?_); refine bD ?hg (N := 1) ?hd (cs := #[.int .i64 a0_0, .int .i64 a0_1]) (t := 25) ?hr ?_; (case hd => rfl); (case hg => rfl); (case hr => first | (go_simp; done) | (go_simp; rfl)); intro gb115 hg w14 hbox hb; replace hb : Below (World.heap w).size w w14 := ⟨hb.os, hb.tape, hb.output, hb.size, hb.block⟩; have n0_ := aa.mk (aj HB.out hb); have n1_ := aa.mk (hbox); have n2_ := aa.mk ((by rw [hg]; exact HB.out.size : w.heap.size ≤ gb115)); have n3_ := n2_; clear HB; have HB := n0_; have BK115 := n1_; have GW115 := n2_; have GE115 := n3_; clear n0_ n1_ n2_ n3_ hb hbox hg))
 have n0_ := aa.mk (av BK115.out);have n1_ := aa.mk (aJ HB.out);clear BK115 HB;have BK115 := n0_;have HB := n1_;clear n0_ n1_;refine eD (n := 13) (S := fun w' => w'.cell? ⟨gb115, 0, none⟩ = some (.int .i64 a0_0) ∧ w'.cell? ⟨gb115, 1, none⟩ = some (.int .i64 a0_1)) (ds := []) (rbs 13 0) (by kernel_rfl) rfl rfl ⟨(ag BK115.out 0).trans rfl, (ag BK115.out 1).trans rfl⟩ (fun hHeld => ?_); refine dx dB.tab1 dB.bits1 (fun HT_ HW_ => ?_);generalize w14.drew = w15 at BK115 HB hHeld ⊢;apply rtk 0 (some 3) HT_ HW_ hHeld (rbs 13 1) rfl rfl (by kernel_rfl) (fun _ _ _ h => h) (by rfl)
 ·rintro w' ⟨s0, s1⟩;go_simp;with_reducible rfl
 ·simp only [pS];rfl
 refine gy (i := 1) (N := some 4) (rbs 13 3) rfl rfl (di HT_.out (by kernel_rfl)) (by decide) (fun K hK => ?_);refine dY Try.func83 (by kernel_rfl) rfl #[.agg #[.int .i64 a0_0, .int .i64 a0_1]] (by rfl) rfl rfl (by (try simp only [SB.lA, SB.lC, SB.lN]); first | done | rfl | (simp only [SB.lD, SB.lT]; rfl)) ?_;with_reducible refine (fq.calls a0_0 a0_1 false _ A2.out).mono ?_
 rintro e w16 ⟨rfl, hb⟩;refine ⟨_, rfl, ?_⟩;replace hb : Below (World.heap w15).size w15 w16 := ⟨hb.os, hb.tape, hb.output, hb.size, hb.block⟩
 have n0_ := aa.mk (aZ BK115.out hb);have n1_ := aa.mk (aj HB.out hb);clear BK115 HB;have BK115 := n0_;have HB := n1_;clear n0_ n1_;(try clear hb hb2 hk hi);refine hK.out _ _ ⟨(ag BK115.out 0).trans rfl, (ag BK115.out 1).trans rfl⟩ (fun hHeld => ?_);clear hK K;refine dV (a' := ?_) ?_ ?_;rotate_left
 ·show Act.put _ (some 4) _ = _
  simp only [pS];rfl
 apply rpu 2 (some 5) HT_ (rbs 13 7) rfl rfl (by kernel_rfl) (fun _ _ _ h => h) (by rfl)
 ·intro w';go_simp;with_reducible rfl
 ·simp only [pS];rfl
 apply rtk 3 (some 6) HT_ HW_ hHeld (rbs 13 15) rfl rfl (by kernel_rfl) (fun _ _ _ h => h) (by rfl)
 ·rintro w' ⟨s0, s1⟩;go_simp;with_reducible rfl
 ·simp only [pS];rfl
 refine gy (i := 4) (N := some 7) (rbs 13 31) rfl rfl (di HT_.out (by kernel_rfl)) (by decide) (fun K hK => ?_);refine dY Try.func106 (by kernel_rfl) rfl #[] (by rfl) rfl rfl (by (try simp only [SB.lA, SB.lC, SB.lN]); first | done | rfl | (simp only [SB.lD, SB.lT]; rfl)) ?_;with_reducible refine (fB.calls  t117 t118 _ A7.out).mono ?_
 rintro e w17 ⟨rfl, hb⟩;refine ⟨_, rfl, ?_⟩;replace hb : Below (World.heap w16).size w16 w17 := ⟨hb.os, hb.tape, hb.output, hb.size, hb.block⟩
 have n0_ := aa.mk (aZ BK115.out hb);have n1_ := aa.mk (aj HB.out hb);clear BK115 HB;have BK115 := n0_;have HB := n1_;clear n0_ n1_;(try clear hb hb2 hk hi);refine hK.out _ _ ⟨(ag BK115.out 0).trans rfl, (ag BK115.out 1).trans rfl⟩ (fun hHeld => ?_);clear hK K;refine dV (a' := ?_) ?_ ?_;rotate_left
 ·show Act.put _ (some 7) _ = _
  simp only [pS];rfl
 apply rpu 5 (some 8) HT_ (rbs 13 63) rfl rfl (by kernel_rfl) (fun _ _ _ h => h) (by rfl)
 ·intro w';go_simp;with_reducible rfl
 ·simp only [pS];rfl
 apply rpu 6 (some 9) HT_ (rbs 13 127) rfl rfl (by kernel_rfl) (fun _ _ _ h => h) (by rfl)
 ·intro w';go_simp;with_reducible rfl
 ·simp only [pS];rfl
 apply rpu 7 (some 10) HT_ (rbs 13 255) rfl rfl (by kernel_rfl) (fun _ _ _ h => h) (by rfl)
 ·intro w';go_simp;with_reducible rfl
 ·simp only [pS];rfl
 apply rtk 8 (some 11) HT_ HW_ hHeld (rbs 13 511) rfl rfl (by kernel_rfl) (fun _ _ _ h => h) (by rfl)
 ·rintro w' ⟨s0, s1⟩;go_simp;with_reducible rfl
 ·simp only [pS];rfl
 refine gy (i := 9) (N := some 12) (rbs 13 1023) rfl rfl (di HT_.out (by kernel_rfl)) (by decide) (fun K hK => ?_);refine dY Try.func108 (by kernel_rfl) rfl #[] (by rfl) rfl rfl (by (try simp only [SB.lA, SB.lC, SB.lN]); first | done | rfl | (simp only [SB.lD, SB.lT]; rfl)) ?_;with_reducible refine (iJ.calls  t119 t120 _ A13.out).mono ?_
 rintro e w18 ⟨rfl, hb⟩;refine ⟨_, rfl, ?_⟩;replace hb : Below (World.heap w17).size w17 w18 := ⟨hb.os, hb.tape, hb.output, hb.size, hb.block⟩
 have n0_ := aa.mk (aZ BK115.out hb);have n1_ := aa.mk (aj HB.out hb);clear BK115 HB;have BK115 := n0_;have HB := n1_;clear n0_ n1_;(try clear hb hb2 hk hi);refine hK.out _ _ ⟨(ag BK115.out 0).trans rfl, (ag BK115.out 1).trans rfl⟩ (fun hHeld => ?_);clear hK K;refine dV (a' := ?_) ?_ ?_;rotate_left
 ·show Act.put _ (some 12) _ = _
  simp only [pS];rfl
 apply rpu 10 (some 13) HT_ (rbs 13 2047) rfl rfl (by kernel_rfl) (fun _ _ _ h => h) (by rfl)
 ·intro w';go_simp;with_reducible rfl
 ·simp only [pS];rfl
 apply rpu 11 (some 14) HT_ (rbs 13 4095) rfl rfl (by kernel_rfl) (fun _ _ _ h => h) (by rfl)
 ·intro w';go_simp;with_reducible rfl
 ·simp only [pS];rfl
 apply rpu 12 (some 2) HT_ (rbs 13 8191) rfl rfl (by kernel_rfl) (fun _ _ _ h => h) (by rfl)
 ·intro w';go_simp;with_reducible rfl
 ·simp only [pS];rfl
 refine gz (dS HT_.out (by kernel_rfl)) ?_;try go_wp2
 go_ret;exact ⟨by first | rfl | (simp [au, ak] <;> rfl) | (simp [*, au, ak] <;> rfl), by exact rud HB.out rfl rfl rfl rfl⟩
end Go.Proofs.Ytddnlnjmikcgfaa.PC
end
section
namespace Go.Proofs.Ytddnlnjmikcgfaa.PC
open Go.RowKit Go.WB.PrintWords Go.WB.PrintLast Go.WB.PrintMore
attribute [local go_sem] cB cZ dE dD bP bQ cO cK
set_option linter.unusedVariables false
set_option linter.unusedSimpArgs false
open Go.LB (sT sZ sS cells3 aK dQ aU)
open Go.SB (rpu rpf rtk rpu0 rpf0 rtk0 rbs rud pS)
set_option maxHeartbeats 40000000
set_option maxRecDepth 100000
theorem key_Is.calls (a0 : ByteArray) (r : Bool) (w : World) (h : key_Is.f a0 = some r) :
  Calls Try.prog 104 #[.string a0] w fun e w' => e = .returned (.bool r) ∧ bC w w' := by
 have H : (if (a0.size : Int) ≥ 1 then (if (a0.size : Int) ≤ 64 then (if 0 ≤ (wrap64 ((a0.size : Int) - 1)) then (if (wrap64 ((a0.size : Int) - 1)) < (a0.size : Int) then (some ((bt a0 (wrap64 ((a0.size : Int) - 1))) != 0)) else (none)) else (none)) else (some false)) else (some false)) = some r := h;clear h;by_cases c2 : (a0.size : Int) ≥ 1
 ·rw [if_pos c2] at H
  have c2b0 : decide (1 ≤ (a0.size : Int)) = true := decide_eq_true c2;have c2b1 : decide (1 ≤ a0.size) = true := decide_eq_true (by omega);clear c2;by_cases c3 : (a0.size : Int) ≤ 64
  ·rw [if_pos c3] at H
   have c3b0 : decide ((a0.size : Int) ≤ 64) = true := decide_eq_true c3;have c3b1 : decide (a0.size ≤ 64) = true := decide_eq_true (by omega);clear c3;obtain ⟨ji4, hji4⟩ : ∃ j_ : Int, (wrap64 ((a0.size : Int) - 1)) = j_ := ⟨_, rfl⟩
   replace H : (if 0 ≤ (ji4) then (if (ji4) < (a0.size : Int) then (some ((bt a0 (ji4)) != 0)) else (none)) else (none)) = some r := by first | (rw [hji4] at H; exact H) | (simp only [hji4] at H ⊢; exact H)
   have hji4w : (IntKind.i64.wrap ((a0.size : Int) - 1)) = ji4 := (iY _).trans hji4;by_cases c5 : 0 ≤ (ji4)
   ·rw [if_pos c5] at H
    have c5b0 : decide (0 ≤ (ji4)) = true := decide_eq_true c5;clear c5;by_cases c6 : (ji4) < (a0.size : Int)
    ·rw [if_pos c6] at H
     have c6b0 : decide ((ji4) < (a0.size : Int)) = true := decide_eq_true c6;clear c6;obtain rfl := Option.some.inj H;have p7 : 0 ≤ ((ji4) : Int) := of_decide_eq_true (by first | (with_reducible assumption) | assumption);have q7 : (ji4) < (a0.size : Int) := of_decide_eq_true (by first | (with_reducible assumption) | assumption);have hx7 := bt_at a0 (ji4);replace p7 := eq_true p7;replace q7 := eq_true q7;go_enter Try.func104, Try.ntmps104;go_wp2;go_ret;exact ⟨by first | rfl | (simp; done) | (simp only [← hji4] <;> (first | rfl | simp)) | (simp [*]; done), by repeat (first | exact bC.refl _ | apply bC.step)⟩
    ·rw [if_neg c6] at H
     exact absurd H (by simp)
   ·rw [if_neg c5] at H
    exact absurd H (by simp)
  ·rw [if_neg c3] at H
   have c3b0 : decide ((a0.size : Int) ≤ 64) = false := decide_eq_false c3;have c3b1 : decide (a0.size ≤ 64) = false := decide_eq_false (by omega);clear c3;obtain rfl := Option.some.inj H;go_enter Try.func104, Try.ntmps104;go_wp2;go_ret;exact ⟨by first | rfl | (simp; done) | (simp [*]; done), by repeat (first | exact bC.refl _ | apply bC.step)⟩
 ·rw [if_neg c2] at H
  have c2b0 : decide (1 ≤ (a0.size : Int)) = false := decide_eq_false c2;have c2b1 : decide (1 ≤ a0.size) = false := decide_eq_false (by omega);clear c2;obtain rfl := Option.some.inj H;go_enter Try.func104, Try.ntmps104;go_wp2;go_ret;exact ⟨by first | rfl | (simp; done) | (simp [*]; done), by repeat (first | exact bC.refl _ | apply bC.step)⟩
end Go.Proofs.Ytddnlnjmikcgfaa.PC
end
section
namespace Go.Proofs.Ytddnlnjmikcgfaa.PC
open Go.RowKit Go.WB.PrintWords Go.WB.PrintLast Go.WB.PrintMore
attribute [local go_sem] cB cZ dE dD bP bQ cO cK
set_option linter.unusedVariables false
set_option linter.unusedSimpArgs false
set_option maxHeartbeats 40000000
set_option maxRecDepth 100000
theorem prop_Is.calls (a0 : Int) (r : Bool) (w : World) (h : prop_Is.f a0 = some r) :
  Calls Try.prog 109 #[.int .i64 a0] w fun e w' => e = .returned (.bool r) ∧ bC w w' := by
 have H : (if a0 ≥ 0 then (some (decide (a0 < 19))) else (some false)) = some r := h;clear h;by_cases c2 : a0 ≥ 0
 ·rw [if_pos c2] at H
  have c2b0 : decide (0 ≤ a0) = true := decide_eq_true c2;clear c2;obtain rfl := Option.some.inj H;go_enter Try.func109, Try.ntmps109;go_wp2;go_ret;exact ⟨by first | rfl | (simp; done) | (simp [*]; done), by repeat (first | exact bC.refl _ | apply bC.step)⟩
 ·rw [if_neg c2] at H
  have c2b0 : decide (0 ≤ a0) = false := decide_eq_false c2;clear c2;obtain rfl := Option.some.inj H;go_enter Try.func109, Try.ntmps109;go_wp2;go_ret;exact ⟨by first | rfl | (simp; done) | (simp [*]; done), by repeat (first | exact bC.refl _ | apply bC.step)⟩
end Go.Proofs.Ytddnlnjmikcgfaa.PC
end
section
namespace Go.Proofs.Ytddnlnjmikcgfaa.PC
open Go.RowKit Go.WB.PrintWords Go.WB.PrintLast Go.WB.PrintMore
attribute [local go_sem] cB cZ dE dD bP bQ cO cK
set_option linter.unusedVariables false
set_option linter.unusedSimpArgs false
open Go.LB (sT sZ sS cells3 aK dQ aU)
open Go.SB (rpu rpf rtk rpu0 rpf0 rtk0 rbs rud pS)
set_option maxHeartbeats 40000000
set_option maxRecDepth 100000
theorem aC.calls (k : Nat) (a0 : Int) (r1 : Int) (r2 : Int) (r3 : Int) (r4 : Bool) (w : World) (h : aC.f k a0 = some (r1, r2, r3, r4)) :
  Calls Try.prog 110 #[.int .i64 a0] w fun e w' => e = .returned (.agg #[.int .i64 r1, .int .i64 r2, .int .i64 r3, .bool r4]) ∧ Below w.heap.size w w' := by
 have hu136 := Try.underlying136;have HB := aa.mk (Below.refl w.heap.size w);have H : (if a0 = 0 then (some (0, 2, 0, false)) else (if a0 = 1 then (aC.j0 k a0 (a0 == 1)) else (aC.j0 k a0 (a0 == 2)))) = some (r1, r2, r3, r4) := h;clear h;by_cases c2 : a0 = 0
 ·rw [if_pos c2] at H
  have c2b0 : (a0 == 0) = true := beq_iff_eq.mpr c2;have c2b1 : (a0 != 0) = false := bne_eq_false_iff_eq.mpr c2;clear c2;simp only [Option.some.injEq, Prod.mk.injEq] at H;obtain ⟨rfl, rfl, rfl, rfl⟩ := H;go_enter Try.func110, Try.ntmps110;go_wp2_with (first | ((with_reducible refine bJ (N := 2) rfl ?_); refine bD ?hg (N := 2) ?hd (cs := #[.int .i64 0, .int .i64 0, .int .i64 0, .bool false]) (t := 136) ?hr ?_; (case hd => rfl); (case hg => rfl); (case hr => first | (go_simp; done) | (go_simp; rfl)); intro gb205 hg w3 hbox hb; replace hb : Below (World.heap w).size w w3 := ⟨hb.os, hb.tape, hb.output, hb.size, hb.block⟩; have n0_ := aa.mk (aj HB.out hb); have n1_ := aa.mk (hbox); have n2_ := aa.mk ((by rw [hg]; exact HB.out.size : w.heap.size ≤ gb205)); have n3_ := n2_; clear HB; have HB := n0_; have BK205 := n1_; have GW205 := n2_; have GE205 := n3_; clear n0_ n1_ n2_ n3_ hb hbox hg; obtain ⟨C4_0, C4_1, C4_2, C4_3⟩ := LB.cells4 BK205.out; obtain ⟨F4_0, F4_1, F4_2, F4_3⟩ := LB.frozen4 BK205.out) | ((with_reducible refine dK (t := 136) (p := 2) rfl ?_); refine dG (t := 136) (p := 2) (v := ?vo_w5) (w1 := ((((w3.setCell ⟨gb205, 0, none⟩ (.int .i64 0)).setCell ⟨gb205, 1, none⟩ (.int .i64 2)).setCell ⟨gb205, 2, none⟩ (.int .i64 0)).setCell ⟨gb205, 3, none⟩ (.bool false))) ?hg ?ho ?hn ?hr ?_; (case ho => rfl); (case hg => rfl); (case hn => rfl); (case hr => first | (go_simp; done) | (go_simp; rfl)); intro w5 hw; have n0_ : aa (w5.heap[gb205]? = some (.cells #[.int .i64 0, .int .i64 2, .int .i64 0, .bool false] 136 (0, 0))) := ⟨(by rw [hw]; exact (by (with_reducible repeat (first | refine ax ?_ _ | refine av ?_ | refine ay ?_ _)); refine bK (cs := #[.int .i64 0, .int .i64 2, .int .i64 0, .bool false]) ?_ 3 _ rfl; (with_reducible repeat (first | refine ax ?_ _ | refine av ?_ | refine ay ?_ _)); refine bK (cs := #[.int .i64 0, .int .i64 2, .int .i64 0, .bool false]) ?_ 2 _ rfl; (with_reducible repeat (first | refine ax ?_ _ | refine av ?_ | refine ay ?_ _)); refine bK (cs := #[.int .i64 0, .int .i64 0, .int .i64 0, .bool false]) ?_ 1 _ rfl; (with_reducible repeat (first | refine ax ?_ _ | refine av ?_ | refine ay ?_ _)); refine bK (cs := #[.int .i64 0, .int .i64 0, .int .i64 0, .bool false]) ?_ 0 _ rfl; (with_reducible repeat (first | refine ax ?_ _ | refine av ?_ | refine ay ?_ _)); exact BK205.out))⟩; have n1_ : aa (Below w.heap.size w w5) := ⟨(by rw [hw]; exact (by repeat (first | (with_reducible first | exact HB.out | apply bq | apply aT | apply aJ | refine aW ?_ GE205.out) | exact HB.out)))⟩; clear hw BK205 HB; have BK205 := n0_; have HB := n1_; clear n0_ n1_));refine bodyPost_ret (results_cell_row rfl _ _ gb205 136 #[.int .i64 0, .int .i64 2, .int .i64 0, .bool false] (0, 0) _ rfl (by exact BK205.out) Try.underlying136 rfl (by kernel_rfl)) rfl ?_;exact ⟨by first | rfl | (simp [au, ak] <;> rfl) | (simp [*, au, ak] <;> rfl), by exact rud HB.out rfl rfl rfl rfl⟩
 rw [if_neg c2] at H;have c2b0 : (a0 == 0) = false := beq_eq_false_iff_ne.mpr c2;have c2b1 : (a0 != 0) = true := bne_iff_ne.mpr c2;have HC6 := aa.mk H;clear H;go_enter Try.func110, Try.ntmps110;go_upto_if 7 with (first | ((with_reducible refine bJ (N := 2) rfl ?_); refine bD ?hg (N := 2) ?hd (cs := #[.int .i64 0, .int .i64 0, .int .i64 0, .bool false]) (t := 136) ?hr ?_; (case hd => rfl); (case hg => rfl); (case hr => first | (go_simp; done) | (go_simp; rfl)); intro gb205 hg w7 hbox hb; replace hb : Below (World.heap w).size w w7 := ⟨hb.os, hb.tape, hb.output, hb.size, hb.block⟩; have n0_ := aa.mk (aj HB.out hb); have n1_ := aa.mk (hbox); have n2_ := aa.mk ((by rw [hg]; exact HB.out.size : w.heap.size ≤ gb205)); have n3_ := n2_; clear HB; have HB := n0_; have BK205 := n1_; have GW205 := n2_; have GE205 := n3_; clear n0_ n1_ n2_ n3_ hb hbox hg));(try simp only [pS]);go_cut [7] (fun v7 wc => ∃ (kq : Nat) (x7_5 : Bool), v7 = .bool x7_5 ∧ aa (aC.j0 kq a0 x7_5 = some (r1, r2, r3, r4)) ∧ aa (kq ≤ k) ∧ aa (wc.heap[gb205]? = some (.cells #[.int .i64 0, .int .i64 0, .int .i64 0, .bool false] 136 (0, 0))) ∧ aa (Below w.heap.size w wc))
 case first =>
  have H := HC6.out;clear HC6;by_cases c8 : a0 = 1;rotate_left
  ·rw [if_neg c8] at H
   have c8b0 : (a0 == 1) = false := beq_eq_false_iff_ne.mpr c8;have c8b1 : (a0 != 1) = true := bne_iff_ne.mpr c8;(first | rw [c8b0] | (simp only [iY, i32_w]; rw [c8b0]) | skip);have H' := aa.mk H;clear H;go_wp2;go_meet
   case rel => exact ⟨_, ((a0 == 2)), (by first | rfl | (simp; done) | (simp [*]; done)), H', ⟨by first | omega | exact Nat.le_refl _⟩, ⟨by exact BK205.out⟩, ⟨by exact rud HB.out rfl rfl rfl rfl⟩⟩
  rw [if_pos c8] at H;have c8b0 : (a0 == 1) = true := beq_iff_eq.mpr c8;have c8b1 : (a0 != 1) = false := bne_eq_false_iff_eq.mpr c8;clear c8;(first | rw [c8b0] | (simp only [iY, i32_w]; rw [c8b0]) | skip);have H' := aa.mk H;clear H;go_wp2;go_meet
  case rel => exact ⟨_, ((a0 == 1)), (by first | rfl | (simp; done) | (simp [*]; done)), H', ⟨by first | omega | exact Nat.le_refl _⟩, ⟨by exact BK205.out⟩, ⟨by exact rud HB.out rfl rfl rfl rfl⟩⟩
 case rest =>
  clear HC6;(try clear c1 c2 c2b0 c2b1 p2 c8 c8b0 c8b1 C4_0 C4_1 C4_2 C4_3 F4_0 F4_1 F4_2 F4_3);obtain ⟨kq, x7_5, rfl, HA, HJ5, BK205, HB⟩ := hcut;cases kq with
  | zero => exact absurd HA.out (by simp [aC.j0])
  | succ kj5 =>
   have H := HA.out;clear HA;simp only [aC.j0] at H;by_cases c9 : x7_5 = true
   ·subst c9
    have H1 : (some (0, 1, 0, false)) = some (r1, r2, r3, r4) := by rw [if_pos rfl] at H; exact H
    clear H;have H := H1;clear H1;simp only [Option.some.injEq, Prod.mk.injEq] at H;obtain ⟨rfl, rfl, rfl, rfl⟩ := H;obtain ⟨Ca_0, Ca_1, Ca_2, Ca_3⟩ := LB.cells4 BK205.out;obtain ⟨Fa_0, Fa_1, Fa_2, Fa_3⟩ := LB.frozen4 BK205.out;go_wp2_with (first | ((with_reducible refine dK (t := 136) (p := 2) rfl ?_); refine dG (t := 136) (p := 2) (v := ?vo_w11) (w1 := ((((wc.setCell ⟨gb205, 0, none⟩ (.int .i64 0)).setCell ⟨gb205, 1, none⟩ (.int .i64 1)).setCell ⟨gb205, 2, none⟩ (.int .i64 0)).setCell ⟨gb205, 3, none⟩ (.bool false))) ?hg ?ho ?hn ?hr ?_; (case ho => rfl); (case hg => rfl); (case hn => rfl); (case hr => first | (go_simp; done) | (go_simp; rfl)); intro w11 hw; have n0_ : aa (w11.heap[gb205]? = some (.cells #[.int .i64 0, .int .i64 1, .int .i64 0, .bool false] 136 (0, 0))) := ⟨(by rw [hw]; exact (by (with_reducible repeat (first | refine ax ?_ _ | refine av ?_ | refine ay ?_ _)); refine bK (cs := #[.int .i64 0, .int .i64 1, .int .i64 0, .bool false]) ?_ 3 _ rfl; (with_reducible repeat (first | refine ax ?_ _ | refine av ?_ | refine ay ?_ _)); refine bK (cs := #[.int .i64 0, .int .i64 1, .int .i64 0, .bool false]) ?_ 2 _ rfl; (with_reducible repeat (first | refine ax ?_ _ | refine av ?_ | refine ay ?_ _)); refine bK (cs := #[.int .i64 0, .int .i64 0, .int .i64 0, .bool false]) ?_ 1 _ rfl; (with_reducible repeat (first | refine ax ?_ _ | refine av ?_ | refine ay ?_ _)); refine bK (cs := #[.int .i64 0, .int .i64 0, .int .i64 0, .bool false]) ?_ 0 _ rfl; (with_reducible repeat (first | refine ax ?_ _ | refine av ?_ | refine ay ?_ _)); exact BK205.out))⟩; have n1_ : aa (Below w.heap.size w w11) := ⟨(by rw [hw]; exact (by repeat (first | (with_reducible first | exact HB.out | apply bq | apply aT | apply aJ | refine aW ?_ GE205.out) | exact HB.out)))⟩; clear hw BK205 HB; have BK205 := n0_; have HB := n1_; clear n0_ n1_));refine bodyPost_ret (results_cell_row rfl _ _ gb205 136 #[.int .i64 0, .int .i64 1, .int .i64 0, .bool false] (0, 0) _ rfl (by exact BK205.out) Try.underlying136 rfl (by kernel_rfl)) rfl ?_;exact ⟨by first | rfl | (simp [au, ak] <;> rfl) | (simp [*, au, ak] <;> rfl), by exact rud HB.out rfl rfl rfl rfl⟩
   replace c9 := Bool.eq_false_iff.mpr c9;subst c9;have H1 : (if a0 = 3 then (aC.j1 kj5 a0 (a0 == 3)) else (if a0 = 4 then (aC.j1 kj5 a0 (a0 == 4)) else (if a0 = 6 then (aC.j1 kj5 a0 (a0 == 6)) else (if a0 = 8 then (aC.j1 kj5 a0 (a0 == 8)) else (aC.j1 kj5 a0 (a0 == 11)))))) = some (r1, r2, r3, r4) := by rw [if_neg (show ¬ (false = true) by decide)] at H; exact H
   clear H;have H := H1;clear H1;have HC12 := aa.mk H;clear H;go_upto_if 11 with (fail);go_cut [11] (fun v11 wc => ∃ (kq : Nat) (x11_11 : Bool), v11 = .bool x11_11 ∧ aa (aC.j1 kq a0 x11_11 = some (r1, r2, r3, r4)) ∧ aa (kq ≤ kj5) ∧ aa (wc.heap[gb205]? = some (.cells #[.int .i64 0, .int .i64 0, .int .i64 0, .bool false] 136 (0, 0))) ∧ aa (Below w.heap.size w wc))
   case first =>
    have H := HC12.out;clear HC12;by_cases c13 : a0 = 3
    ·rw [if_pos c13] at H
     have c13b0 : (a0 == 3) = true := beq_iff_eq.mpr c13;have c13b1 : (a0 != 3) = false := bne_eq_false_iff_eq.mpr c13;clear c13;(first | rw [c13b0] | (simp only [iY, i32_w]; rw [c13b0]) | skip);have H' := aa.mk H;clear H;go_wp2;go_meet
     case rel => exact ⟨_, ((a0 == 3)), (by first | rfl | (simp; done) | (simp [*]; done)), H', ⟨by have := HJ5.out; first | omega | exact Nat.le_refl _⟩, ⟨by exact BK205.out⟩, ⟨by exact rud HB.out rfl rfl rfl rfl⟩⟩
    rw [if_neg c13] at H;have c13b0 : (a0 == 3) = false := beq_eq_false_iff_ne.mpr c13;have c13b1 : (a0 != 3) = true := bne_iff_ne.mpr c13;(first | rw [c13b0] | (simp only [iY, i32_w]; rw [c13b0]) | skip);by_cases c14 : a0 = 4
    ·rw [if_pos c14] at H
     have c14b0 : (a0 == 4) = true := beq_iff_eq.mpr c14;have c14b1 : (a0 != 4) = false := bne_eq_false_iff_eq.mpr c14;clear c14;have H' := aa.mk H;clear H;go_wp2;go_meet
     case rel => exact ⟨_, ((a0 == 4)), (by first | rfl | (simp; done) | (simp [*]; done)), H', ⟨by have := HJ5.out; first | omega | exact Nat.le_refl _⟩, ⟨by exact BK205.out⟩, ⟨by exact rud HB.out rfl rfl rfl rfl⟩⟩
    rw [if_neg c14] at H;have c14b0 : (a0 == 4) = false := beq_eq_false_iff_ne.mpr c14;have c14b1 : (a0 != 4) = true := bne_iff_ne.mpr c14;by_cases c15 : a0 = 6
    ·rw [if_pos c15] at H
     have c15b0 : (a0 == 6) = true := beq_iff_eq.mpr c15;have c15b1 : (a0 != 6) = false := bne_eq_false_iff_eq.mpr c15;clear c15;have H' := aa.mk H;clear H;go_wp2;go_meet
     case rel => exact ⟨_, ((a0 == 6)), (by first | rfl | (simp; done) | (simp [*]; done)), H', ⟨by have := HJ5.out; first | omega | exact Nat.le_refl _⟩, ⟨by exact BK205.out⟩, ⟨by exact rud HB.out rfl rfl rfl rfl⟩⟩
    rw [if_neg c15] at H;have c15b0 : (a0 == 6) = false := beq_eq_false_iff_ne.mpr c15;have c15b1 : (a0 != 6) = true := bne_iff_ne.mpr c15;by_cases c16 : a0 = 8;rotate_left
    ·rw [if_neg c16] at H
     have c16b0 : (a0 == 8) = false := beq_eq_false_iff_ne.mpr c16;have c16b1 : (a0 != 8) = true := bne_iff_ne.mpr c16;have H' := aa.mk H;clear H;go_wp2;go_meet
     case rel => exact ⟨_, ((a0 == 11)), (by first | rfl | (simp; done) | (simp [*]; done)), H', ⟨by have := HJ5.out; first | omega | exact Nat.le_refl _⟩, ⟨by exact BK205.out⟩, ⟨by exact rud HB.out rfl rfl rfl rfl⟩⟩
    rw [if_pos c16] at H;have c16b0 : (a0 == 8) = true := beq_iff_eq.mpr c16;have c16b1 : (a0 != 8) = false := bne_eq_false_iff_eq.mpr c16;clear c16;have H' := aa.mk H;clear H;go_wp2;go_meet
    case rel => exact ⟨_, ((a0 == 8)), (by first | rfl | (simp; done) | (simp [*]; done)), H', ⟨by have := HJ5.out; first | omega | exact Nat.le_refl _⟩, ⟨by exact BK205.out⟩, ⟨by exact rud HB.out rfl rfl rfl rfl⟩⟩
   case rest =>
    clear HC12;(try clear c1 c2 c2b0 c2b1 p2 c8 c8b0 c8b1 c9 c11 c13 c13b0 c13b1 c14 c14b0 c14b1 c15 c15b0 c15b1 c16 c16b0 c16b1 Ca_0 Ca_1 Ca_2 Ca_3 C4_0 C4_1 C4_2 C4_3 Fa_0 Fa_1 Fa_2 Fa_3 F4_0 F4_1 F4_2 F4_3 p2);obtain ⟨kq, x11_11, rfl, HA, HJ11, BK205, HB⟩ := hcut;cases kq with
    | zero => exact absurd HA.out (by simp [aC.j1])
    | succ kj11 =>
     have H := HA.out;clear HA;simp only [aC.j1] at H;by_cases c17 : x11_11 = true
     ·subst c17
      have H1 : (some ((-1), 1099511627776, (-1), false)) = some (r1, r2, r3, r4) := by rw [if_pos rfl] at H; exact H
      clear H;have H := H1;clear H1;simp only [Option.some.injEq, Prod.mk.injEq] at H;obtain ⟨rfl, rfl, rfl, rfl⟩ := H;obtain ⟨Ci_0, Ci_1, Ci_2, Ci_3⟩ := LB.cells4 BK205.out;obtain ⟨Fi_0, Fi_1, Fi_2, Fi_3⟩ := LB.frozen4 BK205.out;go_wp2_with (first | ((with_reducible refine dK (t := 136) (p := 2) rfl ?_); refine dG (t := 136) (p := 2) (v := ?vo_w19) (w1 := ((((wc.setCell ⟨gb205, 0, none⟩ (.int .i64 (-1))).setCell ⟨gb205, 1, none⟩ (.int .i64 1099511627776)).setCell ⟨gb205, 2, none⟩ (.int .i64 (-1))).setCell ⟨gb205, 3, none⟩ (.bool false))) ?hg ?ho ?hn ?hr ?_; (case ho => rfl); (case hg => rfl); (case hn => rfl); (case hr => first | (go_simp; done) | (go_simp; rfl)); intro w19 hw; have n0_ : aa (w19.heap[gb205]? = some (.cells #[.int .i64 (-1), .int .i64 1099511627776, .int .i64 (-1), .bool false] 136 (0, 0))) := ⟨(by rw [hw]; exact (by (with_reducible repeat (first | refine ax ?_ _ | refine av ?_ | refine ay ?_ _)); refine bK (cs := #[.int .i64 (-1), .int .i64 1099511627776, .int .i64 (-1), .bool false]) ?_ 3 _ rfl; (with_reducible repeat (first | refine ax ?_ _ | refine av ?_ | refine ay ?_ _)); refine bK (cs := #[.int .i64 (-1), .int .i64 1099511627776, .int .i64 0, .bool false]) ?_ 2 _ rfl; (with_reducible repeat (first | refine ax ?_ _ | refine av ?_ | refine ay ?_ _)); refine bK (cs := #[.int .i64 (-1), .int .i64 0, .int .i64 0, .bool false]) ?_ 1 _ rfl; (with_reducible repeat (first | refine ax ?_ _ | refine av ?_ | refine ay ?_ _)); refine bK (cs := #[.int .i64 0, .int .i64 0, .int .i64 0, .bool false]) ?_ 0 _ rfl; (with_reducible repeat (first | refine ax ?_ _ | refine av ?_ | refine ay ?_ _)); exact BK205.out))⟩; have n1_ : aa (Below w.heap.size w w19) := ⟨(by rw [hw]; exact (by repeat (first | (with_reducible first | exact HB.out | apply bq | apply aT | apply aJ | refine aW ?_ GE205.out) | exact HB.out)))⟩; clear hw BK205 HB; have BK205 := n0_; have HB := n1_; clear n0_ n1_));refine bodyPost_ret (results_cell_row rfl _ _ gb205 136 #[.int .i64 (-1), .int .i64 1099511627776, .int .i64 (-1), .bool false] (0, 0) _ rfl (by exact BK205.out) Try.underlying136 rfl (by kernel_rfl)) rfl ?_;exact ⟨by first | rfl | (simp [au, ak] <;> rfl) | (simp [*, au, ak] <;> rfl), by exact rud HB.out rfl rfl rfl rfl⟩
     replace c17 := Bool.eq_false_iff.mpr c17;subst c17;have H1 : (if a0 = 5 then (aC.j2 kj11 a0 (a0 == 5)) else (aC.j2 kj11 a0 (a0 == 7))) = some (r1, r2, r3, r4) := by rw [if_neg (show ¬ (false = true) by decide)] at H; exact H
     clear H;have H := H1;clear H1;have HC20 := aa.mk H;clear H;go_upto_if 18 with (fail);go_cut [18] (fun v18 wc => ∃ (kq : Nat) (x18_19 : Bool), v18 = .bool x18_19 ∧ aa (aC.j2 kq a0 x18_19 = some (r1, r2, r3, r4)) ∧ aa (kq ≤ kj11) ∧ aa (wc.heap[gb205]? = some (.cells #[.int .i64 0, .int .i64 0, .int .i64 0, .bool false] 136 (0, 0))) ∧ aa (Below w.heap.size w wc))
     case first =>
      have H := HC20.out;clear HC20;by_cases c21 : a0 = 5;rotate_left
      ·rw [if_neg c21] at H
       have c21b0 : (a0 == 5) = false := beq_eq_false_iff_ne.mpr c21;have c21b1 : (a0 != 5) = true := bne_iff_ne.mpr c21;(first | rw [c21b0] | (simp only [iY, i32_w]; rw [c21b0]) | skip);have H' := aa.mk H;clear H;go_wp2;go_meet
       case rel => exact ⟨_, ((a0 == 7)), (by first | rfl | (simp; done) | (simp [*]; done)), H', ⟨by have := HJ5.out; have := HJ11.out; first | omega | exact Nat.le_refl _⟩, ⟨by exact BK205.out⟩, ⟨by exact rud HB.out rfl rfl rfl rfl⟩⟩
      rw [if_pos c21] at H;have c21b0 : (a0 == 5) = true := beq_iff_eq.mpr c21;have c21b1 : (a0 != 5) = false := bne_eq_false_iff_eq.mpr c21;clear c21;(first | rw [c21b0] | (simp only [iY, i32_w]; rw [c21b0]) | skip);have H' := aa.mk H;clear H;go_wp2;go_meet
      case rel => exact ⟨_, ((a0 == 5)), (by first | rfl | (simp; done) | (simp [*]; done)), H', ⟨by have := HJ5.out; have := HJ11.out; first | omega | exact Nat.le_refl _⟩, ⟨by exact BK205.out⟩, ⟨by exact rud HB.out rfl rfl rfl rfl⟩⟩
     case rest =>
      clear HC20;(try clear c1 c2 c2b0 c2b1 p2 c8 c8b0 c8b1 c9 c11 c13 c13b0 c13b1 c14 c14b0 c14b1 c15 c15b0 c15b1 c16 c16b0 c16b1 c17 c21 c21b0 c21b1 Ca_0 Ca_1 Ca_2 Ca_3 Ci_0 Ci_1 Ci_2 Ci_3 C4_0 C4_1 C4_2 C4_3 Fa_0 Fa_1 Fa_2 Fa_3 Fi_0 Fi_1 Fi_2 Fi_3 F4_0 F4_1 F4_2 F4_3 p2);obtain ⟨kq, x18_19, rfl, HA, HJ19, BK205, HB⟩ := hcut;cases kq with
      | zero => exact absurd HA.out (by simp [aC.j2])
      | succ kj19 =>
       have H := HA.out;clear HA;simp only [aC.j2] at H;by_cases c22 : x18_19 = true
       ·subst c22
        have H1 : (some (0, 1099511627776, 0, false)) = some (r1, r2, r3, r4) := by rw [if_pos rfl] at H; exact H
        clear H;have H := H1;clear H1;simp only [Option.some.injEq, Prod.mk.injEq] at H;obtain ⟨rfl, rfl, rfl, rfl⟩ := H;obtain ⟨Cn_0, Cn_1, Cn_2, Cn_3⟩ := LB.cells4 BK205.out;obtain ⟨Fn_0, Fn_1, Fn_2, Fn_3⟩ := LB.frozen4 BK205.out;go_wp2_with (first | ((with_reducible refine dK (t := 136) (p := 2) rfl ?_); refine dG (t := 136) (p := 2) (v := ?vo_w24) (w1 := ((((wc.setCell ⟨gb205, 0, none⟩ (.int .i64 0)).setCell ⟨gb205, 1, none⟩ (.int .i64 1099511627776)).setCell ⟨gb205, 2, none⟩ (.int .i64 0)).setCell ⟨gb205, 3, none⟩ (.bool false))) ?hg ?ho ?hn ?hr ?_; (case ho => rfl); (case hg => rfl); (case hn => rfl); (case hr => first | (go_simp; done) | (go_simp; rfl)); intro w24 hw; have n0_ : aa (w24.heap[gb205]? = some (.cells #[.int .i64 0, .int .i64 1099511627776, .int .i64 0, .bool false] 136 (0, 0))) := ⟨(by rw [hw]; exact (by (with_reducible repeat (first | refine ax ?_ _ | refine av ?_ | refine ay ?_ _)); refine bK (cs := #[.int .i64 0, .int .i64 1099511627776, .int .i64 0, .bool false]) ?_ 3 _ rfl; (with_reducible repeat (first | refine ax ?_ _ | refine av ?_ | refine ay ?_ _)); refine bK (cs := #[.int .i64 0, .int .i64 1099511627776, .int .i64 0, .bool false]) ?_ 2 _ rfl; (with_reducible repeat (first | refine ax ?_ _ | refine av ?_ | refine ay ?_ _)); refine bK (cs := #[.int .i64 0, .int .i64 0, .int .i64 0, .bool false]) ?_ 1 _ rfl; (with_reducible repeat (first | refine ax ?_ _ | refine av ?_ | refine ay ?_ _)); refine bK (cs := #[.int .i64 0, .int .i64 0, .int .i64 0, .bool false]) ?_ 0 _ rfl; (with_reducible repeat (first | refine ax ?_ _ | refine av ?_ | refine ay ?_ _)); exact BK205.out))⟩; have n1_ : aa (Below w.heap.size w w24) := ⟨(by rw [hw]; exact (by repeat (first | (with_reducible first | exact HB.out | apply bq | apply aT | apply aJ | refine aW ?_ GE205.out) | exact HB.out)))⟩; clear hw BK205 HB; have BK205 := n0_; have HB := n1_; clear n0_ n1_));refine bodyPost_ret (results_cell_row rfl _ _ gb205 136 #[.int .i64 0, .int .i64 1099511627776, .int .i64 0, .bool false] (0, 0) _ rfl (by exact BK205.out) Try.underlying136 rfl (by kernel_rfl)) rfl ?_;exact ⟨by first | rfl | (simp [au, ak] <;> rfl) | (simp [*, au, ak] <;> rfl), by exact rud HB.out rfl rfl rfl rfl⟩
       replace c22 := Bool.eq_false_iff.mpr c22;subst c22;have H1 : (if a0 = 9 then (some (0, 1048576, 0, false)) else (if a0 = 10 then (some (0, 1048576, 1, false)) else (if a0 = 15 then (some (0, 4, 0, false)) else (if a0 = 16 then (some (0, 3, 0, false)) else (if a0 = 17 then (some (0, 16777215, 0, true)) else (if a0 = 18 then (some (64, 64000, 1024, true)) else (some (0, 1073741824, 0, false)))))))) = some (r1, r2, r3, r4) := by rw [if_neg (show ¬ (false = true) by decide)] at H; exact H
       clear H;have H := H1;clear H1;by_cases c25 : a0 = 9
       ·rw [if_pos c25] at H
        have c25b0 : (a0 == 9) = true := beq_iff_eq.mpr c25;have c25b1 : (a0 != 9) = false := bne_eq_false_iff_eq.mpr c25;clear c25;simp only [Option.some.injEq, Prod.mk.injEq] at H;obtain ⟨rfl, rfl, rfl, rfl⟩ := H;obtain ⟨Cq_0, Cq_1, Cq_2, Cq_3⟩ := LB.cells4 BK205.out;obtain ⟨Fq_0, Fq_1, Fq_2, Fq_3⟩ := LB.frozen4 BK205.out;go_wp2_with (first | ((with_reducible refine dK (t := 136) (p := 2) rfl ?_); refine dG (t := 136) (p := 2) (v := ?vo_w27) (w1 := ((((wc.setCell ⟨gb205, 0, none⟩ (.int .i64 0)).setCell ⟨gb205, 1, none⟩ (.int .i64 1048576)).setCell ⟨gb205, 2, none⟩ (.int .i64 0)).setCell ⟨gb205, 3, none⟩ (.bool false))) ?hg ?ho ?hn ?hr ?_; (case ho => rfl); (case hg => rfl); (case hn => rfl); (case hr => first | (go_simp; done) | (go_simp; rfl)); intro w27 hw; have n0_ : aa (w27.heap[gb205]? = some (.cells #[.int .i64 0, .int .i64 1048576, .int .i64 0, .bool false] 136 (0, 0))) := ⟨(by rw [hw]; exact (by (with_reducible repeat (first | refine ax ?_ _ | refine av ?_ | refine ay ?_ _)); refine bK (cs := #[.int .i64 0, .int .i64 1048576, .int .i64 0, .bool false]) ?_ 3 _ rfl; (with_reducible repeat (first | refine ax ?_ _ | refine av ?_ | refine ay ?_ _)); refine bK (cs := #[.int .i64 0, .int .i64 1048576, .int .i64 0, .bool false]) ?_ 2 _ rfl; (with_reducible repeat (first | refine ax ?_ _ | refine av ?_ | refine ay ?_ _)); refine bK (cs := #[.int .i64 0, .int .i64 0, .int .i64 0, .bool false]) ?_ 1 _ rfl; (with_reducible repeat (first | refine ax ?_ _ | refine av ?_ | refine ay ?_ _)); refine bK (cs := #[.int .i64 0, .int .i64 0, .int .i64 0, .bool false]) ?_ 0 _ rfl; (with_reducible repeat (first | refine ax ?_ _ | refine av ?_ | refine ay ?_ _)); exact BK205.out))⟩; have n1_ : aa (Below w.heap.size w w27) := ⟨(by rw [hw]; exact (by repeat (first | (with_reducible first | exact HB.out | apply bq | apply aT | apply aJ | refine aW ?_ GE205.out) | exact HB.out)))⟩; clear hw BK205 HB; have BK205 := n0_; have HB := n1_; clear n0_ n1_));refine bodyPost_ret (results_cell_row rfl _ _ gb205 136 #[.int .i64 0, .int .i64 1048576, .int .i64 0, .bool false] (0, 0) _ rfl (by exact BK205.out) Try.underlying136 rfl (by kernel_rfl)) rfl ?_;exact ⟨by first | rfl | (simp [au, ak] <;> rfl) | (simp [*, au, ak] <;> rfl), by exact rud HB.out rfl rfl rfl rfl⟩
       rw [if_neg c25] at H;have c25b0 : (a0 == 9) = false := beq_eq_false_iff_ne.mpr c25;have c25b1 : (a0 != 9) = true := bne_iff_ne.mpr c25;by_cases c28 : a0 = 10
       ·rw [if_pos c28] at H
        have c28b0 : (a0 == 10) = true := beq_iff_eq.mpr c28;have c28b1 : (a0 != 10) = false := bne_eq_false_iff_eq.mpr c28;clear c28;simp only [Option.some.injEq, Prod.mk.injEq] at H;obtain ⟨rfl, rfl, rfl, rfl⟩ := H;obtain ⟨Ct_0, Ct_1, Ct_2, Ct_3⟩ := LB.cells4 BK205.out;obtain ⟨Ft_0, Ft_1, Ft_2, Ft_3⟩ := LB.frozen4 BK205.out;go_wp2_with (first | ((with_reducible refine dK (t := 136) (p := 2) rfl ?_); refine dG (t := 136) (p := 2) (v := ?vo_w30) (w1 := ((((wc.setCell ⟨gb205, 0, none⟩ (.int .i64 0)).setCell ⟨gb205, 1, none⟩ (.int .i64 1048576)).setCell ⟨gb205, 2, none⟩ (.int .i64 1)).setCell ⟨gb205, 3, none⟩ (.bool false))) ?hg ?ho ?hn ?hr ?_; (case ho => rfl); (case hg => rfl); (case hn => rfl); (case hr => first | (go_simp; done) | (go_simp; rfl)); intro w30 hw; have n0_ : aa (w30.heap[gb205]? = some (.cells #[.int .i64 0, .int .i64 1048576, .int .i64 1, .bool false] 136 (0, 0))) := ⟨(by rw [hw]; exact (by (with_reducible repeat (first | refine ax ?_ _ | refine av ?_ | refine ay ?_ _)); refine bK (cs := #[.int .i64 0, .int .i64 1048576, .int .i64 1, .bool false]) ?_ 3 _ rfl; (with_reducible repeat (first | refine ax ?_ _ | refine av ?_ | refine ay ?_ _)); refine bK (cs := #[.int .i64 0, .int .i64 1048576, .int .i64 0, .bool false]) ?_ 2 _ rfl; (with_reducible repeat (first | refine ax ?_ _ | refine av ?_ | refine ay ?_ _)); refine bK (cs := #[.int .i64 0, .int .i64 0, .int .i64 0, .bool false]) ?_ 1 _ rfl; (with_reducible repeat (first | refine ax ?_ _ | refine av ?_ | refine ay ?_ _)); refine bK (cs := #[.int .i64 0, .int .i64 0, .int .i64 0, .bool false]) ?_ 0 _ rfl; (with_reducible repeat (first | refine ax ?_ _ | refine av ?_ | refine ay ?_ _)); exact BK205.out))⟩; have n1_ : aa (Below w.heap.size w w30) := ⟨(by rw [hw]; exact (by repeat (first | (with_reducible first | exact HB.out | apply bq | apply aT | apply aJ | refine aW ?_ GE205.out) | exact HB.out)))⟩; clear hw BK205 HB; have BK205 := n0_; have HB := n1_; clear n0_ n1_));refine bodyPost_ret (results_cell_row rfl _ _ gb205 136 #[.int .i64 0, .int .i64 1048576, .int .i64 1, .bool false] (0, 0) _ rfl (by exact BK205.out) Try.underlying136 rfl (by kernel_rfl)) rfl ?_;exact ⟨by first | rfl | (simp [au, ak] <;> rfl) | (simp [*, au, ak] <;> rfl), by exact rud HB.out rfl rfl rfl rfl⟩
       rw [if_neg c28] at H;have c28b0 : (a0 == 10) = false := beq_eq_false_iff_ne.mpr c28;have c28b1 : (a0 != 10) = true := bne_iff_ne.mpr c28;by_cases c31 : a0 = 15
       ·rw [if_pos c31] at H
        have c31b0 : (a0 == 15) = true := beq_iff_eq.mpr c31;have c31b1 : (a0 != 15) = false := bne_eq_false_iff_eq.mpr c31;clear c31;simp only [Option.some.injEq, Prod.mk.injEq] at H;obtain ⟨rfl, rfl, rfl, rfl⟩ := H;obtain ⟨Cw_0, Cw_1, Cw_2, Cw_3⟩ := LB.cells4 BK205.out;obtain ⟨Fw_0, Fw_1, Fw_2, Fw_3⟩ := LB.frozen4 BK205.out;go_wp2_with (first | ((with_reducible refine dK (t := 136) (p := 2) rfl ?_); refine dG (t := 136) (p := 2) (v := ?vo_w33) (w1 := ((((wc.setCell ⟨gb205, 0, none⟩ (.int .i64 0)).setCell ⟨gb205, 1, none⟩ (.int .i64 4)).setCell ⟨gb205, 2, none⟩ (.int .i64 0)).setCell ⟨gb205, 3, none⟩ (.bool false))) ?hg ?ho ?hn ?hr ?_; (case ho => rfl); (case hg => rfl); (case hn => rfl); (case hr => first | (go_simp; done) | (go_simp; rfl)); intro w33 hw; have n0_ : aa (w33.heap[gb205]? = some (.cells #[.int .i64 0, .int .i64 4, .int .i64 0, .bool false] 136 (0, 0))) := ⟨(by rw [hw]; exact (by (with_reducible repeat (first | refine ax ?_ _ | refine av ?_ | refine ay ?_ _)); refine bK (cs := #[.int .i64 0, .int .i64 4, .int .i64 0, .bool false]) ?_ 3 _ rfl; (with_reducible repeat (first | refine ax ?_ _ | refine av ?_ | refine ay ?_ _)); refine bK (cs := #[.int .i64 0, .int .i64 4, .int .i64 0, .bool false]) ?_ 2 _ rfl; (with_reducible repeat (first | refine ax ?_ _ | refine av ?_ | refine ay ?_ _)); refine bK (cs := #[.int .i64 0, .int .i64 0, .int .i64 0, .bool false]) ?_ 1 _ rfl; (with_reducible repeat (first | refine ax ?_ _ | refine av ?_ | refine ay ?_ _)); refine bK (cs := #[.int .i64 0, .int .i64 0, .int .i64 0, .bool false]) ?_ 0 _ rfl; (with_reducible repeat (first | refine ax ?_ _ | refine av ?_ | refine ay ?_ _)); exact BK205.out))⟩; have n1_ : aa (Below w.heap.size w w33) := ⟨(by rw [hw]; exact (by repeat (first | (with_reducible first | exact HB.out | apply bq | apply aT | apply aJ | refine aW ?_ GE205.out) | exact HB.out)))⟩; clear hw BK205 HB; have BK205 := n0_; have HB := n1_; clear n0_ n1_));refine bodyPost_ret (results_cell_row rfl _ _ gb205 136 #[.int .i64 0, .int .i64 4, .int .i64 0, .bool false] (0, 0) _ rfl (by exact BK205.out) Try.underlying136 rfl (by kernel_rfl)) rfl ?_;exact ⟨by first | rfl | (simp [au, ak] <;> rfl) | (simp [*, au, ak] <;> rfl), by exact rud HB.out rfl rfl rfl rfl⟩
       rw [if_neg c31] at H;have c31b0 : (a0 == 15) = false := beq_eq_false_iff_ne.mpr c31;have c31b1 : (a0 != 15) = true := bne_iff_ne.mpr c31;by_cases c34 : a0 = 16
       ·rw [if_pos c34] at H
        have c34b0 : (a0 == 16) = true := beq_iff_eq.mpr c34;have c34b1 : (a0 != 16) = false := bne_eq_false_iff_eq.mpr c34;clear c34;simp only [Option.some.injEq, Prod.mk.injEq] at H;obtain ⟨rfl, rfl, rfl, rfl⟩ := H;obtain ⟨Cz_0, Cz_1, Cz_2, Cz_3⟩ := LB.cells4 BK205.out;obtain ⟨Fz_0, Fz_1, Fz_2, Fz_3⟩ := LB.frozen4 BK205.out;go_wp2_with (first | ((with_reducible refine dK (t := 136) (p := 2) rfl ?_); refine dG (t := 136) (p := 2) (v := ?vo_w36) (w1 := ((((wc.setCell ⟨gb205, 0, none⟩ (.int .i64 0)).setCell ⟨gb205, 1, none⟩ (.int .i64 3)).setCell ⟨gb205, 2, none⟩ (.int .i64 0)).setCell ⟨gb205, 3, none⟩ (.bool false))) ?hg ?ho ?hn ?hr ?_; (case ho => rfl); (case hg => rfl); (case hn => rfl); (case hr => first | (go_simp; done) | (go_simp; rfl)); intro w36 hw; have n0_ : aa (w36.heap[gb205]? = some (.cells #[.int .i64 0, .int .i64 3, .int .i64 0, .bool false] 136 (0, 0))) := ⟨(by rw [hw]; exact (by (with_reducible repeat (first | refine ax ?_ _ | refine av ?_ | refine ay ?_ _)); refine bK (cs := #[.int .i64 0, .int .i64 3, .int .i64 0, .bool false]) ?_ 3 _ rfl; (with_reducible repeat (first | refine ax ?_ _ | refine av ?_ | refine ay ?_ _)); refine bK (cs := #[.int .i64 0, .int .i64 3, .int .i64 0, .bool false]) ?_ 2 _ rfl; (with_reducible repeat (first | refine ax ?_ _ | refine av ?_ | refine ay ?_ _)); refine bK (cs := #[.int .i64 0, .int .i64 0, .int .i64 0, .bool false]) ?_ 1 _ rfl; (with_reducible repeat (first | refine ax ?_ _ | refine av ?_ | refine ay ?_ _)); refine bK (cs := #[.int .i64 0, .int .i64 0, .int .i64 0, .bool false]) ?_ 0 _ rfl; (with_reducible repeat (first | refine ax ?_ _ | refine av ?_ | refine ay ?_ _)); exact BK205.out))⟩; have n1_ : aa (Below w.heap.size w w36) := ⟨(by rw [hw]; exact (by repeat (first | (with_reducible first | exact HB.out | apply bq | apply aT | apply aJ | refine aW ?_ GE205.out) | exact HB.out)))⟩; clear hw BK205 HB; have BK205 := n0_; have HB := n1_; clear n0_ n1_));refine bodyPost_ret (results_cell_row rfl _ _ gb205 136 #[.int .i64 0, .int .i64 3, .int .i64 0, .bool false] (0, 0) _ rfl (by exact BK205.out) Try.underlying136 rfl (by kernel_rfl)) rfl ?_;exact ⟨by first | rfl | (simp [au, ak] <;> rfl) | (simp [*, au, ak] <;> rfl), by exact rud HB.out rfl rfl rfl rfl⟩
       rw [if_neg c34] at H;have c34b0 : (a0 == 16) = false := beq_eq_false_iff_ne.mpr c34;have c34b1 : (a0 != 16) = true := bne_iff_ne.mpr c34;by_cases c37 : a0 = 17
       ·rw [if_pos c37] at H
        have c37b0 : (a0 == 17) = true := beq_iff_eq.mpr c37;have c37b1 : (a0 != 17) = false := bne_eq_false_iff_eq.mpr c37;clear c37;simp only [Option.some.injEq, Prod.mk.injEq] at H;obtain ⟨rfl, rfl, rfl, rfl⟩ := H;obtain ⟨C12_0, C12_1, C12_2, C12_3⟩ := LB.cells4 BK205.out;obtain ⟨F12_0, F12_1, F12_2, F12_3⟩ := LB.frozen4 BK205.out;go_wp2_with (first | ((with_reducible refine dK (t := 136) (p := 2) rfl ?_); refine dG (t := 136) (p := 2) (v := ?vo_w39) (w1 := ((((wc.setCell ⟨gb205, 0, none⟩ (.int .i64 0)).setCell ⟨gb205, 1, none⟩ (.int .i64 16777215)).setCell ⟨gb205, 2, none⟩ (.int .i64 0)).setCell ⟨gb205, 3, none⟩ (.bool true))) ?hg ?ho ?hn ?hr ?_; (case ho => rfl); (case hg => rfl); (case hn => rfl); (case hr => first | (go_simp; done) | (go_simp; rfl)); intro w39 hw; have n0_ : aa (w39.heap[gb205]? = some (.cells #[.int .i64 0, .int .i64 16777215, .int .i64 0, .bool true] 136 (0, 0))) := ⟨(by rw [hw]; exact (by (with_reducible repeat (first | refine ax ?_ _ | refine av ?_ | refine ay ?_ _)); refine bK (cs := #[.int .i64 0, .int .i64 16777215, .int .i64 0, .bool false]) ?_ 3 _ rfl; (with_reducible repeat (first | refine ax ?_ _ | refine av ?_ | refine ay ?_ _)); refine bK (cs := #[.int .i64 0, .int .i64 16777215, .int .i64 0, .bool false]) ?_ 2 _ rfl; (with_reducible repeat (first | refine ax ?_ _ | refine av ?_ | refine ay ?_ _)); refine bK (cs := #[.int .i64 0, .int .i64 0, .int .i64 0, .bool false]) ?_ 1 _ rfl; (with_reducible repeat (first | refine ax ?_ _ | refine av ?_ | refine ay ?_ _)); refine bK (cs := #[.int .i64 0, .int .i64 0, .int .i64 0, .bool false]) ?_ 0 _ rfl; (with_reducible repeat (first | refine ax ?_ _ | refine av ?_ | refine ay ?_ _)); exact BK205.out))⟩; have n1_ : aa (Below w.heap.size w w39) := ⟨(by rw [hw]; exact (by repeat (first | (with_reducible first | exact HB.out | apply bq | apply aT | apply aJ | refine aW ?_ GE205.out) | exact HB.out)))⟩; clear hw BK205 HB; have BK205 := n0_; have HB := n1_; clear n0_ n1_));refine bodyPost_ret (results_cell_row rfl _ _ gb205 136 #[.int .i64 0, .int .i64 16777215, .int .i64 0, .bool true] (0, 0) _ rfl (by exact BK205.out) Try.underlying136 rfl (by kernel_rfl)) rfl ?_;exact ⟨by first | rfl | (simp [au, ak] <;> rfl) | (simp [*, au, ak] <;> rfl), by exact rud HB.out rfl rfl rfl rfl⟩
       rw [if_neg c37] at H;have c37b0 : (a0 == 17) = false := beq_eq_false_iff_ne.mpr c37;have c37b1 : (a0 != 17) = true := bne_iff_ne.mpr c37;by_cases c40 : a0 = 18
       ·rw [if_pos c40] at H
        have c40b0 : (a0 == 18) = true := beq_iff_eq.mpr c40;have c40b1 : (a0 != 18) = false := bne_eq_false_iff_eq.mpr c40;clear c40;simp only [Option.some.injEq, Prod.mk.injEq] at H;obtain ⟨rfl, rfl, rfl, rfl⟩ := H;obtain ⟨C15_0, C15_1, C15_2, C15_3⟩ := LB.cells4 BK205.out;obtain ⟨F15_0, F15_1, F15_2, F15_3⟩ := LB.frozen4 BK205.out;go_wp2_with (first | ((with_reducible refine dK (t := 136) (p := 2) rfl ?_); refine dG (t := 136) (p := 2) (v := ?vo_w42) (w1 := ((((wc.setCell ⟨gb205, 0, none⟩ (.int .i64 64)).setCell ⟨gb205, 1, none⟩ (.int .i64 64000)).setCell ⟨gb205, 2, none⟩ (.int .i64 1024)).setCell ⟨gb205, 3, none⟩ (.bool true))) ?hg ?ho ?hn ?hr ?_; (case ho => rfl); (case hg => rfl); (case hn => rfl); (case hr => first | (go_simp; done) | (go_simp; rfl)); intro w42 hw; have n0_ : aa (w42.heap[gb205]? = some (.cells #[.int .i64 64, .int .i64 64000, .int .i64 1024, .bool true] 136 (0, 0))) := ⟨(by rw [hw]; exact (by (with_reducible repeat (first | refine ax ?_ _ | refine av ?_ | refine ay ?_ _)); refine bK (cs := #[.int .i64 64, .int .i64 64000, .int .i64 1024, .bool false]) ?_ 3 _ rfl; (with_reducible repeat (first | refine ax ?_ _ | refine av ?_ | refine ay ?_ _)); refine bK (cs := #[.int .i64 64, .int .i64 64000, .int .i64 0, .bool false]) ?_ 2 _ rfl; (with_reducible repeat (first | refine ax ?_ _ | refine av ?_ | refine ay ?_ _)); refine bK (cs := #[.int .i64 64, .int .i64 0, .int .i64 0, .bool false]) ?_ 1 _ rfl; (with_reducible repeat (first | refine ax ?_ _ | refine av ?_ | refine ay ?_ _)); refine bK (cs := #[.int .i64 0, .int .i64 0, .int .i64 0, .bool false]) ?_ 0 _ rfl; (with_reducible repeat (first | refine ax ?_ _ | refine av ?_ | refine ay ?_ _)); exact BK205.out))⟩; have n1_ : aa (Below w.heap.size w w42) := ⟨(by rw [hw]; exact (by repeat (first | (with_reducible first | exact HB.out | apply bq | apply aT | apply aJ | refine aW ?_ GE205.out) | exact HB.out)))⟩; clear hw BK205 HB; have BK205 := n0_; have HB := n1_; clear n0_ n1_));refine bodyPost_ret (results_cell_row rfl _ _ gb205 136 #[.int .i64 64, .int .i64 64000, .int .i64 1024, .bool true] (0, 0) _ rfl (by exact BK205.out) Try.underlying136 rfl (by kernel_rfl)) rfl ?_;exact ⟨by first | rfl | (simp [au, ak] <;> rfl) | (simp [*, au, ak] <;> rfl), by exact rud HB.out rfl rfl rfl rfl⟩
       rw [if_neg c40] at H;have c40b0 : (a0 == 18) = false := beq_eq_false_iff_ne.mpr c40;have c40b1 : (a0 != 18) = true := bne_iff_ne.mpr c40;simp only [Option.some.injEq, Prod.mk.injEq] at H;obtain ⟨rfl, rfl, rfl, rfl⟩ := H;obtain ⟨C17_0, C17_1, C17_2, C17_3⟩ := LB.cells4 BK205.out;obtain ⟨F17_0, F17_1, F17_2, F17_3⟩ := LB.frozen4 BK205.out;go_wp2_with (first | ((with_reducible refine dK (t := 136) (p := 2) rfl ?_); refine dG (t := 136) (p := 2) (v := ?vo_w44) (w1 := ((((wc.setCell ⟨gb205, 0, none⟩ (.int .i64 0)).setCell ⟨gb205, 1, none⟩ (.int .i64 1073741824)).setCell ⟨gb205, 2, none⟩ (.int .i64 0)).setCell ⟨gb205, 3, none⟩ (.bool false))) ?hg ?ho ?hn ?hr ?_; (case ho => rfl); (case hg => rfl); (case hn => rfl); (case hr => first | (go_simp; done) | (go_simp; rfl)); intro w44 hw; have n0_ : aa (w44.heap[gb205]? = some (.cells #[.int .i64 0, .int .i64 1073741824, .int .i64 0, .bool false] 136 (0, 0))) := ⟨(by rw [hw]; exact (by (with_reducible repeat (first | refine ax ?_ _ | refine av ?_ | refine ay ?_ _)); refine bK (cs := #[.int .i64 0, .int .i64 1073741824, .int .i64 0, .bool false]) ?_ 3 _ rfl; (with_reducible repeat (first | refine ax ?_ _ | refine av ?_ | refine ay ?_ _)); refine bK (cs := #[.int .i64 0, .int .i64 1073741824, .int .i64 0, .bool false]) ?_ 2 _ rfl; (with_reducible repeat (first | refine ax ?_ _ | refine av ?_ | refine ay ?_ _)); refine bK (cs := #[.int .i64 0, .int .i64 0, .int .i64 0, .bool false]) ?_ 1 _ rfl; (with_reducible repeat (first | refine ax ?_ _ | refine av ?_ | refine ay ?_ _)); refine bK (cs := #[.int .i64 0, .int .i64 0, .int .i64 0, .bool false]) ?_ 0 _ rfl; (with_reducible repeat (first | refine ax ?_ _ | refine av ?_ | refine ay ?_ _)); exact BK205.out))⟩; have n1_ : aa (Below w.heap.size w w44) := ⟨(by rw [hw]; exact (by repeat (first | (with_reducible first | exact HB.out | apply bq | apply aT | apply aJ | refine aW ?_ GE205.out) | exact HB.out)))⟩; clear hw BK205 HB; have BK205 := n0_; have HB := n1_; clear n0_ n1_));refine bodyPost_ret (results_cell_row rfl _ _ gb205 136 #[.int .i64 0, .int .i64 1073741824, .int .i64 0, .bool false] (0, 0) _ rfl (by exact BK205.out) Try.underlying136 rfl (by kernel_rfl)) rfl ?_;exact ⟨by first | rfl | (simp [au, ak] <;> rfl) | (simp [*, au, ak] <;> rfl), by exact rud HB.out rfl rfl rfl rfl⟩
theorem eF.calls (k : Nat) (a0 : Int) (a1 : Int) (r : Bool) (w : World) (h : eF.f k a0 a1 = some r) :
  Calls Try.prog 105 #[.int .i64 a0, .int .i64 a1] w fun e w' => e = .returned (.bool r) ∧ Below w.heap.size w w' := by
 have HB := aa.mk (Below.refl w.heap.size w);have H : ((prop_Is.f a0).bind fun t206 => (if t206 = true then ((aC.f k a0).bind fun bt207 => (if a1 ≥ bt207.1 then ((aC.f k a0).bind fun bt211 => (some (decide (a1 ≤ bt211.2.1)))) else (some false))) else (some false))) = some r := h;clear h;replace H := Option.bind_eq_some_iff.mp H;obtain ⟨t206, A30, H⟩ := H;(try dsimp only at H);have A3 := aa.mk A30;clear A30;by_cases c4 : t206 = true
 ·subst c4
  have H1 : ((aC.f k a0).bind fun bt207 => (if a1 ≥ bt207.1 then ((aC.f k a0).bind fun bt211 => (some (decide (a1 ≤ bt211.2.1)))) else (some false))) = some r := by rw [if_pos rfl] at H; exact H
  clear H;have H := H1;clear H1;replace H := Option.bind_eq_some_iff.mp H;obtain ⟨⟨t207, t208, t209, t210⟩, A50, H⟩ := H;replace H : (if a1 ≥ t207 then ((aC.f k a0).bind fun bt211 => (some (decide (a1 ≤ bt211.2.1)))) else (some false)) = some r := H;have A5 := aa.mk A50;clear A50;by_cases c6 : a1 ≥ t207
  ·rw [if_pos c6] at H
   have c6b0 : decide (t207 ≤ a1) = true := decide_eq_true c6;clear c6;replace H := Option.bind_eq_some_iff.mp H;obtain ⟨⟨t211, t212, t213, t214⟩, A70, H⟩ := H;replace H : (some (decide (a1 ≤ t212))) = some r := H;have A7 := aa.mk A70;clear A70;have DD_ := Option.some.inj (A7.out.symm.trans A5.out);have D8 := aa.mk (congrArg (fun z_ => z_.1) DD_ : t211 = t207);have D9 := aa.mk (congrArg (fun z_ => z_.2.1) DD_ : t212 = t208);have D10 := aa.mk (congrArg (fun z_ => z_.2.2.1) DD_ : t213 = t209);have D11 := aa.mk (congrArg (fun z_ => z_.2.2.2) DD_ : t214 = t210);clear DD_;obtain rfl := Option.some.inj H;go_enter Try.func105, Try.ntmps105;have hfd136_0 : ∀ (w : World) (v0_ v1_ v2_ v3_ : Value), (Instr.field 136 (.agg #[v0_, v1_, v2_, v3_]) 0).run Try.prog w = .ok (v0_) w := fun _ _ _ _ _ => by kernel_rfl
   have hfd136_1 : ∀ (w : World) (v0_ v1_ v2_ v3_ : Value), (Instr.field 136 (.agg #[v0_, v1_, v2_, v3_]) 1).run Try.prog w = .ok (v1_) w := fun _ _ _ _ _ => by kernel_rfl
   go_wp2_with (first | ((with_reducible refine aQ (f := 109) rfl ?_); refine bZ (some 6) rfl rfl Try.func109 (by kernel_rfl) rfl #[.int .i64 a0] rfl (by (try simp only [SB.lA, SB.lC, SB.lN]); first | done | rfl | (simp only [SB.lD, SB.lT]; rfl)) ?_; (with_reducible refine (prop_Is.calls a0 true _ A3.out).mono ?_); rintro e w' ⟨rfl, ⟨nd, rfl⟩⟩; refine ⟨_, rfl, ?_⟩) | (go_at_call 110; (with_reducible refine (aC.calls k a0 t207 t208 t209 t210 _ A5.out).mono ?_); rintro e w12 ⟨rfl, hb⟩; replace hb : Below (World.heap w).size w w12 := ⟨hb.os, hb.tape, hb.output, hb.size, hb.block⟩; have n0_ := aa.mk (aj HB.out hb); clear HB; have HB := n0_; clear n0_; (try clear hb hb2 hk hi)) | (go_at_call 110; (with_reducible refine (aC.calls k a0 t211 t212 t213 t214 _ A7.out).mono ?_); rintro e w13 ⟨rfl, hb⟩; replace hb : Below (World.heap w12).size w12 w13 := ⟨hb.os, hb.tape, hb.output, hb.size, hb.block⟩; have n0_ := aa.mk (aj HB.out hb); clear HB; have HB := n0_; clear n0_; (try clear hb hb2 hk hi)));go_ret;exact ⟨by first | rfl | (simp [au, ak] <;> rfl) | (simp [*, au, ak] <;> rfl) | (simp only [D8.out, D9.out, D10.out, D11.out] <;> (first | rfl | simp)), by exact rud HB.out rfl rfl rfl rfl⟩
  ·rw [if_neg c6] at H
   have c6b0 : decide (t207 ≤ a1) = false := decide_eq_false c6;clear c6;obtain rfl := Option.some.inj H;go_enter Try.func105, Try.ntmps105;have hfd136_0 : ∀ (w : World) (v0_ v1_ v2_ v3_ : Value), (Instr.field 136 (.agg #[v0_, v1_, v2_, v3_]) 0).run Try.prog w = .ok (v0_) w := fun _ _ _ _ _ => by kernel_rfl
   have hfd136_1 : ∀ (w : World) (v0_ v1_ v2_ v3_ : Value), (Instr.field 136 (.agg #[v0_, v1_, v2_, v3_]) 1).run Try.prog w = .ok (v1_) w := fun _ _ _ _ _ => by kernel_rfl
   go_wp2_with (first | ((with_reducible refine aQ (f := 109) rfl ?_); refine bZ (some 6) rfl rfl Try.func109 (by kernel_rfl) rfl #[.int .i64 a0] rfl (by (try simp only [SB.lA, SB.lC, SB.lN]); first | done | rfl | (simp only [SB.lD, SB.lT]; rfl)) ?_; (with_reducible refine (prop_Is.calls a0 true _ A3.out).mono ?_); rintro e w' ⟨rfl, ⟨nd, rfl⟩⟩; refine ⟨_, rfl, ?_⟩) | (go_at_call 110; (with_reducible refine (aC.calls k a0 t207 t208 t209 t210 _ A5.out).mono ?_); rintro e w14 ⟨rfl, hb⟩; replace hb : Below (World.heap w).size w w14 := ⟨hb.os, hb.tape, hb.output, hb.size, hb.block⟩; have n0_ := aa.mk (aj HB.out hb); clear HB; have HB := n0_; clear n0_; (try clear hb hb2 hk hi)));go_ret;exact ⟨by first | rfl | (simp [au, ak] <;> rfl) | (simp [*, au, ak] <;> rfl), by exact rud HB.out rfl rfl rfl rfl⟩
 ·replace c4 := Bool.eq_false_iff.mpr c4
  subst c4;have H1 : (some false) = some r := by rw [if_neg (show ¬ (false = true) by decide)] at H; exact H
  clear H;have H := H1;clear H1;obtain rfl := Option.some.inj H;go_enter Try.func105, Try.ntmps105;have hfd136_0 : ∀ (w : World) (v0_ v1_ v2_ v3_ : Value), (Instr.field 136 (.agg #[v0_, v1_, v2_, v3_]) 0).run Try.prog w = .ok (v0_) w := fun _ _ _ _ _ => by kernel_rfl
  have hfd136_1 : ∀ (w : World) (v0_ v1_ v2_ v3_ : Value), (Instr.field 136 (.agg #[v0_, v1_, v2_, v3_]) 1).run Try.prog w = .ok (v1_) w := fun _ _ _ _ _ => by kernel_rfl
  go_wp2_with (first | ((with_reducible refine aQ (f := 109) rfl ?_); refine bZ (some 6) rfl rfl Try.func109 (by kernel_rfl) rfl #[.int .i64 a0] rfl (by (try simp only [SB.lA, SB.lC, SB.lN]); first | done | rfl | (simp only [SB.lD, SB.lT]; rfl)) ?_; (with_reducible refine (prop_Is.calls a0 false _ A3.out).mono ?_); rintro e w' ⟨rfl, ⟨nd, rfl⟩⟩; refine ⟨_, rfl, ?_⟩));go_ret;exact ⟨by first | rfl | (simp [au, ak] <;> rfl) | (simp [*, au, ak] <;> rfl), by exact rud HB.out rfl rfl rfl rfl⟩
end Go.Proofs.Ytddnlnjmikcgfaa.PC
end
