-- Printed by this session's wip/myprint.py
import Derived.Test.YtpmcojmhkpaoaaaPAx0
import Derived.Test.YtpmcojmhkpaoaaaPAx2
namespace Go.Proofs.Ytpmcojmhkpaoaaa.PA
open Go.RowKit Go.Proofs.YtpmcojmhkpaoaaaW.PrintWords Go.Proofs.YtpmcojmhkpaoaaaW.PrintLast Go.Proofs.YtpmcojmhkpaoaaaW.PrintMore
attribute [local go_sem] max2_int min2_int max_two min_two max_three min_three max_four min_four   -- for this text's walks alone
set_option linter.unusedVariables false
set_option linter.unusedSimpArgs false

/-! ### code_TakeNum: function 24 -/
set_option maxHeartbeats 8000000 in
set_option maxRecDepth 100000 in
theorem code_TakeNum.calls (k : Nat) (A0 : Option Addr) (c0 : Nat) (l0 : List Int) (r1 : Int) (r2 : Int) (r3 : Int) (w : World) (hr0 : Kd.C (Kd.int .u8) w A0 l0.length l0) (hc0 : l0.length ≤ c0) (h : code_TakeNum.f k l0 = some (r1, r2, r3)) :
  Calls Try.prog 24 #[.slice A0 l0.length c0] w fun e w' => e = .returned (.tuple #[.int .i64 r1, .int .i64 r2, .int .i64 r3]) ∧ Drawn0 w w' := by
 have HR0 := Aside0.mk hr0
 have HC0 := Aside0.mk hc0
 clear hr0 hc0
 have H : (code_TakeNum.l0 k l0 0 0) = some (r1, r2, r3) := h
 clear h
 have H' := Aside0.mk H
 clear H
 go_enter Try.func24, Try.ntmps24
 go_wp2
 refine Go.Proofs.YtpmcojmhkpaoaaaLabel.wp_scope_two 1 0 rfl rfl ?_
 intro G1_ G0_ hG1_ hG0_
 go_wp2
 refine Go.Proofs.YtpmcojmhkpaoaaaLabel.wp_label_ghost (fun t_ d_ kq a_ w' => ∃ (u2 u3 u4 u5 u6 u7 u8 u9 u10 u11 u12 u13 u14 u15 u16 u17 u18 u19 u20 u21 u22 u23 u24 u25 u26 u27 u28 u29 u30 u31 u32 u33 u34 u35 u36 u37 u38 u39 u40 u41 u42 u43 u44 u45 u46 u47 u48 u49 u50 u51 u52 : Value), (∃ (x2_1 : Int) (x5_1 : Int), u2 = .int .i64 x2_1 ∧ u5 = .int .i64 x5_1 ∧ Aside0 (code_TakeNum.l0 kq l0 x2_1 x5_1 = some (r1, r2, r3)) ∧ Aside0 (kq ≤ k) ∧ Drawn0 w w') ∧ a_ = ⟨#[Go.Proofs.YtpmcojmhkpaoaaaLabel.tget t_ 0, Go.Proofs.YtpmcojmhkpaoaaaLabel.tget t_ 1, u2, u3, u4, u5, u6, u7, u8, u9, u10, u11, u12, u13, u14, u15, u16, u17, u18, u19, u20, u21, u22, u23, u24, u25, u26, u27, u28, u29, u30, u31, u32, u33, u34, u35, u36, u37, u38, u39, u40, u41, u42, u43, u44, u45, u46, u47, u48, u49, u50, u51, u52], d_⟩) k ‹_› hG0_ ?atStart ?round
 case atStart =>
  (try dsimp only)
  (repeat apply Exists.intro)
  refine ⟨?rel0, rfl⟩
  exact ⟨(0), (0), (by first | rfl | (simp; done) | (simp [*]; done)), (by first | rfl | (simp; done) | (simp [*]; done)), H', ⟨Nat.le_refl _⟩, by repeat (first | exact Drawn0.refl _ | apply Drawn0.step)⟩
 case round =>
  intro gk a_ wr hinv
  (try dsimp only at hinv)
  obtain ⟨u2, u3, u4, u5, u6, u7, u8, u9, u10, u11, u12, u13, u14, u15, u16, u17, u18, u19, u20, u21, u22, u23, u24, u25, u26, u27, u28, u29, u30, u31, u32, u33, u34, u35, u36, u37, u38, u39, u40, u41, u42, u43, u44, u45, u46, u47, u48, u49, u50, u51, u52, hrel, rfl⟩ := hinv
  intro J_ hJ_ hGJ_
  clear hG0_
  dsimp only [Go.Proofs.YtpmcojmhkpaoaaaLabel.tget, List.getD_cons_succ, List.getD_cons_zero] at hJ_ ⊢
  clear H'
  obtain ⟨x2_1, x5_1, rfl, rfl, HA, HK1, ⟨m1, rfl⟩⟩ := hrel
  cases gk with
  | zero => exact absurd HA.out (by simp [code_TakeNum.l0])
  | succ k1 =>
   have H := HA.out
   clear HA
   simp only [code_TakeNum.l0] at H
   by_cases c2 : x5_1 = (l0.length : Int)
   ·rw [if_pos c2] at H
    have c2b0 : (x5_1 == (l0.length : Int)) = true := beq_iff_eq.mpr c2
    have c2b1 : (x5_1 != (l0.length : Int)) = false := bne_eq_false_iff_eq.mpr c2
    clear c2
    simp only [Option.some.injEq, Prod.mk.injEq] at H
    obtain ⟨rfl, rfl, rfl⟩ := H
    go_wp2
    (try simp only [Exit.then, Exit.inBlock, Go.Proofs.YtpmcojmhkpaoaaaLabel.Goes.here, Go.Proofs.YtpmcojmhkpaoaaaLabel.Goes.ret, Exit.noGoto_ret])
    go_ret3
    exact ⟨by first | rfl | (simp; done) | (simp [*]; done), by repeat (first | exact Drawn0.refl _ | apply Drawn0.step)⟩
   ·rw [if_neg c2] at H
    have c2b0 : (x5_1 == (l0.length : Int)) = false := beq_eq_false_iff_ne.mpr c2
    have c2b1 : (x5_1 != (l0.length : Int)) = true := bne_iff_ne.mpr c2
    have HC3 := Aside0.mk H
    clear H
    go_upto_region 4 with (fail)
    go_cut [18] (fun v18 wc => ∃ (kq : Nat) (x18_2 : Bool), v18 = .bool x18_2 ∧ Aside0 (code_TakeNum.j1 kq l0 x2_1 x5_1 x18_2 = some (r1, r2, r3)) ∧ Aside0 (kq ≤ k1) ∧ Drawn0 w wc)
    case first =>
     have H := HC3.out
     clear HC3
     by_cases c4 : 0 ≤ x5_1
     ·rw [if_pos c4] at H
      have c4b0 : decide (0 ≤ x5_1) = true := decide_eq_true c4
      clear c4
      (first | rw [c4b0] | (simp only [i64_w, i32_w]; rw [c4b0]) | skip)
      by_cases c5 : x5_1 < (l0.length : Int)
      ·rw [if_pos c5] at H
       have c5b0 : decide (x5_1 < (l0.length : Int)) = true := decide_eq_true c5
       clear c5
       by_cases c6 : (rd l0 x5_1) ≥ 128
       ·rw [if_pos c6] at H
        have c6b0 : decide (128 ≤ (rd l0 x5_1)) = true := decide_eq_true c6
        clear c6
        have H' := Aside0.mk H
        clear H
        have p161 : 0 ≤ (x5_1 : Int) := of_decide_eq_true (by first | (with_reducible assumption) | assumption)
        have q161 : x5_1 < (l0.length : Int) := of_decide_eq_true (by first | (with_reducible assumption) | assumption)
        obtain ⟨ad161, e161, hx161_0⟩ := Kd.at_int HR0.out x5_1 p161 q161
        cases e161
        replace p161 := eq_true p161
        replace q161 := eq_true q161
        go_wp2
        go_meet
        case rel => exact ⟨_, ((x5_1 == 8)), (by first | rfl | (simp; done) | (simp [*]; done)), H', ⟨by have := HK1.out; first | omega | exact Nat.le_refl _⟩, by repeat (first | exact Drawn0.refl _ | apply Drawn0.step)⟩
       ·rw [if_neg c6] at H
        have c6b0 : decide (128 ≤ (rd l0 x5_1)) = false := decide_eq_false c6
        clear c6
        have H' := Aside0.mk H
        clear H
        have p161 : 0 ≤ (x5_1 : Int) := of_decide_eq_true (by first | (with_reducible assumption) | assumption)
        have q161 : x5_1 < (l0.length : Int) := of_decide_eq_true (by first | (with_reducible assumption) | assumption)
        obtain ⟨ad161, e161, hx161_0⟩ := Kd.at_int HR0.out x5_1 p161 q161
        cases e161
        replace p161 := eq_true p161
        replace q161 := eq_true q161
        go_wp2
        go_meet
        case rel => exact ⟨_, (false), (by first | rfl | (simp; done) | (simp [*]; done)), H', ⟨by have := HK1.out; first | omega | exact Nat.le_refl _⟩, by repeat (first | exact Drawn0.refl _ | apply Drawn0.step)⟩
      ·rw [if_neg c5] at H
       exact absurd H (by simp)
     ·rw [if_neg c4] at H
      exact absurd H (by simp)
    case rest =>
     clear HC3
     (try clear p1); (try clear q1); (try clear hx1); (try clear c2); (try clear c2b0); (try clear c2b1); (try clear p2); (try clear c4); (try clear c4b0); (try clear c5); (try clear c5b0); (try clear c6); (try clear c6b0); (try clear hx161_0); (try clear p161); (try clear q161)
     obtain ⟨kq, x18_2, rfl, HA, HJ2, ⟨mc2, rfl⟩⟩ := hcut
     cases kq with
     | zero => exact absurd HA.out (by simp [code_TakeNum.j1])
     | succ kj2 =>
      have H := HA.out
      clear HA
      simp only [code_TakeNum.j1] at H
      by_cases c7 : x18_2 = true
      ·subst c7
       have H1 : (some (0, 0, 1)) = some (r1, r2, r3) := by rw [if_pos rfl] at H; exact H
       clear H
       have H := H1
       clear H1
       simp only [Option.some.injEq, Prod.mk.injEq] at H
       obtain ⟨rfl, rfl, rfl⟩ := H
       go_wp2
       go_step3
       (try simp only [Exit.then, Exit.inBlock])
       (first | simp only [Go.Proofs.YtpmcojmhkpaoaaaLabel.Goes.here] | (rw [Go.Proofs.YtpmcojmhkpaoaaaLabel.Goes.there (by decide)]; simp only [Go.Proofs.YtpmcojmhkpaoaaaLabel.Goes.here]))
       refine hG1_ _ _ ?_
       go_wp2
       (try simp only [Exit.then, Exit.inBlock, Go.Proofs.YtpmcojmhkpaoaaaLabel.Goes.here, Go.Proofs.YtpmcojmhkpaoaaaLabel.Goes.ret, Exit.noGoto_ret])
       go_ret3
       exact ⟨by first | rfl | (simp; done) | (simp [*]; done), by repeat (first | exact Drawn0.refl _ | apply Drawn0.step)⟩
      ·replace c7 := Bool.eq_false_iff.mpr c7
       subst c7
       have H1 : (if 0 ≤ x5_1 then (if x5_1 < (l0.length : Int) then (if 0 ≤ (wrap64 (7 * x5_1)) then (if (rd l0 x5_1) ≥ 128 then (code_TakeNum.l0 kj2 l0 (Go.bits .or .i64 x2_1 (shl .i64 (wrap64 (Go.bits .and .u8 (rd l0 x5_1) 127)) (wrap64 (7 * x5_1)))) (wrap64 (x5_1 + 1))) else (if (rd l0 x5_1) = 0 then (if x5_1 > 0 then (code_TakeNum.j2 kj2 (Go.bits .or .i64 x2_1 (shl .i64 (wrap64 (Go.bits .and .u8 (rd l0 x5_1) 127)) (wrap64 (7 * x5_1)))) x5_1 true) else (code_TakeNum.j2 kj2 (Go.bits .or .i64 x2_1 (shl .i64 (wrap64 (Go.bits .and .u8 (rd l0 x5_1) 127)) (wrap64 (7 * x5_1)))) x5_1 (decide ((Go.bits .or .i64 x2_1 (shl .i64 (wrap64 (Go.bits .and .u8 (rd l0 x5_1) 127)) (wrap64 (7 * x5_1)))) > 4611686018427387904)))) else (code_TakeNum.j2 kj2 (Go.bits .or .i64 x2_1 (shl .i64 (wrap64 (Go.bits .and .u8 (rd l0 x5_1) 127)) (wrap64 (7 * x5_1)))) x5_1 (decide ((Go.bits .or .i64 x2_1 (shl .i64 (wrap64 (Go.bits .and .u8 (rd l0 x5_1) 127)) (wrap64 (7 * x5_1)))) > 4611686018427387904))))) else (none)) else (none)) else (none)) = some (r1, r2, r3) := by rw [if_neg (show ¬ (false = true) by decide)] at H; exact H
       clear H
       have H := H1
       clear H1
       by_cases c8 : 0 ≤ x5_1
       ·rw [if_pos c8] at H
        have c8b0 : decide (0 ≤ x5_1) = true := decide_eq_true c8
        clear c8
        by_cases c9 : x5_1 < (l0.length : Int)
        ·rw [if_pos c9] at H
         have c9b0 : decide (x5_1 < (l0.length : Int)) = true := decide_eq_true c9
         clear c9
         obtain ⟨ji10, hji10⟩ : ∃ j_ : Int, (wrap64 (7 * x5_1)) = j_ := ⟨_, rfl⟩
         replace H : (if 0 ≤ (ji10) then (if (rd l0 x5_1) ≥ 128 then (code_TakeNum.l0 kj2 l0 (Go.bits .or .i64 x2_1 (shl .i64 (wrap64 (Go.bits .and .u8 (rd l0 x5_1) 127)) (ji10))) (wrap64 (x5_1 + 1))) else (if (rd l0 x5_1) = 0 then (if x5_1 > 0 then (code_TakeNum.j2 kj2 (Go.bits .or .i64 x2_1 (shl .i64 (wrap64 (Go.bits .and .u8 (rd l0 x5_1) 127)) (ji10))) x5_1 true) else (code_TakeNum.j2 kj2 (Go.bits .or .i64 x2_1 (shl .i64 (wrap64 (Go.bits .and .u8 (rd l0 x5_1) 127)) (ji10))) x5_1 (decide ((Go.bits .or .i64 x2_1 (shl .i64 (wrap64 (Go.bits .and .u8 (rd l0 x5_1) 127)) (ji10))) > 4611686018427387904)))) else (code_TakeNum.j2 kj2 (Go.bits .or .i64 x2_1 (shl .i64 (wrap64 (Go.bits .and .u8 (rd l0 x5_1) 127)) (ji10))) x5_1 (decide ((Go.bits .or .i64 x2_1 (shl .i64 (wrap64 (Go.bits .and .u8 (rd l0 x5_1) 127)) (ji10))) > 4611686018427387904))))) else (none)) = some (r1, r2, r3) := by first | (rw [hji10] at H; exact H) | (simp only [hji10] at H ⊢; exact H)
         have hji10w : (IntKind.i64.wrap (7 * x5_1)) = ji10 := (i64_w _).trans hji10
         by_cases c11 : 0 ≤ (ji10)
         ·rw [if_pos c11] at H
          have c11b0 := eq_true c11
          have c11b1 : decide (0 ≤ (ji10)) = true := decide_eq_true c11
          clear c11
          obtain ⟨ji12, hji12⟩ : ∃ j_ : Int, (shl .i64 (wrap64 (Go.bits .and .u8 (rd l0 x5_1) 127)) (ji10)) = j_ := ⟨_, rfl⟩
          replace H : (if (rd l0 x5_1) ≥ 128 then (code_TakeNum.l0 kj2 l0 (Go.bits .or .i64 x2_1 (ji12)) (wrap64 (x5_1 + 1))) else (if (rd l0 x5_1) = 0 then (if x5_1 > 0 then (code_TakeNum.j2 kj2 (Go.bits .or .i64 x2_1 (ji12)) x5_1 true) else (code_TakeNum.j2 kj2 (Go.bits .or .i64 x2_1 (ji12)) x5_1 (decide ((Go.bits .or .i64 x2_1 (ji12)) > 4611686018427387904)))) else (code_TakeNum.j2 kj2 (Go.bits .or .i64 x2_1 (ji12)) x5_1 (decide ((Go.bits .or .i64 x2_1 (ji12)) > 4611686018427387904))))) = some (r1, r2, r3) := by first | (rw [hji12] at H; exact H) | (simp only [hji12] at H ⊢; exact H)
          have hji12_ : (IntKind.i64.wrap ((wrap64 (Go.bits .and .u8 (rd l0 x5_1) 127)) * 2 ^ min (ji10).toNat 64)) = ji12 := hji12
          have hji12z : (ji10) ≤ 64 → (IntKind.i64.wrap ((wrap64 (Go.bits .and .u8 (rd l0 x5_1) 127)) * 2 ^ (ji10).toNat)) = ji12 := shl_small hji12
          have hji12y : (wrap64 ((wrap64 (Go.bits .and .u8 (rd l0 x5_1) 127)) * 2 ^ min (ji10).toNat 64)) = ji12 := (i64_w _).symm.trans hji12_
          have hji12x : (ji10) ≤ 64 → (wrap64 ((wrap64 (Go.bits .and .u8 (rd l0 x5_1) 127)) * 2 ^ (ji10).toNat)) = ji12 := fun h_ => (i64_w _).symm.trans (hji12z h_)
          by_cases c13 : (rd l0 x5_1) ≥ 128
          ·rw [if_pos c13] at H
           have c13b0 : decide (128 ≤ (rd l0 x5_1)) = true := decide_eq_true c13
           clear c13
           have H' := Aside0.mk H
           clear H
           have p162 : 0 ≤ (x5_1 : Int) := of_decide_eq_true (by first | (with_reducible assumption) | assumption)
           have q162 : x5_1 < (l0.length : Int) := of_decide_eq_true (by first | (with_reducible assumption) | assumption)
           obtain ⟨ad162, e162, hx162_0⟩ := Kd.at_int HR0.out x5_1 p162 q162
           cases e162
           replace p162 := eq_true p162
           replace q162 := eq_true q162
           have p163 : 0 ≤ (x5_1 : Int) := of_decide_eq_true (by first | (with_reducible assumption) | assumption)
           have q163 : x5_1 < (l0.length : Int) := of_decide_eq_true (by first | (with_reducible assumption) | assumption)
           obtain ⟨ad163, e163, hx163_0⟩ := Kd.at_int HR0.out x5_1 p163 q163
           obtain rfl : ad162 = ad163 := (by injection e163)
           replace p163 := eq_true p163
           replace q163 := eq_true q163
           go_wp2
           go_step3
           (try simp only [Exit.then, Exit.inBlock])
           (first | simp only [Go.Proofs.YtpmcojmhkpaoaaaLabel.Goes.here] | (rw [Go.Proofs.YtpmcojmhkpaoaaaLabel.Goes.there (by decide)]; simp only [Go.Proofs.YtpmcojmhkpaoaaaLabel.Goes.here]))
           go_step
           go_roundg kj2
           case measure => have := HK1.out; have := HJ2.out; omega
           case rel => exact ⟨(Go.bits .or .i64 x2_1 (ji12)), (wrap64 (x5_1 + 1)), (by first | rfl | (simp; done) | (simp only [← hji12] <;> (first | rfl | simp)) | (simp [*]; done)), (by first | rfl | (simp; done) | (simp [*]; done)), H', ⟨by have := HK1.out; have := HJ2.out; omega⟩, by repeat (first | exact Drawn0.refl _ | apply Drawn0.step)⟩
          ·rw [if_neg c13] at H
           have c13b0 : decide (128 ≤ (rd l0 x5_1)) = false := decide_eq_false c13
           clear c13
           have HC14 := Aside0.mk H
           clear H
           have p162 : 0 ≤ (x5_1 : Int) := of_decide_eq_true (by first | (with_reducible assumption) | assumption)
           have q162 : x5_1 < (l0.length : Int) := of_decide_eq_true (by first | (with_reducible assumption) | assumption)
           obtain ⟨ad162, e162, hx162_0⟩ := Kd.at_int HR0.out x5_1 p162 q162
           cases e162
           replace p162 := eq_true p162
           replace q162 := eq_true q162
           have p163 : 0 ≤ (x5_1 : Int) := of_decide_eq_true (by first | (with_reducible assumption) | assumption)
           have q163 : x5_1 < (l0.length : Int) := of_decide_eq_true (by first | (with_reducible assumption) | assumption)
           obtain ⟨ad163, e163, hx163_0⟩ := Kd.at_int HR0.out x5_1 p163 q163
           obtain rfl : ad162 = ad163 := (by injection e163)
           replace p163 := eq_true p163
           replace q163 := eq_true q163
           go_upto_region 8 with (fail)
           go_cut [49] (fun v49 wc => ∃ (kq : Nat) (x49_13 : Bool), v49 = .bool x49_13 ∧ Aside0 (code_TakeNum.j2 kq (Go.bits .or .i64 x2_1 (ji12)) x5_1 x49_13 = some (r1, r2, r3)) ∧ Aside0 (kq ≤ kj2) ∧ Drawn0 w wc)
           case first =>
            have H := HC14.out
            clear HC14
            by_cases c15 : (rd l0 x5_1) = 0
            ·rw [if_pos c15] at H
             have c15b0 : ((rd l0 x5_1) == 0) = true := beq_iff_eq.mpr c15
             have c15b1 : ((rd l0 x5_1) != 0) = false := bne_eq_false_iff_eq.mpr c15
             clear c15
             (first | rw [c15b0] | (simp only [i64_w, i32_w]; rw [c15b0]) | skip)
             by_cases c16 : x5_1 > 0
             ·rw [if_pos c16] at H
              have c16b0 : decide (0 < x5_1) = true := decide_eq_true c16
              clear c16
              have H' := Aside0.mk H
              clear H
              have p164 : 0 ≤ (x5_1 : Int) := of_decide_eq_true (by first | (with_reducible assumption) | assumption)
              have q164 : x5_1 < (l0.length : Int) := of_decide_eq_true (by first | (with_reducible assumption) | assumption)
              obtain ⟨ad164, e164, hx164_0⟩ := Kd.at_int HR0.out x5_1 p164 q164
              obtain rfl : ad162 = ad164 := (by injection e164)
              replace p164 := eq_true p164
              replace q164 := eq_true q164
              go_wp2
              go_meet
              case rel => exact ⟨_, (true), (by first | rfl | (simp; done) | (simp [*]; done)), H', ⟨by have := HK1.out; have := HJ2.out; first | omega | exact Nat.le_refl _⟩, by repeat (first | exact Drawn0.refl _ | apply Drawn0.step)⟩
             ·rw [if_neg c16] at H
              have c16b0 : decide (0 < x5_1) = false := decide_eq_false c16
              clear c16
              have H' := Aside0.mk H
              clear H
              have p164 : 0 ≤ (x5_1 : Int) := of_decide_eq_true (by first | (with_reducible assumption) | assumption)
              have q164 : x5_1 < (l0.length : Int) := of_decide_eq_true (by first | (with_reducible assumption) | assumption)
              obtain ⟨ad164, e164, hx164_0⟩ := Kd.at_int HR0.out x5_1 p164 q164
              obtain rfl : ad162 = ad164 := (by injection e164)
              replace p164 := eq_true p164
              replace q164 := eq_true q164
              go_wp2
              go_meet
              case rel => exact ⟨_, (decide ((Go.bits .or .i64 x2_1 (ji12)) > 4611686018427387904)), (by first | rfl | (simp; done) | (simp only [← hji12] <;> (first | rfl | simp)) | (simp [*]; done)), H', ⟨by have := HK1.out; have := HJ2.out; first | omega | exact Nat.le_refl _⟩, by repeat (first | exact Drawn0.refl _ | apply Drawn0.step)⟩
            ·rw [if_neg c15] at H
             have c15b0 : ((rd l0 x5_1) == 0) = false := beq_eq_false_iff_ne.mpr c15
             have c15b1 : ((rd l0 x5_1) != 0) = true := bne_iff_ne.mpr c15
             (first | rw [c15b0] | (simp only [i64_w, i32_w]; rw [c15b0]) | skip)
             have H' := Aside0.mk H
             clear H
             have p164 : 0 ≤ (x5_1 : Int) := of_decide_eq_true (by first | (with_reducible assumption) | assumption)
             have q164 : x5_1 < (l0.length : Int) := of_decide_eq_true (by first | (with_reducible assumption) | assumption)
             obtain ⟨ad164, e164, hx164_0⟩ := Kd.at_int HR0.out x5_1 p164 q164
             obtain rfl : ad162 = ad164 := (by injection e164)
             replace p164 := eq_true p164
             replace q164 := eq_true q164
             go_wp2
             go_meet
             case rel => exact ⟨_, (decide ((Go.bits .or .i64 x2_1 (ji12)) > 4611686018427387904)), (by first | rfl | (simp; done) | (simp only [← hji12] <;> (first | rfl | simp)) | (simp [*]; done)), H', ⟨by have := HK1.out; have := HJ2.out; first | omega | exact Nat.le_refl _⟩, by repeat (first | exact Drawn0.refl _ | apply Drawn0.step)⟩
           case rest =>
            clear HC14
            (try clear c1); (try clear p1); (try clear q1); (try clear hx1); (try clear c2); (try clear c2b0); (try clear c2b1); (try clear p2); (try clear p3); (try clear c4); (try clear c4b0); (try clear c5); (try clear c5b0); (try clear c6); (try clear c6b0); (try clear p6); (try clear c7); (try clear c8); (try clear c8b0); (try clear c9); (try clear c9b0); (try clear c11); (try clear c11b0); (try clear c11b1); (try clear c13); (try clear c13b0); (try clear c15); (try clear c15b0); (try clear c15b1); (try clear c16); (try clear c16b0); (try clear p16); (try clear q16); (try clear hx16); (try clear hx161_0); (try clear hx162_0); (try clear hx163_0); (try clear hx164_0); (try clear p1); (try clear p161); (try clear p162); (try clear p163); (try clear p164); (try clear p2); (try clear q1); (try clear q161); (try clear q162); (try clear q163); (try clear q164)
            obtain ⟨kq, x49_13, rfl, HA, HJ13, ⟨mc13, rfl⟩⟩ := hcut
            cases kq with
            | zero => exact absurd HA.out (by simp [code_TakeNum.j2])
            | succ kj13 =>
             have H := HA.out
             clear HA
             simp only [code_TakeNum.j2] at H
             by_cases c17 : x49_13 = true
             ·subst c17
              have H1 : (some (0, 0, 1)) = some (r1, r2, r3) := by rw [if_pos rfl] at H; exact H
              clear H
              have H := H1
              clear H1
              simp only [Option.some.injEq, Prod.mk.injEq] at H
              obtain ⟨rfl, rfl, rfl⟩ := H
              go_wp2
              go_step3
              (try simp only [Exit.then, Exit.inBlock])
              (first | simp only [Go.Proofs.YtpmcojmhkpaoaaaLabel.Goes.here] | (rw [Go.Proofs.YtpmcojmhkpaoaaaLabel.Goes.there (by decide)]; simp only [Go.Proofs.YtpmcojmhkpaoaaaLabel.Goes.here]))
              refine hG1_ _ _ ?_
              go_wp2
              (try simp only [Exit.then, Exit.inBlock, Go.Proofs.YtpmcojmhkpaoaaaLabel.Goes.here, Go.Proofs.YtpmcojmhkpaoaaaLabel.Goes.ret, Exit.noGoto_ret])
              go_ret3
              exact ⟨by first | rfl | (simp; done) | (simp only [← hji10, ← hji12] <;> (first | rfl | simp)) | (simp [*]; done), by repeat (first | exact Drawn0.refl _ | apply Drawn0.step)⟩
             ·replace c17 := Bool.eq_false_iff.mpr c17
              subst c17
              have H1 : (some ((Go.bits .or .i64 x2_1 (ji12)), wrap64 (x5_1 + 1), 0)) = some (r1, r2, r3) := by rw [if_neg (show ¬ (false = true) by decide)] at H; exact H
              clear H
              have H := H1
              clear H1
              simp only [Option.some.injEq, Prod.mk.injEq] at H
              obtain ⟨rfl, rfl, rfl⟩ := H
              go_wp2
              (try simp only [Exit.then, Exit.inBlock, Go.Proofs.YtpmcojmhkpaoaaaLabel.Goes.here, Go.Proofs.YtpmcojmhkpaoaaaLabel.Goes.ret, Exit.noGoto_ret])
              go_ret3
              exact ⟨by first | rfl | (simp; done) | (simp only [← hji10, ← hji12] <;> (first | rfl | simp)) | (simp [*]; done), by repeat (first | exact Drawn0.refl _ | apply Drawn0.step)⟩
         ·rw [if_neg c11] at H
          exact absurd H (by simp)
        ·rw [if_neg c9] at H
         exact absurd H (by simp)
       ·rw [if_neg c8] at H
        exact absurd H (by simp)

end Go.Proofs.Ytpmcojmhkpaoaaa.PA
