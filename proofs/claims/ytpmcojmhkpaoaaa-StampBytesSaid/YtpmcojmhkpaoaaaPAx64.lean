-- Printed by this session's wip/myprint.py
import Derived.Test.YtpmcojmhkpaoaaaPAx0
import Derived.Test.YtpmcojmhkpaoaaaPAx1
import Derived.Test.YtpmcojmhkpaoaaaPAx2
import Derived.Test.YtpmcojmhkpaoaaaPAx3
import Derived.Test.YtpmcojmhkpaoaaaPAx5
import Derived.Test.YtpmcojmhkpaoaaaPAx8
import Derived.Test.YtpmcojmhkpaoaaaPAx11
import Derived.Test.YtpmcojmhkpaoaaaPAx41
import Derived.Test.YtpmcojmhkpaoaaaPAx46
import Derived.Test.YtpmcojmhkpaoaaaPAx56
import Derived.Test.YtpmcojmhkpaoaaaPAx59
import Derived.Test.YtpmcojmhkpaoaaaPAx61
import Derived.Test.YtpmcojmhkpaoaaaPAx62
import Derived.Test.YtpmcojmhkpaoaaaPAx63
namespace Go.Proofs.Ytpmcojmhkpaoaaa.PA
open Go.RowKit Go.Proofs.YtpmcojmhkpaoaaaW.PrintWords Go.Proofs.YtpmcojmhkpaoaaaW.PrintLast Go.Proofs.YtpmcojmhkpaoaaaW.PrintMore
attribute [local go_sem] max2_int min2_int max_two min_two max_three min_three max_four min_four   -- for this text's walks alone
set_option linter.unusedVariables false
set_option linter.unusedSimpArgs false

attribute [local go_sem high] eqA68
/-! ### arraslaw6_StampBytes: function 12 -/
set_option maxHeartbeats 8000000 in
set_option maxRecDepth 100000 in
theorem arraslaw6_StampBytes.calls (k : Nat) (A0 : Option Addr) (c0 : Nat) (l0 : List (S70)) (r : Bool) (w : World) (hr0 : Kd.C k70 w A0 l0.length l0) (hc0 : l0.length ≤ c0) (h : arraslaw6_StampBytes.f k l0 = some r) :
  Calls Try.prog 12 #[.slice A0 l0.length c0] w fun e w' => e = .returned (.bool r) ∧ Below w.heap.size w w' := by
 have hu68 := Try.underlying68
 have HR0 := Aside0.mk hr0
 have HC0 := Aside0.mk hc0
 clear hr0 hc0
 have HB := Aside0.mk (Below.refl w.heap.size w)
 have H : (arraslaw6_StampBytes.l0 k l0 0) = some r := h
 clear h
 have H' := Aside0.mk H
 clear H
 go_enter Try.func12, Try.ntmps12
 go_wp2
 go_loopg [3] k (fun kq v3 w' => ∃ (x3_1 : Int), v3 = .int .i64 x3_1 ∧ Aside0 (arraslaw6_StampBytes.l0 kq l0 x3_1 = some r) ∧ Aside0 (kq ≤ k) ∧ Aside0 (Below w.heap.size w w'))
 case atStart => exact ⟨(0), (by first | rfl | (simp; done) | (simp [*]; done)), H', ⟨Nat.le_refl _⟩, ⟨by repeat (first | (with_reducible first | exact HB.out | apply below_alloc | apply pw_below_drewN | apply below_drew1) | exact HB.out)⟩⟩
 case round =>
  clear H'
  (try clear c1)
  obtain ⟨x3_1, rfl, HA, HK1, HB⟩ := hrel
  cases gk with
  | zero => exact absurd HA.out (by simp [arraslaw6_StampBytes.l0])
  | succ k1 =>
   have H := HA.out
   clear HA
   simp only [arraslaw6_StampBytes.l0] at H
   have HC2 := Aside0.mk H
   clear H
   go_upto_region 2 with (fail)
   go_cut [21] (fun v21 wc => ∃ (kq : Nat) (x21_1 : Bool), v21 = .bool x21_1 ∧ Aside0 (arraslaw6_StampBytes.j1 kq l0 x3_1 x21_1 = some r) ∧ Aside0 (kq ≤ k1) ∧ Aside0 (Below w.heap.size w wc))
   case first =>
    have H := HC2.out
    clear HC2
    by_cases c3 : x3_1 < (l0.length : Int)
    ·rw [if_pos c3] at H
     have c3b0 : decide (x3_1 < (l0.length : Int)) = true := decide_eq_true c3
     clear c3
     (first | rw [c3b0] | (simp only [i64_w, i32_w]; rw [c3b0]) | skip)
     as_aux_lemma =>
      have H' := Aside0.mk H
      clear H
      go_wp2
      go_meet
      case rel => exact ⟨_, (decide (x3_1 < 20)), (by first | rfl | (simp; done) | (simp [*]; done)), H', ⟨by have := HK1.out; first | omega | exact Nat.le_refl _⟩, ⟨by repeat (first | (with_reducible first | exact HB.out | apply below_alloc | apply pw_below_drewN | apply below_drew1) | exact HB.out)⟩⟩
    ·rw [if_neg c3] at H
     have c3b0 : decide (x3_1 < (l0.length : Int)) = false := decide_eq_false c3
     clear c3
     (first | rw [c3b0] | (simp only [i64_w, i32_w]; rw [c3b0]) | skip)
     as_aux_lemma =>
      have H' := Aside0.mk H
      clear H
      go_wp2
      go_meet
      case rel => exact ⟨_, (false), (by first | rfl | (simp; done) | (simp [*]; done)), H', ⟨by have := HK1.out; first | omega | exact Nat.le_refl _⟩, ⟨by repeat (first | (with_reducible first | exact HB.out | apply below_alloc | apply pw_below_drewN | apply below_drew1) | exact HB.out)⟩⟩
   case rest =>
    clear HC2
    (try clear c1); (try clear p2); (try clear c3); (try clear c3b0)
    obtain ⟨kq, x21_1, rfl, HA, HJ1, HB⟩ := hcut
    cases kq with
    | zero => exact absurd HA.out (by simp [arraslaw6_StampBytes.j1])
    | succ kj1 =>
     have H := HA.out
     clear HA
     simp only [arraslaw6_StampBytes.j1] at H
     by_cases c4 : x21_1 = true
     ·subst c4
      have H1 : (if 0 ≤ x3_1 then (if x3_1 < (l0.length : Int) then (if (((rd_T70 l0 x3_1).f2).length : Int) > 3000 then (some true) else ((arrasref6_Place.f ((rd_T70 l0 x3_1).f0.f0) ((rd_T70 l0 x3_1).f0.f1)).bind fun t604 => (if t604 = true then ((arrasref6_Bytes.f kj1 ((rd_T70 l0 x3_1).f0.f0) ((rd_T70 l0 x3_1).f0.f1)).bind fun t606 => (arraslaw6_StampBytes.j2 kj1 l0 x3_1 0 t606)) else (arraslaw6_StampBytes.j2 kj1 l0 x3_1 1 ([] : List Int))))) else (none)) else (none)) = some r := by rw [if_pos rfl] at H; exact H
      clear H
      have H := H1
      clear H1
      by_cases c5 : 0 ≤ x3_1
      ·rw [if_pos c5] at H
       have c5b0 : decide (0 ≤ x3_1) = true := decide_eq_true c5
       clear c5
       by_cases c6 : x3_1 < (l0.length : Int)
       ·rw [if_pos c6] at H
        have c6b0 : decide (x3_1 < (l0.length : Int)) = true := decide_eq_true c6
        clear c6
        by_cases c7 : (((rd_T70 l0 x3_1).f2).length : Int) > 3000
        ·rw [if_pos c7] at H
         have c7b0 : decide (3000 < (((rd_T70 l0 x3_1).f2).length : Int)) = true := decide_eq_true c7
         have c7b1 : decide (3000 < ((rd_T70 l0 x3_1).f2).length) = true := decide_eq_true (by omega)
         clear c7
         as_aux_lemma =>
          obtain rfl := Option.some.inj H
          have p602 : 0 ≤ (x3_1 : Int) := of_decide_eq_true (by first | (with_reducible assumption) | assumption)
          have q602 : x3_1 < (l0.length : Int) := of_decide_eq_true (by first | (with_reducible assumption) | assumption)
          obtain ⟨ad602, A602_4, c602_4, e602, hx602_0, hx602_1, hx602_2, hx602_3, hx602_4, hl602_4, hi602_4⟩ := at_T70 HR0.out x3_1 p602 q602
          cases e602
          replace hx602_0 := (HB.out.cell (World.block_lt_of_cell? w _ hx602_0)).trans hx602_0
          replace hx602_1 := (HB.out.cell (World.block_lt_of_cell? w _ hx602_1)).trans hx602_1
          replace hx602_2 := (HB.out.cell (World.block_lt_of_cell? w _ hx602_2)).trans hx602_2
          replace hx602_3 := (HB.out.cell (World.block_lt_of_cell? w _ hx602_3)).trans hx602_3
          replace hx602_4 := (HB.out.cell (World.block_lt_of_cell? w _ hx602_4)).trans hx602_4
          have HR602_4 := Aside0.mk hi602_4
          have HC602_4 := Aside0.mk hl602_4
          clear hi602_4 hl602_4
          replace p602 := eq_true p602
          replace q602 := eq_true q602
          go_wp2
          go_ret
          exact ⟨by first | rfl | (simp [errW_none, errW_some] <;> rfl) | (simp [*, errW_none, errW_some] <;> rfl), by repeat (first | (with_reducible first | exact HB.out | apply below_alloc | apply pw_below_drewN | apply below_drew1) | exact HB.out)⟩
        ·rw [if_neg c7] at H
         have c7b0 : decide (3000 < (((rd_T70 l0 x3_1).f2).length : Int)) = false := decide_eq_false c7
         have c7b1 : decide (3000 < ((rd_T70 l0 x3_1).f2).length) = false := decide_eq_false (by omega)
         clear c7
         replace H := Option.bind_eq_some_iff.mp H
         obtain ⟨t604, A80, H⟩ := H
         (try dsimp only at H)
         have A8 := Aside0.mk A80
         clear A80
         have HC9 := Aside0.mk H
         clear H
         have p602 : 0 ≤ (x3_1 : Int) := of_decide_eq_true (by first | (with_reducible assumption) | assumption)
         have q602 : x3_1 < (l0.length : Int) := of_decide_eq_true (by first | (with_reducible assumption) | assumption)
         obtain ⟨ad602, A602_4, c602_4, e602, hx602_0, hx602_1, hx602_2, hx602_3, hx602_4, hl602_4, hi602_4⟩ := at_T70 HR0.out x3_1 p602 q602
         cases e602
         replace hx602_0 := (HB.out.cell (World.block_lt_of_cell? w _ hx602_0)).trans hx602_0
         replace hx602_1 := (HB.out.cell (World.block_lt_of_cell? w _ hx602_1)).trans hx602_1
         replace hx602_2 := (HB.out.cell (World.block_lt_of_cell? w _ hx602_2)).trans hx602_2
         replace hx602_3 := (HB.out.cell (World.block_lt_of_cell? w _ hx602_3)).trans hx602_3
         replace hx602_4 := (HB.out.cell (World.block_lt_of_cell? w _ hx602_4)).trans hx602_4
         have HR602_4 := Aside0.mk hi602_4
         have HC602_4 := Aside0.mk hl602_4
         clear hi602_4 hl602_4
         replace p602 := eq_true p602
         replace q602 := eq_true q602
         have p603 : 0 ≤ (x3_1 : Int) := of_decide_eq_true (by first | (with_reducible assumption) | assumption)
         have q603 : x3_1 < (l0.length : Int) := of_decide_eq_true (by first | (with_reducible assumption) | assumption)
         obtain ⟨ad603, A603_4, c603_4, e603, hx603_0, hx603_1, hx603_2, hx603_3, hx603_4, hl603_4, hi603_4⟩ := at_T70 HR0.out x3_1 p603 q603
         obtain rfl : ad602 = ad603 := (by injection e603)
         replace hx603_0 := (HB.out.cell (World.block_lt_of_cell? w _ hx603_0)).trans hx603_0
         replace hx603_1 := (HB.out.cell (World.block_lt_of_cell? w _ hx603_1)).trans hx603_1
         replace hx603_2 := (HB.out.cell (World.block_lt_of_cell? w _ hx603_2)).trans hx603_2
         replace hx603_3 := (HB.out.cell (World.block_lt_of_cell? w _ hx603_3)).trans hx603_3
         replace hx603_4 := (HB.out.cell (World.block_lt_of_cell? w _ hx603_4)).trans hx603_4
         have HR603_4 := Aside0.mk hi603_4
         have HC603_4 := Aside0.mk hl603_4
         clear hi603_4 hl603_4
         replace p603 := eq_true p603
         replace q603 := eq_true q603
         have ea_ := Option.some.inj (hx602_4.symm.trans hx603_4)
         injection ea_ with ea_ en_ ec_
         subst ea_
         subst ec_
         clear en_
         go_upto_if 36 with (first | ((with_reducible refine gate_callee (f := 50) rfl ?_); refine goesL_ (some 36) rfl rfl Try.func50 (by kernel_rfl) rfl #[.agg #[.int .i64 ((rd_T70 l0 x3_1).f0.f0), .int .i64 ((rd_T70 l0 x3_1).f0.f1)]] rfl (by (try simp only [List.map_toArray, List.map_cons, List.map_nil]); first | done | rfl | (simp only [List.length_drop, List.length_take]; rfl)) ?_; (with_reducible refine (arrasref6_Place.calls ((rd_T70 l0 x3_1).f0.f0) ((rd_T70 l0 x3_1).f0.f1) t604 _ A8.out).mono ?_); rintro e w10 ⟨rfl, hb⟩; refine ⟨_, rfl, ?_⟩; have n0_ := Aside0.mk (below_step (by repeat (first | (with_reducible first | exact HB.out | apply below_alloc | apply pw_below_drewN | apply below_drew1) | exact HB.out)) hb); clear HB; have HB := n0_; clear n0_; (try clear hb); (try clear hb2); (try clear hk); (try clear hi)))
         (try simp only [Act.put, List.setIfInBounds_toArray, List.set_cons_zero, List.set_cons_succ])
         go_cut [4, 5] (fun v4 v5 wc => ∃ (kq : Nat) (x4_8 : Int) (x5_8 : List Int), v4 = .int .i64 x4_8 ∧ Aside0 (arraslaw6_StampBytes.j2 kq l0 x3_1 x4_8 x5_8 = some r) ∧ Aside0 (kq ≤ kj1) ∧ Aside0 (Kd.R (Kd.int .u8) 5 wc w.heap.size (fun _ => True) v5 x5_8) ∧ Aside0 (Below w.heap.size w wc))
         case first =>
          have H := HC9.out
          clear HC9
          by_cases c11 : t604 = true
          ·subst c11
           have H1 : ((arrasref6_Bytes.f kj1 ((rd_T70 l0 x3_1).f0.f0) ((rd_T70 l0 x3_1).f0.f1)).bind fun t606 => (arraslaw6_StampBytes.j2 kj1 l0 x3_1 0 t606)) = some r := by rw [if_pos rfl] at H; exact H
           clear H
           have H := H1
           clear H1
           replace H := Option.bind_eq_some_iff.mp H
           obtain ⟨t606, A120, H⟩ := H
           replace H : (arraslaw6_StampBytes.j2 kj1 l0 x3_1 0 t606) = some r := H
           have A12 := Aside0.mk A120
           clear A120
           as_aux_lemma =>
            have H' := Aside0.mk H
            clear H
            have p605 : 0 ≤ (x3_1 : Int) := of_decide_eq_true (by first | (with_reducible assumption) | assumption)
            have q605 : x3_1 < (l0.length : Int) := of_decide_eq_true (by first | (with_reducible assumption) | assumption)
            obtain ⟨ad605, A605_4, c605_4, e605, hx605_0, hx605_1, hx605_2, hx605_3, hx605_4, hl605_4, hi605_4⟩ := at_T70 HR0.out x3_1 p605 q605
            obtain rfl : ad602 = ad605 := (by injection e605)
            replace hx605_0 := (HB.out.cell (World.block_lt_of_cell? w _ hx605_0)).trans hx605_0
            replace hx605_1 := (HB.out.cell (World.block_lt_of_cell? w _ hx605_1)).trans hx605_1
            replace hx605_2 := (HB.out.cell (World.block_lt_of_cell? w _ hx605_2)).trans hx605_2
            replace hx605_3 := (HB.out.cell (World.block_lt_of_cell? w _ hx605_3)).trans hx605_3
            replace hx605_4 := (HB.out.cell (World.block_lt_of_cell? w _ hx605_4)).trans hx605_4
            have HR605_4 := Aside0.mk hi605_4
            have HC605_4 := Aside0.mk hl605_4
            clear hi605_4 hl605_4
            replace p605 := eq_true p605
            replace q605 := eq_true q605
            go_wp2_with (first | ((with_reducible refine gate_callee (f := 52) rfl ?_); refine goesL_ (some 42) rfl rfl Try.func52 (by kernel_rfl) rfl #[.agg #[.int .i64 ((rd_T70 l0 x3_1).f0.f0), .int .i64 ((rd_T70 l0 x3_1).f0.f1)]] rfl (by (try simp only [List.map_toArray, List.map_cons, List.map_nil]); first | done | rfl | (simp only [List.length_drop, List.length_take]; rfl)) ?_; (with_reducible refine (arrasref6_Bytes.calls kj1 ((rd_T70 l0 x3_1).f0.f0) ((rd_T70 l0 x3_1).f0.f1) t606 _ A12.out).mono ?_); rintro e w13 ⟨v607, rfl, ho0, hb⟩; refine ⟨_, rfl, ?_⟩; have n0_ := Aside0.mk (Kd.R_lower ho0 (below_size (by repeat (first | (with_reducible first | exact HB.out | apply below_alloc | apply pw_below_drewN | apply below_drew1) | exact HB.out)))); have n1_ := Aside0.mk (below_step (by repeat (first | (with_reducible first | exact HB.out | apply below_alloc | apply pw_below_drewN | apply below_drew1) | exact HB.out)) hb); clear HB; have HO608 := n0_; have HB := n1_; clear n0_ n1_; (try clear hb); (try clear hb2); (try clear hk); (try clear hi); (try clear ho0)))
            go_meet
            case rel => exact ⟨_, (0), (t606), (by first | rfl | (simp; done) | (simp [*]; done)), H', ⟨by have := HK1.out; have := HJ1.out; first | omega | exact Nat.le_refl _⟩, ⟨by (with_reducible repeat (first | apply Kd.R_alloc | apply Kd.R_drewN | apply Kd.R_drew)); exact HO608.out⟩, ⟨by repeat (first | (with_reducible first | exact HB.out | apply below_alloc | apply pw_below_drewN | apply below_drew1) | exact HB.out)⟩⟩
          ·replace c11 := Bool.eq_false_iff.mpr c11
           subst c11
           have H1 : (arraslaw6_StampBytes.j2 kj1 l0 x3_1 1 ([] : List Int)) = some r := by rw [if_neg (show ¬ (false = true) by decide)] at H; exact H
           clear H
           have H := H1
           clear H1
           as_aux_lemma =>
            have H' := Aside0.mk H
            clear H
            go_wp2
            go_meet
            case rel => exact ⟨_, (1), (([] : List Int)), (by first | rfl | (simp; done) | (simp [*]; done)), H', ⟨by have := HK1.out; have := HJ1.out; first | omega | exact Nat.le_refl _⟩, ⟨by first | exact Kd.R_nil _ _ _ _ _ | exact Kd.N_nil _ _ _ _ _ | exact Kd.V_nil _ _ _ _ _ | exact Kd.Q_nil _ _ _ _ _ | exact Kd.S_nil _ _ _ _ _⟩, ⟨by repeat (first | (with_reducible first | exact HB.out | apply below_alloc | apply pw_below_drewN | apply below_drew1) | exact HB.out)⟩⟩
         case rest =>
          clear HC9
          (try clear c1); (try clear p2); (try clear c3); (try clear c3b0); (try clear c4); (try clear c5); (try clear c5b0); (try clear c6); (try clear c6b0); (try clear p6); (try clear q6); (try clear hx6); (try clear c7); (try clear c7b0); (try clear c7b1); (try clear c11); (try clear c12); (try clear hx602_0); (try clear hx602_1); (try clear hx602_2); (try clear hx602_3); (try clear hx602_4); (try clear hx603_0); (try clear hx603_1); (try clear hx603_2); (try clear hx603_3); (try clear hx603_4); (try clear hx605_0); (try clear hx605_1); (try clear hx605_2); (try clear hx605_3); (try clear hx605_4); (try clear p2); (try clear p602); (try clear p603); (try clear p605); (try clear q602); (try clear q603); (try clear q605)
          obtain ⟨kq, x4_8, x5_8, rfl, HA, HJ8, HO_5, HB⟩ := hcut
          cases kq with
          | zero => exact absurd HA.out (by simp [arraslaw6_StampBytes.j2])
          | succ kj8 =>
           have H := HA.out
           clear HA
           simp only [arraslaw6_StampBytes.j2] at H
           by_cases c14 : 0 ≤ x3_1
           ·rw [if_pos c14] at H
            have c14b0 : decide (0 ≤ x3_1) = true := decide_eq_true c14
            clear c14
            by_cases c15 : x3_1 < (l0.length : Int)
            ·rw [if_pos c15] at H
             have c15b0 : decide (x3_1 < (l0.length : Int)) = true := decide_eq_true c15
             clear c15
             replace H := Option.bind_eq_some_iff.mp H
             obtain ⟨⟨t610, t613⟩, A160, H⟩ := H
             (try dsimp only at H)
             have A16 := Aside0.mk A160
             clear A160
             have HC17 := Aside0.mk H
             clear H
             have p609 : 0 ≤ (x3_1 : Int) := of_decide_eq_true (by first | (with_reducible assumption) | assumption)
             have q609 : x3_1 < (l0.length : Int) := of_decide_eq_true (by first | (with_reducible assumption) | assumption)
             obtain ⟨ad609, A609_4, c609_4, e609, hx609_0, hx609_1, hx609_2, hx609_3, hx609_4, hl609_4, hi609_4⟩ := at_T70 HR0.out x3_1 p609 q609
             obtain rfl : ad602 = ad609 := (by injection e609)
             replace hx609_0 := (HB.out.cell (World.block_lt_of_cell? w _ hx609_0)).trans hx609_0
             replace hx609_1 := (HB.out.cell (World.block_lt_of_cell? w _ hx609_1)).trans hx609_1
             replace hx609_2 := (HB.out.cell (World.block_lt_of_cell? w _ hx609_2)).trans hx609_2
             replace hx609_3 := (HB.out.cell (World.block_lt_of_cell? w _ hx609_3)).trans hx609_3
             replace hx609_4 := (HB.out.cell (World.block_lt_of_cell? w _ hx609_4)).trans hx609_4
             have HR609_4 := Aside0.mk hi609_4
             have HC609_4 := Aside0.mk hl609_4
             clear hi609_4 hl609_4
             replace p609 := eq_true p609
             replace q609 := eq_true q609
             go_upto_region 10 with (first | ((with_reducible refine gate_callee (f := 53) rfl ?_); refine goesL_ (some 49) rfl rfl Try.func53 (by kernel_rfl) rfl #[.agg #[.int .i64 ((rd_T70 l0 x3_1).f0.f0), .int .i64 ((rd_T70 l0 x3_1).f0.f1)]] rfl (by (try simp only [List.map_toArray, List.map_cons, List.map_nil]); first | done | rfl | (simp only [List.length_drop, List.length_take]; rfl)) ?_; (with_reducible refine (stamp_Bytes.calls kj8 ((rd_T70 l0 x3_1).f0.f0) ((rd_T70 l0 x3_1).f0.f1) t610 t613 _ A16.out).mono ?_); rintro e w18 ⟨v611, rfl, ho0, hb⟩; refine ⟨_, rfl, ?_⟩; have n0_ := Aside0.mk (Kd.R_elder' (by (with_reducible repeat (first | apply Kd.R_alloc | apply Kd.R_drewN | apply Kd.R_drew)); exact HO_5.out) (Kd.R_base ho0) hb); have n1_ := Aside0.mk (Kd.R_lower (Kd.R_new' ho0 (Kd.R_lt (by (with_reducible repeat (first | apply Kd.R_alloc | apply Kd.R_drewN | apply Kd.R_drew)); exact HO_5.out))) (below_size (by repeat (first | (with_reducible first | exact HB.out | apply below_alloc | apply pw_below_drewN | apply below_drew1) | exact HB.out)))); have n2_ := Aside0.mk (below_step (by repeat (first | (with_reducible first | exact HB.out | apply below_alloc | apply pw_below_drewN | apply below_drew1) | exact HB.out)) hb); clear HO_5; clear HB; have HO_5 := n0_; have HO612 := n1_; have HB := n2_; clear n0_ n1_ n2_; (try clear hb); (try clear hb2); (try clear hk); (try clear hi); (try clear ho0)))
             (try simp only [Act.put, List.setIfInBounds_toArray, List.set_cons_zero, List.set_cons_succ])
             go_cut [61] (fun v61 wc => ∃ (kq : Nat) (x61_16 : Bool), v61 = .bool x61_16 ∧ Aside0 (arraslaw6_StampBytes.j3 kq l0 x3_1 x4_8 t610 x61_16 = some r) ∧ Aside0 (kq ≤ kj8) ∧ Aside0 (Kd.R (Kd.int .u8) 5 wc w.heap.size (fun _ => True) v611 t610) ∧ Aside0 (Below w.heap.size w wc))
             case first =>
              have H := HC17.out
              clear HC17
              replace H := Option.bind_eq_some_iff.mp H
              obtain ⟨t614, A190, H⟩ := H
              (try dsimp only at H)
              have A19 := Aside0.mk A190
              clear A190
              by_cases c20 : t614 = x4_8
              ·rw [if_pos c20] at H
               have c20b0 : (t614 == x4_8) = true := beq_iff_eq.mpr c20
               have c20b1 : (t614 != x4_8) = false := bne_eq_false_iff_eq.mpr c20
               clear c20
               (first | rw [c20b0] | (simp only [i64_w, i32_w]; rw [c20b0]) | skip)
               replace H := Option.bind_eq_some_iff.mp H
               obtain ⟨t615, A210, H⟩ := H
               replace H : (arraslaw6_StampBytes.j3 kj8 l0 x3_1 x4_8 t610 (!t615)) = some r := H
               have A21 := Aside0.mk A210
               clear A210
               as_aux_lemma =>
                have H' := Aside0.mk H
                clear H
                go_wp2_with (first | ((with_reducible refine gate_callee (f := 44) rfl ?_); refine goesL_ (some 53) rfl rfl Try.func44 (by kernel_rfl) rfl #[.int .i64 t613] rfl (by (try simp only [List.map_toArray, List.map_cons, List.map_nil]); first | done | rfl | (simp only [List.length_drop, List.length_take]; rfl)) ?_; (with_reducible refine (arraslaw6_num.calls t613 t614 _ A19.out).mono ?_); rintro e w' ⟨rfl, ⟨nd, rfl⟩⟩; refine ⟨_, rfl, ?_⟩; obtain ⟨Ao22, co22, eo22⟩ := Kd.R_slice HO612.out; subst eo22; obtain ⟨Ao23, co23, eo23⟩ := Kd.R_slice HO_5.out; subst eo23) | (go_at_call 20; (with_reducible refine (arrasref0_EqBytes.calls kj8 _ _ t610 _ _ x5_8 t615 _ ?side1 ?side2 ?side3 ?side4 A21.out).mono ?_); (case side1 => repeat (first | exact (Kd.R_reads' HO612.out).2.2 | with_reducible first | refine Kd.C_alloc ?_ _ | refine Kd.C_drewN ?_ _ | refine Kd.C_drew ?_)); (case side2 => exact (Kd.R_reads' HO612.out).2.1); (case side3 => repeat (first | exact (Kd.R_reads' HO_5.out).2.2 | with_reducible first | refine Kd.C_alloc ?_ _ | refine Kd.C_drewN ?_ _ | refine Kd.C_drew ?_)); (case side4 => exact (Kd.R_reads' HO_5.out).2.1); rintro e w' ⟨rfl, ⟨nd, rfl⟩⟩))
                go_meet
                case rel => exact ⟨_, (!t615), (by first | rfl | (simp; done) | (simp [*]; done)), H', ⟨by have := HK1.out; have := HJ1.out; have := HJ8.out; first | omega | exact Nat.le_refl _⟩, ⟨by (with_reducible repeat (first | apply Kd.R_alloc | apply Kd.R_drewN | apply Kd.R_drew)); exact Kd.R_mono HO612.out (fun _ hk => trivial)⟩, ⟨by repeat (first | (with_reducible first | exact HB.out | apply below_alloc | apply pw_below_drewN | apply below_drew1) | exact HB.out)⟩⟩
              ·rw [if_neg c20] at H
               have c20b0 : (t614 == x4_8) = false := beq_eq_false_iff_ne.mpr c20
               have c20b1 : (t614 != x4_8) = true := bne_iff_ne.mpr c20
               (first | rw [c20b0] | (simp only [i64_w, i32_w]; rw [c20b0]) | skip)
               as_aux_lemma =>
                have H' := Aside0.mk H
                clear H
                go_wp2_with (first | ((with_reducible refine gate_callee (f := 44) rfl ?_); refine goesL_ (some 53) rfl rfl Try.func44 (by kernel_rfl) rfl #[.int .i64 t613] rfl (by (try simp only [List.map_toArray, List.map_cons, List.map_nil]); first | done | rfl | (simp only [List.length_drop, List.length_take]; rfl)) ?_; (with_reducible refine (arraslaw6_num.calls t613 t614 _ A19.out).mono ?_); rintro e w' ⟨rfl, ⟨nd, rfl⟩⟩; refine ⟨_, rfl, ?_⟩))
                go_meet
                case rel => exact ⟨_, (true), (by first | rfl | (simp; done) | (simp [*]; done)), H', ⟨by have := HK1.out; have := HJ1.out; have := HJ8.out; first | omega | exact Nat.le_refl _⟩, ⟨by (with_reducible repeat (first | apply Kd.R_alloc | apply Kd.R_drewN | apply Kd.R_drew)); exact Kd.R_mono HO612.out (fun _ hk => trivial)⟩, ⟨by repeat (first | (with_reducible first | exact HB.out | apply below_alloc | apply pw_below_drewN | apply below_drew1) | exact HB.out)⟩⟩
             case rest =>
              clear HC17
              (try clear c1); (try clear c2); (try clear p2); (try clear c3); (try clear c3b0); (try clear c4); (try clear c5); (try clear c5b0); (try clear c6); (try clear c6b0); (try clear p6); (try clear q6); (try clear hx6); (try clear c7); (try clear c7b0); (try clear c7b1); (try clear c11); (try clear c12); (try clear c14); (try clear c14b0); (try clear c15); (try clear c15b0); (try clear c20); (try clear c20b0); (try clear c20b1); (try clear hx602_0); (try clear hx602_1); (try clear hx602_2); (try clear hx602_3); (try clear hx602_4); (try clear hx603_0); (try clear hx603_1); (try clear hx603_2); (try clear hx603_3); (try clear hx603_4); (try clear hx605_0); (try clear hx605_1); (try clear hx605_2); (try clear hx605_3); (try clear hx605_4); (try clear hx609_0); (try clear hx609_1); (try clear hx609_2); (try clear hx609_3); (try clear hx609_4); (try clear p2); (try clear p6); (try clear p602); (try clear p603); (try clear p605); (try clear p609); (try clear q6); (try clear q602); (try clear q603); (try clear q605); (try clear q609)
              obtain ⟨kq, x61_16, rfl, HA, HJ16, HO_6, HB⟩ := hcut
              cases kq with
              | zero => exact absurd HA.out (by simp [arraslaw6_StampBytes.j3])
              | succ kj16 =>
               have H := HA.out
               clear HA
               simp only [arraslaw6_StampBytes.j3] at H
               by_cases c24 : x61_16 = true
               ·subst c24
                have H1 : (some false) = some r := by rw [if_pos rfl] at H; exact H
                clear H
                have H := H1
                clear H1
                as_aux_lemma =>
                 obtain rfl := Option.some.inj H
                 go_wp2
                 go_ret
                 exact ⟨by first | rfl | (simp [errW_none, errW_some] <;> rfl) | (simp [*, errW_none, errW_some] <;> rfl), by repeat (first | (with_reducible first | exact HB.out | apply below_alloc | apply pw_below_drewN | apply below_drew1) | exact HB.out)⟩
               ·replace c24 := Bool.eq_false_iff.mpr c24
                subst c24
                have H1 : (if 0 ≤ x3_1 then (if x3_1 < (l0.length : Int) then ((stamp_Take.f kj16 ((rd_T70 l0 x3_1).f2)).bind fun bt617 => ((arrasref6_Take.f kj16 ((rd_T70 l0 x3_1).f2)).bind fun bt623 => (if (!(bt617.1 == bt623.1) || (!(bt617.2.1 == bt623.2.1))) = true then (arraslaw6_StampBytes.j4 kj16 l0 x3_1 x4_8 t610 true) else (if bt617.2.2.1 = bt623.2.2.1 then ((arraslaw6_num.f bt617.2.2.2).bind fun t628 => (arraslaw6_StampBytes.j4 kj16 l0 x3_1 x4_8 t610 (t628 != bt623.2.2.2))) else (arraslaw6_StampBytes.j4 kj16 l0 x3_1 x4_8 t610 true))))) else (none)) else (none)) = some r := by rw [if_neg (show ¬ (false = true) by decide)] at H; exact H
                clear H
                have H := H1
                clear H1
                by_cases c25 : 0 ≤ x3_1
                ·rw [if_pos c25] at H
                 have c25b0 : decide (0 ≤ x3_1) = true := decide_eq_true c25
                 clear c25
                 by_cases c26 : x3_1 < (l0.length : Int)
                 ·rw [if_pos c26] at H
                  have c26b0 : decide (x3_1 < (l0.length : Int)) = true := decide_eq_true c26
                  clear c26
                  replace H := Option.bind_eq_some_iff.mp H
                  obtain ⟨⟨t617, t618, t619, t620⟩, A270, H⟩ := H
                  (try dsimp only at H)
                  have A27 := Aside0.mk A270
                  clear A270
                  replace H := Option.bind_eq_some_iff.mp H
                  obtain ⟨⟨t623, t624, t625, t626⟩, A280, H⟩ := H
                  (try dsimp only at H)
                  have A28 := Aside0.mk A280
                  clear A280
                  have HC29 := Aside0.mk H
                  clear H
                  have p616 : 0 ≤ (x3_1 : Int) := of_decide_eq_true (by first | (with_reducible assumption) | assumption)
                  have q616 : x3_1 < (l0.length : Int) := of_decide_eq_true (by first | (with_reducible assumption) | assumption)
                  obtain ⟨ad616, A616_4, c616_4, e616, hx616_0, hx616_1, hx616_2, hx616_3, hx616_4, hl616_4, hi616_4⟩ := at_T70 HR0.out x3_1 p616 q616
                  obtain rfl : ad602 = ad616 := (by injection e616)
                  replace hx616_0 := (HB.out.cell (World.block_lt_of_cell? w _ hx616_0)).trans hx616_0
                  replace hx616_1 := (HB.out.cell (World.block_lt_of_cell? w _ hx616_1)).trans hx616_1
                  replace hx616_2 := (HB.out.cell (World.block_lt_of_cell? w _ hx616_2)).trans hx616_2
                  replace hx616_3 := (HB.out.cell (World.block_lt_of_cell? w _ hx616_3)).trans hx616_3
                  replace hx616_4 := (HB.out.cell (World.block_lt_of_cell? w _ hx616_4)).trans hx616_4
                  have HR616_4 := Aside0.mk hi616_4
                  have HC616_4 := Aside0.mk hl616_4
                  clear hi616_4 hl616_4
                  replace p616 := eq_true p616
                  replace q616 := eq_true q616
                  go_upto_region 14 with (first | ((with_reducible refine gate_callee (f := 54) rfl ?_); refine goesL_ (some 68) rfl rfl Try.func54 (by kernel_rfl) rfl #[.slice A616_4 ((rd_T70 l0 x3_1).f2).length c616_4] rfl (by (try simp only [List.map_toArray, List.map_cons, List.map_nil]); first | done | rfl | (simp only [List.length_drop, List.length_take]; rfl)) ?_; (with_reducible refine (stamp_Take.calls kj16 _ _ ((rd_T70 l0 x3_1).f2) t617 t618 t619 t620 _ ?side1 ?side2 A27.out).mono ?_); (case side1 => repeat (first | exact (Kd.C_below HR616_4.out HB.out) | with_reducible first | refine Kd.C_alloc ?_ _ | refine Kd.C_drewN ?_ _ | refine Kd.C_drew ?_)); (case side2 => exact HC616_4.out); rintro e w30 ⟨rfl, hb⟩; refine ⟨_, rfl, ?_⟩; have n0_ := Aside0.mk (Kd.R_below (by (with_reducible repeat (first | apply Kd.R_alloc | apply Kd.R_drewN | apply Kd.R_drew)); exact HO_6.out) hb); have n1_ := Aside0.mk (below_step (by repeat (first | (with_reducible first | exact HB.out | apply below_alloc | apply pw_below_drewN | apply below_drew1) | exact HB.out)) hb); clear HO_6; clear HB; have HO_6 := n0_; have HB := n1_; clear n0_ n1_; (try clear hb); (try clear hb2); (try clear hk); (try clear hi)) | ((with_reducible refine gate_dst (N := 8) rfl ?_); (try (refine gate_guard (by rfl) ?_; dsimp only)); refine box_event ?hg (N := 8) ?hd (cs := #[.int .i64 0, .int .i64 0]) (t := 68) ?hr ?_; (case hd => rfl); (case hg => rfl); (case hr => first | (go_simp; done) | (go_simp; rfl)); intro gb621 hg w31 hbox hb; have n0_ := Aside0.mk (Kd.R_below (by (with_reducible repeat (first | apply Kd.R_alloc | apply Kd.R_drewN | apply Kd.R_drew)); exact HO_6.out) hb); have n1_ := Aside0.mk (below_step (by repeat (first | (with_reducible first | exact HB.out | apply below_alloc | apply pw_below_drewN | apply below_drew1) | exact HB.out)) hb); have n2_ := Aside0.mk (hbox); have n3_ := Aside0.mk ((by rw [hg]; exact (below_size (by repeat (first | (with_reducible first | exact HB.out | apply below_alloc | apply pw_below_drewN | apply below_drew1) | exact HB.out))) : w.heap.size ≤ gb621)); have n4_ := Aside0.mk ((by rw [hg]; exact (below_size (by repeat (first | (with_reducible first | exact HB.out | apply below_alloc | apply pw_below_drewN | apply below_drew1) | exact HB.out))) : w.heap.size ≤ gb621)); clear HO_6; clear HB; have HO_6 := n0_; have HB := n1_; have BK621 := n2_; have GW621 := n3_; have GE621 := n4_; clear n0_ n1_ n2_ n3_ n4_; clear hb hbox hg; have hcz32_0 : w31.cell? ⟨gb621, 0, none⟩ = some (.int .i64 0) := (blk_cell BK621.out 0).trans rfl; have hcz32_1 : w31.cell? ⟨gb621, 1, none⟩ = some (.int .i64 0) := (blk_cell BK621.out 1).trans rfl; have hfz32_0 := blk_frozen BK621.out 0; have hfz32_1 := blk_frozen BK621.out 1; have p622 : 0 ≤ (x3_1 : Int) := of_decide_eq_true (by first | (with_reducible assumption) | assumption); have q622 : x3_1 < (l0.length : Int) := of_decide_eq_true (by first | (with_reducible assumption) | assumption); obtain ⟨ad622, A622_4, c622_4, e622, hx622_0, hx622_1, hx622_2, hx622_3, hx622_4, hl622_4, hi622_4⟩ := at_T70 HR0.out x3_1 p622 q622; obtain rfl : ad602 = ad622 := (by injection e622); have hn622_0 : ad602.block ≠ gb621 := Nat.ne_of_lt (Nat.lt_of_lt_of_le (by have := World.block_lt_of_cell? _ _ hx622_0; first | rwa [add_block] at this | exact this) GW621.out); have hn622_1 : ad602.block ≠ gb621 := Nat.ne_of_lt (Nat.lt_of_lt_of_le (by have := World.block_lt_of_cell? _ _ hx622_0; first | rwa [add_block] at this | exact this) GW621.out); replace hx622_0 := (HB.out.cell (World.block_lt_of_cell? w _ hx622_0)).trans hx622_0; replace hx622_1 := (HB.out.cell (World.block_lt_of_cell? w _ hx622_1)).trans hx622_1; replace hx622_2 := (HB.out.cell (World.block_lt_of_cell? w _ hx622_2)).trans hx622_2; replace hx622_3 := (HB.out.cell (World.block_lt_of_cell? w _ hx622_3)).trans hx622_3; replace hx622_4 := (HB.out.cell (World.block_lt_of_cell? w _ hx622_4)).trans hx622_4; have HR622_4 := Aside0.mk hi622_4; have HC622_4 := Aside0.mk hl622_4; clear hi622_4 hl622_4; replace hx622_0 := (cell_far (p := ⟨gb621, 0, none⟩) (by first | (rw [add_block]; exact hn622_0) | (show (Addr.add _ _).block ≠ _; rw [add_block]; exact hn622_0) | exact hn622_0) (.int .i64 t617)).trans hx622_0; replace hx622_1 := (cell_far (p := ⟨gb621, 0, none⟩) (by first | (rw [add_block]; exact hn622_0) | (show (Addr.add _ _).block ≠ _; rw [add_block]; exact hn622_0) | exact hn622_0) (.int .i64 t617)).trans hx622_1; replace hx622_2 := (cell_far (p := ⟨gb621, 0, none⟩) (by first | (rw [add_block]; exact hn622_0) | (show (Addr.add _ _).block ≠ _; rw [add_block]; exact hn622_0) | exact hn622_0) (.int .i64 t617)).trans hx622_2; replace hx622_3 := (cell_far (p := ⟨gb621, 0, none⟩) (by first | (rw [add_block]; exact hn622_0) | (show (Addr.add _ _).block ≠ _; rw [add_block]; exact hn622_0) | exact hn622_0) (.int .i64 t617)).trans hx622_3; replace hx622_4 := (cell_far (p := ⟨gb621, 0, none⟩) (by first | (rw [add_block]; exact hn622_0) | (show (Addr.add _ _).block ≠ _; rw [add_block]; exact hn622_0) | exact hn622_0) (.int .i64 t617)).trans hx622_4; replace hx622_0 := (cell_far (p := ⟨gb621, 1, none⟩) (by first | (rw [add_block]; exact hn622_1) | (show (Addr.add _ _).block ≠ _; rw [add_block]; exact hn622_1) | exact hn622_1) (.int .i64 t618)).trans hx622_0; replace hx622_1 := (cell_far (p := ⟨gb621, 1, none⟩) (by first | (rw [add_block]; exact hn622_1) | (show (Addr.add _ _).block ≠ _; rw [add_block]; exact hn622_1) | exact hn622_1) (.int .i64 t618)).trans hx622_1; replace hx622_2 := (cell_far (p := ⟨gb621, 1, none⟩) (by first | (rw [add_block]; exact hn622_1) | (show (Addr.add _ _).block ≠ _; rw [add_block]; exact hn622_1) | exact hn622_1) (.int .i64 t618)).trans hx622_2; replace hx622_3 := (cell_far (p := ⟨gb621, 1, none⟩) (by first | (rw [add_block]; exact hn622_1) | (show (Addr.add _ _).block ≠ _; rw [add_block]; exact hn622_1) | exact hn622_1) (.int .i64 t618)).trans hx622_3; replace hx622_4 := (cell_far (p := ⟨gb621, 1, none⟩) (by first | (rw [add_block]; exact hn622_1) | (show (Addr.add _ _).block ≠ _; rw [add_block]; exact hn622_1) | exact hn622_1) (.int .i64 t618)).trans hx622_4; clear hn622_0; clear hn622_1; replace p622 := eq_true p622; replace q622 := eq_true q622) | ((with_reducible refine gate_callee (f := 55) rfl ?_); refine goesL_ (some 78) rfl rfl Try.func55 (by kernel_rfl) rfl #[.slice A622_4 ((rd_T70 l0 x3_1).f2).length c622_4] rfl (by (try simp only [List.map_toArray, List.map_cons, List.map_nil]); first | done | rfl | (simp only [List.length_drop, List.length_take]; rfl)) ?_; (with_reducible refine (arrasref6_Take.calls kj16 _ _ ((rd_T70 l0 x3_1).f2) t623 t624 t625 t626 _ ?side1 ?side2 A28.out).mono ?_); (case side1 => exact Kd.C_below HR622_4.out (by repeat (first | (with_reducible first | exact HB.out | apply below_alloc | apply pw_below_drewN | apply below_drew1 | refine below_set ?_ GE621.out) | exact HB.out))); (case side2 => exact HC622_4.out); rintro e w33 ⟨rfl, hb⟩; refine ⟨_, rfl, ?_⟩; have n0_ := Aside0.mk (Kd.R_below (by (with_reducible repeat (first | apply Kd.R_alloc | apply Kd.R_drewN | apply Kd.R_drew)); exact (Kd.R_mono (Kd.R_far (p := ⟨gb621, 1, none⟩) (Kd.R_far (p := ⟨gb621, 0, none⟩) (Kd.R_types HO_6.out BK621.out (by decide)) (fun _ hk => hk.2) (.int .i64 t617)) (fun _ hk => hk.2) (.int .i64 t618)) (fun _ h_ => h_.1))) hb); have n1_ := Aside0.mk (blk_below (g := gb621) (o := .cells #[.int .i64 t617, .int .i64 t618] 68 (0, 0)) (by (with_reducible repeat (first | refine blk_drewN ?_ _ | refine blk_drew ?_ | refine blk_alloc ?_ _)); refine blk_put (cs := #[.int .i64 t617, .int .i64 0]) ?_ 1 _ rfl; (with_reducible repeat (first | refine blk_drewN ?_ _ | refine blk_drew ?_ | refine blk_alloc ?_ _)); refine blk_put (cs := #[.int .i64 0, .int .i64 0]) ?_ 0 _ rfl; (with_reducible repeat (first | refine blk_drewN ?_ _ | refine blk_drew ?_ | refine blk_alloc ?_ _)); exact BK621.out) hb); have n2_ := Aside0.mk (below_step (by repeat (first | (with_reducible first | exact HB.out | apply below_alloc | apply pw_below_drewN | apply below_drew1 | refine below_set ?_ GE621.out) | exact HB.out)) hb); clear HO_6; clear BK621; clear HB; have HO_6 := n0_; have BK621 := n1_; have HB := n2_; clear n0_ n1_ n2_; (try clear hb); (try clear hb2); (try clear hk); (try clear hi)) | ((with_reducible refine gate_dst (N := 11) rfl ?_); (try (refine gate_guard (by rfl) ?_; dsimp only)); refine box_event ?hg (N := 11) ?hd (cs := #[.int .i64 0, .int .i64 0]) (t := 68) ?hr ?_; (case hd => rfl); (case hg => rfl); (case hr => first | (go_simp; done) | (go_simp; rfl)); intro gb627 hg w34 hbox hb; have n0_ := Aside0.mk (Kd.R_below (by (with_reducible repeat (first | apply Kd.R_alloc | apply Kd.R_drewN | apply Kd.R_drew)); exact HO_6.out) hb); have n1_ := Aside0.mk (blk_below (g := gb621) (o := .cells #[.int .i64 t617, .int .i64 t618] 68 (0, 0)) (by (with_reducible repeat (first | refine blk_drewN ?_ _ | refine blk_drew ?_ | refine blk_alloc ?_ _)); exact BK621.out) hb); have n2_ := Aside0.mk (below_step (by repeat (first | (with_reducible first | exact HB.out | apply below_alloc | apply pw_below_drewN | apply below_drew1 | refine below_set ?_ GE621.out) | exact HB.out)) hb); have n3_ := Aside0.mk (hbox); have n4_ := Aside0.mk ((by rw [hg]; exact (below_size (by repeat (first | (with_reducible first | exact HB.out | apply below_alloc | apply pw_below_drewN | apply below_drew1 | refine below_set ?_ GE621.out) | exact HB.out))) : w.heap.size ≤ gb627)); have n5_ := Aside0.mk ((by rw [hg]; exact (below_size (by repeat (first | (with_reducible first | exact HB.out | apply below_alloc | apply pw_below_drewN | apply below_drew1 | refine below_set ?_ GE621.out) | exact HB.out))) : w.heap.size ≤ gb627)); have n6_ := Aside0.mk ((by rw [hg]; exact Nat.ne_of_lt (blk_lt (g := gb621) (o := .cells #[.int .i64 t617, .int .i64 t618] 68 (0, 0)) (by (with_reducible repeat (first | refine blk_drewN ?_ _ | refine blk_drew ?_ | refine blk_alloc ?_ _)); exact BK621.out)) : gb621 ≠ gb627)); have n7_ := Aside0.mk ((by rw [hg]; exact Nat.ne_of_gt (blk_lt (g := gb621) (o := .cells #[.int .i64 t617, .int .i64 t618] 68 (0, 0)) (by (with_reducible repeat (first | refine blk_drewN ?_ _ | refine blk_drew ?_ | refine blk_alloc ?_ _)); exact BK621.out)) : gb627 ≠ gb621)); clear HO_6; clear BK621; clear HB; have HO_6 := n0_; have BK621 := n1_; have HB := n2_; have BK627 := n3_; have GW627 := n4_; have GE627 := n5_; have NB621_627 := n6_; have NB627_621 := n7_; clear n0_ n1_ n2_ n3_ n4_ n5_ n6_ n7_; clear hb hbox hg; have hnb35 := NB627_621.out; have hnc35 := NB621_627.out; have hcz36_0 : w34.cell? ⟨gb627, 0, none⟩ = some (.int .i64 0) := (blk_cell BK627.out 0).trans rfl; have hcz36_1 : w34.cell? ⟨gb627, 1, none⟩ = some (.int .i64 0) := (blk_cell BK627.out 1).trans rfl; have hfz36_0 := blk_frozen BK627.out 0; have hfz36_1 := blk_frozen BK627.out 1))
                  (try simp only [Act.put, List.setIfInBounds_toArray, List.set_cons_zero, List.set_cons_succ])
                  go_cut [95] (fun v95 wc => ∃ (kq : Nat) (x95_28 : Bool), v95 = .bool x95_28 ∧ Aside0 (arraslaw6_StampBytes.j4 kq l0 x3_1 x4_8 t610 x95_28 = some r) ∧ Aside0 (kq ≤ kj16) ∧ Aside0 (Kd.R (Kd.int .u8) 5 wc w.heap.size (fun _ => True) v611 t610) ∧ Aside0 (wc.heap[gb621]? = some (.cells #[.int .i64 t617, .int .i64 t618] 68 (0, 0))) ∧ Aside0 (wc.heap[gb627]? = some (.cells #[.int .i64 t623, .int .i64 t624] 68 (0, 0))) ∧ Aside0 (Below w.heap.size w wc))
                  case first =>
                   have H := HC29.out
                   clear HC29
                   by_cases c37 : (!(t617 == t623) || (!(t618 == t624))) = true
                   ·rw [if_pos c37] at H
                    have c37b0 : (!(t617 == t623) || (!(t618 == t624))) = true := c37
                    clear c37
                    (first | rw [c37b0] | (simp only [i64_w, i32_w]; rw [c37b0]) | skip)
                    as_aux_lemma =>
                     have H' := Aside0.mk H
                     clear H
                     have hnb38 := NB621_627.out
                     have hnc38 := NB627_621.out
                     have hcz39_0 : w34.cell? ⟨gb621, 0, none⟩ = some (.int .i64 t617) := (blk_cell BK621.out 0).trans rfl
                     have hcz39_1 : w34.cell? ⟨gb621, 1, none⟩ = some (.int .i64 t618) := (blk_cell BK621.out 1).trans rfl
                     have hfz39_0 := blk_frozen BK621.out 0
                     have hfz39_1 := blk_frozen BK621.out 1
                     have hcz40_0 : w34.cell? ⟨gb627, 0, none⟩ = some (.int .i64 0) := (blk_cell BK627.out 0).trans rfl
                     have hcz40_1 : w34.cell? ⟨gb627, 1, none⟩ = some (.int .i64 0) := (blk_cell BK627.out 1).trans rfl
                     have hfz40_0 := blk_frozen BK627.out 0
                     have hfz40_1 := blk_frozen BK627.out 1
                     go_wp2
                     go_meet
                     case rel => exact ⟨_, (true), (by first | rfl | (simp; done) | (simp [*]; done)), H', ⟨by have := HK1.out; have := HJ1.out; have := HJ8.out; have := HJ16.out; first | omega | exact Nat.le_refl _⟩, ⟨by (with_reducible repeat (first | apply Kd.R_alloc | apply Kd.R_drewN | apply Kd.R_drew)); exact Kd.R_mono (Kd.R_far (p := ⟨gb627, 1, none⟩) (Kd.R_far (p := ⟨gb627, 0, none⟩) (Kd.R_types HO_6.out BK627.out (by decide)) (fun _ hk => hk.2) (.int .i64 t623)) (fun _ hk => hk.2) (.int .i64 t624)) (fun _ hk => trivial)⟩, ⟨by (with_reducible repeat (first | refine blk_drewN ?_ _ | refine blk_drew ?_ | refine blk_alloc ?_ _)); refine blk_far ?_ NB621_627.out _; (with_reducible repeat (first | refine blk_drewN ?_ _ | refine blk_drew ?_ | refine blk_alloc ?_ _)); refine blk_far ?_ NB621_627.out _; (with_reducible repeat (first | refine blk_drewN ?_ _ | refine blk_drew ?_ | refine blk_alloc ?_ _)); exact BK621.out⟩, ⟨by (with_reducible repeat (first | refine blk_drewN ?_ _ | refine blk_drew ?_ | refine blk_alloc ?_ _)); refine blk_put (cs := #[.int .i64 t623, .int .i64 0]) ?_ 1 _ rfl; (with_reducible repeat (first | refine blk_drewN ?_ _ | refine blk_drew ?_ | refine blk_alloc ?_ _)); refine blk_put (cs := #[.int .i64 0, .int .i64 0]) ?_ 0 _ rfl; (with_reducible repeat (first | refine blk_drewN ?_ _ | refine blk_drew ?_ | refine blk_alloc ?_ _)); exact BK627.out⟩, ⟨by repeat (first | (with_reducible first | exact HB.out | apply below_alloc | apply pw_below_drewN | apply below_drew1 | refine below_set ?_ GE621.out | refine below_set ?_ GE627.out) | exact HB.out)⟩⟩
                   ·rw [if_neg c37] at H
                    have c37b0 : (!(t617 == t623) || (!(t618 == t624))) = false := by simpa using c37
                    clear c37
                    (first | rw [c37b0] | (simp only [i64_w, i32_w]; rw [c37b0]) | skip)
                    by_cases c41 : t619 = t625
                    ·rw [if_pos c41] at H
                     have c41b0 : (t619 == t625) = true := beq_iff_eq.mpr c41
                     have c41b1 : (t619 != t625) = false := bne_eq_false_iff_eq.mpr c41
                     clear c41
                     replace H := Option.bind_eq_some_iff.mp H
                     obtain ⟨t628, A420, H⟩ := H
                     replace H : (arraslaw6_StampBytes.j4 kj16 l0 x3_1 x4_8 t610 (t628 != t626)) = some r := H
                     have A42 := Aside0.mk A420
                     clear A420
                     as_aux_lemma =>
                      have H' := Aside0.mk H
                      clear H
                      have hnb43 := NB621_627.out
                      have hnc43 := NB627_621.out
                      have hcz44_0 : w34.cell? ⟨gb621, 0, none⟩ = some (.int .i64 t617) := (blk_cell BK621.out 0).trans rfl
                      have hcz44_1 : w34.cell? ⟨gb621, 1, none⟩ = some (.int .i64 t618) := (blk_cell BK621.out 1).trans rfl
                      have hfz44_0 := blk_frozen BK621.out 0
                      have hfz44_1 := blk_frozen BK621.out 1
                      have hcz45_0 : w34.cell? ⟨gb627, 0, none⟩ = some (.int .i64 0) := (blk_cell BK627.out 0).trans rfl
                      have hcz45_1 : w34.cell? ⟨gb627, 1, none⟩ = some (.int .i64 0) := (blk_cell BK627.out 1).trans rfl
                      have hfz45_0 := blk_frozen BK627.out 0
                      have hfz45_1 := blk_frozen BK627.out 1
                      go_wp2_with (first | (go_at_call 44; (with_reducible refine (arraslaw6_num.calls t620 t628 _ A42.out).mono ?_); rintro e w' ⟨rfl, ⟨nd, rfl⟩⟩))
                      go_meet
                      case rel => exact ⟨_, ((t628 != t626)), (by first | rfl | (simp; done) | (simp [*]; done)), H', ⟨by have := HK1.out; have := HJ1.out; have := HJ8.out; have := HJ16.out; first | omega | exact Nat.le_refl _⟩, ⟨by (with_reducible repeat (first | apply Kd.R_alloc | apply Kd.R_drewN | apply Kd.R_drew)); exact Kd.R_mono (Kd.R_far (p := ⟨gb627, 1, none⟩) (Kd.R_far (p := ⟨gb627, 0, none⟩) (Kd.R_types HO_6.out BK627.out (by decide)) (fun _ hk => hk.2) (.int .i64 t623)) (fun _ hk => hk.2) (.int .i64 t624)) (fun _ hk => trivial)⟩, ⟨by (with_reducible repeat (first | refine blk_drewN ?_ _ | refine blk_drew ?_ | refine blk_alloc ?_ _)); refine blk_far ?_ NB621_627.out _; (with_reducible repeat (first | refine blk_drewN ?_ _ | refine blk_drew ?_ | refine blk_alloc ?_ _)); refine blk_far ?_ NB621_627.out _; (with_reducible repeat (first | refine blk_drewN ?_ _ | refine blk_drew ?_ | refine blk_alloc ?_ _)); exact BK621.out⟩, ⟨by (with_reducible repeat (first | refine blk_drewN ?_ _ | refine blk_drew ?_ | refine blk_alloc ?_ _)); refine blk_put (cs := #[.int .i64 t623, .int .i64 0]) ?_ 1 _ rfl; (with_reducible repeat (first | refine blk_drewN ?_ _ | refine blk_drew ?_ | refine blk_alloc ?_ _)); refine blk_put (cs := #[.int .i64 0, .int .i64 0]) ?_ 0 _ rfl; (with_reducible repeat (first | refine blk_drewN ?_ _ | refine blk_drew ?_ | refine blk_alloc ?_ _)); exact BK627.out⟩, ⟨by repeat (first | (with_reducible first | exact HB.out | apply below_alloc | apply pw_below_drewN | apply below_drew1 | refine below_set ?_ GE621.out | refine below_set ?_ GE627.out) | exact HB.out)⟩⟩
                    ·rw [if_neg c41] at H
                     have c41b0 : (t619 == t625) = false := beq_eq_false_iff_ne.mpr c41
                     have c41b1 : (t619 != t625) = true := bne_iff_ne.mpr c41
                     as_aux_lemma =>
                      have H' := Aside0.mk H
                      clear H
                      have hnb46 := NB621_627.out
                      have hnc46 := NB627_621.out
                      have hcz47_0 : w34.cell? ⟨gb621, 0, none⟩ = some (.int .i64 t617) := (blk_cell BK621.out 0).trans rfl
                      have hcz47_1 : w34.cell? ⟨gb621, 1, none⟩ = some (.int .i64 t618) := (blk_cell BK621.out 1).trans rfl
                      have hfz47_0 := blk_frozen BK621.out 0
                      have hfz47_1 := blk_frozen BK621.out 1
                      have hcz48_0 : w34.cell? ⟨gb627, 0, none⟩ = some (.int .i64 0) := (blk_cell BK627.out 0).trans rfl
                      have hcz48_1 : w34.cell? ⟨gb627, 1, none⟩ = some (.int .i64 0) := (blk_cell BK627.out 1).trans rfl
                      have hfz48_0 := blk_frozen BK627.out 0
                      have hfz48_1 := blk_frozen BK627.out 1
                      go_wp2
                      go_meet
                      case rel => exact ⟨_, (true), (by first | rfl | (simp; done) | (simp [*]; done)), H', ⟨by have := HK1.out; have := HJ1.out; have := HJ8.out; have := HJ16.out; first | omega | exact Nat.le_refl _⟩, ⟨by (with_reducible repeat (first | apply Kd.R_alloc | apply Kd.R_drewN | apply Kd.R_drew)); exact Kd.R_mono (Kd.R_far (p := ⟨gb627, 1, none⟩) (Kd.R_far (p := ⟨gb627, 0, none⟩) (Kd.R_types HO_6.out BK627.out (by decide)) (fun _ hk => hk.2) (.int .i64 t623)) (fun _ hk => hk.2) (.int .i64 t624)) (fun _ hk => trivial)⟩, ⟨by (with_reducible repeat (first | refine blk_drewN ?_ _ | refine blk_drew ?_ | refine blk_alloc ?_ _)); refine blk_far ?_ NB621_627.out _; (with_reducible repeat (first | refine blk_drewN ?_ _ | refine blk_drew ?_ | refine blk_alloc ?_ _)); refine blk_far ?_ NB621_627.out _; (with_reducible repeat (first | refine blk_drewN ?_ _ | refine blk_drew ?_ | refine blk_alloc ?_ _)); exact BK621.out⟩, ⟨by (with_reducible repeat (first | refine blk_drewN ?_ _ | refine blk_drew ?_ | refine blk_alloc ?_ _)); refine blk_put (cs := #[.int .i64 t623, .int .i64 0]) ?_ 1 _ rfl; (with_reducible repeat (first | refine blk_drewN ?_ _ | refine blk_drew ?_ | refine blk_alloc ?_ _)); refine blk_put (cs := #[.int .i64 0, .int .i64 0]) ?_ 0 _ rfl; (with_reducible repeat (first | refine blk_drewN ?_ _ | refine blk_drew ?_ | refine blk_alloc ?_ _)); exact BK627.out⟩, ⟨by repeat (first | (with_reducible first | exact HB.out | apply below_alloc | apply pw_below_drewN | apply below_drew1 | refine below_set ?_ GE621.out | refine below_set ?_ GE627.out) | exact HB.out)⟩⟩
                  case rest =>
                   clear HC29
                   (try clear c1); (try clear c2); (try clear p2); (try clear c3); (try clear c3b0); (try clear c4); (try clear c5); (try clear c5b0); (try clear c6); (try clear c6b0); (try clear p6); (try clear q6); (try clear hx6); (try clear c7); (try clear c7b0); (try clear c7b1); (try clear c11); (try clear c12); (try clear c14); (try clear c14b0); (try clear c15); (try clear c15b0); (try clear c20); (try clear c20b0); (try clear c20b1); (try clear c24); (try clear c25); (try clear c25b0); (try clear c26); (try clear c26b0); (try clear c35); (try clear c37); (try clear c37b0); (try clear c38); (try clear c41); (try clear c41b0); (try clear c41b1); (try clear c43); (try clear c44); (try clear c46); (try clear hcz32_0); (try clear hcz32_1); (try clear hcz36_0); (try clear hcz36_1); (try clear hcz39_0); (try clear hcz39_1); (try clear hcz40_0); (try clear hcz40_1); (try clear hcz44_0); (try clear hcz44_1); (try clear hcz45_0); (try clear hcz45_1); (try clear hcz47_0); (try clear hcz47_1); (try clear hcz48_0); (try clear hcz48_1); (try clear hfz32_0); (try clear hfz32_1); (try clear hfz36_0); (try clear hfz36_1); (try clear hfz39_0); (try clear hfz39_1); (try clear hfz40_0); (try clear hfz40_1); (try clear hfz44_0); (try clear hfz44_1); (try clear hfz45_0); (try clear hfz45_1); (try clear hfz47_0); (try clear hfz47_1); (try clear hfz48_0); (try clear hfz48_1); (try clear hx602_0); (try clear hx602_1); (try clear hx602_2); (try clear hx602_3); (try clear hx602_4); (try clear hx603_0); (try clear hx603_1); (try clear hx603_2); (try clear hx603_3); (try clear hx603_4); (try clear hx605_0); (try clear hx605_1); (try clear hx605_2); (try clear hx605_3); (try clear hx605_4); (try clear hx609_0); (try clear hx609_1); (try clear hx609_2); (try clear hx609_3); (try clear hx609_4); (try clear hx616_0); (try clear hx616_1); (try clear hx616_2); (try clear hx616_3); (try clear hx616_4); (try clear hx622_0); (try clear hx622_1); (try clear hx622_2); (try clear hx622_3); (try clear hx622_4); (try clear p2); (try clear p6); (try clear p602); (try clear p603); (try clear p605); (try clear p609); (try clear p616); (try clear p622); (try clear q6); (try clear q602); (try clear q603); (try clear q605); (try clear q609); (try clear q616); (try clear q622)
                   obtain ⟨kq, x95_28, rfl, HA, HJ28, HO_6, BK621, BK627, HB⟩ := hcut
                   cases kq with
                   | zero => exact absurd HA.out (by simp [arraslaw6_StampBytes.j4])
                   | succ kj28 =>
                    have H := HA.out
                    clear HA
                    simp only [arraslaw6_StampBytes.j4] at H
                    by_cases c49 : x95_28 = true
                    ·subst c49
                     have H1 : (some false) = some r := by rw [if_pos rfl] at H; exact H
                     clear H
                     have H := H1
                     clear H1
                     as_aux_lemma =>
                      obtain rfl := Option.some.inj H
                      go_wp2
                      go_ret
                      exact ⟨by first | rfl | (simp [errW_none, errW_some] <;> rfl) | (simp [*, errW_none, errW_some] <;> rfl), by repeat (first | (with_reducible first | exact HB.out | apply below_alloc | apply pw_below_drewN | apply below_drew1 | refine below_set ?_ GE621.out | refine below_set ?_ GE627.out) | exact HB.out)⟩
                    ·replace c49 := Bool.eq_false_iff.mpr c49
                     subst c49
                     have H1 : (if x4_8 = 0 then ((arrasref0_CopyBytes.f kj28 t610).bind fun t629 => (if 0 ≤ x3_1 then (if x3_1 < (l0.length : Int) then (if t629.length + ((rd_T70 l0 x3_1).f2).length < 140737488355328 then ((stamp_Take.f kj28 (t629 ++ ((rd_T70 l0 x3_1).f2))).bind fun bt636 => ((arraslaw6_num.f bt636.2.2.2).bind fun t640 => (if t640 = 0 then (if (!(bt636.1 == ((rd_T70 l0 x3_1).f0.f0)) || (!(bt636.2.1 == ((rd_T70 l0 x3_1).f0.f1)))) = true then (arraslaw6_StampBytes.j5 kj28 l0 x3_1 true) else (arraslaw6_StampBytes.j5 kj28 l0 x3_1 (bt636.2.2.1 != (t610.length : Int)))) else (arraslaw6_StampBytes.j5 kj28 l0 x3_1 true)))) else (none)) else (none)) else (none))) else (arraslaw6_StampBytes.l0 kj28 l0 (wrap64 (x3_1 + 1)))) = some r := by rw [if_neg (show ¬ (false = true) by decide)] at H; exact H
                     clear H
                     have H := H1
                     clear H1
                     by_cases c50 : x4_8 = 0
                     ·rw [if_pos c50] at H
                      have c50b0 : (x4_8 == 0) = true := beq_iff_eq.mpr c50
                      have c50b1 : (x4_8 != 0) = false := bne_eq_false_iff_eq.mpr c50
                      clear c50
                      replace H := Option.bind_eq_some_iff.mp H
                      obtain ⟨t629, A510, H⟩ := H
                      (try dsimp only at H)
                      have A51 := Aside0.mk A510
                      clear A510
                      by_cases c52 : 0 ≤ x3_1
                      ·rw [if_pos c52] at H
                       have c52b0 : decide (0 ≤ x3_1) = true := decide_eq_true c52
                       clear c52
                       by_cases c53 : x3_1 < (l0.length : Int)
                       ·rw [if_pos c53] at H
                        have c53b0 : decide (x3_1 < (l0.length : Int)) = true := decide_eq_true c53
                        clear c53
                        by_cases c54 : t629.length + ((rd_T70 l0 x3_1).f2).length < 140737488355328
                        ·rw [if_pos c54] at H
                         have LMc54 := Aside0.mk c54
                         clear c54
                         obtain ⟨y633, hy633⟩ : ∃ y_ : List Int, y_ = (t629 ++ ((rd_T70 l0 x3_1).f2)) := ⟨_, rfl⟩
                         replace H : ((stamp_Take.f kj28 y633).bind fun bt636 => ((arraslaw6_num.f bt636.2.2.2).bind fun t640 => (if t640 = 0 then (if (!(bt636.1 == ((rd_T70 l0 x3_1).f0.f0)) || (!(bt636.2.1 == ((rd_T70 l0 x3_1).f0.f1)))) = true then (arraslaw6_StampBytes.j5 kj28 l0 x3_1 true) else (arraslaw6_StampBytes.j5 kj28 l0 x3_1 (bt636.2.2.1 != (t610.length : Int)))) else (arraslaw6_StampBytes.j5 kj28 l0 x3_1 true)))) = some r := by first | (rw [hy633]; with_reducible exact H) | (have H2_ := (Option.bind_some _ _).symm.trans H; rw [hy633]; with_reducible exact H2_) | (have H2_ := (Option.bind_some _ _).symm.trans H; with_reducible exact H2_) | with_reducible exact H | (rw [hy633]; exact H) | exact H
                         have Ny633 := Aside0.mk hy633
                         clear hy633
                         replace H := Option.bind_eq_some_iff.mp H
                         obtain ⟨⟨t636, t637, t638, t639⟩, A550, H⟩ := H
                         (try dsimp only at H)
                         have A55 := Aside0.mk A550
                         clear A550
                         have HC56 := Aside0.mk H
                         clear H
                         try go_wp2
                         have n0_ := Aside0.mk (Kd.R_drew HO_6.out)
                         have n1_ := Aside0.mk (blk_drew BK621.out)
                         have n2_ := Aside0.mk (blk_drew BK627.out)
                         have n3_ := Aside0.mk (below_drew1 HB.out)
                         clear HO_6
                         clear BK621
                         clear BK627
                         clear HB
                         have HO_6 := n0_
                         have BK621 := n1_
                         have BK627 := n2_
                         have HB := n3_
                         clear n0_ n1_ n2_ n3_
                         have p632 : 0 ≤ (x3_1 : Int) := of_decide_eq_true (by first | (with_reducible assumption) | assumption)
                         have q632 : x3_1 < (l0.length : Int) := of_decide_eq_true (by first | (with_reducible assumption) | assumption)
                         obtain ⟨ad632, A632_4, c632_4, e632, hx632_0, hx632_1, hx632_2, hx632_3, hx632_4, hl632_4, hi632_4⟩ := at_T70 HR0.out x3_1 p632 q632
                         have hw632_4 := hx632_4
                         have hw632_3 := hx632_3
                         have hw632_2 := hx632_2
                         have hw632_1 := hx632_1
                         have hw632_0 := hx632_0
                         obtain rfl : ad602 = ad632 := (by injection e632)
                         replace hx632_0 := (HB.out.cell (World.block_lt_of_cell? w _ hx632_0)).trans hx632_0
                         replace hx632_1 := (HB.out.cell (World.block_lt_of_cell? w _ hx632_1)).trans hx632_1
                         replace hx632_2 := (HB.out.cell (World.block_lt_of_cell? w _ hx632_2)).trans hx632_2
                         replace hx632_3 := (HB.out.cell (World.block_lt_of_cell? w _ hx632_3)).trans hx632_3
                         replace hx632_4 := (HB.out.cell (World.block_lt_of_cell? w _ hx632_4)).trans hx632_4
                         have HR632_4 := Aside0.mk hi632_4
                         have HC632_4 := Aside0.mk hl632_4
                         clear hi632_4 hl632_4
                         replace p632 := eq_true p632
                         replace q632 := eq_true q632
                         obtain ⟨Ao58, co58, eo58⟩ := Kd.R_slice HO_6.out
                         (first | subst eo58 | (injection eo58 with f1_ f2_ f3_; have f4_ := f1_.symm; have f5_ := f3_.symm; clear f1_ f2_ f3_; subst f4_; subst f5_))
                         refine start_ (n := 16) (S := fun w' => w'.cell? (ad602.add ((x3_1).toNat * 5)) = some (.int .i64 ((rd_T70 l0 x3_1).f0.f0)) ∧ w'.cell? ⟨(ad602.add ((x3_1).toNat * 5)).block, (ad602.add ((x3_1).toNat * 5)).off + 1, none⟩ = some (.int .i64 ((rd_T70 l0 x3_1).f0.f1)) ∧ w'.cell? ⟨(ad602.add ((x3_1).toNat * 5)).block, (ad602.add ((x3_1).toNat * 5)).off + 2, none⟩ = some (.int .i64 ((rd_T70 l0 x3_1).f1.f0)) ∧ w'.cell? ⟨(ad602.add ((x3_1).toNat * 5)).block, (ad602.add ((x3_1).toNat * 5)).off + 3, none⟩ = some (.int .i64 ((rd_T70 l0 x3_1).f1.f1)) ∧ w'.cell? ⟨(ad602.add ((x3_1).toNat * 5)).block, (ad602.add ((x3_1).toNat * 5)).off + 4, none⟩ = some (.slice A632_4 ((rd_T70 l0 x3_1).f2).length c632_4)) (ds := []) #[false, false, false, false, false, false, false, false, false, false, false, false, false, false, false, false] (by kernel_rfl) rfl rfl ⟨((HB.out.cell (World.block_lt_of_cell? w _ hw632_0)).trans hw632_0), ((HB.out.cell (World.block_lt_of_cell? w _ hw632_1)).trans hw632_1), ((HB.out.cell (World.block_lt_of_cell? w _ hw632_2)).trans hw632_2), ((HB.out.cell (World.block_lt_of_cell? w _ hw632_3)).trans hw632_3), ((HB.out.cell (World.block_lt_of_cell? w _ hw632_4)).trans hw632_4)⟩ (fun hHeld => ?_); refine with_tabW arraslaw6_StampBytes.tab17 arraslaw6_StampBytes.bits17 (fun HT_ HW_ => ?_)
                         generalize wc.drew = w57 at HO_6 BK621 BK627 HB HR632_4 hx632_0 hx632_1 hx632_2 hx632_3 hx632_4 hHeld ⊢
                         refine pure_ (i := 0) (N := some 99) (v := ?_) (a' := ?_) #[true, false, false, false, false, false, false, false, false, false, false, false, false, false, false, false] rfl rfl (any_of HT_.out (by kernel_rfl)) (fun _ _ _ h => h) (Or.inl ⟨by rfl, ?_⟩) ?_ ?_
                         rotate_left
                         ·intro w'
                          go_simp
                          with_reducible rfl
                         rotate_left
                         ·simp only [Act.put, List.setIfInBounds_toArray, List.set_cons_zero, List.set_cons_succ, i64_w, i32_w]
                          rfl
                         refine pure_ (i := 2) (N := some 101) (v := ?_) (a' := ?_) #[true, false, true, false, false, false, false, false, false, false, false, false, false, false, false, false] rfl rfl (any_of HT_.out (by kernel_rfl)) (fun _ _ _ h => h) (Or.inl ⟨by rfl, ?_⟩) ?_ ?_
                         rotate_left
                         ·intro w'
                          go_simp
                          with_reducible rfl
                         rotate_left
                         ·simp only [Act.put, List.setIfInBounds_toArray, List.set_cons_zero, List.set_cons_succ, i64_w, i32_w]
                          rfl
                         refine pure_ (i := 3) (N := some 102) (v := ?_) (a' := ?_) #[true, false, true, true, false, false, false, false, false, false, false, false, false, false, false, false] rfl rfl (any_of HT_.out (by kernel_rfl)) (fun _ _ _ h => h) (Or.inl ⟨by rfl, ?_⟩) ?_ ?_
                         rotate_left
                         ·intro w'
                          go_simp
                          with_reducible rfl
                         rotate_left
                         ·simp only [Act.put, List.setIfInBounds_toArray, List.set_cons_zero, List.set_cons_succ, i64_w, i32_w]
                          rfl
                         refine pure_ (i := 4) (N := some 103) (v := ?_) (a' := ?_) #[true, false, true, true, true, false, false, false, false, false, false, false, false, false, false, false] rfl rfl (any_of HT_.out (by kernel_rfl)) (fun _ _ _ h => h) (Or.inl ⟨by rfl, ?_⟩) ?_ ?_
                         rotate_left
                         ·intro w'
                          go_simp
                          with_reducible rfl
                         rotate_left
                         ·simp only [Act.put, List.setIfInBounds_toArray, List.set_cons_zero, List.set_cons_succ, i64_w, i32_w]
                          rfl
                         refine pure_ (i := 5) (N := some 104) (v := ?_) (a' := ?_) #[true, false, true, true, true, true, false, false, false, false, false, false, false, false, false, false] rfl rfl (any_of HT_.out (by kernel_rfl)) (fun _ _ _ h => h) (Or.inl ⟨by rfl, ?_⟩) ?_ ?_
                         rotate_left
                         ·intro w'
                          go_simp
                          with_reducible rfl
                         rotate_left
                         ·simp only [Act.put, List.setIfInBounds_toArray, List.set_cons_zero, List.set_cons_succ, i64_w, i32_w]
                          rfl
                         refine take_ (i := 6) (N := some 105) (v := ?_) (a' := ?_) #[true, false, true, true, true, true, true, false, false, false, false, false, false, false, false, false] rfl rfl (take_ofW HT_.out HW_.out (by kernel_rfl)) (fun _ _ _ h => h) (Or.inl ⟨by rfl, ?_⟩) hHeld ?_ ?_
                         rotate_left
                         ·rintro w' ⟨s0, s1, s2, s3, s4⟩
                          go_simp
                          with_reducible rfl
                         rotate_left
                         ·simp only [Act.put, List.setIfInBounds_toArray, List.set_cons_zero, List.set_cons_succ, i64_w, i32_w]
                          rfl
                         refine one_ (i := 1) (N := some 100) #[true, true, true, true, true, true, true, false, false, false, false, false, false, false, false, false] rfl rfl (one_of HT_.out (by kernel_rfl)) (by decide) (fun K hK => ?_)
                         refine goes_ Try.func17 (by kernel_rfl) rfl #[.slice Ao58 t610.length co58] (by rfl) rfl rfl (by (try simp only [List.map_toArray, List.map_cons, List.map_nil]); first | done | rfl | (simp only [List.length_drop, List.length_take]; rfl)) ?_
                         with_reducible refine (arrasref0_CopyBytes.calls kj28 _ _ t610 t629 _ ?side1 ?side2 A51.out).mono ?_
                         (case side1 => repeat (first | exact (Kd.R_reads' HO_6.out).2.2 | with_reducible first | refine Kd.C_alloc ?_ _ | refine Kd.C_drewN ?_ _ | refine Kd.C_drew ?_))
                         (case side2 => exact (Kd.R_reads' HO_6.out).2.1)
                         rintro e w59 ⟨v630, rfl, ho0, hb⟩
                         refine ⟨_, rfl, ?_⟩
                         have n0_ := Aside0.mk (Kd.R_elder' (by (with_reducible repeat (first | apply Kd.R_alloc | apply Kd.R_drewN | apply Kd.R_drew)); exact HO_6.out) (Kd.R_base ho0) hb)
                         have n1_ := Aside0.mk (Kd.R_lower (Kd.R_new' ho0 (Kd.R_lt (by (with_reducible repeat (first | apply Kd.R_alloc | apply Kd.R_drewN | apply Kd.R_drew)); exact HO_6.out))) (below_size (by repeat (first | (with_reducible first | exact HB.out | apply below_alloc | apply pw_below_drewN | apply below_drew1 | refine below_set ?_ GE621.out | refine below_set ?_ GE627.out) | exact HB.out))))
                         have n2_ := Aside0.mk (blk_below (g := gb621) (o := .cells #[.int .i64 t617, .int .i64 t618] 68 (0, 0)) (by (with_reducible repeat (first | refine blk_drewN ?_ _ | refine blk_drew ?_ | refine blk_alloc ?_ _)); exact BK621.out) hb)
                         have n3_ := Aside0.mk (blk_below (g := gb627) (o := .cells #[.int .i64 t623, .int .i64 t624] 68 (0, 0)) (by (with_reducible repeat (first | refine blk_drewN ?_ _ | refine blk_drew ?_ | refine blk_alloc ?_ _)); exact BK627.out) hb)
                         have n4_ := Aside0.mk (below_step (by repeat (first | (with_reducible first | exact HB.out | apply below_alloc | apply pw_below_drewN | apply below_drew1 | refine below_set ?_ GE621.out | refine below_set ?_ GE627.out) | exact HB.out)) hb)
                         clear HO_6
                         clear BK621
                         clear BK627
                         clear HB
                         have HO_6 := n0_
                         have HO631 := n1_
                         have BK621 := n2_
                         have BK627 := n3_
                         have HB := n4_
                         clear n0_ n1_ n2_ n3_ n4_
                         (try clear hb)
                         (try clear hb2)
                         (try clear hk)
                         (try clear hi)
                         (try clear ho0)
                         refine hK.out _ _ ⟨((HB.out.cell (World.block_lt_of_cell? w _ hw632_0)).trans hw632_0), ((HB.out.cell (World.block_lt_of_cell? w _ hw632_1)).trans hw632_1), ((HB.out.cell (World.block_lt_of_cell? w _ hw632_2)).trans hw632_2), ((HB.out.cell (World.block_lt_of_cell? w _ hw632_3)).trans hw632_3), ((HB.out.cell (World.block_lt_of_cell? w _ hw632_4)).trans hw632_4)⟩ (fun hHeld => ?_)
                         clear hK K
                         refine norm_ (a' := ?_) ?_ ?_
                         rotate_left
                         ·show Act.put _ (some 100) _ = _
                          simp only [Act.put, List.setIfInBounds_toArray, List.set_cons_zero, List.set_cons_succ, i64_w, i32_w]
                          rfl
                         refine one_ (i := 7) (N := some 106) #[true, true, true, true, true, true, true, true, false, false, false, false, false, false, false, false] rfl rfl (one_of HT_.out (by kernel_rfl)) (by decide) (fun K hK => ?_)
                         refine Kd.R_append_rows_step (Kd.int .u8) (w0 := w) w.heap.size (by rfl) (.tmp 100) (.tmp 105) 24 5 (.int .u8 0) 1 rfl Try.underlying24 info5 rfl (by decide) (by omega) v630 t629 ((rd_T70 l0 x3_1).f2) _ _ _ (fun k_ => some k_ ≠ (.slice Ao58 t610.length co58 : Value).ownBlock) (fun _ => False) rfl rfl ?aO ?aR (fun _ _ h => h) (fun _ h => h.elim) ?aF ?aB ?aS ?aL ?_
                         (case aR => repeat (first | exact (Kd.C_below HR632_4.out HB.out) | with_reducible first | refine Kd.C_alloc ?_ _ | refine Kd.C_drewN ?_ _ | refine Kd.C_drew ?_))
                         (case aB => exact (by repeat (first | (with_reducible first | exact HB.out | apply below_alloc | apply pw_below_drewN | apply below_drew1 | refine below_set ?_ GE621.out | refine below_set ?_ GE627.out) | exact HB.out)))
                         (case aF => exact (fun k_ hk => Kd.fresh' (Kd.R_lt (by (with_reducible repeat (first | apply Kd.R_alloc | apply Kd.R_drewN | apply Kd.R_drew)); exact HO_6.out)) k_ hk))
                         (case aO => exact (by (with_reducible repeat (first | apply Kd.R_alloc | apply Kd.R_drewN | apply Kd.R_drew)); exact Kd.R_mono HO631.out (fun _ hk => (by first | exact hk.2 | simp_all))))
                         (case aS => exact (below_size (by repeat (first | (with_reducible first | exact HB.out | apply below_alloc | apply pw_below_drewN | apply below_drew1 | refine below_set ?_ GE621.out | refine below_set ?_ GE627.out) | exact HB.out))))
                         (case aL => have := LMc54.out; omega)
                         intro v634 w60 ho hb hg hat
                         rw [← Ny633.out] at ho
                         have n0_ := Aside0.mk (Kd.R_after (ok := (fun _ => True)) (by (with_reducible repeat (first | apply Kd.R_alloc | apply Kd.R_drewN | apply Kd.R_drew)); exact HO_6.out) hg hat)
                         have n1_ := Aside0.mk (blk_grown (g := gb621) (o := .cells #[.int .i64 t617, .int .i64 t618] 68 (0, 0)) (by (with_reducible repeat (first | refine blk_drewN ?_ _ | refine blk_drew ?_ | refine blk_alloc ?_ _)); exact BK621.out) hg (Kd.R_ne HO631.out BK621.out (by decide)))
                         have n2_ := Aside0.mk (blk_grown (g := gb627) (o := .cells #[.int .i64 t623, .int .i64 t624] 68 (0, 0)) (by (with_reducible repeat (first | refine blk_drewN ?_ _ | refine blk_drew ?_ | refine blk_alloc ?_ _)); exact BK627.out) hg (Kd.R_ne HO631.out BK627.out (by decide)))
                         have n3_ := Aside0.mk (hb)
                         have n4_ := Aside0.mk (ho)
                         clear HO_6
                         clear BK621
                         clear BK627
                         clear HB
                         clear HO631
                         have HO_6 := n0_
                         have BK621 := n1_
                         have BK627 := n2_
                         have HB := n3_
                         have HO635 := n4_
                         clear n0_ n1_ n2_ n3_ n4_
                         clear ho hb hg hat
                         obtain ⟨Ao61, co61, eo61⟩ := Kd.R_slice HO635.out
                         (first | subst eo61 | (injection eo61 with f1_ f2_ f3_; have f4_ := f1_.symm; have f5_ := f3_.symm; clear f1_ f2_ f3_; subst f4_; subst f5_))
                         refine hK.out _ _ ⟨((HB.out.cell (World.block_lt_of_cell? w _ hw632_0)).trans hw632_0), ((HB.out.cell (World.block_lt_of_cell? w _ hw632_1)).trans hw632_1), ((HB.out.cell (World.block_lt_of_cell? w _ hw632_2)).trans hw632_2), ((HB.out.cell (World.block_lt_of_cell? w _ hw632_3)).trans hw632_3), ((HB.out.cell (World.block_lt_of_cell? w _ hw632_4)).trans hw632_4)⟩ (fun hHeld => ?_)
                         clear hK K
                         refine norm_ (a' := ?_) ?_ ?_
                         rotate_left
                         ·show Act.put _ (some 106) _ = _
                          simp only [Act.put, List.setIfInBounds_toArray, List.set_cons_zero, List.set_cons_succ, i64_w, i32_w]
                          rfl
                         refine one_ (i := 8) (N := some 107) #[true, true, true, true, true, true, true, true, true, false, false, false, false, false, false, false] rfl rfl (one_of HT_.out (by kernel_rfl)) (by decide) (fun K hK => ?_)
                         refine goes_ Try.func54 (by kernel_rfl) rfl #[.slice Ao61 y633.length co61] (by rfl) rfl rfl (by (try simp only [List.map_toArray, List.map_cons, List.map_nil]); first | done | rfl | (simp only [List.length_drop, List.length_take]; rfl)) ?_
                         with_reducible refine (stamp_Take.calls kj28 _ _ y633 t636 t637 t638 t639 _ ?side1 ?side2 A55.out).mono ?_
                         (case side1 => repeat (first | exact (Kd.R_reads' HO635.out).2.2 | with_reducible first | refine Kd.C_alloc ?_ _ | refine Kd.C_drewN ?_ _ | refine Kd.C_drew ?_))
                         (case side2 => exact (Kd.R_reads' HO635.out).2.1)
                         rintro e w62 ⟨rfl, hb⟩
                         refine ⟨_, rfl, ?_⟩
                         have n0_ := Aside0.mk (Kd.R_below (by (with_reducible repeat (first | apply Kd.R_alloc | apply Kd.R_drewN | apply Kd.R_drew)); exact HO_6.out) hb)
                         have n1_ := Aside0.mk (Kd.R_below (by (with_reducible repeat (first | apply Kd.R_alloc | apply Kd.R_drewN | apply Kd.R_drew)); exact HO635.out) hb)
                         have n2_ := Aside0.mk (blk_below (g := gb621) (o := .cells #[.int .i64 t617, .int .i64 t618] 68 (0, 0)) (by (with_reducible repeat (first | refine blk_drewN ?_ _ | refine blk_drew ?_ | refine blk_alloc ?_ _)); exact BK621.out) hb)
                         have n3_ := Aside0.mk (blk_below (g := gb627) (o := .cells #[.int .i64 t623, .int .i64 t624] 68 (0, 0)) (by (with_reducible repeat (first | refine blk_drewN ?_ _ | refine blk_drew ?_ | refine blk_alloc ?_ _)); exact BK627.out) hb)
                         have n4_ := Aside0.mk (below_step (by repeat (first | (with_reducible first | exact HB.out | apply below_alloc | apply pw_below_drewN | apply below_drew1 | refine below_set ?_ GE621.out | refine below_set ?_ GE627.out) | exact HB.out)) hb)
                         clear HO_6
                         clear HO635
                         clear BK621
                         clear BK627
                         clear HB
                         have HO_6 := n0_
                         have HO635 := n1_
                         have BK621 := n2_
                         have BK627 := n3_
                         have HB := n4_
                         clear n0_ n1_ n2_ n3_ n4_
                         (try clear hb)
                         (try clear hb2)
                         (try clear hk)
                         (try clear hi)
                         refine hK.out _ _ ⟨((HB.out.cell (World.block_lt_of_cell? w _ hw632_0)).trans hw632_0), ((HB.out.cell (World.block_lt_of_cell? w _ hw632_1)).trans hw632_1), ((HB.out.cell (World.block_lt_of_cell? w _ hw632_2)).trans hw632_2), ((HB.out.cell (World.block_lt_of_cell? w _ hw632_3)).trans hw632_3), ((HB.out.cell (World.block_lt_of_cell? w _ hw632_4)).trans hw632_4)⟩ (fun hHeld => ?_)
                         clear hK K
                         refine norm_ (a' := ?_) ?_ ?_
                         rotate_left
                         ·show Act.put _ (some 107) _ = _
                          simp only [Act.put, List.setIfInBounds_toArray, List.set_cons_zero, List.set_cons_succ, i64_w, i32_w]
                          rfl
                         refine pure_ (i := 9) (N := some 98) (v := ?_) (a' := ?_) #[true, true, true, true, true, true, true, true, true, true, false, false, false, false, false, false] rfl rfl (any_of HT_.out (by kernel_rfl)) (fun _ _ _ h => h) (Or.inl ⟨by rfl, ?_⟩) ?_ ?_
                         rotate_left
                         ·intro w'
                          go_simp
                          with_reducible rfl
                         rotate_left
                         ·simp only [Act.put, List.setIfInBounds_toArray, List.set_cons_zero, List.set_cons_succ, i64_w, i32_w]
                          rfl
                         refine pure_ (i := 10) (N := some 108) (v := ?_) (a' := ?_) #[true, true, true, true, true, true, true, true, true, true, true, false, false, false, false, false] rfl rfl (any_of HT_.out (by kernel_rfl)) (fun _ _ _ h => h) (Or.inl ⟨by rfl, ?_⟩) ?_ ?_
                         rotate_left
                         ·intro w'
                          go_simp
                          with_reducible rfl
                         rotate_left
                         ·simp only [Act.put, List.setIfInBounds_toArray, List.set_cons_zero, List.set_cons_succ, i64_w, i32_w]
                          rfl
                         refine pure_ (i := 11) (N := some 109) (v := ?_) (a' := ?_) #[true, true, true, true, true, true, true, true, true, true, true, true, false, false, false, false] rfl rfl (any_of HT_.out (by kernel_rfl)) (fun _ _ _ h => h) (Or.inl ⟨by rfl, ?_⟩) ?_ ?_
                         rotate_left
                         ·intro w'
                          go_simp
                          with_reducible rfl
                         rotate_left
                         ·simp only [Act.put, List.setIfInBounds_toArray, List.set_cons_zero, List.set_cons_succ, i64_w, i32_w]
                          rfl
                         refine pure_ (i := 12) (N := some 110) (v := ?_) (a' := ?_) #[true, true, true, true, true, true, true, true, true, true, true, true, true, false, false, false] rfl rfl (any_of HT_.out (by kernel_rfl)) (fun _ _ _ h => h) (Or.inl ⟨by rfl, ?_⟩) ?_ ?_
                         rotate_left
                         ·intro w'
                          go_simp
                          with_reducible rfl
                         rotate_left
                         ·simp only [Act.put, List.setIfInBounds_toArray, List.set_cons_zero, List.set_cons_succ, i64_w, i32_w]
                          rfl
                         refine one_ (i := 13) (N := none) #[true, true, true, true, true, true, true, true, true, true, true, true, true, true, false, false] rfl rfl (one_of HT_.out (by kernel_rfl)) (by decide) (fun K hK => ?_)
                         have hs63 : w62.cell? ⟨gb621, 0, none⟩ = some (.int .i64 t617) := (blk_cell BK621.out 0).trans rfl
                         have hfs63 := blk_frozen BK621.out 0
                         have hns63_1 := NB627_621.out
                         have hms63_1 := NB621_627.out
                         have hs64 : w62.cell? ⟨gb621, 1, none⟩ = some (.int .i64 t618) := (blk_cell BK621.out 1).trans rfl
                         have hfs64 := blk_frozen BK621.out 1
                         have hns64_1 := NB627_621.out
                         have hms64_1 := NB621_627.out
                         refine skip_ (w1 := ?_) (by rfl) rfl ?_ ?_
                         rotate_left
                         ·go_simp
                          rfl
                         refine hK.out _ _ ⟨((cell_far (p := ⟨gb621, _, none⟩) (by first | exact Nat.ne_of_lt (Nat.lt_of_lt_of_le (by have := World.block_lt_of_cell? _ _ hw632_0; first | rwa [add_block] at this | exact this) GW621.out) | (rw [add_block]; exact Nat.ne_of_lt (Nat.lt_of_lt_of_le (by have := World.block_lt_of_cell? _ _ hw632_0; first | rwa [add_block] at this | exact this) GW621.out)) | (show (Addr.add _ _).block ≠ _; rw [add_block]; exact Nat.ne_of_lt (Nat.lt_of_lt_of_le (by have := World.block_lt_of_cell? _ _ hw632_0; first | rwa [add_block] at this | exact this) GW621.out)) | (dsimp only; exact Nat.ne_of_lt (Nat.lt_of_lt_of_le (by have := World.block_lt_of_cell? _ _ hw632_0; first | rwa [add_block] at this | exact this) GW621.out))) _).trans (((cell_far (p := ⟨gb621, _, none⟩) (by first | exact Nat.ne_of_lt (Nat.lt_of_lt_of_le (by have := World.block_lt_of_cell? _ _ hw632_0; first | rwa [add_block] at this | exact this) GW621.out) | (rw [add_block]; exact Nat.ne_of_lt (Nat.lt_of_lt_of_le (by have := World.block_lt_of_cell? _ _ hw632_0; first | rwa [add_block] at this | exact this) GW621.out)) | (show (Addr.add _ _).block ≠ _; rw [add_block]; exact Nat.ne_of_lt (Nat.lt_of_lt_of_le (by have := World.block_lt_of_cell? _ _ hw632_0; first | rwa [add_block] at this | exact this) GW621.out)) | (dsimp only; exact Nat.ne_of_lt (Nat.lt_of_lt_of_le (by have := World.block_lt_of_cell? _ _ hw632_0; first | rwa [add_block] at this | exact this) GW621.out))) _).trans (hHeld.1)))), ((cell_far (p := ⟨gb621, _, none⟩) (by first | exact Nat.ne_of_lt (Nat.lt_of_lt_of_le (by have := World.block_lt_of_cell? _ _ hw632_1; first | rwa [add_block] at this | exact this) GW621.out) | (rw [add_block]; exact Nat.ne_of_lt (Nat.lt_of_lt_of_le (by have := World.block_lt_of_cell? _ _ hw632_1; first | rwa [add_block] at this | exact this) GW621.out)) | (show (Addr.add _ _).block ≠ _; rw [add_block]; exact Nat.ne_of_lt (Nat.lt_of_lt_of_le (by have := World.block_lt_of_cell? _ _ hw632_1; first | rwa [add_block] at this | exact this) GW621.out)) | (dsimp only; exact Nat.ne_of_lt (Nat.lt_of_lt_of_le (by have := World.block_lt_of_cell? _ _ hw632_1; first | rwa [add_block] at this | exact this) GW621.out))) _).trans (((cell_far (p := ⟨gb621, _, none⟩) (by first | exact Nat.ne_of_lt (Nat.lt_of_lt_of_le (by have := World.block_lt_of_cell? _ _ hw632_1; first | rwa [add_block] at this | exact this) GW621.out) | (rw [add_block]; exact Nat.ne_of_lt (Nat.lt_of_lt_of_le (by have := World.block_lt_of_cell? _ _ hw632_1; first | rwa [add_block] at this | exact this) GW621.out)) | (show (Addr.add _ _).block ≠ _; rw [add_block]; exact Nat.ne_of_lt (Nat.lt_of_lt_of_le (by have := World.block_lt_of_cell? _ _ hw632_1; first | rwa [add_block] at this | exact this) GW621.out)) | (dsimp only; exact Nat.ne_of_lt (Nat.lt_of_lt_of_le (by have := World.block_lt_of_cell? _ _ hw632_1; first | rwa [add_block] at this | exact this) GW621.out))) _).trans (hHeld.2.1)))), ((cell_far (p := ⟨gb621, _, none⟩) (by first | exact Nat.ne_of_lt (Nat.lt_of_lt_of_le (by have := World.block_lt_of_cell? _ _ hw632_2; first | rwa [add_block] at this | exact this) GW621.out) | (rw [add_block]; exact Nat.ne_of_lt (Nat.lt_of_lt_of_le (by have := World.block_lt_of_cell? _ _ hw632_2; first | rwa [add_block] at this | exact this) GW621.out)) | (show (Addr.add _ _).block ≠ _; rw [add_block]; exact Nat.ne_of_lt (Nat.lt_of_lt_of_le (by have := World.block_lt_of_cell? _ _ hw632_2; first | rwa [add_block] at this | exact this) GW621.out)) | (dsimp only; exact Nat.ne_of_lt (Nat.lt_of_lt_of_le (by have := World.block_lt_of_cell? _ _ hw632_2; first | rwa [add_block] at this | exact this) GW621.out))) _).trans (((cell_far (p := ⟨gb621, _, none⟩) (by first | exact Nat.ne_of_lt (Nat.lt_of_lt_of_le (by have := World.block_lt_of_cell? _ _ hw632_2; first | rwa [add_block] at this | exact this) GW621.out) | (rw [add_block]; exact Nat.ne_of_lt (Nat.lt_of_lt_of_le (by have := World.block_lt_of_cell? _ _ hw632_2; first | rwa [add_block] at this | exact this) GW621.out)) | (show (Addr.add _ _).block ≠ _; rw [add_block]; exact Nat.ne_of_lt (Nat.lt_of_lt_of_le (by have := World.block_lt_of_cell? _ _ hw632_2; first | rwa [add_block] at this | exact this) GW621.out)) | (dsimp only; exact Nat.ne_of_lt (Nat.lt_of_lt_of_le (by have := World.block_lt_of_cell? _ _ hw632_2; first | rwa [add_block] at this | exact this) GW621.out))) _).trans (hHeld.2.2.1)))), ((cell_far (p := ⟨gb621, _, none⟩) (by first | exact Nat.ne_of_lt (Nat.lt_of_lt_of_le (by have := World.block_lt_of_cell? _ _ hw632_3; first | rwa [add_block] at this | exact this) GW621.out) | (rw [add_block]; exact Nat.ne_of_lt (Nat.lt_of_lt_of_le (by have := World.block_lt_of_cell? _ _ hw632_3; first | rwa [add_block] at this | exact this) GW621.out)) | (show (Addr.add _ _).block ≠ _; rw [add_block]; exact Nat.ne_of_lt (Nat.lt_of_lt_of_le (by have := World.block_lt_of_cell? _ _ hw632_3; first | rwa [add_block] at this | exact this) GW621.out)) | (dsimp only; exact Nat.ne_of_lt (Nat.lt_of_lt_of_le (by have := World.block_lt_of_cell? _ _ hw632_3; first | rwa [add_block] at this | exact this) GW621.out))) _).trans (((cell_far (p := ⟨gb621, _, none⟩) (by first | exact Nat.ne_of_lt (Nat.lt_of_lt_of_le (by have := World.block_lt_of_cell? _ _ hw632_3; first | rwa [add_block] at this | exact this) GW621.out) | (rw [add_block]; exact Nat.ne_of_lt (Nat.lt_of_lt_of_le (by have := World.block_lt_of_cell? _ _ hw632_3; first | rwa [add_block] at this | exact this) GW621.out)) | (show (Addr.add _ _).block ≠ _; rw [add_block]; exact Nat.ne_of_lt (Nat.lt_of_lt_of_le (by have := World.block_lt_of_cell? _ _ hw632_3; first | rwa [add_block] at this | exact this) GW621.out)) | (dsimp only; exact Nat.ne_of_lt (Nat.lt_of_lt_of_le (by have := World.block_lt_of_cell? _ _ hw632_3; first | rwa [add_block] at this | exact this) GW621.out))) _).trans (hHeld.2.2.2.1)))), ((cell_far (p := ⟨gb621, _, none⟩) (by first | exact Nat.ne_of_lt (Nat.lt_of_lt_of_le (by have := World.block_lt_of_cell? _ _ hw632_4; first | rwa [add_block] at this | exact this) GW621.out) | (rw [add_block]; exact Nat.ne_of_lt (Nat.lt_of_lt_of_le (by have := World.block_lt_of_cell? _ _ hw632_4; first | rwa [add_block] at this | exact this) GW621.out)) | (show (Addr.add _ _).block ≠ _; rw [add_block]; exact Nat.ne_of_lt (Nat.lt_of_lt_of_le (by have := World.block_lt_of_cell? _ _ hw632_4; first | rwa [add_block] at this | exact this) GW621.out)) | (dsimp only; exact Nat.ne_of_lt (Nat.lt_of_lt_of_le (by have := World.block_lt_of_cell? _ _ hw632_4; first | rwa [add_block] at this | exact this) GW621.out))) _).trans (((cell_far (p := ⟨gb621, _, none⟩) (by first | exact Nat.ne_of_lt (Nat.lt_of_lt_of_le (by have := World.block_lt_of_cell? _ _ hw632_4; first | rwa [add_block] at this | exact this) GW621.out) | (rw [add_block]; exact Nat.ne_of_lt (Nat.lt_of_lt_of_le (by have := World.block_lt_of_cell? _ _ hw632_4; first | rwa [add_block] at this | exact this) GW621.out)) | (show (Addr.add _ _).block ≠ _; rw [add_block]; exact Nat.ne_of_lt (Nat.lt_of_lt_of_le (by have := World.block_lt_of_cell? _ _ hw632_4; first | rwa [add_block] at this | exact this) GW621.out)) | (dsimp only; exact Nat.ne_of_lt (Nat.lt_of_lt_of_le (by have := World.block_lt_of_cell? _ _ hw632_4; first | rwa [add_block] at this | exact this) GW621.out))) _).trans (hHeld.2.2.2.2))))⟩ (fun hHeld => ?_)
                         clear hK K
                         refine pure_ (i := 14) (N := some 9) (v := ?_) (a' := ?_) #[true, true, true, true, true, true, true, true, true, true, true, true, true, true, true, false] rfl rfl (any_of HT_.out (by kernel_rfl)) (fun _ _ _ h => h) (Or.inl ⟨by rfl, ?_⟩) ?_ ?_
                         rotate_left
                         ·intro w'
                          go_simp
                          with_reducible rfl
                         rotate_left
                         ·simp only [Act.put, List.setIfInBounds_toArray, List.set_cons_zero, List.set_cons_succ, i64_w, i32_w]
                          rfl
                         refine pure_ (i := 15) (N := some 10) (v := ?_) (a' := ?_) #[true, true, true, true, true, true, true, true, true, true, true, true, true, true, true, true] rfl rfl (any_of HT_.out (by kernel_rfl)) (fun _ _ _ h => h) (Or.inl ⟨by rfl, ?_⟩) ?_ ?_
                         rotate_left
                         ·intro w'
                          go_simp
                          with_reducible rfl
                         rotate_left
                         ·simp only [Act.put, List.setIfInBounds_toArray, List.set_cons_zero, List.set_cons_succ, i64_w, i32_w]
                          rfl
                         refine done_ (done_of HT_.out (by kernel_rfl)) ?_
                         go_upto_region 18 with (fail)
                         go_cut [128] (fun v128 wc => ∃ (kq : Nat) (x128_55 : Bool), v128 = .bool x128_55 ∧ Aside0 (arraslaw6_StampBytes.j5 kq l0 x3_1 x128_55 = some r) ∧ Aside0 (kq ≤ kj28) ∧ Aside0 (wc.heap[gb621]? = some (.cells #[.int .i64 t636, .int .i64 t637] 68 (0, 0))) ∧ Aside0 (wc.heap[gb627]? = some (.cells #[.int .i64 t623, .int .i64 t624] 68 (0, 0))) ∧ Aside0 (Below w.heap.size w wc))
                         case first =>
                          have H := HC56.out
                          clear HC56
                          replace H := Option.bind_eq_some_iff.mp H
                          obtain ⟨t640, A650, H⟩ := H
                          (try dsimp only at H)
                          have A65 := Aside0.mk A650
                          clear A650
                          by_cases c66 : t640 = 0
                          ·rw [if_pos c66] at H
                           have c66b0 : (t640 == 0) = true := beq_iff_eq.mpr c66
                           have c66b1 : (t640 != 0) = false := bne_eq_false_iff_eq.mpr c66
                           clear c66
                           (first | rw [c66b0] | (simp only [i64_w, i32_w]; rw [c66b0]) | skip)
                           by_cases c67 : (!(t636 == ((rd_T70 l0 x3_1).f0.f0)) || (!(t637 == ((rd_T70 l0 x3_1).f0.f1)))) = true
                           ·rw [if_pos c67] at H
                            have c67b0 : (!(t636 == ((rd_T70 l0 x3_1).f0.f0)) || (!(t637 == ((rd_T70 l0 x3_1).f0.f1)))) = true := c67
                            clear c67
                            as_aux_lemma =>
                             have H' := Aside0.mk H
                             clear H
                             try go_wp2
                             have n0_ : Aside0 (Kd.R (Kd.int .u8) 5 ((w62.setCell ⟨gb621, 0, none⟩ (.int .i64 t636)).setCell ⟨gb621, 1, none⟩ (.int .i64 t637)) w.heap.size (fun k_ => some k_ ≠ (.slice Ao61 y633.length co61 : Value).ownBlock) (.slice Ao58 t610.length co58) t610) := ⟨by (with_reducible repeat (first | apply Kd.R_alloc | apply Kd.R_drewN | apply Kd.R_drew)); exact Kd.R_mono (Kd.R_far (p := ⟨gb621, 1, none⟩) (Kd.R_far (p := ⟨gb621, 0, none⟩) (Kd.R_types HO_6.out BK621.out (by decide)) (fun _ hk => hk.2) (.int .i64 t636)) (fun _ hk => hk.2) (.int .i64 t637)) (fun _ hk => (by first | exact hk.1.2 | simp_all))⟩
                             have n1_ : Aside0 (Kd.R (Kd.int .u8) 5 ((w62.setCell ⟨gb621, 0, none⟩ (.int .i64 t636)).setCell ⟨gb621, 1, none⟩ (.int .i64 t637)) w.heap.size (fun k_ => some k_ ≠ (.slice Ao58 t610.length co58 : Value).ownBlock) (.slice Ao61 y633.length co61) y633) := ⟨by (with_reducible repeat (first | apply Kd.R_alloc | apply Kd.R_drewN | apply Kd.R_drew)); exact Kd.R_mono (Kd.R_far (p := ⟨gb621, 1, none⟩) (Kd.R_far (p := ⟨gb621, 0, none⟩) (Kd.R_types HO635.out BK621.out (by decide)) (fun _ hk => hk.2) (.int .i64 t636)) (fun _ hk => hk.2) (.int .i64 t637)) (fun _ hk => (by first | exact hk.1 | simp_all))⟩
                             have n2_ : Aside0 (((w62.setCell ⟨gb621, 0, none⟩ (.int .i64 t636)).setCell ⟨gb621, 1, none⟩ (.int .i64 t637)).heap[gb621]? = some (.cells #[.int .i64 t636, .int .i64 t637] 68 (0, 0))) := ⟨by (with_reducible repeat (first | refine blk_drewN ?_ _ | refine blk_drew ?_ | refine blk_alloc ?_ _)); refine blk_put (cs := #[.int .i64 t636, .int .i64 t618]) ?_ 1 _ rfl; (with_reducible repeat (first | refine blk_drewN ?_ _ | refine blk_drew ?_ | refine blk_alloc ?_ _)); refine blk_put (cs := #[.int .i64 t617, .int .i64 t618]) ?_ 0 _ rfl; (with_reducible repeat (first | refine blk_drewN ?_ _ | refine blk_drew ?_ | refine blk_alloc ?_ _)); exact BK621.out⟩
                             have n3_ : Aside0 (((w62.setCell ⟨gb621, 0, none⟩ (.int .i64 t636)).setCell ⟨gb621, 1, none⟩ (.int .i64 t637)).heap[gb627]? = some (.cells #[.int .i64 t623, .int .i64 t624] 68 (0, 0))) := ⟨by (with_reducible repeat (first | refine blk_drewN ?_ _ | refine blk_drew ?_ | refine blk_alloc ?_ _)); refine blk_far ?_ NB627_621.out _; (with_reducible repeat (first | refine blk_drewN ?_ _ | refine blk_drew ?_ | refine blk_alloc ?_ _)); refine blk_far ?_ NB627_621.out _; (with_reducible repeat (first | refine blk_drewN ?_ _ | refine blk_drew ?_ | refine blk_alloc ?_ _)); exact BK627.out⟩
                             have n4_ : Aside0 (Below w.heap.size w ((w62.setCell ⟨gb621, 0, none⟩ (.int .i64 t636)).setCell ⟨gb621, 1, none⟩ (.int .i64 t637))) := ⟨by repeat (first | (with_reducible first | exact HB.out | apply below_alloc | apply pw_below_drewN | apply below_drew1 | refine below_set ?_ GE621.out | refine below_set ?_ GE627.out) | exact HB.out)⟩
                             (try clear HO_6)
                             (try clear HO635)
                             (try clear BK621)
                             (try clear BK627)
                             (try clear HB)
                             generalize ((w62.setCell ⟨gb621, 0, none⟩ (.int .i64 t636)).setCell ⟨gb621, 1, none⟩ (.int .i64 t637)) = w68 at n0_ n1_ n2_ n3_ n4_ ⊢
                             have HO_6 := n0_
                             have HO635 := n1_
                             have BK621 := n2_
                             have BK627 := n3_
                             have HB := n4_
                             clear n0_ n1_ n2_ n3_ n4_
                             have n0_ := Aside0.mk (Kd.R_drew HO_6.out)
                             have n1_ := Aside0.mk (Kd.R_drew HO635.out)
                             have n2_ := Aside0.mk (blk_drew BK621.out)
                             have n3_ := Aside0.mk (blk_drew BK627.out)
                             have n4_ := Aside0.mk (below_drew1 HB.out)
                             clear HO_6
                             clear HO635
                             clear BK621
                             clear BK627
                             clear HB
                             have HO_6 := n0_
                             have HO635 := n1_
                             have BK621 := n2_
                             have BK627 := n3_
                             have HB := n4_
                             clear n0_ n1_ n2_ n3_ n4_
                             have p641 : 0 ≤ (x3_1 : Int) := of_decide_eq_true (by first | (with_reducible assumption) | assumption)
                             have q641 : x3_1 < (l0.length : Int) := of_decide_eq_true (by first | (with_reducible assumption) | assumption)
                             obtain ⟨ad641, A641_4, c641_4, e641, hx641_0, hx641_1, hx641_2, hx641_3, hx641_4, hl641_4, hi641_4⟩ := at_T70 HR0.out x3_1 p641 q641
                             have hw641_4 := hx641_4
                             have hw641_3 := hx641_3
                             have hw641_2 := hx641_2
                             have hw641_1 := hx641_1
                             have hw641_0 := hx641_0
                             obtain rfl : ad602 = ad641 := (by injection e641)
                             replace hx641_0 := (HB.out.cell (World.block_lt_of_cell? w _ hx641_0)).trans hx641_0
                             replace hx641_1 := (HB.out.cell (World.block_lt_of_cell? w _ hx641_1)).trans hx641_1
                             replace hx641_2 := (HB.out.cell (World.block_lt_of_cell? w _ hx641_2)).trans hx641_2
                             replace hx641_3 := (HB.out.cell (World.block_lt_of_cell? w _ hx641_3)).trans hx641_3
                             replace hx641_4 := (HB.out.cell (World.block_lt_of_cell? w _ hx641_4)).trans hx641_4
                             have HR641_4 := Aside0.mk hi641_4
                             have HC641_4 := Aside0.mk hl641_4
                             clear hi641_4 hl641_4
                             replace p641 := eq_true p641
                             replace q641 := eq_true q641
                             refine start_ (n := 18) (S := fun w' => w'.cell? ⟨gb621, 0, none⟩ = some (.int .i64 t636) ∧ w'.cell? ⟨gb621, 1, none⟩ = some (.int .i64 t637) ∧ w'.cell? (ad602.add ((x3_1).toNat * 5)) = some (.int .i64 ((rd_T70 l0 x3_1).f0.f0)) ∧ w'.cell? ⟨(ad602.add ((x3_1).toNat * 5)).block, (ad602.add ((x3_1).toNat * 5)).off + 1, none⟩ = some (.int .i64 ((rd_T70 l0 x3_1).f0.f1)) ∧ w'.cell? ⟨(ad602.add ((x3_1).toNat * 5)).block, (ad602.add ((x3_1).toNat * 5)).off + 2, none⟩ = some (.int .i64 ((rd_T70 l0 x3_1).f1.f0)) ∧ w'.cell? ⟨(ad602.add ((x3_1).toNat * 5)).block, (ad602.add ((x3_1).toNat * 5)).off + 3, none⟩ = some (.int .i64 ((rd_T70 l0 x3_1).f1.f1)) ∧ w'.cell? ⟨(ad602.add ((x3_1).toNat * 5)).block, (ad602.add ((x3_1).toNat * 5)).off + 4, none⟩ = some (.slice A641_4 ((rd_T70 l0 x3_1).f2).length c641_4)) (ds := []) #[false, false, false, false, false, false, false, false, false, false, false, false, false, false, false, false, false, false] (by kernel_rfl) rfl rfl ⟨(blk_cell BK621.out 0).trans rfl, (blk_cell BK621.out 1).trans rfl, ((HB.out.cell (World.block_lt_of_cell? w _ hw641_0)).trans hw641_0), ((HB.out.cell (World.block_lt_of_cell? w _ hw641_1)).trans hw641_1), ((HB.out.cell (World.block_lt_of_cell? w _ hw641_2)).trans hw641_2), ((HB.out.cell (World.block_lt_of_cell? w _ hw641_3)).trans hw641_3), ((HB.out.cell (World.block_lt_of_cell? w _ hw641_4)).trans hw641_4)⟩ (fun hHeld => ?_); refine with_tabW arraslaw6_StampBytes.tab18 arraslaw6_StampBytes.bits18 (fun HT_ HW_ => ?_)
                             generalize w68.drew = w69 at HO_6 HO635 BK621 BK627 HB HR641_4 hx641_0 hx641_1 hx641_2 hx641_3 hx641_4 hHeld ⊢
                             refine pure_ (i := 0) (N := some 111) (v := ?_) (a' := ?_) #[true, false, false, false, false, false, false, false, false, false, false, false, false, false, false, false, false, false] rfl rfl (any_of HT_.out (by kernel_rfl)) (fun _ _ _ h => h) (Or.inl ⟨by rfl, ?_⟩) ?_ ?_
                             rotate_left
                             ·intro w'
                              go_simp
                              with_reducible rfl
                             rotate_left
                             ·simp only [Act.put, List.setIfInBounds_toArray, List.set_cons_zero, List.set_cons_succ, i64_w, i32_w]
                              rfl
                             refine one_ (i := 1) (N := some 112) #[true, true, false, false, false, false, false, false, false, false, false, false, false, false, false, false, false, false] rfl rfl (one_of HT_.out (by kernel_rfl)) (by decide) (fun K hK => ?_)
                             refine goes_ Try.func44 (by kernel_rfl) rfl #[.int .i64 t639] (by rfl) rfl rfl (by (try simp only [List.map_toArray, List.map_cons, List.map_nil]); first | done | rfl | (simp only [List.length_drop, List.length_take]; rfl)) ?_
                             with_reducible refine (arraslaw6_num.calls t639 t640 _ A65.out).mono ?_
                             rintro e w' ⟨rfl, ⟨nd, rfl⟩⟩
                             refine ⟨_, rfl, ?_⟩
                             refine hK.out _ _ ⟨(blk_cell BK621.out 0).trans rfl, (blk_cell BK621.out 1).trans rfl, ((HB.out.cell (World.block_lt_of_cell? w _ hw641_0)).trans hw641_0), ((HB.out.cell (World.block_lt_of_cell? w _ hw641_1)).trans hw641_1), ((HB.out.cell (World.block_lt_of_cell? w _ hw641_2)).trans hw641_2), ((HB.out.cell (World.block_lt_of_cell? w _ hw641_3)).trans hw641_3), ((HB.out.cell (World.block_lt_of_cell? w _ hw641_4)).trans hw641_4)⟩ (fun hHeld => ?_)
                             clear hK K
                             refine norm_ (a' := ?_) ?_ ?_
                             rotate_left
                             ·show Act.put _ (some 112) _ = _
                              simp only [Act.put, List.setIfInBounds_toArray, List.set_cons_zero, List.set_cons_succ, i64_w, i32_w]
                              rfl
                             refine pure_ (i := 2) (N := some 113) (v := ?_) (a' := ?_) #[true, true, true, false, false, false, false, false, false, false, false, false, false, false, false, false, false, false] rfl rfl (any_of HT_.out (by kernel_rfl)) (fun _ _ _ h => h) (Or.inl ⟨by rfl, ?_⟩) ?_ ?_
                             rotate_left
                             ·intro w'
                              go_simp
                              with_reducible rfl
                             rotate_left
                             ·simp only [Act.put, List.setIfInBounds_toArray, List.set_cons_zero, List.set_cons_succ, i64_w, i32_w]
                              rfl
                             refine pure_ (i := 3) (N := some 114) (v := ?_) (a' := ?_) #[true, true, true, true, false, false, false, false, false, false, false, false, false, false, false, false, false, false] rfl rfl (any_of HT_.out (by kernel_rfl)) (fun _ _ _ h => h) (Or.inl ⟨by rfl, ?_⟩) ?_ ?_
                             rotate_left
                             ·intro w'
                              go_simp
                              with_reducible rfl
                             rotate_left
                             ·simp only [Act.put, List.setIfInBounds_toArray, List.set_cons_zero, List.set_cons_succ, i64_w, i32_w]
                              rfl
                             refine pure_ (i := 5) (N := some 116) (v := ?_) (a' := ?_) #[true, true, true, true, false, true, false, false, false, false, false, false, false, false, false, false, false, false] rfl rfl (any_of HT_.out (by kernel_rfl)) (fun _ _ _ h => h) (Or.inl ⟨by rfl, ?_⟩) ?_ ?_
                             rotate_left
                             ·intro w'
                              go_simp
                              with_reducible rfl
                             rotate_left
                             ·simp only [Act.put, List.setIfInBounds_toArray, List.set_cons_zero, List.set_cons_succ, i64_w, i32_w]
                              rfl
                             refine pure_ (i := 6) (N := some 117) (v := ?_) (a' := ?_) #[true, true, true, true, false, true, true, false, false, false, false, false, false, false, false, false, false, false] rfl rfl (any_of HT_.out (by kernel_rfl)) (fun _ _ _ h => h) (Or.inl ⟨by rfl, ?_⟩) ?_ ?_
                             rotate_left
                             ·intro w'
                              go_simp
                              with_reducible rfl
                             rotate_left
                             ·simp only [Act.put, List.setIfInBounds_toArray, List.set_cons_zero, List.set_cons_succ, i64_w, i32_w]
                              rfl
                             refine pure_ (i := 7) (N := some 118) (v := ?_) (a' := ?_) #[true, true, true, true, false, true, true, true, false, false, false, false, false, false, false, false, false, false] rfl rfl (any_of HT_.out (by kernel_rfl)) (fun _ _ _ h => h) (Or.inl ⟨by rfl, ?_⟩) ?_ ?_
                             rotate_left
                             ·intro w'
                              go_simp
                              with_reducible rfl
                             rotate_left
                             ·simp only [Act.put, List.setIfInBounds_toArray, List.set_cons_zero, List.set_cons_succ, i64_w, i32_w]
                              rfl
                             refine pure_ (i := 8) (N := some 119) (v := ?_) (a' := ?_) #[true, true, true, true, false, true, true, true, true, false, false, false, false, false, false, false, false, false] rfl rfl (any_of HT_.out (by kernel_rfl)) (fun _ _ _ h => h) (Or.inl ⟨by rfl, ?_⟩) ?_ ?_
                             rotate_left
                             ·intro w'
                              go_simp
                              with_reducible rfl
                             rotate_left
                             ·simp only [Act.put, List.setIfInBounds_toArray, List.set_cons_zero, List.set_cons_succ, i64_w, i32_w]
                              rfl
                             refine take_ (i := 4) (N := some 115) (v := ?_) (a' := ?_) #[true, true, true, true, true, true, true, true, true, false, false, false, false, false, false, false, false, false] rfl rfl (take_ofW HT_.out HW_.out (by kernel_rfl)) (fun _ _ _ h => h) (Or.inl ⟨by rfl, ?_⟩) hHeld ?_ ?_
                             rotate_left
                             ·rintro w' ⟨s0, s1, s2, s3, s4, s5, s6⟩
                              go_simp
                              with_reducible rfl
                             rotate_left
                             ·simp only [Act.put, List.setIfInBounds_toArray, List.set_cons_zero, List.set_cons_succ, i64_w, i32_w]
                              rfl
                             refine take_ (i := 9) (N := some 120) (v := ?_) (a' := ?_) #[true, true, true, true, true, true, true, true, true, true, false, false, false, false, false, false, false, false] rfl rfl (take_ofW HT_.out HW_.out (by kernel_rfl)) (fun _ _ _ h => h) (Or.inl ⟨by rfl, ?_⟩) hHeld ?_ ?_
                             rotate_left
                             ·rintro w' ⟨s0, s1, s2, s3, s4, s5, s6⟩
                              go_simp
                              with_reducible rfl
                             rotate_left
                             ·simp only [Act.put, List.setIfInBounds_toArray, List.set_cons_zero, List.set_cons_succ, i64_w, i32_w]
                              rfl
                             refine pure_ (i := 10) (N := some 121) (v := ?_) (a' := ?_) #[true, true, true, true, true, true, true, true, true, true, true, false, false, false, false, false, false, false] rfl rfl (any_of HT_.out (by kernel_rfl)) (fun _ _ _ h => h) (Or.inl ⟨by rfl, ?_⟩) ?_ ?_
                             rotate_left
                             ·intro w'
                              go_simp
                              with_reducible rfl
                             rotate_left
                             ·simp only [Act.put, List.setIfInBounds_toArray, List.set_cons_zero, List.set_cons_succ, i64_w, i32_w]
                              rfl
                             refine pure_ (i := 11) (N := some 122) (v := ?_) (a' := ?_) #[true, true, true, true, true, true, true, true, true, true, true, true, false, false, false, false, false, false] rfl rfl (any_of HT_.out (by kernel_rfl)) (fun _ _ _ h => h) (Or.inl ⟨by rfl, ?_⟩) ?_ ?_
                             rotate_left
                             ·intro w'
                              go_simp
                              with_reducible rfl
                             rotate_left
                             ·simp only [Act.put, List.setIfInBounds_toArray, List.set_cons_zero, List.set_cons_succ, i64_w, i32_w]
                              rfl
                             refine pure_ (i := 12) (N := some 123) (v := ?_) (a' := ?_) #[true, true, true, true, true, true, true, true, true, true, true, true, true, false, false, false, false, false] rfl rfl (any_of HT_.out (by kernel_rfl)) (fun _ _ _ h => h) (Or.inl ⟨by rfl, ?_⟩) ?_ ?_
                             rotate_left
                             ·intro w'
                              go_simp
                              with_reducible rfl
                             rotate_left
                             ·simp only [Act.put, List.setIfInBounds_toArray, List.set_cons_zero, List.set_cons_succ, i64_w, i32_w]
                              rfl
                             refine pure_ (i := 13) (N := some 124) (v := undef) (a' := ?_) #[true, true, true, true, true, true, true, true, true, true, true, true, true, true, false, false, false, false] rfl rfl (any_of HT_.out (by kernel_rfl)) (fun _ _ _ h => h) (Or.inr ⟨by rfl, rfl⟩) ?_ ?_
                             rotate_left
                             ·simp only [Act.put, List.setIfInBounds_toArray, List.set_cons_zero, List.set_cons_succ, i64_w, i32_w]
                              rfl
                             refine pure_ (i := 14) (N := some 125) (v := undef) (a' := ?_) #[true, true, true, true, true, true, true, true, true, true, true, true, true, true, true, false, false, false] rfl rfl (any_of HT_.out (by kernel_rfl)) (fun _ _ _ h => h) (Or.inr ⟨by rfl, rfl⟩) ?_ ?_
                             rotate_left
                             ·simp only [Act.put, List.setIfInBounds_toArray, List.set_cons_zero, List.set_cons_succ, i64_w, i32_w]
                              rfl
                             refine pure_ (i := 15) (N := some 126) (v := undef) (a' := ?_) #[true, true, true, true, true, true, true, true, true, true, true, true, true, true, true, true, false, false] rfl rfl (any_of HT_.out (by kernel_rfl)) (fun _ _ _ h => h) (Or.inr ⟨by rfl, rfl⟩) ?_ ?_
                             rotate_left
                             ·simp only [Act.put, List.setIfInBounds_toArray, List.set_cons_zero, List.set_cons_succ, i64_w, i32_w]
                              rfl
                             refine pure_ (i := 16) (N := some 127) (v := undef) (a' := ?_) #[true, true, true, true, true, true, true, true, true, true, true, true, true, true, true, true, true, false] rfl rfl (any_of HT_.out (by kernel_rfl)) (fun _ _ _ h => h) (Or.inr ⟨by rfl, rfl⟩) ?_ ?_
                             rotate_left
                             ·simp only [Act.put, List.setIfInBounds_toArray, List.set_cons_zero, List.set_cons_succ, i64_w, i32_w]
                              rfl
                             refine pure_ (i := 17) (N := some 128) (v := ?_) (a' := ?_) #[true, true, true, true, true, true, true, true, true, true, true, true, true, true, true, true, true, true] rfl rfl (any_of HT_.out (by kernel_rfl)) (fun _ _ _ h => h) (Or.inl ⟨by rfl, ?_⟩) ?_ ?_
                             rotate_left
                             ·intro w'
                              go_simp
                              with_reducible rfl
                             rotate_left
                             ·simp only [Act.put, List.setIfInBounds_toArray, List.set_cons_zero, List.set_cons_succ, i64_w, i32_w]
                              rfl
                             refine done_ (done_of HT_.out (by kernel_rfl)) ?_
                             try go_wp2
                             go_meet
                             case rel => exact ⟨_, (true), (by first | rfl | (simp; done) | (simp [*]; done)), H', ⟨by have := HK1.out; have := HJ1.out; have := HJ8.out; have := HJ16.out; have := HJ28.out; first | omega | exact Nat.le_refl _⟩, ⟨by (with_reducible repeat (first | refine blk_drewN ?_ _ | refine blk_drew ?_ | refine blk_alloc ?_ _)); exact BK621.out⟩, ⟨by (with_reducible repeat (first | refine blk_drewN ?_ _ | refine blk_drew ?_ | refine blk_alloc ?_ _)); exact BK627.out⟩, ⟨by repeat (first | (with_reducible first | exact HB.out | apply below_alloc | apply pw_below_drewN | apply below_drew1 | refine below_set ?_ GE621.out | refine below_set ?_ GE627.out) | exact HB.out)⟩⟩
                           ·rw [if_neg c67] at H
                            have c67b0 : (!(t636 == ((rd_T70 l0 x3_1).f0.f0)) || (!(t637 == ((rd_T70 l0 x3_1).f0.f1)))) = false := by simpa using c67
                            clear c67
                            as_aux_lemma =>
                             have H' := Aside0.mk H
                             clear H
                             try go_wp2
                             have n0_ : Aside0 (Kd.R (Kd.int .u8) 5 ((w62.setCell ⟨gb621, 0, none⟩ (.int .i64 t636)).setCell ⟨gb621, 1, none⟩ (.int .i64 t637)) w.heap.size (fun k_ => some k_ ≠ (.slice Ao61 y633.length co61 : Value).ownBlock) (.slice Ao58 t610.length co58) t610) := ⟨by (with_reducible repeat (first | apply Kd.R_alloc | apply Kd.R_drewN | apply Kd.R_drew)); exact Kd.R_mono (Kd.R_far (p := ⟨gb621, 1, none⟩) (Kd.R_far (p := ⟨gb621, 0, none⟩) (Kd.R_types HO_6.out BK621.out (by decide)) (fun _ hk => hk.2) (.int .i64 t636)) (fun _ hk => hk.2) (.int .i64 t637)) (fun _ hk => (by first | exact hk.1.2 | simp_all))⟩
                             have n1_ : Aside0 (Kd.R (Kd.int .u8) 5 ((w62.setCell ⟨gb621, 0, none⟩ (.int .i64 t636)).setCell ⟨gb621, 1, none⟩ (.int .i64 t637)) w.heap.size (fun k_ => some k_ ≠ (.slice Ao58 t610.length co58 : Value).ownBlock) (.slice Ao61 y633.length co61) y633) := ⟨by (with_reducible repeat (first | apply Kd.R_alloc | apply Kd.R_drewN | apply Kd.R_drew)); exact Kd.R_mono (Kd.R_far (p := ⟨gb621, 1, none⟩) (Kd.R_far (p := ⟨gb621, 0, none⟩) (Kd.R_types HO635.out BK621.out (by decide)) (fun _ hk => hk.2) (.int .i64 t636)) (fun _ hk => hk.2) (.int .i64 t637)) (fun _ hk => (by first | exact hk.1 | simp_all))⟩
                             have n2_ : Aside0 (((w62.setCell ⟨gb621, 0, none⟩ (.int .i64 t636)).setCell ⟨gb621, 1, none⟩ (.int .i64 t637)).heap[gb621]? = some (.cells #[.int .i64 t636, .int .i64 t637] 68 (0, 0))) := ⟨by (with_reducible repeat (first | refine blk_drewN ?_ _ | refine blk_drew ?_ | refine blk_alloc ?_ _)); refine blk_put (cs := #[.int .i64 t636, .int .i64 t618]) ?_ 1 _ rfl; (with_reducible repeat (first | refine blk_drewN ?_ _ | refine blk_drew ?_ | refine blk_alloc ?_ _)); refine blk_put (cs := #[.int .i64 t617, .int .i64 t618]) ?_ 0 _ rfl; (with_reducible repeat (first | refine blk_drewN ?_ _ | refine blk_drew ?_ | refine blk_alloc ?_ _)); exact BK621.out⟩
                             have n3_ : Aside0 (((w62.setCell ⟨gb621, 0, none⟩ (.int .i64 t636)).setCell ⟨gb621, 1, none⟩ (.int .i64 t637)).heap[gb627]? = some (.cells #[.int .i64 t623, .int .i64 t624] 68 (0, 0))) := ⟨by (with_reducible repeat (first | refine blk_drewN ?_ _ | refine blk_drew ?_ | refine blk_alloc ?_ _)); refine blk_far ?_ NB627_621.out _; (with_reducible repeat (first | refine blk_drewN ?_ _ | refine blk_drew ?_ | refine blk_alloc ?_ _)); refine blk_far ?_ NB627_621.out _; (with_reducible repeat (first | refine blk_drewN ?_ _ | refine blk_drew ?_ | refine blk_alloc ?_ _)); exact BK627.out⟩
                             have n4_ : Aside0 (Below w.heap.size w ((w62.setCell ⟨gb621, 0, none⟩ (.int .i64 t636)).setCell ⟨gb621, 1, none⟩ (.int .i64 t637))) := ⟨by repeat (first | (with_reducible first | exact HB.out | apply below_alloc | apply pw_below_drewN | apply below_drew1 | refine below_set ?_ GE621.out | refine below_set ?_ GE627.out) | exact HB.out)⟩
                             (try clear HO_6)
                             (try clear HO635)
                             (try clear BK621)
                             (try clear BK627)
                             (try clear HB)
                             generalize ((w62.setCell ⟨gb621, 0, none⟩ (.int .i64 t636)).setCell ⟨gb621, 1, none⟩ (.int .i64 t637)) = w70 at n0_ n1_ n2_ n3_ n4_ ⊢
                             have HO_6 := n0_
                             have HO635 := n1_
                             have BK621 := n2_
                             have BK627 := n3_
                             have HB := n4_
                             clear n0_ n1_ n2_ n3_ n4_
                             have n0_ := Aside0.mk (Kd.R_drew HO_6.out)
                             have n1_ := Aside0.mk (Kd.R_drew HO635.out)
                             have n2_ := Aside0.mk (blk_drew BK621.out)
                             have n3_ := Aside0.mk (blk_drew BK627.out)
                             have n4_ := Aside0.mk (below_drew1 HB.out)
                             clear HO_6
                             clear HO635
                             clear BK621
                             clear BK627
                             clear HB
                             have HO_6 := n0_
                             have HO635 := n1_
                             have BK621 := n2_
                             have BK627 := n3_
                             have HB := n4_
                             clear n0_ n1_ n2_ n3_ n4_
                             have p641 : 0 ≤ (x3_1 : Int) := of_decide_eq_true (by first | (with_reducible assumption) | assumption)
                             have q641 : x3_1 < (l0.length : Int) := of_decide_eq_true (by first | (with_reducible assumption) | assumption)
                             obtain ⟨ad641, A641_4, c641_4, e641, hx641_0, hx641_1, hx641_2, hx641_3, hx641_4, hl641_4, hi641_4⟩ := at_T70 HR0.out x3_1 p641 q641
                             have hw641_4 := hx641_4
                             have hw641_3 := hx641_3
                             have hw641_2 := hx641_2
                             have hw641_1 := hx641_1
                             have hw641_0 := hx641_0
                             obtain rfl : ad602 = ad641 := (by injection e641)
                             replace hx641_0 := (HB.out.cell (World.block_lt_of_cell? w _ hx641_0)).trans hx641_0
                             replace hx641_1 := (HB.out.cell (World.block_lt_of_cell? w _ hx641_1)).trans hx641_1
                             replace hx641_2 := (HB.out.cell (World.block_lt_of_cell? w _ hx641_2)).trans hx641_2
                             replace hx641_3 := (HB.out.cell (World.block_lt_of_cell? w _ hx641_3)).trans hx641_3
                             replace hx641_4 := (HB.out.cell (World.block_lt_of_cell? w _ hx641_4)).trans hx641_4
                             have HR641_4 := Aside0.mk hi641_4
                             have HC641_4 := Aside0.mk hl641_4
                             clear hi641_4 hl641_4
                             replace p641 := eq_true p641
                             replace q641 := eq_true q641
                             refine start_ (n := 18) (S := fun w' => w'.cell? ⟨gb621, 0, none⟩ = some (.int .i64 t636) ∧ w'.cell? ⟨gb621, 1, none⟩ = some (.int .i64 t637) ∧ w'.cell? (ad602.add ((x3_1).toNat * 5)) = some (.int .i64 ((rd_T70 l0 x3_1).f0.f0)) ∧ w'.cell? ⟨(ad602.add ((x3_1).toNat * 5)).block, (ad602.add ((x3_1).toNat * 5)).off + 1, none⟩ = some (.int .i64 ((rd_T70 l0 x3_1).f0.f1)) ∧ w'.cell? ⟨(ad602.add ((x3_1).toNat * 5)).block, (ad602.add ((x3_1).toNat * 5)).off + 2, none⟩ = some (.int .i64 ((rd_T70 l0 x3_1).f1.f0)) ∧ w'.cell? ⟨(ad602.add ((x3_1).toNat * 5)).block, (ad602.add ((x3_1).toNat * 5)).off + 3, none⟩ = some (.int .i64 ((rd_T70 l0 x3_1).f1.f1)) ∧ w'.cell? ⟨(ad602.add ((x3_1).toNat * 5)).block, (ad602.add ((x3_1).toNat * 5)).off + 4, none⟩ = some (.slice A641_4 ((rd_T70 l0 x3_1).f2).length c641_4)) (ds := []) #[false, false, false, false, false, false, false, false, false, false, false, false, false, false, false, false, false, false] (by kernel_rfl) rfl rfl ⟨(blk_cell BK621.out 0).trans rfl, (blk_cell BK621.out 1).trans rfl, ((HB.out.cell (World.block_lt_of_cell? w _ hw641_0)).trans hw641_0), ((HB.out.cell (World.block_lt_of_cell? w _ hw641_1)).trans hw641_1), ((HB.out.cell (World.block_lt_of_cell? w _ hw641_2)).trans hw641_2), ((HB.out.cell (World.block_lt_of_cell? w _ hw641_3)).trans hw641_3), ((HB.out.cell (World.block_lt_of_cell? w _ hw641_4)).trans hw641_4)⟩ (fun hHeld => ?_); refine with_tabW arraslaw6_StampBytes.tab18 arraslaw6_StampBytes.bits18 (fun HT_ HW_ => ?_)
                             generalize w70.drew = w71 at HO_6 HO635 BK621 BK627 HB HR641_4 hx641_0 hx641_1 hx641_2 hx641_3 hx641_4 hHeld ⊢
                             refine pure_ (i := 0) (N := some 111) (v := ?_) (a' := ?_) #[true, false, false, false, false, false, false, false, false, false, false, false, false, false, false, false, false, false] rfl rfl (any_of HT_.out (by kernel_rfl)) (fun _ _ _ h => h) (Or.inl ⟨by rfl, ?_⟩) ?_ ?_
                             rotate_left
                             ·intro w'
                              go_simp
                              with_reducible rfl
                             rotate_left
                             ·simp only [Act.put, List.setIfInBounds_toArray, List.set_cons_zero, List.set_cons_succ, i64_w, i32_w]
                              rfl
                             refine one_ (i := 1) (N := some 112) #[true, true, false, false, false, false, false, false, false, false, false, false, false, false, false, false, false, false] rfl rfl (one_of HT_.out (by kernel_rfl)) (by decide) (fun K hK => ?_)
                             refine goes_ Try.func44 (by kernel_rfl) rfl #[.int .i64 t639] (by rfl) rfl rfl (by (try simp only [List.map_toArray, List.map_cons, List.map_nil]); first | done | rfl | (simp only [List.length_drop, List.length_take]; rfl)) ?_
                             with_reducible refine (arraslaw6_num.calls t639 t640 _ A65.out).mono ?_
                             rintro e w' ⟨rfl, ⟨nd, rfl⟩⟩
                             refine ⟨_, rfl, ?_⟩
                             refine hK.out _ _ ⟨(blk_cell BK621.out 0).trans rfl, (blk_cell BK621.out 1).trans rfl, ((HB.out.cell (World.block_lt_of_cell? w _ hw641_0)).trans hw641_0), ((HB.out.cell (World.block_lt_of_cell? w _ hw641_1)).trans hw641_1), ((HB.out.cell (World.block_lt_of_cell? w _ hw641_2)).trans hw641_2), ((HB.out.cell (World.block_lt_of_cell? w _ hw641_3)).trans hw641_3), ((HB.out.cell (World.block_lt_of_cell? w _ hw641_4)).trans hw641_4)⟩ (fun hHeld => ?_)
                             clear hK K
                             refine norm_ (a' := ?_) ?_ ?_
                             rotate_left
                             ·show Act.put _ (some 112) _ = _
                              simp only [Act.put, List.setIfInBounds_toArray, List.set_cons_zero, List.set_cons_succ, i64_w, i32_w]
                              rfl
                             refine pure_ (i := 2) (N := some 113) (v := ?_) (a' := ?_) #[true, true, true, false, false, false, false, false, false, false, false, false, false, false, false, false, false, false] rfl rfl (any_of HT_.out (by kernel_rfl)) (fun _ _ _ h => h) (Or.inl ⟨by rfl, ?_⟩) ?_ ?_
                             rotate_left
                             ·intro w'
                              go_simp
                              with_reducible rfl
                             rotate_left
                             ·simp only [Act.put, List.setIfInBounds_toArray, List.set_cons_zero, List.set_cons_succ, i64_w, i32_w]
                              rfl
                             refine pure_ (i := 3) (N := some 114) (v := ?_) (a' := ?_) #[true, true, true, true, false, false, false, false, false, false, false, false, false, false, false, false, false, false] rfl rfl (any_of HT_.out (by kernel_rfl)) (fun _ _ _ h => h) (Or.inl ⟨by rfl, ?_⟩) ?_ ?_
                             rotate_left
                             ·intro w'
                              go_simp
                              with_reducible rfl
                             rotate_left
                             ·simp only [Act.put, List.setIfInBounds_toArray, List.set_cons_zero, List.set_cons_succ, i64_w, i32_w]
                              rfl
                             refine pure_ (i := 5) (N := some 116) (v := ?_) (a' := ?_) #[true, true, true, true, false, true, false, false, false, false, false, false, false, false, false, false, false, false] rfl rfl (any_of HT_.out (by kernel_rfl)) (fun _ _ _ h => h) (Or.inl ⟨by rfl, ?_⟩) ?_ ?_
                             rotate_left
                             ·intro w'
                              go_simp
                              with_reducible rfl
                             rotate_left
                             ·simp only [Act.put, List.setIfInBounds_toArray, List.set_cons_zero, List.set_cons_succ, i64_w, i32_w]
                              rfl
                             refine pure_ (i := 6) (N := some 117) (v := ?_) (a' := ?_) #[true, true, true, true, false, true, true, false, false, false, false, false, false, false, false, false, false, false] rfl rfl (any_of HT_.out (by kernel_rfl)) (fun _ _ _ h => h) (Or.inl ⟨by rfl, ?_⟩) ?_ ?_
                             rotate_left
                             ·intro w'
                              go_simp
                              with_reducible rfl
                             rotate_left
                             ·simp only [Act.put, List.setIfInBounds_toArray, List.set_cons_zero, List.set_cons_succ, i64_w, i32_w]
                              rfl
                             refine pure_ (i := 7) (N := some 118) (v := ?_) (a' := ?_) #[true, true, true, true, false, true, true, true, false, false, false, false, false, false, false, false, false, false] rfl rfl (any_of HT_.out (by kernel_rfl)) (fun _ _ _ h => h) (Or.inl ⟨by rfl, ?_⟩) ?_ ?_
                             rotate_left
                             ·intro w'
                              go_simp
                              with_reducible rfl
                             rotate_left
                             ·simp only [Act.put, List.setIfInBounds_toArray, List.set_cons_zero, List.set_cons_succ, i64_w, i32_w]
                              rfl
                             refine pure_ (i := 8) (N := some 119) (v := ?_) (a' := ?_) #[true, true, true, true, false, true, true, true, true, false, false, false, false, false, false, false, false, false] rfl rfl (any_of HT_.out (by kernel_rfl)) (fun _ _ _ h => h) (Or.inl ⟨by rfl, ?_⟩) ?_ ?_
                             rotate_left
                             ·intro w'
                              go_simp
                              with_reducible rfl
                             rotate_left
                             ·simp only [Act.put, List.setIfInBounds_toArray, List.set_cons_zero, List.set_cons_succ, i64_w, i32_w]
                              rfl
                             refine take_ (i := 4) (N := some 115) (v := ?_) (a' := ?_) #[true, true, true, true, true, true, true, true, true, false, false, false, false, false, false, false, false, false] rfl rfl (take_ofW HT_.out HW_.out (by kernel_rfl)) (fun _ _ _ h => h) (Or.inl ⟨by rfl, ?_⟩) hHeld ?_ ?_
                             rotate_left
                             ·rintro w' ⟨s0, s1, s2, s3, s4, s5, s6⟩
                              go_simp
                              with_reducible rfl
                             rotate_left
                             ·simp only [Act.put, List.setIfInBounds_toArray, List.set_cons_zero, List.set_cons_succ, i64_w, i32_w]
                              rfl
                             refine take_ (i := 9) (N := some 120) (v := ?_) (a' := ?_) #[true, true, true, true, true, true, true, true, true, true, false, false, false, false, false, false, false, false] rfl rfl (take_ofW HT_.out HW_.out (by kernel_rfl)) (fun _ _ _ h => h) (Or.inl ⟨by rfl, ?_⟩) hHeld ?_ ?_
                             rotate_left
                             ·rintro w' ⟨s0, s1, s2, s3, s4, s5, s6⟩
                              go_simp
                              with_reducible rfl
                             rotate_left
                             ·simp only [Act.put, List.setIfInBounds_toArray, List.set_cons_zero, List.set_cons_succ, i64_w, i32_w]
                              rfl
                             refine pure_ (i := 10) (N := some 121) (v := ?_) (a' := ?_) #[true, true, true, true, true, true, true, true, true, true, true, false, false, false, false, false, false, false] rfl rfl (any_of HT_.out (by kernel_rfl)) (fun _ _ _ h => h) (Or.inl ⟨by rfl, ?_⟩) ?_ ?_
                             rotate_left
                             ·intro w'
                              go_simp
                              with_reducible rfl
                             rotate_left
                             ·simp only [Act.put, List.setIfInBounds_toArray, List.set_cons_zero, List.set_cons_succ, i64_w, i32_w]
                              rfl
                             refine pure_ (i := 11) (N := some 122) (v := ?_) (a' := ?_) #[true, true, true, true, true, true, true, true, true, true, true, true, false, false, false, false, false, false] rfl rfl (any_of HT_.out (by kernel_rfl)) (fun _ _ _ h => h) (Or.inl ⟨by rfl, ?_⟩) ?_ ?_
                             rotate_left
                             ·intro w'
                              go_simp
                              with_reducible rfl
                             rotate_left
                             ·simp only [Act.put, List.setIfInBounds_toArray, List.set_cons_zero, List.set_cons_succ, i64_w, i32_w]
                              rfl
                             refine pure_ (i := 12) (N := some 123) (v := ?_) (a' := ?_) #[true, true, true, true, true, true, true, true, true, true, true, true, true, false, false, false, false, false] rfl rfl (any_of HT_.out (by kernel_rfl)) (fun _ _ _ h => h) (Or.inl ⟨by rfl, ?_⟩) ?_ ?_
                             rotate_left
                             ·intro w'
                              go_simp
                              with_reducible rfl
                             rotate_left
                             ·simp only [Act.put, List.setIfInBounds_toArray, List.set_cons_zero, List.set_cons_succ, i64_w, i32_w]
                              rfl
                             refine pure_ (i := 13) (N := some 124) (v := ?_) (a' := ?_) #[true, true, true, true, true, true, true, true, true, true, true, true, true, true, false, false, false, false] rfl rfl (any_of HT_.out (by kernel_rfl)) (fun _ _ _ h => h) (Or.inl ⟨by rfl, ?_⟩) ?_ ?_
                             rotate_left
                             ·intro w'
                              go_simp
                              with_reducible rfl
                             rotate_left
                             ·simp only [Act.put, List.setIfInBounds_toArray, List.set_cons_zero, List.set_cons_succ, i64_w, i32_w]
                              rfl
                             refine pure_ (i := 14) (N := some 125) (v := ?_) (a' := ?_) #[true, true, true, true, true, true, true, true, true, true, true, true, true, true, true, false, false, false] rfl rfl (any_of HT_.out (by kernel_rfl)) (fun _ _ _ h => h) (Or.inl ⟨by rfl, ?_⟩) ?_ ?_
                             rotate_left
                             ·intro w'
                              go_simp
                              with_reducible rfl
                             rotate_left
                             ·simp only [Act.put, List.setIfInBounds_toArray, List.set_cons_zero, List.set_cons_succ, i64_w, i32_w]
                              rfl
                             refine pure_ (i := 15) (N := some 126) (v := ?_) (a' := ?_) #[true, true, true, true, true, true, true, true, true, true, true, true, true, true, true, true, false, false] rfl rfl (any_of HT_.out (by kernel_rfl)) (fun _ _ _ h => h) (Or.inl ⟨by rfl, ?_⟩) ?_ ?_
                             rotate_left
                             ·intro w'
                              go_simp
                              with_reducible rfl
                             rotate_left
                             ·simp only [Act.put, List.setIfInBounds_toArray, List.set_cons_zero, List.set_cons_succ, i64_w, i32_w]
                              rfl
                             refine pure_ (i := 16) (N := some 127) (v := ?_) (a' := ?_) #[true, true, true, true, true, true, true, true, true, true, true, true, true, true, true, true, true, false] rfl rfl (any_of HT_.out (by kernel_rfl)) (fun _ _ _ h => h) (Or.inl ⟨by rfl, ?_⟩) ?_ ?_
                             rotate_left
                             ·intro w'
                              go_simp
                              with_reducible rfl
                             rotate_left
                             ·simp only [Act.put, List.setIfInBounds_toArray, List.set_cons_zero, List.set_cons_succ, i64_w, i32_w]
                              rfl
                             refine pure_ (i := 17) (N := some 128) (v := ?_) (a' := ?_) #[true, true, true, true, true, true, true, true, true, true, true, true, true, true, true, true, true, true] rfl rfl (any_of HT_.out (by kernel_rfl)) (fun _ _ _ h => h) (Or.inl ⟨by rfl, ?_⟩) ?_ ?_
                             rotate_left
                             ·intro w'
                              go_simp
                              with_reducible rfl
                             rotate_left
                             ·simp only [Act.put, List.setIfInBounds_toArray, List.set_cons_zero, List.set_cons_succ, i64_w, i32_w]
                              rfl
                             refine done_ (done_of HT_.out (by kernel_rfl)) ?_
                             try go_wp2
                             go_meet
                             case rel => exact ⟨_, ((t638 != (t610.length : Int))), (by first | rfl | (simp; done) | (simp [*]; done)), H', ⟨by have := HK1.out; have := HJ1.out; have := HJ8.out; have := HJ16.out; have := HJ28.out; first | omega | exact Nat.le_refl _⟩, ⟨by (with_reducible repeat (first | refine blk_drewN ?_ _ | refine blk_drew ?_ | refine blk_alloc ?_ _)); exact BK621.out⟩, ⟨by (with_reducible repeat (first | refine blk_drewN ?_ _ | refine blk_drew ?_ | refine blk_alloc ?_ _)); exact BK627.out⟩, ⟨by repeat (first | (with_reducible first | exact HB.out | apply below_alloc | apply pw_below_drewN | apply below_drew1 | refine below_set ?_ GE621.out | refine below_set ?_ GE627.out) | exact HB.out)⟩⟩
                          ·rw [if_neg c66] at H
                           have c66b0 : (t640 == 0) = false := beq_eq_false_iff_ne.mpr c66
                           have c66b1 : (t640 != 0) = true := bne_iff_ne.mpr c66
                           (first | rw [c66b0] | (simp only [i64_w, i32_w]; rw [c66b0]) | skip)
                           as_aux_lemma =>
                            have H' := Aside0.mk H
                            clear H
                            try go_wp2
                            have n0_ : Aside0 (Kd.R (Kd.int .u8) 5 ((w62.setCell ⟨gb621, 0, none⟩ (.int .i64 t636)).setCell ⟨gb621, 1, none⟩ (.int .i64 t637)) w.heap.size (fun k_ => some k_ ≠ (.slice Ao61 y633.length co61 : Value).ownBlock) (.slice Ao58 t610.length co58) t610) := ⟨by (with_reducible repeat (first | apply Kd.R_alloc | apply Kd.R_drewN | apply Kd.R_drew)); exact Kd.R_mono (Kd.R_far (p := ⟨gb621, 1, none⟩) (Kd.R_far (p := ⟨gb621, 0, none⟩) (Kd.R_types HO_6.out BK621.out (by decide)) (fun _ hk => hk.2) (.int .i64 t636)) (fun _ hk => hk.2) (.int .i64 t637)) (fun _ hk => (by first | exact hk.1.2 | simp_all))⟩
                            have n1_ : Aside0 (Kd.R (Kd.int .u8) 5 ((w62.setCell ⟨gb621, 0, none⟩ (.int .i64 t636)).setCell ⟨gb621, 1, none⟩ (.int .i64 t637)) w.heap.size (fun k_ => some k_ ≠ (.slice Ao58 t610.length co58 : Value).ownBlock) (.slice Ao61 y633.length co61) y633) := ⟨by (with_reducible repeat (first | apply Kd.R_alloc | apply Kd.R_drewN | apply Kd.R_drew)); exact Kd.R_mono (Kd.R_far (p := ⟨gb621, 1, none⟩) (Kd.R_far (p := ⟨gb621, 0, none⟩) (Kd.R_types HO635.out BK621.out (by decide)) (fun _ hk => hk.2) (.int .i64 t636)) (fun _ hk => hk.2) (.int .i64 t637)) (fun _ hk => (by first | exact hk.1 | simp_all))⟩
                            have n2_ : Aside0 (((w62.setCell ⟨gb621, 0, none⟩ (.int .i64 t636)).setCell ⟨gb621, 1, none⟩ (.int .i64 t637)).heap[gb621]? = some (.cells #[.int .i64 t636, .int .i64 t637] 68 (0, 0))) := ⟨by (with_reducible repeat (first | refine blk_drewN ?_ _ | refine blk_drew ?_ | refine blk_alloc ?_ _)); refine blk_put (cs := #[.int .i64 t636, .int .i64 t618]) ?_ 1 _ rfl; (with_reducible repeat (first | refine blk_drewN ?_ _ | refine blk_drew ?_ | refine blk_alloc ?_ _)); refine blk_put (cs := #[.int .i64 t617, .int .i64 t618]) ?_ 0 _ rfl; (with_reducible repeat (first | refine blk_drewN ?_ _ | refine blk_drew ?_ | refine blk_alloc ?_ _)); exact BK621.out⟩
                            have n3_ : Aside0 (((w62.setCell ⟨gb621, 0, none⟩ (.int .i64 t636)).setCell ⟨gb621, 1, none⟩ (.int .i64 t637)).heap[gb627]? = some (.cells #[.int .i64 t623, .int .i64 t624] 68 (0, 0))) := ⟨by (with_reducible repeat (first | refine blk_drewN ?_ _ | refine blk_drew ?_ | refine blk_alloc ?_ _)); refine blk_far ?_ NB627_621.out _; (with_reducible repeat (first | refine blk_drewN ?_ _ | refine blk_drew ?_ | refine blk_alloc ?_ _)); refine blk_far ?_ NB627_621.out _; (with_reducible repeat (first | refine blk_drewN ?_ _ | refine blk_drew ?_ | refine blk_alloc ?_ _)); exact BK627.out⟩
                            have n4_ : Aside0 (Below w.heap.size w ((w62.setCell ⟨gb621, 0, none⟩ (.int .i64 t636)).setCell ⟨gb621, 1, none⟩ (.int .i64 t637))) := ⟨by repeat (first | (with_reducible first | exact HB.out | apply below_alloc | apply pw_below_drewN | apply below_drew1 | refine below_set ?_ GE621.out | refine below_set ?_ GE627.out) | exact HB.out)⟩
                            (try clear HO_6)
                            (try clear HO635)
                            (try clear BK621)
                            (try clear BK627)
                            (try clear HB)
                            generalize ((w62.setCell ⟨gb621, 0, none⟩ (.int .i64 t636)).setCell ⟨gb621, 1, none⟩ (.int .i64 t637)) = w72 at n0_ n1_ n2_ n3_ n4_ ⊢
                            have HO_6 := n0_
                            have HO635 := n1_
                            have BK621 := n2_
                            have BK627 := n3_
                            have HB := n4_
                            clear n0_ n1_ n2_ n3_ n4_
                            have n0_ := Aside0.mk (Kd.R_drew HO_6.out)
                            have n1_ := Aside0.mk (Kd.R_drew HO635.out)
                            have n2_ := Aside0.mk (blk_drew BK621.out)
                            have n3_ := Aside0.mk (blk_drew BK627.out)
                            have n4_ := Aside0.mk (below_drew1 HB.out)
                            clear HO_6
                            clear HO635
                            clear BK621
                            clear BK627
                            clear HB
                            have HO_6 := n0_
                            have HO635 := n1_
                            have BK621 := n2_
                            have BK627 := n3_
                            have HB := n4_
                            clear n0_ n1_ n2_ n3_ n4_
                            refine start_ (n := 18) (S := fun w' => True) (ds := []) #[false, false, false, false, false, false, false, false, false, false, false, false, false, false, false, false, false, false] (by kernel_rfl) rfl rfl trivial (fun hHeld => ?_); refine with_tabW arraslaw6_StampBytes.tab18 arraslaw6_StampBytes.bits18 (fun HT_ HW_ => ?_)
                            generalize w72.drew = w73 at HO_6 HO635 BK621 BK627 HB hHeld ⊢
                            refine pure_ (i := 0) (N := some 111) (v := ?_) (a' := ?_) #[true, false, false, false, false, false, false, false, false, false, false, false, false, false, false, false, false, false] rfl rfl (any_of HT_.out (by kernel_rfl)) (fun _ _ _ h => h) (Or.inl ⟨by rfl, ?_⟩) ?_ ?_
                            rotate_left
                            ·intro w'
                             go_simp
                             with_reducible rfl
                            rotate_left
                            ·simp only [Act.put, List.setIfInBounds_toArray, List.set_cons_zero, List.set_cons_succ, i64_w, i32_w]
                             rfl
                            refine one_ (i := 1) (N := some 112) #[true, true, false, false, false, false, false, false, false, false, false, false, false, false, false, false, false, false] rfl rfl (one_of HT_.out (by kernel_rfl)) (by decide) (fun K hK => ?_)
                            refine goes_ Try.func44 (by kernel_rfl) rfl #[.int .i64 t639] (by rfl) rfl rfl (by (try simp only [List.map_toArray, List.map_cons, List.map_nil]); first | done | rfl | (simp only [List.length_drop, List.length_take]; rfl)) ?_
                            with_reducible refine (arraslaw6_num.calls t639 t640 _ A65.out).mono ?_
                            rintro e w' ⟨rfl, ⟨nd, rfl⟩⟩
                            refine ⟨_, rfl, ?_⟩
                            refine hK.out _ _ trivial (fun hHeld => ?_)
                            clear hK K
                            refine norm_ (a' := ?_) ?_ ?_
                            rotate_left
                            ·show Act.put _ (some 112) _ = _
                             simp only [Act.put, List.setIfInBounds_toArray, List.set_cons_zero, List.set_cons_succ, i64_w, i32_w]
                             rfl
                            refine pure_ (i := 2) (N := some 113) (v := ?_) (a' := ?_) #[true, true, true, false, false, false, false, false, false, false, false, false, false, false, false, false, false, false] rfl rfl (any_of HT_.out (by kernel_rfl)) (fun _ _ _ h => h) (Or.inl ⟨by rfl, ?_⟩) ?_ ?_
                            rotate_left
                            ·intro w'
                             go_simp
                             with_reducible rfl
                            rotate_left
                            ·simp only [Act.put, List.setIfInBounds_toArray, List.set_cons_zero, List.set_cons_succ, i64_w, i32_w]
                             rfl
                            refine pure_ (i := 3) (N := some 114) (v := ?_) (a' := ?_) #[true, true, true, true, false, false, false, false, false, false, false, false, false, false, false, false, false, false] rfl rfl (any_of HT_.out (by kernel_rfl)) (fun _ _ _ h => h) (Or.inl ⟨by rfl, ?_⟩) ?_ ?_
                            rotate_left
                            ·intro w'
                             go_simp
                             with_reducible rfl
                            rotate_left
                            ·simp only [Act.put, List.setIfInBounds_toArray, List.set_cons_zero, List.set_cons_succ, i64_w, i32_w]
                             rfl
                            refine pure_ (i := 4) (N := some 115) (v := undef) (a' := ?_) #[true, true, true, true, true, false, false, false, false, false, false, false, false, false, false, false, false, false] rfl rfl (any_of HT_.out (by kernel_rfl)) (fun _ _ _ h => h) (Or.inr ⟨by rfl, rfl⟩) ?_ ?_
                            rotate_left
                            ·simp only [Act.put, List.setIfInBounds_toArray, List.set_cons_zero, List.set_cons_succ, i64_w, i32_w]
                             rfl
                            refine pure_ (i := 5) (N := some 116) (v := undef) (a' := ?_) #[true, true, true, true, true, true, false, false, false, false, false, false, false, false, false, false, false, false] rfl rfl (any_of HT_.out (by kernel_rfl)) (fun _ _ _ h => h) (Or.inr ⟨by rfl, rfl⟩) ?_ ?_
                            rotate_left
                            ·simp only [Act.put, List.setIfInBounds_toArray, List.set_cons_zero, List.set_cons_succ, i64_w, i32_w]
                             rfl
                            refine pure_ (i := 6) (N := some 117) (v := undef) (a' := ?_) #[true, true, true, true, true, true, true, false, false, false, false, false, false, false, false, false, false, false] rfl rfl (any_of HT_.out (by kernel_rfl)) (fun _ _ _ h => h) (Or.inr ⟨by rfl, rfl⟩) ?_ ?_
                            rotate_left
                            ·simp only [Act.put, List.setIfInBounds_toArray, List.set_cons_zero, List.set_cons_succ, i64_w, i32_w]
                             rfl
                            refine pure_ (i := 7) (N := some 118) (v := undef) (a' := ?_) #[true, true, true, true, true, true, true, true, false, false, false, false, false, false, false, false, false, false] rfl rfl (any_of HT_.out (by kernel_rfl)) (fun _ _ _ h => h) (Or.inr ⟨by rfl, rfl⟩) ?_ ?_
                            rotate_left
                            ·simp only [Act.put, List.setIfInBounds_toArray, List.set_cons_zero, List.set_cons_succ, i64_w, i32_w]
                             rfl
                            refine pure_ (i := 8) (N := some 119) (v := undef) (a' := ?_) #[true, true, true, true, true, true, true, true, true, false, false, false, false, false, false, false, false, false] rfl rfl (any_of HT_.out (by kernel_rfl)) (fun _ _ _ h => h) (Or.inr ⟨by rfl, rfl⟩) ?_ ?_
                            rotate_left
                            ·simp only [Act.put, List.setIfInBounds_toArray, List.set_cons_zero, List.set_cons_succ, i64_w, i32_w]
                             rfl
                            refine pure_ (i := 9) (N := some 120) (v := undef) (a' := ?_) #[true, true, true, true, true, true, true, true, true, true, false, false, false, false, false, false, false, false] rfl rfl (any_of HT_.out (by kernel_rfl)) (fun _ _ _ h => h) (Or.inr ⟨by rfl, rfl⟩) ?_ ?_
                            rotate_left
                            ·simp only [Act.put, List.setIfInBounds_toArray, List.set_cons_zero, List.set_cons_succ, i64_w, i32_w]
                             rfl
                            refine pure_ (i := 10) (N := some 121) (v := undef) (a' := ?_) #[true, true, true, true, true, true, true, true, true, true, true, false, false, false, false, false, false, false] rfl rfl (any_of HT_.out (by kernel_rfl)) (fun _ _ _ h => h) (Or.inr ⟨by rfl, rfl⟩) ?_ ?_
                            rotate_left
                            ·simp only [Act.put, List.setIfInBounds_toArray, List.set_cons_zero, List.set_cons_succ, i64_w, i32_w]
                             rfl
                            refine pure_ (i := 11) (N := some 122) (v := ?_) (a' := ?_) #[true, true, true, true, true, true, true, true, true, true, true, true, false, false, false, false, false, false] rfl rfl (any_of HT_.out (by kernel_rfl)) (fun _ _ _ h => h) (Or.inl ⟨by rfl, ?_⟩) ?_ ?_
                            rotate_left
                            ·intro w'
                             go_simp
                             with_reducible rfl
                            rotate_left
                            ·simp only [Act.put, List.setIfInBounds_toArray, List.set_cons_zero, List.set_cons_succ, i64_w, i32_w]
                             rfl
                            refine pure_ (i := 12) (N := some 123) (v := ?_) (a' := ?_) #[true, true, true, true, true, true, true, true, true, true, true, true, true, false, false, false, false, false] rfl rfl (any_of HT_.out (by kernel_rfl)) (fun _ _ _ h => h) (Or.inl ⟨by rfl, ?_⟩) ?_ ?_
                            rotate_left
                            ·intro w'
                             go_simp
                             with_reducible rfl
                            rotate_left
                            ·simp only [Act.put, List.setIfInBounds_toArray, List.set_cons_zero, List.set_cons_succ, i64_w, i32_w]
                             rfl
                            refine pure_ (i := 13) (N := some 124) (v := undef) (a' := ?_) #[true, true, true, true, true, true, true, true, true, true, true, true, true, true, false, false, false, false] rfl rfl (any_of HT_.out (by kernel_rfl)) (fun _ _ _ h => h) (Or.inr ⟨by rfl, rfl⟩) ?_ ?_
                            rotate_left
                            ·simp only [Act.put, List.setIfInBounds_toArray, List.set_cons_zero, List.set_cons_succ, i64_w, i32_w]
                             rfl
                            refine pure_ (i := 14) (N := some 125) (v := undef) (a' := ?_) #[true, true, true, true, true, true, true, true, true, true, true, true, true, true, true, false, false, false] rfl rfl (any_of HT_.out (by kernel_rfl)) (fun _ _ _ h => h) (Or.inr ⟨by rfl, rfl⟩) ?_ ?_
                            rotate_left
                            ·simp only [Act.put, List.setIfInBounds_toArray, List.set_cons_zero, List.set_cons_succ, i64_w, i32_w]
                             rfl
                            refine pure_ (i := 15) (N := some 126) (v := undef) (a' := ?_) #[true, true, true, true, true, true, true, true, true, true, true, true, true, true, true, true, false, false] rfl rfl (any_of HT_.out (by kernel_rfl)) (fun _ _ _ h => h) (Or.inr ⟨by rfl, rfl⟩) ?_ ?_
                            rotate_left
                            ·simp only [Act.put, List.setIfInBounds_toArray, List.set_cons_zero, List.set_cons_succ, i64_w, i32_w]
                             rfl
                            refine pure_ (i := 16) (N := some 127) (v := undef) (a' := ?_) #[true, true, true, true, true, true, true, true, true, true, true, true, true, true, true, true, true, false] rfl rfl (any_of HT_.out (by kernel_rfl)) (fun _ _ _ h => h) (Or.inr ⟨by rfl, rfl⟩) ?_ ?_
                            rotate_left
                            ·simp only [Act.put, List.setIfInBounds_toArray, List.set_cons_zero, List.set_cons_succ, i64_w, i32_w]
                             rfl
                            refine pure_ (i := 17) (N := some 128) (v := ?_) (a' := ?_) #[true, true, true, true, true, true, true, true, true, true, true, true, true, true, true, true, true, true] rfl rfl (any_of HT_.out (by kernel_rfl)) (fun _ _ _ h => h) (Or.inl ⟨by rfl, ?_⟩) ?_ ?_
                            rotate_left
                            ·intro w'
                             go_simp
                             with_reducible rfl
                            rotate_left
                            ·simp only [Act.put, List.setIfInBounds_toArray, List.set_cons_zero, List.set_cons_succ, i64_w, i32_w]
                             rfl
                            refine done_ (done_of HT_.out (by kernel_rfl)) ?_
                            try go_wp2
                            go_meet
                            case rel => exact ⟨_, (true), (by first | rfl | (simp; done) | (simp [*]; done)), H', ⟨by have := HK1.out; have := HJ1.out; have := HJ8.out; have := HJ16.out; have := HJ28.out; first | omega | exact Nat.le_refl _⟩, ⟨by (with_reducible repeat (first | refine blk_drewN ?_ _ | refine blk_drew ?_ | refine blk_alloc ?_ _)); exact BK621.out⟩, ⟨by (with_reducible repeat (first | refine blk_drewN ?_ _ | refine blk_drew ?_ | refine blk_alloc ?_ _)); exact BK627.out⟩, ⟨by repeat (first | (with_reducible first | exact HB.out | apply below_alloc | apply pw_below_drewN | apply below_drew1 | refine below_set ?_ GE621.out | refine below_set ?_ GE627.out) | exact HB.out)⟩⟩
                         case rest =>
                          clear HC56
                          (try clear p2); (try clear c4); (try clear c6); (try clear p6); (try clear q6); (try clear hx6); (try clear c44); (try clear c64); (try clear p64); (try clear q64); (try clear hx64); (try clear c66); (try clear c66b0); (try clear c66b1); (try clear c67); (try clear c67b0); (try clear hx641_0); (try clear hx641_1); (try clear hx641_2); (try clear hx641_3); (try clear hx641_4); (try clear p641); (try clear q641)
                          obtain ⟨kq, x128_55, rfl, HA, HJ55, BK621, BK627, HB⟩ := hcut
                          cases kq with
                          | zero => exact absurd HA.out (by simp [arraslaw6_StampBytes.j5])
                          | succ kj55 =>
                           have H := HA.out
                           clear HA
                           simp only [arraslaw6_StampBytes.j5] at H
                           by_cases c74 : x128_55 = true
                           ·subst c74
                            have H1 : (some false) = some r := by rw [if_pos rfl] at H; exact H
                            clear H
                            have H := H1
                            clear H1
                            as_aux_lemma =>
                             obtain rfl := Option.some.inj H
                             go_wp2
                             go_ret
                             exact ⟨by first | rfl | (simp [errW_none, errW_some] <;> rfl) | (simp [*, errW_none, errW_some] <;> rfl), by repeat (first | (with_reducible first | exact HB.out | apply below_alloc | apply pw_below_drewN | apply below_drew1 | refine below_set ?_ GE621.out | refine below_set ?_ GE627.out) | exact HB.out)⟩
                           ·replace c74 := Bool.eq_false_iff.mpr c74
                            subst c74
                            have H1 : (arraslaw6_StampBytes.l0 kj55 l0 (wrap64 (x3_1 + 1))) = some r := by rw [if_neg (show ¬ (false = true) by decide)] at H; exact H
                            clear H
                            have H := H1
                            clear H1
                            as_aux_lemma =>
                             have H' := Aside0.mk H
                             clear H
                             go_wp2
                             go_roundg kj55
                             case measure => have := HK1.out; have := HJ1.out; have := HJ8.out; have := HJ16.out; have := HJ28.out; have := HJ55.out; omega
                             case rel => exact ⟨(wrap64 (x3_1 + 1)), (by first | rfl | (simp; done) | (simp [*]; done)), H', ⟨by have := HK1.out; have := HJ1.out; have := HJ8.out; have := HJ16.out; have := HJ28.out; have := HJ55.out; omega⟩, ⟨by repeat (first | (with_reducible first | exact HB.out | apply below_alloc | apply pw_below_drewN | apply below_drew1 | refine below_set ?_ GE621.out | refine below_set ?_ GE627.out) | exact HB.out)⟩⟩
                        ·rw [if_neg c54] at H
                         exact absurd H (by simp)
                       ·rw [if_neg c53] at H
                        exact absurd H (by simp)
                      ·rw [if_neg c52] at H
                       exact absurd H (by simp)
                     ·rw [if_neg c50] at H
                      have c50b0 : (x4_8 == 0) = false := beq_eq_false_iff_ne.mpr c50
                      have c50b1 : (x4_8 != 0) = true := bne_iff_ne.mpr c50
                      as_aux_lemma =>
                       have H' := Aside0.mk H
                       clear H
                       go_wp2
                       go_roundg kj28
                       case measure => have := HK1.out; have := HJ1.out; have := HJ8.out; have := HJ16.out; have := HJ28.out; omega
                       case rel => exact ⟨(wrap64 (x3_1 + 1)), (by first | rfl | (simp; done) | (simp [*]; done)), H', ⟨by have := HK1.out; have := HJ1.out; have := HJ8.out; have := HJ16.out; have := HJ28.out; omega⟩, ⟨by repeat (first | (with_reducible first | exact HB.out | apply below_alloc | apply pw_below_drewN | apply below_drew1 | refine below_set ?_ GE621.out | refine below_set ?_ GE627.out) | exact HB.out)⟩⟩
                 ·rw [if_neg c26] at H
                  exact absurd H (by simp)
                ·rw [if_neg c25] at H
                 exact absurd H (by simp)
            ·rw [if_neg c15] at H
             exact absurd H (by simp)
           ·rw [if_neg c14] at H
            exact absurd H (by simp)
       ·rw [if_neg c6] at H
        exact absurd H (by simp)
      ·rw [if_neg c5] at H
       exact absurd H (by simp)
     ·replace c4 := Bool.eq_false_iff.mpr c4
      subst c4
      have H1 : ((arraslaw0_Within.f 5 3).bind fun t642 => (if t642 = 2 then ((arraslaw6_wakes.f kj1).bind fun t643 => (some t643)) else (some false))) = some r := by rw [if_neg (show ¬ (false = true) by decide)] at H; exact H
      clear H
      have H := H1
      clear H1
      replace H := Option.bind_eq_some_iff.mp H
      obtain ⟨t642, A750, H⟩ := H
      replace H : (if t642 = 2 then ((arraslaw6_wakes.f kj1).bind fun t643 => (some t643)) else (some false)) = some r := H
      have A75 := Aside0.mk A750
      clear A750
      by_cases c76 : t642 = 2
      ·rw [if_pos c76] at H
       have c76b0 : (t642 == 2) = true := beq_iff_eq.mpr c76
       have c76b1 : (t642 != 2) = false := bne_eq_false_iff_eq.mpr c76
       clear c76
       replace H := Option.bind_eq_some_iff.mp H
       obtain ⟨t643, A770, H⟩ := H
       replace H : (some t643) = some r := H
       have A77 := Aside0.mk A770
       clear A770
       as_aux_lemma =>
        obtain rfl := Option.some.inj H
        go_wp2_with (first | ((with_reducible refine gate_callee (f := 22) rfl ?_); refine goesL_ (some 129) rfl rfl Try.func22 (by kernel_rfl) rfl #[.int .i64 5, .int .i64 3] rfl (by (try simp only [List.map_toArray, List.map_cons, List.map_nil]); first | done | rfl | (simp only [List.length_drop, List.length_take]; rfl)) ?_; (with_reducible refine (arraslaw0_Within.calls 5 3 t642 _ A75.out).mono ?_); rintro e w' ⟨rfl, ⟨nd, rfl⟩⟩; refine ⟨_, rfl, ?_⟩) | (go_at_call 46; (with_reducible refine (arraslaw6_wakes.calls kj1  t643 _ A77.out).mono ?_); rintro e w78 ⟨rfl, hb⟩; have n0_ := Aside0.mk (below_step (by repeat (first | (with_reducible first | exact HB.out | apply below_alloc | apply pw_below_drewN | apply below_drew1) | exact HB.out)) hb); clear HB; have HB := n0_; clear n0_; (try clear hb); (try clear hb2); (try clear hk); (try clear hi)))
        go_ret
        exact ⟨by first | rfl | (simp [errW_none, errW_some] <;> rfl) | (simp [*, errW_none, errW_some] <;> rfl), by repeat (first | (with_reducible first | exact HB.out | apply below_alloc | apply pw_below_drewN | apply below_drew1) | exact HB.out)⟩
      ·rw [if_neg c76] at H
       have c76b0 : (t642 == 2) = false := beq_eq_false_iff_ne.mpr c76
       have c76b1 : (t642 != 2) = true := bne_iff_ne.mpr c76
       as_aux_lemma =>
        obtain rfl := Option.some.inj H
        go_wp2_with (first | ((with_reducible refine gate_callee (f := 22) rfl ?_); refine goesL_ (some 129) rfl rfl Try.func22 (by kernel_rfl) rfl #[.int .i64 5, .int .i64 3] rfl (by (try simp only [List.map_toArray, List.map_cons, List.map_nil]); first | done | rfl | (simp only [List.length_drop, List.length_take]; rfl)) ?_; (with_reducible refine (arraslaw0_Within.calls 5 3 t642 _ A75.out).mono ?_); rintro e w' ⟨rfl, ⟨nd, rfl⟩⟩; refine ⟨_, rfl, ?_⟩))
        go_ret
        exact ⟨by first | rfl | (simp [errW_none, errW_some] <;> rfl) | (simp [*, errW_none, errW_some] <;> rfl), by repeat (first | (with_reducible first | exact HB.out | apply below_alloc | apply pw_below_drewN | apply below_drew1) | exact HB.out)⟩

end Go.Proofs.Ytpmcojmhkpaoaaa.PA
