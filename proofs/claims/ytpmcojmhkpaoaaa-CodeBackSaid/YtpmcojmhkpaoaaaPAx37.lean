-- Printed by this session's wip/myprint.py
import Derived.Test.YtpmcojmhkpaoaaaPAx0
import Derived.Test.YtpmcojmhkpaoaaaPAx2
import Derived.Test.YtpmcojmhkpaoaaaPAx5
import Derived.Test.YtpmcojmhkpaoaaaPAx8
import Derived.Test.YtpmcojmhkpaoaaaPAx14
import Derived.Test.YtpmcojmhkpaoaaaPAx15
import Derived.Test.YtpmcojmhkpaoaaaPAx16
import Derived.Test.YtpmcojmhkpaoaaaPAx17
import Derived.Test.YtpmcojmhkpaoaaaPAx19
import Derived.Test.YtpmcojmhkpaoaaaPAx21
import Derived.Test.YtpmcojmhkpaoaaaPAx23
import Derived.Test.YtpmcojmhkpaoaaaPAx30
import Derived.Test.YtpmcojmhkpaoaaaPAx32
import Derived.Test.YtpmcojmhkpaoaaaPAx34
namespace Go.Proofs.Ytpmcojmhkpaoaaa.PA
open Go.RowKit Go.Proofs.YtpmcojmhkpaoaaaW.PrintWords Go.Proofs.YtpmcojmhkpaoaaaW.PrintLast Go.Proofs.YtpmcojmhkpaoaaaW.PrintMore
attribute [local go_sem] max2_int min2_int max_two min_two max_three min_three max_four min_four   -- for this text's walks alone
set_option linter.unusedVariables false
set_option linter.unusedSimpArgs false

/-! ### arraslaw5_CodeBack: function 8 -/
set_option maxHeartbeats 8000000 in
set_option maxRecDepth 100000 in
theorem arraslaw5_CodeBack.calls (k : Nat) (A0 : Option Addr) (c0 : Nat) (l0 : List (S43)) (r : Bool) (w : World) (hr0 : Kd.C k43 w A0 l0.length l0) (hc0 : l0.length ≤ c0) (h : arraslaw5_CodeBack.f k l0 = some r) :
  Calls Try.prog 8 #[.slice A0 l0.length c0] w fun e w' => e = .returned (.bool r) ∧ Below w.heap.size w w' := by
 have hu43 := Try.underlying43
 have HR0 := Aside0.mk hr0
 have HC0 := Aside0.mk hc0
 clear hr0 hc0
 have HB := Aside0.mk (Below.refl w.heap.size w)
 have H : (arraslaw5_CodeBack.l0 k l0 0) = some r := h
 clear h
 have H' := Aside0.mk H
 clear H
 go_enter Try.func8, Try.ntmps8
 go_wp2
 go_loopg [3] k (fun kq v3 w' => ∃ (x3_1 : Int), v3 = .int .i64 x3_1 ∧ Aside0 (arraslaw5_CodeBack.l0 kq l0 x3_1 = some r) ∧ Aside0 (kq ≤ k) ∧ Aside0 (Below w.heap.size w w'))
 case atStart => exact ⟨(0), (by first | rfl | (simp; done) | (simp [*]; done)), H', ⟨Nat.le_refl _⟩, ⟨by repeat (first | (with_reducible first | exact HB.out | apply below_alloc | apply pw_below_drewN | apply below_drew1) | exact HB.out)⟩⟩
 case round =>
  clear H'
  obtain ⟨x3_1, rfl, HA, HK1, HB⟩ := hrel
  cases gk with
  | zero => exact absurd HA.out (by simp [arraslaw5_CodeBack.l0])
  | succ k1 =>
   have H := HA.out
   clear HA
   simp only [arraslaw5_CodeBack.l0] at H
   have HC2 := Aside0.mk H
   clear H
   go_upto_region 2 with (fail)
   go_cut [27] (fun v27 wc => ∃ (kq : Nat) (x27_1 : Bool), v27 = .bool x27_1 ∧ Aside0 (arraslaw5_CodeBack.j1 kq l0 x3_1 x27_1 = some r) ∧ Aside0 (kq ≤ k1) ∧ Aside0 (Below w.heap.size w wc))
   case first =>
    have H := HC2.out
    clear HC2
    by_cases c3 : x3_1 < (l0.length : Int)
    ·rw [if_pos c3] at H
     have c3b0 : decide (x3_1 < (l0.length : Int)) = true := decide_eq_true c3
     clear c3
     (first | rw [c3b0] | (simp only [i64_w, i32_w]; rw [c3b0]) | skip)
     as_aux_lemma =>
      have H' := Aside0.mk H
      clear H
      go_wp2
      go_meet
      case rel => exact ⟨_, (decide (x3_1 < 20)), (by first | rfl | (simp; done) | (simp [*]; done)), H', ⟨by have := HK1.out; first | omega | exact Nat.le_refl _⟩, ⟨by repeat (first | (with_reducible first | exact HB.out | apply below_alloc | apply pw_below_drewN | apply below_drew1) | exact HB.out)⟩⟩
    ·rw [if_neg c3] at H
     have c3b0 : decide (x3_1 < (l0.length : Int)) = false := decide_eq_false c3
     clear c3
     (first | rw [c3b0] | (simp only [i64_w, i32_w]; rw [c3b0]) | skip)
     as_aux_lemma =>
      have H' := Aside0.mk H
      clear H
      go_wp2
      go_meet
      case rel => exact ⟨_, (false), (by first | rfl | (simp; done) | (simp [*]; done)), H', ⟨by have := HK1.out; first | omega | exact Nat.le_refl _⟩, ⟨by repeat (first | (with_reducible first | exact HB.out | apply below_alloc | apply pw_below_drewN | apply below_drew1) | exact HB.out)⟩⟩
   case rest =>
    clear HC2
    (try clear p2); (try clear c3); (try clear c3b0)
    obtain ⟨kq, x27_1, rfl, HA, HJ1, HB⟩ := hcut
    cases kq with
    | zero => exact absurd HA.out (by simp [arraslaw5_CodeBack.j1])
    | succ kj1 =>
     have H := HA.out
     clear HA
     simp only [arraslaw5_CodeBack.j1] at H
     by_cases c4 : x27_1 = true
     ·subst c4
      have H1 : (if 0 ≤ x3_1 then (if x3_1 < (l0.length : Int) then ((arraslaw5_heavy.f ((rd_T43 l0 x3_1).f0) ((rd_T43 l0 x3_1).f1) ((rd_T43 l0 x3_1).f2) ((rd_T43 l0 x3_1).f3)).bind fun t358 => (if t358 = true then (arraslaw5_CodeBack.j2 kj1 l0 x3_1 true ((rd_T43 l0 x3_1).f0) ((rd_T43 l0 x3_1).f1) ((rd_T43 l0 x3_1).f2) ((rd_T43 l0 x3_1).f3)) else (if (((rd_T43 l0 x3_1).f1).size : Int) > 300 then (arraslaw5_CodeBack.j2 kj1 l0 x3_1 true ((rd_T43 l0 x3_1).f0) ((rd_T43 l0 x3_1).f1) ((rd_T43 l0 x3_1).f2) ((rd_T43 l0 x3_1).f3)) else (arraslaw5_CodeBack.j2 kj1 l0 x3_1 (decide ((((rd_T43 l0 x3_1).f2).length : Int) > 50)) ((rd_T43 l0 x3_1).f0) ((rd_T43 l0 x3_1).f1) ((rd_T43 l0 x3_1).f2) ((rd_T43 l0 x3_1).f3))))) else (none)) else (none)) = some r := by rw [if_pos rfl] at H; exact H
      clear H
      have H := H1
      clear H1
      by_cases c5 : 0 ≤ x3_1
      ·rw [if_pos c5] at H
       have c5b0 : decide (0 ≤ x3_1) = true := decide_eq_true c5
       clear c5
       by_cases c6 : x3_1 < (l0.length : Int)
       ·rw [if_pos c6] at H
        have c6b0 : decide (x3_1 < (l0.length : Int)) = true := decide_eq_true c6
        clear c6
        have HC7 := Aside0.mk H
        clear H
        have p356 : 0 ≤ (x3_1 : Int) := of_decide_eq_true (by first | (with_reducible assumption) | assumption)
        have q356 : x3_1 < (l0.length : Int) := of_decide_eq_true (by first | (with_reducible assumption) | assumption)
        obtain ⟨ad356, A356_2, c356_2, A356_3, c356_3, e356, hx356_0, hx356_1, hx356_2, hx356_3, hl356_2, hi356_2, hl356_3, hi356_3⟩ := at_T43 HR0.out x3_1 p356 q356
        cases e356
        replace hx356_0 := (HB.out.cell (World.block_lt_of_cell? w _ hx356_0)).trans hx356_0
        replace hx356_1 := (HB.out.cell (World.block_lt_of_cell? w _ hx356_1)).trans hx356_1
        replace hx356_2 := (HB.out.cell (World.block_lt_of_cell? w _ hx356_2)).trans hx356_2
        replace hx356_3 := (HB.out.cell (World.block_lt_of_cell? w _ hx356_3)).trans hx356_3
        have HR356_2 := Aside0.mk hi356_2
        have HC356_2 := Aside0.mk hl356_2
        clear hi356_2 hl356_2
        have HR356_3 := Aside0.mk hi356_3
        have HC356_3 := Aside0.mk hl356_3
        clear hi356_3 hl356_3
        replace p356 := eq_true p356
        replace q356 := eq_true q356
        go_upto_region 5 with (first | ((with_reducible refine gate_dst (N := 4) rfl ?_); (try (refine gate_guard (by rfl) ?_; dsimp only)); refine box_event ?hg (N := 4) ?hd (cs := #[.int .i64 0, .string (⟨#[]⟩ : ByteArray), .slice none 0 0, .slice none 0 0]) (t := 43) ?hr ?_; (case hd => rfl); (case hg => rfl); (case hr => first | (go_simp; done) | (go_simp; rfl)); intro gb357 hg w8 hbox hb; have n0_ := Aside0.mk (below_step (by repeat (first | (with_reducible first | exact HB.out | apply below_alloc | apply pw_below_drewN | apply below_drew1) | exact HB.out)) hb); have n1_ := Aside0.mk (hbox); have n2_ := Aside0.mk ((by rw [hg]; exact (below_size (by repeat (first | (with_reducible first | exact HB.out | apply below_alloc | apply pw_below_drewN | apply below_drew1) | exact HB.out))) : w.heap.size ≤ gb357)); have n3_ := Aside0.mk ((by rw [hg]; exact (below_size (by repeat (first | (with_reducible first | exact HB.out | apply below_alloc | apply pw_below_drewN | apply below_drew1) | exact HB.out))) : w.heap.size ≤ gb357)); clear HB; have HB := n0_; have BK357 := n1_; have GW357 := n2_; have GE357 := n3_; clear n0_ n1_ n2_ n3_; clear hb hbox hg; have hcz9_0 : w8.cell? ⟨gb357, 0, none⟩ = some (.int .i64 0) := (blk_cell BK357.out 0).trans rfl; have hcz9_1 : w8.cell? ⟨gb357, 1, none⟩ = some (.string (⟨#[]⟩ : ByteArray)) := (blk_cell BK357.out 1).trans rfl; have hcz9_2 : w8.cell? ⟨gb357, 2, none⟩ = some (.slice none 0 0) := (blk_cell BK357.out 2).trans rfl; have hcz9_3 : w8.cell? ⟨gb357, 3, none⟩ = some (.slice none 0 0) := (blk_cell BK357.out 3).trans rfl; have hfz9_0 := blk_frozen BK357.out 0; have hfz9_1 := blk_frozen BK357.out 1; have hfz9_2 := blk_frozen BK357.out 2; have hfz9_3 := blk_frozen BK357.out 3))
        (try simp only [Act.put, List.setIfInBounds_toArray, List.set_cons_zero, List.set_cons_succ])
        go_cut [47] (fun v47 wc => ∃ (kq : Nat) (x47_6 : Bool), v47 = .bool x47_6 ∧ Aside0 (arraslaw5_CodeBack.j2 kq l0 x3_1 x47_6 ((rd_T43 l0 x3_1).f0) ((rd_T43 l0 x3_1).f1) ((rd_T43 l0 x3_1).f2) ((rd_T43 l0 x3_1).f3) = some r) ∧ Aside0 (kq ≤ kj1) ∧ Aside0 (wc.heap[gb357]? = some (.cells #[.int .i64 ((rd_T43 l0 x3_1).f0), .string ((rd_T43 l0 x3_1).f1), (.slice A356_2 ((rd_T43 l0 x3_1).f2).length c356_2), (.slice A356_3 ((rd_T43 l0 x3_1).f3).length c356_3)] 43 (0, 0))) ∧ Aside0 (Below w.heap.size w wc))
        case first =>
         have H := HC7.out
         clear HC7
         replace H := Option.bind_eq_some_iff.mp H
         obtain ⟨t358, A100, H⟩ := H
         (try dsimp only at H)
         have A10 := Aside0.mk A100
         clear A100
         by_cases c11 : t358 = true
         ·subst c11
          have H1 : (arraslaw5_CodeBack.j2 kj1 l0 x3_1 true ((rd_T43 l0 x3_1).f0) ((rd_T43 l0 x3_1).f1) ((rd_T43 l0 x3_1).f2) ((rd_T43 l0 x3_1).f3)) = some r := by rw [if_pos rfl] at H; exact H
          clear H
          have H := H1
          clear H1
          as_aux_lemma =>
           have H' := Aside0.mk H
           clear H
           have hcz12_0 : w8.cell? ⟨gb357, 0, none⟩ = some (.int .i64 0) := (blk_cell BK357.out 0).trans rfl
           have hcz12_1 : w8.cell? ⟨gb357, 1, none⟩ = some (.string (⟨#[]⟩ : ByteArray)) := (blk_cell BK357.out 1).trans rfl
           have hcz12_2 : w8.cell? ⟨gb357, 2, none⟩ = some (.slice none 0 0) := (blk_cell BK357.out 2).trans rfl
           have hcz12_3 : w8.cell? ⟨gb357, 3, none⟩ = some (.slice none 0 0) := (blk_cell BK357.out 3).trans rfl
           have hfz12_0 := blk_frozen BK357.out 0
           have hfz12_1 := blk_frozen BK357.out 1
           have hfz12_2 := blk_frozen BK357.out 2
           have hfz12_3 := blk_frozen BK357.out 3
           go_wp2_with (first | ((with_reducible refine gate_callee (f := 27) rfl ?_); refine goesL_ (some 35) rfl rfl Try.func27 (by kernel_rfl) rfl #[.agg #[.int .i64 ((rd_T43 l0 x3_1).f0), .string ((rd_T43 l0 x3_1).f1), .slice A356_2 ((rd_T43 l0 x3_1).f2).length c356_2, .slice A356_3 ((rd_T43 l0 x3_1).f3).length c356_3]] rfl (by (try simp only [List.map_toArray, List.map_cons, List.map_nil]); first | done | rfl | (simp only [List.length_drop, List.length_take]; rfl)) ?_; (with_reducible refine (arraslaw5_heavy.calls ((rd_T43 l0 x3_1).f0) ((rd_T43 l0 x3_1).f1) _ _ ((rd_T43 l0 x3_1).f2) _ _ ((rd_T43 l0 x3_1).f3) true _ ?side1 ?side2 ?side3 ?side4 A10.out).mono ?_); (case side1 => exact Kd.C_below HR356_2.out (by repeat (first | (with_reducible first | exact HB.out | apply below_alloc | apply pw_below_drewN | apply below_drew1 | refine below_set ?_ GE357.out) | exact HB.out))); (case side2 => exact HC356_2.out); (case side3 => exact Kd.C_below HR356_3.out (by repeat (first | (with_reducible first | exact HB.out | apply below_alloc | apply pw_below_drewN | apply below_drew1 | refine below_set ?_ GE357.out) | exact HB.out))); (case side4 => exact HC356_3.out); rintro e w13 ⟨rfl, hb⟩; refine ⟨_, rfl, ?_⟩; have n0_ := Aside0.mk (blk_below (g := gb357) (o := .cells #[.int .i64 ((rd_T43 l0 x3_1).f0), .string ((rd_T43 l0 x3_1).f1), .slice A356_2 ((rd_T43 l0 x3_1).f2).length c356_2, .slice A356_3 ((rd_T43 l0 x3_1).f3).length c356_3] 43 (0, 0)) (by (with_reducible repeat (first | refine blk_drewN ?_ _ | refine blk_drew ?_ | refine blk_alloc ?_ _)); refine blk_put (cs := #[.int .i64 ((rd_T43 l0 x3_1).f0), .string ((rd_T43 l0 x3_1).f1), .slice A356_2 ((rd_T43 l0 x3_1).f2).length c356_2, .slice none 0 0]) ?_ 3 _ rfl; (with_reducible repeat (first | refine blk_drewN ?_ _ | refine blk_drew ?_ | refine blk_alloc ?_ _)); refine blk_put (cs := #[.int .i64 ((rd_T43 l0 x3_1).f0), .string ((rd_T43 l0 x3_1).f1), .slice none 0 0, .slice none 0 0]) ?_ 2 _ rfl; (with_reducible repeat (first | refine blk_drewN ?_ _ | refine blk_drew ?_ | refine blk_alloc ?_ _)); refine blk_put (cs := #[.int .i64 ((rd_T43 l0 x3_1).f0), .string (⟨#[]⟩ : ByteArray), .slice none 0 0, .slice none 0 0]) ?_ 1 _ rfl; (with_reducible repeat (first | refine blk_drewN ?_ _ | refine blk_drew ?_ | refine blk_alloc ?_ _)); refine blk_put (cs := #[.int .i64 0, .string (⟨#[]⟩ : ByteArray), .slice none 0 0, .slice none 0 0]) ?_ 0 _ rfl; (with_reducible repeat (first | refine blk_drewN ?_ _ | refine blk_drew ?_ | refine blk_alloc ?_ _)); exact BK357.out) hb); have n1_ := Aside0.mk (below_step (by repeat (first | (with_reducible first | exact HB.out | apply below_alloc | apply pw_below_drewN | apply below_drew1 | refine below_set ?_ GE357.out) | exact HB.out)) hb); clear BK357; clear HB; have BK357 := n0_; have HB := n1_; clear n0_ n1_; (try clear hb); (try clear hb2); (try clear hk); (try clear hi)))
           go_meet
           case rel => exact ⟨_, (true), (by first | rfl | (simp; done) | (simp [*]; done)), H', ⟨by have := HK1.out; have := HJ1.out; first | omega | exact Nat.le_refl _⟩, ⟨by (with_reducible repeat (first | refine blk_drewN ?_ _ | refine blk_drew ?_ | refine blk_alloc ?_ _)); exact BK357.out⟩, ⟨by repeat (first | (with_reducible first | exact HB.out | apply below_alloc | apply pw_below_drewN | apply below_drew1 | refine below_set ?_ GE357.out) | exact HB.out)⟩⟩
         ·replace c11 := Bool.eq_false_iff.mpr c11
          subst c11
          have H1 : (if (((rd_T43 l0 x3_1).f1).size : Int) > 300 then (arraslaw5_CodeBack.j2 kj1 l0 x3_1 true ((rd_T43 l0 x3_1).f0) ((rd_T43 l0 x3_1).f1) ((rd_T43 l0 x3_1).f2) ((rd_T43 l0 x3_1).f3)) else (arraslaw5_CodeBack.j2 kj1 l0 x3_1 (decide ((((rd_T43 l0 x3_1).f2).length : Int) > 50)) ((rd_T43 l0 x3_1).f0) ((rd_T43 l0 x3_1).f1) ((rd_T43 l0 x3_1).f2) ((rd_T43 l0 x3_1).f3))) = some r := by rw [if_neg (show ¬ (false = true) by decide)] at H; exact H
          clear H
          have H := H1
          clear H1
          by_cases c14 : (((rd_T43 l0 x3_1).f1).size : Int) > 300
          ·rw [if_pos c14] at H
           have c14b0 : decide (300 < (((rd_T43 l0 x3_1).f1).size : Int)) = true := decide_eq_true c14
           have c14b1 : decide (300 < ((rd_T43 l0 x3_1).f1).size) = true := decide_eq_true (by omega)
           clear c14
           (first | rw [c14b0] | (simp only [i64_w, i32_w]; rw [c14b0]) | skip)
           as_aux_lemma =>
            have H' := Aside0.mk H
            clear H
            have hcz15_0 : w8.cell? ⟨gb357, 0, none⟩ = some (.int .i64 0) := (blk_cell BK357.out 0).trans rfl
            have hcz15_1 : w8.cell? ⟨gb357, 1, none⟩ = some (.string (⟨#[]⟩ : ByteArray)) := (blk_cell BK357.out 1).trans rfl
            have hcz15_2 : w8.cell? ⟨gb357, 2, none⟩ = some (.slice none 0 0) := (blk_cell BK357.out 2).trans rfl
            have hcz15_3 : w8.cell? ⟨gb357, 3, none⟩ = some (.slice none 0 0) := (blk_cell BK357.out 3).trans rfl
            have hfz15_0 := blk_frozen BK357.out 0
            have hfz15_1 := blk_frozen BK357.out 1
            have hfz15_2 := blk_frozen BK357.out 2
            have hfz15_3 := blk_frozen BK357.out 3
            go_wp2_with (first | ((with_reducible refine gate_callee (f := 27) rfl ?_); refine goesL_ (some 35) rfl rfl Try.func27 (by kernel_rfl) rfl #[.agg #[.int .i64 ((rd_T43 l0 x3_1).f0), .string ((rd_T43 l0 x3_1).f1), .slice A356_2 ((rd_T43 l0 x3_1).f2).length c356_2, .slice A356_3 ((rd_T43 l0 x3_1).f3).length c356_3]] rfl (by (try simp only [List.map_toArray, List.map_cons, List.map_nil]); first | done | rfl | (simp only [List.length_drop, List.length_take]; rfl)) ?_; (with_reducible refine (arraslaw5_heavy.calls ((rd_T43 l0 x3_1).f0) ((rd_T43 l0 x3_1).f1) _ _ ((rd_T43 l0 x3_1).f2) _ _ ((rd_T43 l0 x3_1).f3) false _ ?side1 ?side2 ?side3 ?side4 A10.out).mono ?_); (case side1 => exact Kd.C_below HR356_2.out (by repeat (first | (with_reducible first | exact HB.out | apply below_alloc | apply pw_below_drewN | apply below_drew1 | refine below_set ?_ GE357.out) | exact HB.out))); (case side2 => exact HC356_2.out); (case side3 => exact Kd.C_below HR356_3.out (by repeat (first | (with_reducible first | exact HB.out | apply below_alloc | apply pw_below_drewN | apply below_drew1 | refine below_set ?_ GE357.out) | exact HB.out))); (case side4 => exact HC356_3.out); rintro e w16 ⟨rfl, hb⟩; refine ⟨_, rfl, ?_⟩; have n0_ := Aside0.mk (blk_below (g := gb357) (o := .cells #[.int .i64 ((rd_T43 l0 x3_1).f0), .string ((rd_T43 l0 x3_1).f1), .slice A356_2 ((rd_T43 l0 x3_1).f2).length c356_2, .slice A356_3 ((rd_T43 l0 x3_1).f3).length c356_3] 43 (0, 0)) (by (with_reducible repeat (first | refine blk_drewN ?_ _ | refine blk_drew ?_ | refine blk_alloc ?_ _)); refine blk_put (cs := #[.int .i64 ((rd_T43 l0 x3_1).f0), .string ((rd_T43 l0 x3_1).f1), .slice A356_2 ((rd_T43 l0 x3_1).f2).length c356_2, .slice none 0 0]) ?_ 3 _ rfl; (with_reducible repeat (first | refine blk_drewN ?_ _ | refine blk_drew ?_ | refine blk_alloc ?_ _)); refine blk_put (cs := #[.int .i64 ((rd_T43 l0 x3_1).f0), .string ((rd_T43 l0 x3_1).f1), .slice none 0 0, .slice none 0 0]) ?_ 2 _ rfl; (with_reducible repeat (first | refine blk_drewN ?_ _ | refine blk_drew ?_ | refine blk_alloc ?_ _)); refine blk_put (cs := #[.int .i64 ((rd_T43 l0 x3_1).f0), .string (⟨#[]⟩ : ByteArray), .slice none 0 0, .slice none 0 0]) ?_ 1 _ rfl; (with_reducible repeat (first | refine blk_drewN ?_ _ | refine blk_drew ?_ | refine blk_alloc ?_ _)); refine blk_put (cs := #[.int .i64 0, .string (⟨#[]⟩ : ByteArray), .slice none 0 0, .slice none 0 0]) ?_ 0 _ rfl; (with_reducible repeat (first | refine blk_drewN ?_ _ | refine blk_drew ?_ | refine blk_alloc ?_ _)); exact BK357.out) hb); have n1_ := Aside0.mk (below_step (by repeat (first | (with_reducible first | exact HB.out | apply below_alloc | apply pw_below_drewN | apply below_drew1 | refine below_set ?_ GE357.out) | exact HB.out)) hb); clear BK357; clear HB; have BK357 := n0_; have HB := n1_; clear n0_ n1_; (try clear hb); (try clear hb2); (try clear hk); (try clear hi); have hcz17_0 : w16.cell? ⟨gb357, 0, none⟩ = some (.int .i64 ((rd_T43 l0 x3_1).f0)) := (blk_cell BK357.out 0).trans rfl; have hcz17_1 : w16.cell? ⟨gb357, 1, none⟩ = some (.string ((rd_T43 l0 x3_1).f1)) := (blk_cell BK357.out 1).trans rfl; have hcz17_2 : w16.cell? ⟨gb357, 2, none⟩ = some (.slice A356_2 ((rd_T43 l0 x3_1).f2).length c356_2) := (blk_cell BK357.out 2).trans rfl; have hcz17_3 : w16.cell? ⟨gb357, 3, none⟩ = some (.slice A356_3 ((rd_T43 l0 x3_1).f3).length c356_3) := (blk_cell BK357.out 3).trans rfl; have hfz17_0 := blk_frozen BK357.out 0; have hfz17_1 := blk_frozen BK357.out 1; have hfz17_2 := blk_frozen BK357.out 2; have hfz17_3 := blk_frozen BK357.out 3))
            go_meet
            case rel => exact ⟨_, (true), (by first | rfl | (simp; done) | (simp [*]; done)), H', ⟨by have := HK1.out; have := HJ1.out; first | omega | exact Nat.le_refl _⟩, ⟨by (with_reducible repeat (first | refine blk_drewN ?_ _ | refine blk_drew ?_ | refine blk_alloc ?_ _)); exact BK357.out⟩, ⟨by repeat (first | (with_reducible first | exact HB.out | apply below_alloc | apply pw_below_drewN | apply below_drew1 | refine below_set ?_ GE357.out) | exact HB.out)⟩⟩
          ·rw [if_neg c14] at H
           have c14b0 : decide (300 < (((rd_T43 l0 x3_1).f1).size : Int)) = false := decide_eq_false c14
           have c14b1 : decide (300 < ((rd_T43 l0 x3_1).f1).size) = false := decide_eq_false (by omega)
           clear c14
           (first | rw [c14b0] | (simp only [i64_w, i32_w]; rw [c14b0]) | skip)
           as_aux_lemma =>
            have H' := Aside0.mk H
            clear H
            have hcz18_0 : w8.cell? ⟨gb357, 0, none⟩ = some (.int .i64 0) := (blk_cell BK357.out 0).trans rfl
            have hcz18_1 : w8.cell? ⟨gb357, 1, none⟩ = some (.string (⟨#[]⟩ : ByteArray)) := (blk_cell BK357.out 1).trans rfl
            have hcz18_2 : w8.cell? ⟨gb357, 2, none⟩ = some (.slice none 0 0) := (blk_cell BK357.out 2).trans rfl
            have hcz18_3 : w8.cell? ⟨gb357, 3, none⟩ = some (.slice none 0 0) := (blk_cell BK357.out 3).trans rfl
            have hfz18_0 := blk_frozen BK357.out 0
            have hfz18_1 := blk_frozen BK357.out 1
            have hfz18_2 := blk_frozen BK357.out 2
            have hfz18_3 := blk_frozen BK357.out 3
            go_wp2_with (first | ((with_reducible refine gate_callee (f := 27) rfl ?_); refine goesL_ (some 35) rfl rfl Try.func27 (by kernel_rfl) rfl #[.agg #[.int .i64 ((rd_T43 l0 x3_1).f0), .string ((rd_T43 l0 x3_1).f1), .slice A356_2 ((rd_T43 l0 x3_1).f2).length c356_2, .slice A356_3 ((rd_T43 l0 x3_1).f3).length c356_3]] rfl (by (try simp only [List.map_toArray, List.map_cons, List.map_nil]); first | done | rfl | (simp only [List.length_drop, List.length_take]; rfl)) ?_; (with_reducible refine (arraslaw5_heavy.calls ((rd_T43 l0 x3_1).f0) ((rd_T43 l0 x3_1).f1) _ _ ((rd_T43 l0 x3_1).f2) _ _ ((rd_T43 l0 x3_1).f3) false _ ?side1 ?side2 ?side3 ?side4 A10.out).mono ?_); (case side1 => exact Kd.C_below HR356_2.out (by repeat (first | (with_reducible first | exact HB.out | apply below_alloc | apply pw_below_drewN | apply below_drew1 | refine below_set ?_ GE357.out) | exact HB.out))); (case side2 => exact HC356_2.out); (case side3 => exact Kd.C_below HR356_3.out (by repeat (first | (with_reducible first | exact HB.out | apply below_alloc | apply pw_below_drewN | apply below_drew1 | refine below_set ?_ GE357.out) | exact HB.out))); (case side4 => exact HC356_3.out); rintro e w19 ⟨rfl, hb⟩; refine ⟨_, rfl, ?_⟩; have n0_ := Aside0.mk (blk_below (g := gb357) (o := .cells #[.int .i64 ((rd_T43 l0 x3_1).f0), .string ((rd_T43 l0 x3_1).f1), .slice A356_2 ((rd_T43 l0 x3_1).f2).length c356_2, .slice A356_3 ((rd_T43 l0 x3_1).f3).length c356_3] 43 (0, 0)) (by (with_reducible repeat (first | refine blk_drewN ?_ _ | refine blk_drew ?_ | refine blk_alloc ?_ _)); refine blk_put (cs := #[.int .i64 ((rd_T43 l0 x3_1).f0), .string ((rd_T43 l0 x3_1).f1), .slice A356_2 ((rd_T43 l0 x3_1).f2).length c356_2, .slice none 0 0]) ?_ 3 _ rfl; (with_reducible repeat (first | refine blk_drewN ?_ _ | refine blk_drew ?_ | refine blk_alloc ?_ _)); refine blk_put (cs := #[.int .i64 ((rd_T43 l0 x3_1).f0), .string ((rd_T43 l0 x3_1).f1), .slice none 0 0, .slice none 0 0]) ?_ 2 _ rfl; (with_reducible repeat (first | refine blk_drewN ?_ _ | refine blk_drew ?_ | refine blk_alloc ?_ _)); refine blk_put (cs := #[.int .i64 ((rd_T43 l0 x3_1).f0), .string (⟨#[]⟩ : ByteArray), .slice none 0 0, .slice none 0 0]) ?_ 1 _ rfl; (with_reducible repeat (first | refine blk_drewN ?_ _ | refine blk_drew ?_ | refine blk_alloc ?_ _)); refine blk_put (cs := #[.int .i64 0, .string (⟨#[]⟩ : ByteArray), .slice none 0 0, .slice none 0 0]) ?_ 0 _ rfl; (with_reducible repeat (first | refine blk_drewN ?_ _ | refine blk_drew ?_ | refine blk_alloc ?_ _)); exact BK357.out) hb); have n1_ := Aside0.mk (below_step (by repeat (first | (with_reducible first | exact HB.out | apply below_alloc | apply pw_below_drewN | apply below_drew1 | refine below_set ?_ GE357.out) | exact HB.out)) hb); clear BK357; clear HB; have BK357 := n0_; have HB := n1_; clear n0_ n1_; (try clear hb); (try clear hb2); (try clear hk); (try clear hi); have hcz20_0 : w19.cell? ⟨gb357, 0, none⟩ = some (.int .i64 ((rd_T43 l0 x3_1).f0)) := (blk_cell BK357.out 0).trans rfl; have hcz20_1 : w19.cell? ⟨gb357, 1, none⟩ = some (.string ((rd_T43 l0 x3_1).f1)) := (blk_cell BK357.out 1).trans rfl; have hcz20_2 : w19.cell? ⟨gb357, 2, none⟩ = some (.slice A356_2 ((rd_T43 l0 x3_1).f2).length c356_2) := (blk_cell BK357.out 2).trans rfl; have hcz20_3 : w19.cell? ⟨gb357, 3, none⟩ = some (.slice A356_3 ((rd_T43 l0 x3_1).f3).length c356_3) := (blk_cell BK357.out 3).trans rfl; have hfz20_0 := blk_frozen BK357.out 0; have hfz20_1 := blk_frozen BK357.out 1; have hfz20_2 := blk_frozen BK357.out 2; have hfz20_3 := blk_frozen BK357.out 3))
            go_meet
            case rel => exact ⟨_, (decide ((((rd_T43 l0 x3_1).f2).length : Int) > 50)), (by first | rfl | (simp; done) | (simp [*]; done)), H', ⟨by have := HK1.out; have := HJ1.out; first | omega | exact Nat.le_refl _⟩, ⟨by (with_reducible repeat (first | refine blk_drewN ?_ _ | refine blk_drew ?_ | refine blk_alloc ?_ _)); exact BK357.out⟩, ⟨by repeat (first | (with_reducible first | exact HB.out | apply below_alloc | apply pw_below_drewN | apply below_drew1 | refine below_set ?_ GE357.out) | exact HB.out)⟩⟩
        case rest =>
         clear HC7
         (try clear c1); (try clear c2); (try clear p2); (try clear c3); (try clear c3b0); (try clear p3); (try clear q3); (try clear hx3); (try clear c4); (try clear c5); (try clear c5b0); (try clear c6); (try clear c6b0); (try clear c8); (try clear c11); (try clear c14); (try clear c14b0); (try clear c14b1); (try clear hcz12_0); (try clear hcz12_1); (try clear hcz12_2); (try clear hcz12_3); (try clear hcz15_0); (try clear hcz15_1); (try clear hcz15_2); (try clear hcz15_3); (try clear hcz17_0); (try clear hcz17_1); (try clear hcz17_2); (try clear hcz17_3); (try clear hcz18_0); (try clear hcz18_1); (try clear hcz18_2); (try clear hcz18_3); (try clear hcz20_0); (try clear hcz20_1); (try clear hcz20_2); (try clear hcz20_3); (try clear hcz9_0); (try clear hcz9_1); (try clear hcz9_2); (try clear hcz9_3); (try clear hfz12_0); (try clear hfz12_1); (try clear hfz12_2); (try clear hfz12_3); (try clear hfz15_0); (try clear hfz15_1); (try clear hfz15_2); (try clear hfz15_3); (try clear hfz17_0); (try clear hfz17_1); (try clear hfz17_2); (try clear hfz17_3); (try clear hfz18_0); (try clear hfz18_1); (try clear hfz18_2); (try clear hfz18_3); (try clear hfz20_0); (try clear hfz20_1); (try clear hfz20_2); (try clear hfz20_3); (try clear hfz9_0); (try clear hfz9_1); (try clear hfz9_2); (try clear hfz9_3); (try clear hx356_0); (try clear hx356_1); (try clear hx356_2); (try clear hx356_3); (try clear p2); (try clear p356); (try clear q356)
         obtain ⟨kq, x47_6, rfl, HA, HJ6, BK357, HB⟩ := hcut
         cases kq with
         | zero => exact absurd HA.out (by simp [arraslaw5_CodeBack.j2])
         | succ kj6 =>
          have H := HA.out
          clear HA
          simp only [arraslaw5_CodeBack.j2] at H
          by_cases c21 : x47_6 = true
          ·subst c21
           have H1 : (some true) = some r := by rw [if_pos rfl] at H; exact H
           clear H
           have H := H1
           clear H1
           as_aux_lemma =>
            obtain rfl := Option.some.inj H
            go_wp2
            go_ret
            exact ⟨by first | rfl | (simp [errW_none, errW_some] <;> rfl) | (simp [*, errW_none, errW_some] <;> rfl), by repeat (first | (with_reducible first | exact HB.out | apply below_alloc | apply pw_below_drewN | apply below_drew1 | refine below_set ?_ GE357.out) | exact HB.out)⟩
          ·replace c21 := Bool.eq_false_iff.mpr c21
           subst c21
           have H1 : ((code_Num.f kj6 ((rd_T43 l0 x3_1).f0)).bind fun bt359 => ((arrasref0_CopyBytes.f kj6 bt359.1).bind fun t363 => (if t363.length + ((rd_T43 l0 x3_1).f3).length < 140737488355328 then ((code_TakeNum.f kj6 (t363 ++ ((rd_T43 l0 x3_1).f3))).bind fun bt369 => ((arraslaw5_num.f bt359.2).bind fun t372 => (if t372 = 0 then ((arraslaw5_num.f bt369.2.2).bind fun t373 => (if t373 = 0 then (if bt369.1 = ((rd_T43 l0 x3_1).f0) then (arraslaw5_CodeBack.j3 kj6 l0 x3_1 (bt369.2.1 != (bt359.1.length : Int)) ((rd_T43 l0 x3_1).f0) ((rd_T43 l0 x3_1).f1) ((rd_T43 l0 x3_1).f2) ((rd_T43 l0 x3_1).f3)) else (arraslaw5_CodeBack.j3 kj6 l0 x3_1 true ((rd_T43 l0 x3_1).f0) ((rd_T43 l0 x3_1).f1) ((rd_T43 l0 x3_1).f2) ((rd_T43 l0 x3_1).f3))) else (arraslaw5_CodeBack.j3 kj6 l0 x3_1 true ((rd_T43 l0 x3_1).f0) ((rd_T43 l0 x3_1).f1) ((rd_T43 l0 x3_1).f2) ((rd_T43 l0 x3_1).f3)))) else (arraslaw5_CodeBack.j3 kj6 l0 x3_1 false ((rd_T43 l0 x3_1).f0) ((rd_T43 l0 x3_1).f1) ((rd_T43 l0 x3_1).f2) ((rd_T43 l0 x3_1).f3))))) else (none)))) = some r := by rw [if_neg (show ¬ (false = true) by decide)] at H; exact H
           clear H
           have H := H1
           clear H1
           replace H := Option.bind_eq_some_iff.mp H
           obtain ⟨⟨t359, t360⟩, A220, H⟩ := H
           (try dsimp only at H)
           have A22 := Aside0.mk A220
           clear A220
           replace H := Option.bind_eq_some_iff.mp H
           obtain ⟨t363, A230, H⟩ := H
           (try dsimp only at H)
           have A23 := Aside0.mk A230
           clear A230
           by_cases c24 : t363.length + ((rd_T43 l0 x3_1).f3).length < 140737488355328
           ·rw [if_pos c24] at H
            have LMc24 := Aside0.mk c24
            clear c24
            obtain ⟨y366, hy366⟩ : ∃ y_ : List Int, y_ = (t363 ++ ((rd_T43 l0 x3_1).f3)) := ⟨_, rfl⟩
            replace H : ((code_TakeNum.f kj6 y366).bind fun bt369 => ((arraslaw5_num.f t360).bind fun t372 => (if t372 = 0 then ((arraslaw5_num.f bt369.2.2).bind fun t373 => (if t373 = 0 then (if bt369.1 = ((rd_T43 l0 x3_1).f0) then (arraslaw5_CodeBack.j3 kj6 l0 x3_1 (bt369.2.1 != (t359.length : Int)) ((rd_T43 l0 x3_1).f0) ((rd_T43 l0 x3_1).f1) ((rd_T43 l0 x3_1).f2) ((rd_T43 l0 x3_1).f3)) else (arraslaw5_CodeBack.j3 kj6 l0 x3_1 true ((rd_T43 l0 x3_1).f0) ((rd_T43 l0 x3_1).f1) ((rd_T43 l0 x3_1).f2) ((rd_T43 l0 x3_1).f3))) else (arraslaw5_CodeBack.j3 kj6 l0 x3_1 true ((rd_T43 l0 x3_1).f0) ((rd_T43 l0 x3_1).f1) ((rd_T43 l0 x3_1).f2) ((rd_T43 l0 x3_1).f3)))) else (arraslaw5_CodeBack.j3 kj6 l0 x3_1 false ((rd_T43 l0 x3_1).f0) ((rd_T43 l0 x3_1).f1) ((rd_T43 l0 x3_1).f2) ((rd_T43 l0 x3_1).f3))))) = some r := by first | (rw [hy366]; with_reducible exact H) | (have H2_ := (Option.bind_some _ _).symm.trans H; rw [hy366]; with_reducible exact H2_) | (have H2_ := (Option.bind_some _ _).symm.trans H; with_reducible exact H2_) | with_reducible exact H | (rw [hy366]; exact H) | exact H
            have Ny366 := Aside0.mk hy366
            clear hy366
            replace H := Option.bind_eq_some_iff.mp H
            obtain ⟨⟨t369, t370, t371⟩, A250, H⟩ := H
            (try dsimp only at H)
            have A25 := Aside0.mk A250
            clear A250
            have HC26 := Aside0.mk H
            clear H
            have hcz27_0 : wc.cell? ⟨gb357, 0, none⟩ = some (.int .i64 ((rd_T43 l0 x3_1).f0)) := (blk_cell BK357.out 0).trans rfl
            have hcz27_1 : wc.cell? ⟨gb357, 1, none⟩ = some (.string ((rd_T43 l0 x3_1).f1)) := (blk_cell BK357.out 1).trans rfl
            have hcz27_2 : wc.cell? ⟨gb357, 2, none⟩ = some (.slice A356_2 ((rd_T43 l0 x3_1).f2).length c356_2) := (blk_cell BK357.out 2).trans rfl
            have hcz27_3 : wc.cell? ⟨gb357, 3, none⟩ = some (.slice A356_3 ((rd_T43 l0 x3_1).f3).length c356_3) := (blk_cell BK357.out 3).trans rfl
            have hfz27_0 := blk_frozen BK357.out 0
            have hfz27_1 := blk_frozen BK357.out 1
            have hfz27_2 := blk_frozen BK357.out 2
            have hfz27_3 := blk_frozen BK357.out 3
            try go_wp2_with (first | ((with_reducible refine gate_callee (f := 23) rfl ?_); refine goesL_ (some 51) rfl rfl Try.func23 (by kernel_rfl) rfl #[.int .i64 ((rd_T43 l0 x3_1).f0)] rfl (by (try simp only [List.map_toArray, List.map_cons, List.map_nil]); first | done | rfl | (simp only [List.length_drop, List.length_take]; rfl)) ?_; (with_reducible refine (code_Num.calls kj6 ((rd_T43 l0 x3_1).f0) t359 t360 _ A22.out).mono ?_); rintro e w28 ⟨v361, rfl, ho0, hb⟩; refine ⟨_, rfl, ?_⟩; have n0_ := Aside0.mk (Kd.R_lower ho0 (below_size (by repeat (first | (with_reducible first | exact HB.out | apply below_alloc | apply pw_below_drewN | apply below_drew1 | refine below_set ?_ GE357.out) | exact HB.out)))); have n1_ := Aside0.mk (blk_below (g := gb357) (o := .cells #[.int .i64 ((rd_T43 l0 x3_1).f0), .string ((rd_T43 l0 x3_1).f1), .slice A356_2 ((rd_T43 l0 x3_1).f2).length c356_2, .slice A356_3 ((rd_T43 l0 x3_1).f3).length c356_3] 43 (0, 0)) (by (with_reducible repeat (first | refine blk_drewN ?_ _ | refine blk_drew ?_ | refine blk_alloc ?_ _)); exact BK357.out) hb); have n2_ := Aside0.mk (below_step (by repeat (first | (with_reducible first | exact HB.out | apply below_alloc | apply pw_below_drewN | apply below_drew1 | refine below_set ?_ GE357.out) | exact HB.out)) hb); clear BK357; clear HB; have HO362 := n0_; have BK357 := n1_; have HB := n2_; clear n0_ n1_ n2_; (try clear hb); (try clear hb2); (try clear hk); (try clear hi); (try clear ho0)))
            have n0_ := Aside0.mk (Kd.R_drew HO362.out)
            have n1_ := Aside0.mk (blk_drew BK357.out)
            have n2_ := Aside0.mk (below_drew1 HB.out)
            clear HO362
            clear BK357
            clear HB
            have HO362 := n0_
            have BK357 := n1_
            have HB := n2_
            clear n0_ n1_ n2_
            obtain ⟨Ao30, co30, eo30⟩ := Kd.R_slice HO362.out
            (first | subst eo30 | (injection eo30 with f1_ f2_ f3_; have f4_ := f1_.symm; have f5_ := f3_.symm; clear f1_ f2_ f3_; subst f4_; subst f5_))
            refine start_ (n := 13) (S := fun w' => w'.cell? ⟨gb357, 0, none⟩ = some (.int .i64 ((rd_T43 l0 x3_1).f0)) ∧ w'.cell? ⟨gb357, 1, none⟩ = some (.string ((rd_T43 l0 x3_1).f1)) ∧ w'.cell? ⟨gb357, 2, none⟩ = some (.slice A356_2 ((rd_T43 l0 x3_1).f2).length c356_2) ∧ w'.cell? ⟨gb357, 3, none⟩ = some (.slice A356_3 ((rd_T43 l0 x3_1).f3).length c356_3)) (ds := []) #[false, false, false, false, false, false, false, false, false, false, false, false, false] (by kernel_rfl) rfl rfl ⟨(blk_cell BK357.out 0).trans rfl, (blk_cell BK357.out 1).trans rfl, (blk_cell BK357.out 2).trans rfl, (blk_cell BK357.out 3).trans rfl⟩ (fun hHeld => ?_); refine with_tabW arraslaw5_CodeBack.tab8 arraslaw5_CodeBack.bits8 (fun HT_ HW_ => ?_)
            generalize w28.drew = w29 at HO362 BK357 HB hHeld ⊢
            refine pure_ (i := 0) (N := some 55) (v := ?_) (a' := ?_) #[true, false, false, false, false, false, false, false, false, false, false, false, false] rfl rfl (any_of HT_.out (by kernel_rfl)) (fun _ _ _ h => h) (Or.inl ⟨by rfl, ?_⟩) ?_ ?_
            rotate_left
            ·intro w'
             go_simp
             with_reducible rfl
            rotate_left
            ·simp only [Act.put, List.setIfInBounds_toArray, List.set_cons_zero, List.set_cons_succ, i64_w, i32_w]
             rfl
            refine pure_ (i := 2) (N := some 57) (v := ?_) (a' := ?_) #[true, false, true, false, false, false, false, false, false, false, false, false, false] rfl rfl (any_of HT_.out (by kernel_rfl)) (fun _ _ _ h => h) (Or.inl ⟨by rfl, ?_⟩) ?_ ?_
            rotate_left
            ·intro w'
             go_simp
             with_reducible rfl
            rotate_left
            ·simp only [Act.put, List.setIfInBounds_toArray, List.set_cons_zero, List.set_cons_succ, i64_w, i32_w]
             rfl
            refine take_ (i := 3) (N := some 58) (v := ?_) (a' := ?_) #[true, false, true, true, false, false, false, false, false, false, false, false, false] rfl rfl (take_ofW HT_.out HW_.out (by kernel_rfl)) (fun _ _ _ h => h) (Or.inl ⟨by rfl, ?_⟩) hHeld ?_ ?_
            rotate_left
            ·rintro w' ⟨s0, s1, s2, s3⟩
             go_simp
             with_reducible rfl
            rotate_left
            ·simp only [Act.put, List.setIfInBounds_toArray, List.set_cons_zero, List.set_cons_succ, i64_w, i32_w]
             rfl
            refine one_ (i := 1) (N := some 56) #[true, true, true, true, false, false, false, false, false, false, false, false, false] rfl rfl (one_of HT_.out (by kernel_rfl)) (by decide) (fun K hK => ?_)
            refine goes_ Try.func17 (by kernel_rfl) rfl #[.slice Ao30 t359.length co30] (by rfl) rfl rfl (by (try simp only [List.map_toArray, List.map_cons, List.map_nil]); first | done | rfl | (simp only [List.length_drop, List.length_take]; rfl)) ?_
            with_reducible refine (arrasref0_CopyBytes.calls kj6 _ _ t359 t363 _ ?side1 ?side2 A23.out).mono ?_
            (case side1 => repeat (first | exact (Kd.R_reads' HO362.out).2.2 | with_reducible first | refine Kd.C_alloc ?_ _ | refine Kd.C_drewN ?_ _ | refine Kd.C_drew ?_))
            (case side2 => exact (Kd.R_reads' HO362.out).2.1)
            rintro e w31 ⟨v364, rfl, ho0, hb⟩
            refine ⟨_, rfl, ?_⟩
            have n0_ := Aside0.mk (Kd.R_elder' (by (with_reducible repeat (first | apply Kd.R_alloc | apply Kd.R_drewN | apply Kd.R_drew)); exact HO362.out) (Kd.R_base ho0) hb)
            have n1_ := Aside0.mk (Kd.R_lower (Kd.R_new' ho0 (Kd.R_lt (by (with_reducible repeat (first | apply Kd.R_alloc | apply Kd.R_drewN | apply Kd.R_drew)); exact HO362.out))) (below_size (by repeat (first | (with_reducible first | exact HB.out | apply below_alloc | apply pw_below_drewN | apply below_drew1 | refine below_set ?_ GE357.out) | exact HB.out))))
            have n2_ := Aside0.mk (blk_below (g := gb357) (o := .cells #[.int .i64 ((rd_T43 l0 x3_1).f0), .string ((rd_T43 l0 x3_1).f1), .slice A356_2 ((rd_T43 l0 x3_1).f2).length c356_2, .slice A356_3 ((rd_T43 l0 x3_1).f3).length c356_3] 43 (0, 0)) (by (with_reducible repeat (first | refine blk_drewN ?_ _ | refine blk_drew ?_ | refine blk_alloc ?_ _)); exact BK357.out) hb)
            have n3_ := Aside0.mk (below_step (by repeat (first | (with_reducible first | exact HB.out | apply below_alloc | apply pw_below_drewN | apply below_drew1 | refine below_set ?_ GE357.out) | exact HB.out)) hb)
            clear HO362
            clear BK357
            clear HB
            have HO362 := n0_
            have HO365 := n1_
            have BK357 := n2_
            have HB := n3_
            clear n0_ n1_ n2_ n3_
            (try clear hb)
            (try clear hb2)
            (try clear hk)
            (try clear hi)
            (try clear ho0)
            refine hK.out _ _ ⟨(blk_cell BK357.out 0).trans rfl, (blk_cell BK357.out 1).trans rfl, (blk_cell BK357.out 2).trans rfl, (blk_cell BK357.out 3).trans rfl⟩ (fun hHeld => ?_)
            clear hK K
            refine norm_ (a' := ?_) ?_ ?_
            rotate_left
            ·show Act.put _ (some 56) _ = _
             simp only [Act.put, List.setIfInBounds_toArray, List.set_cons_zero, List.set_cons_succ, i64_w, i32_w]
             rfl
            refine one_ (i := 4) (N := some 59) #[true, true, true, true, true, false, false, false, false, false, false, false, false] rfl rfl (one_of HT_.out (by kernel_rfl)) (by decide) (fun K hK => ?_)
            refine Kd.R_append_rows_step (Kd.int .u8) (w0 := w) w.heap.size (by rfl) (.tmp 56) (.tmp 58) 24 5 (.int .u8 0) 1 rfl Try.underlying24 info5 rfl (by decide) (by omega) v364 t363 ((rd_T43 l0 x3_1).f3) _ _ _ (fun k_ => some k_ ≠ (.slice Ao30 t359.length co30 : Value).ownBlock) (fun _ => False) rfl rfl ?aO ?aR (fun _ _ h => h) (fun _ h => h.elim) ?aF ?aB ?aS ?aL ?_
            (case aR => repeat (first | exact (Kd.C_below HR356_3.out HB.out) | with_reducible first | refine Kd.C_alloc ?_ _ | refine Kd.C_drewN ?_ _ | refine Kd.C_drew ?_))
            (case aB => exact (by repeat (first | (with_reducible first | exact HB.out | apply below_alloc | apply pw_below_drewN | apply below_drew1 | refine below_set ?_ GE357.out) | exact HB.out)))
            (case aF => exact (fun k_ hk => Kd.fresh' (Kd.R_lt (by (with_reducible repeat (first | apply Kd.R_alloc | apply Kd.R_drewN | apply Kd.R_drew)); exact HO362.out)) k_ hk))
            (case aO => exact (by (with_reducible repeat (first | apply Kd.R_alloc | apply Kd.R_drewN | apply Kd.R_drew)); exact Kd.R_mono HO365.out (fun _ hk => (by first | exact hk.2 | simp_all))))
            (case aS => exact (below_size (by repeat (first | (with_reducible first | exact HB.out | apply below_alloc | apply pw_below_drewN | apply below_drew1 | refine below_set ?_ GE357.out) | exact HB.out))))
            (case aL => have := LMc24.out; omega)
            intro v367 w32 ho hb hg hat
            rw [← Ny366.out] at ho
            have n0_ := Aside0.mk (blk_grown (g := gb357) (o := .cells #[.int .i64 ((rd_T43 l0 x3_1).f0), .string ((rd_T43 l0 x3_1).f1), .slice A356_2 ((rd_T43 l0 x3_1).f2).length c356_2, .slice A356_3 ((rd_T43 l0 x3_1).f3).length c356_3] 43 (0, 0)) (by (with_reducible repeat (first | refine blk_drewN ?_ _ | refine blk_drew ?_ | refine blk_alloc ?_ _)); exact BK357.out) hg (Kd.R_ne HO365.out BK357.out (by decide)))
            have n1_ := Aside0.mk (Kd.R_after (ok := (fun _ => True)) (by (with_reducible repeat (first | apply Kd.R_alloc | apply Kd.R_drewN | apply Kd.R_drew)); exact HO362.out) hg hat)
            have n2_ := Aside0.mk (hb)
            have n3_ := Aside0.mk (ho)
            clear BK357
            clear HO362
            clear HB
            clear HO365
            have BK357 := n0_
            have HO362 := n1_
            have HB := n2_
            have HO368 := n3_
            clear n0_ n1_ n2_ n3_
            clear ho hb hg hat
            obtain ⟨Ao33, co33, eo33⟩ := Kd.R_slice HO368.out
            (first | subst eo33 | (injection eo33 with f1_ f2_ f3_; have f4_ := f1_.symm; have f5_ := f3_.symm; clear f1_ f2_ f3_; subst f4_; subst f5_))
            refine hK.out _ _ ⟨(blk_cell BK357.out 0).trans rfl, (blk_cell BK357.out 1).trans rfl, (blk_cell BK357.out 2).trans rfl, (blk_cell BK357.out 3).trans rfl⟩ (fun hHeld => ?_)
            clear hK K
            refine norm_ (a' := ?_) ?_ ?_
            rotate_left
            ·show Act.put _ (some 59) _ = _
             simp only [Act.put, List.setIfInBounds_toArray, List.set_cons_zero, List.set_cons_succ, i64_w, i32_w]
             rfl
            refine one_ (i := 5) (N := some 60) #[true, true, true, true, true, true, false, false, false, false, false, false, false] rfl rfl (one_of HT_.out (by kernel_rfl)) (by decide) (fun K hK => ?_)
            refine goes_ Try.func24 (by kernel_rfl) rfl #[.slice Ao33 y366.length co33] (by rfl) rfl rfl (by (try simp only [List.map_toArray, List.map_cons, List.map_nil]); first | done | rfl | (simp only [List.length_drop, List.length_take]; rfl)) ?_
            with_reducible refine (code_TakeNum.calls kj6 _ _ y366 t369 t370 t371 _ ?side1 ?side2 A25.out).mono ?_
            (case side1 => repeat (first | exact (Kd.R_reads' HO368.out).2.2 | with_reducible first | refine Kd.C_alloc ?_ _ | refine Kd.C_drewN ?_ _ | refine Kd.C_drew ?_))
            (case side2 => exact (Kd.R_reads' HO368.out).2.1)
            rintro e w' ⟨rfl, ⟨nd, rfl⟩⟩
            refine ⟨_, rfl, ?_⟩
            refine hK.out _ _ ⟨(blk_cell BK357.out 0).trans rfl, (blk_cell BK357.out 1).trans rfl, (blk_cell BK357.out 2).trans rfl, (blk_cell BK357.out 3).trans rfl⟩ (fun hHeld => ?_)
            clear hK K
            refine norm_ (a' := ?_) ?_ ?_
            rotate_left
            ·show Act.put _ (some 60) _ = _
             simp only [Act.put, List.setIfInBounds_toArray, List.set_cons_zero, List.set_cons_succ, i64_w, i32_w]
             rfl
            refine pure_ (i := 6) (N := some 54) (v := ?_) (a' := ?_) #[true, true, true, true, true, true, true, false, false, false, false, false, false] rfl rfl (any_of HT_.out (by kernel_rfl)) (fun _ _ _ h => h) (Or.inl ⟨by rfl, ?_⟩) ?_ ?_
            rotate_left
            ·intro w'
             go_simp
             with_reducible rfl
            rotate_left
            ·simp only [Act.put, List.setIfInBounds_toArray, List.set_cons_zero, List.set_cons_succ, i64_w, i32_w]
             rfl
            refine pure_ (i := 7) (N := some 61) (v := ?_) (a' := ?_) #[true, true, true, true, true, true, true, true, false, false, false, false, false] rfl rfl (any_of HT_.out (by kernel_rfl)) (fun _ _ _ h => h) (Or.inl ⟨by rfl, ?_⟩) ?_ ?_
            rotate_left
            ·intro w'
             go_simp
             with_reducible rfl
            rotate_left
            ·simp only [Act.put, List.setIfInBounds_toArray, List.set_cons_zero, List.set_cons_succ, i64_w, i32_w]
             rfl
            refine pure_ (i := 8) (N := some 62) (v := ?_) (a' := ?_) #[true, true, true, true, true, true, true, true, true, false, false, false, false] rfl rfl (any_of HT_.out (by kernel_rfl)) (fun _ _ _ h => h) (Or.inl ⟨by rfl, ?_⟩) ?_ ?_
            rotate_left
            ·intro w'
             go_simp
             with_reducible rfl
            rotate_left
            ·simp only [Act.put, List.setIfInBounds_toArray, List.set_cons_zero, List.set_cons_succ, i64_w, i32_w]
             rfl
            refine pure_ (i := 9) (N := some 63) (v := ?_) (a' := ?_) #[true, true, true, true, true, true, true, true, true, true, false, false, false] rfl rfl (any_of HT_.out (by kernel_rfl)) (fun _ _ _ h => h) (Or.inl ⟨by rfl, ?_⟩) ?_ ?_
            rotate_left
            ·intro w'
             go_simp
             with_reducible rfl
            rotate_left
            ·simp only [Act.put, List.setIfInBounds_toArray, List.set_cons_zero, List.set_cons_succ, i64_w, i32_w]
             rfl
            refine pure_ (i := 10) (N := some 7) (v := ?_) (a' := ?_) #[true, true, true, true, true, true, true, true, true, true, true, false, false] rfl rfl (any_of HT_.out (by kernel_rfl)) (fun _ _ _ h => h) (Or.inl ⟨by rfl, ?_⟩) ?_ ?_
            rotate_left
            ·intro w'
             go_simp
             with_reducible rfl
            rotate_left
            ·simp only [Act.put, List.setIfInBounds_toArray, List.set_cons_zero, List.set_cons_succ, i64_w, i32_w]
             rfl
            refine pure_ (i := 11) (N := some 8) (v := ?_) (a' := ?_) #[true, true, true, true, true, true, true, true, true, true, true, true, false] rfl rfl (any_of HT_.out (by kernel_rfl)) (fun _ _ _ h => h) (Or.inl ⟨by rfl, ?_⟩) ?_ ?_
            rotate_left
            ·intro w'
             go_simp
             with_reducible rfl
            rotate_left
            ·simp only [Act.put, List.setIfInBounds_toArray, List.set_cons_zero, List.set_cons_succ, i64_w, i32_w]
             rfl
            refine pure_ (i := 12) (N := some 9) (v := ?_) (a' := ?_) #[true, true, true, true, true, true, true, true, true, true, true, true, true] rfl rfl (any_of HT_.out (by kernel_rfl)) (fun _ _ _ h => h) (Or.inl ⟨by rfl, ?_⟩) ?_ ?_
            rotate_left
            ·intro w'
             go_simp
             with_reducible rfl
            rotate_left
            ·simp only [Act.put, List.setIfInBounds_toArray, List.set_cons_zero, List.set_cons_succ, i64_w, i32_w]
             rfl
            refine done_ (done_of HT_.out (by kernel_rfl)) ?_
            go_upto_region 9 with (fail)
            (try (rw [drewN_self w32]; generalize hq_ : World.drewN w32 _ = w32; have n0_ : Aside0 (Kd.R (Kd.int .u8) 5 w32 w.heap.size (fun k_ => some k_ ≠ (.slice Ao33 y366.length co33 : Value).ownBlock) (.slice Ao30 t359.length co30) t359) := ⟨by rw [← hq_]; exact (by (with_reducible repeat (first | apply Kd.R_alloc | apply Kd.R_drewN | apply Kd.R_drew)); exact Kd.R_mono HO362.out (fun _ hk => (by first | exact hk.2 | simp_all)))⟩; have n1_ : Aside0 (Kd.R (Kd.int .u8) 5 w32 w.heap.size (fun k_ => some k_ ≠ (.slice Ao30 t359.length co30 : Value).ownBlock) (.slice Ao33 y366.length co33) y366) := ⟨by rw [← hq_]; exact (by (with_reducible repeat (first | apply Kd.R_alloc | apply Kd.R_drewN | apply Kd.R_drew)); exact HO368.out)⟩; have n2_ : Aside0 (w32.heap[gb357]? = some (.cells #[.int .i64 ((rd_T43 l0 x3_1).f0), .string ((rd_T43 l0 x3_1).f1), .slice A356_2 ((rd_T43 l0 x3_1).f2).length c356_2, .slice A356_3 ((rd_T43 l0 x3_1).f3).length c356_3] 43 (0, 0))) := ⟨by rw [← hq_]; exact (by (with_reducible repeat (first | refine blk_drewN ?_ _ | refine blk_drew ?_ | refine blk_alloc ?_ _)); exact BK357.out)⟩; have n3_ : Aside0 (Below w.heap.size w w32) := ⟨by rw [← hq_]; exact (by repeat (first | (with_reducible first | exact HB.out | apply below_alloc | apply pw_below_drewN | apply below_drew1 | refine below_set ?_ GE357.out) | exact HB.out))⟩; clear HO362 HO368 BK357 HB hq_; have HO362 := n0_; have HO368 := n1_; have BK357 := n2_; have HB := n3_; clear n0_ n1_ n2_ n3_))
            go_cut [83] (fun v83 wc => ∃ (kq : Nat) (x83_25 : Bool), v83 = .bool x83_25 ∧ Aside0 (arraslaw5_CodeBack.j3 kq l0 x3_1 x83_25 ((rd_T43 l0 x3_1).f0) ((rd_T43 l0 x3_1).f1) ((rd_T43 l0 x3_1).f2) ((rd_T43 l0 x3_1).f3) = some r) ∧ Aside0 (kq ≤ kj6) ∧ Aside0 (wc.heap[gb357]? = some (.cells #[.int .i64 ((rd_T43 l0 x3_1).f0), .string ((rd_T43 l0 x3_1).f1), (.slice A356_2 ((rd_T43 l0 x3_1).f2).length c356_2), (.slice A356_3 ((rd_T43 l0 x3_1).f3).length c356_3)] 43 (0, 0))) ∧ Aside0 (Below w.heap.size w wc))
            case first =>
             have H := HC26.out
             clear HC26
             replace H := Option.bind_eq_some_iff.mp H
             obtain ⟨t372, A340, H⟩ := H
             (try dsimp only at H)
             have A34 := Aside0.mk A340
             clear A340
             by_cases c35 : t372 = 0
             ·rw [if_pos c35] at H
              have c35b0 : (t372 == 0) = true := beq_iff_eq.mpr c35
              have c35b1 : (t372 != 0) = false := bne_eq_false_iff_eq.mpr c35
              clear c35
              (first | rw [c35b0] | (simp only [i64_w, i32_w]; rw [c35b0]) | skip)
              replace H := Option.bind_eq_some_iff.mp H
              obtain ⟨t373, A360, H⟩ := H
              (try dsimp only at H)
              have A36 := Aside0.mk A360
              clear A360
              by_cases c37 : t373 = 0
              ·rw [if_pos c37] at H
               have c37b0 : (t373 == 0) = true := beq_iff_eq.mpr c37
               have c37b1 : (t373 != 0) = false := bne_eq_false_iff_eq.mpr c37
               clear c37
               by_cases c38 : t369 = ((rd_T43 l0 x3_1).f0)
               ·rw [if_pos c38] at H
                have c38b0 : (t369 == ((rd_T43 l0 x3_1).f0)) = true := beq_iff_eq.mpr c38
                have c38b1 : (t369 != ((rd_T43 l0 x3_1).f0)) = false := bne_eq_false_iff_eq.mpr c38
                clear c38
                as_aux_lemma =>
                 have H' := Aside0.mk H
                 clear H
                 go_wp2_with (first | ((with_reducible refine gate_callee (f := 25) rfl ?_); refine goesL_ (some 65) rfl rfl Try.func25 (by kernel_rfl) rfl #[.int .i64 t360] rfl (by (try simp only [List.map_toArray, List.map_cons, List.map_nil]); first | done | rfl | (simp only [List.length_drop, List.length_take]; rfl)) ?_; (with_reducible refine (arraslaw5_num.calls t360 t372 _ A34.out).mono ?_); rintro e w' ⟨rfl, ⟨nd, rfl⟩⟩; refine ⟨_, rfl, ?_⟩) | (go_at_call 25; (with_reducible refine (arraslaw5_num.calls t371 t373 _ A36.out).mono ?_); rintro e w' ⟨rfl, ⟨nd, rfl⟩⟩; have hcz39_0 : w32.cell? ⟨gb357, 0, none⟩ = some (.int .i64 ((rd_T43 l0 x3_1).f0)) := (blk_cell BK357.out 0).trans rfl; have hcz39_1 : w32.cell? ⟨gb357, 1, none⟩ = some (.string ((rd_T43 l0 x3_1).f1)) := (blk_cell BK357.out 1).trans rfl; have hcz39_2 : w32.cell? ⟨gb357, 2, none⟩ = some (.slice A356_2 ((rd_T43 l0 x3_1).f2).length c356_2) := (blk_cell BK357.out 2).trans rfl; have hcz39_3 : w32.cell? ⟨gb357, 3, none⟩ = some (.slice A356_3 ((rd_T43 l0 x3_1).f3).length c356_3) := (blk_cell BK357.out 3).trans rfl; have hfz39_0 := blk_frozen BK357.out 0; have hfz39_1 := blk_frozen BK357.out 1; have hfz39_2 := blk_frozen BK357.out 2; have hfz39_3 := blk_frozen BK357.out 3))
                 go_meet
                 case rel => exact ⟨_, ((t370 != (t359.length : Int))), (by first | rfl | (simp; done) | (simp [*]; done)), H', ⟨by have := HK1.out; have := HJ1.out; have := HJ6.out; first | omega | exact Nat.le_refl _⟩, ⟨by (with_reducible repeat (first | refine blk_drewN ?_ _ | refine blk_drew ?_ | refine blk_alloc ?_ _)); exact BK357.out⟩, ⟨by repeat (first | (with_reducible first | exact HB.out | apply below_alloc | apply pw_below_drewN | apply below_drew1 | refine below_set ?_ GE357.out) | exact HB.out)⟩⟩
               ·rw [if_neg c38] at H
                have c38b0 : (t369 == ((rd_T43 l0 x3_1).f0)) = false := beq_eq_false_iff_ne.mpr c38
                have c38b1 : (t369 != ((rd_T43 l0 x3_1).f0)) = true := bne_iff_ne.mpr c38
                as_aux_lemma =>
                 have H' := Aside0.mk H
                 clear H
                 go_wp2_with (first | ((with_reducible refine gate_callee (f := 25) rfl ?_); refine goesL_ (some 65) rfl rfl Try.func25 (by kernel_rfl) rfl #[.int .i64 t360] rfl (by (try simp only [List.map_toArray, List.map_cons, List.map_nil]); first | done | rfl | (simp only [List.length_drop, List.length_take]; rfl)) ?_; (with_reducible refine (arraslaw5_num.calls t360 t372 _ A34.out).mono ?_); rintro e w' ⟨rfl, ⟨nd, rfl⟩⟩; refine ⟨_, rfl, ?_⟩) | (go_at_call 25; (with_reducible refine (arraslaw5_num.calls t371 t373 _ A36.out).mono ?_); rintro e w' ⟨rfl, ⟨nd, rfl⟩⟩; have hcz40_0 : w32.cell? ⟨gb357, 0, none⟩ = some (.int .i64 ((rd_T43 l0 x3_1).f0)) := (blk_cell BK357.out 0).trans rfl; have hcz40_1 : w32.cell? ⟨gb357, 1, none⟩ = some (.string ((rd_T43 l0 x3_1).f1)) := (blk_cell BK357.out 1).trans rfl; have hcz40_2 : w32.cell? ⟨gb357, 2, none⟩ = some (.slice A356_2 ((rd_T43 l0 x3_1).f2).length c356_2) := (blk_cell BK357.out 2).trans rfl; have hcz40_3 : w32.cell? ⟨gb357, 3, none⟩ = some (.slice A356_3 ((rd_T43 l0 x3_1).f3).length c356_3) := (blk_cell BK357.out 3).trans rfl; have hfz40_0 := blk_frozen BK357.out 0; have hfz40_1 := blk_frozen BK357.out 1; have hfz40_2 := blk_frozen BK357.out 2; have hfz40_3 := blk_frozen BK357.out 3))
                 go_meet
                 case rel => exact ⟨_, (true), (by first | rfl | (simp; done) | (simp [*]; done)), H', ⟨by have := HK1.out; have := HJ1.out; have := HJ6.out; first | omega | exact Nat.le_refl _⟩, ⟨by (with_reducible repeat (first | refine blk_drewN ?_ _ | refine blk_drew ?_ | refine blk_alloc ?_ _)); exact BK357.out⟩, ⟨by repeat (first | (with_reducible first | exact HB.out | apply below_alloc | apply pw_below_drewN | apply below_drew1 | refine below_set ?_ GE357.out) | exact HB.out)⟩⟩
              ·rw [if_neg c37] at H
               have c37b0 : (t373 == 0) = false := beq_eq_false_iff_ne.mpr c37
               have c37b1 : (t373 != 0) = true := bne_iff_ne.mpr c37
               as_aux_lemma =>
                have H' := Aside0.mk H
                clear H
                go_wp2_with (first | ((with_reducible refine gate_callee (f := 25) rfl ?_); refine goesL_ (some 65) rfl rfl Try.func25 (by kernel_rfl) rfl #[.int .i64 t360] rfl (by (try simp only [List.map_toArray, List.map_cons, List.map_nil]); first | done | rfl | (simp only [List.length_drop, List.length_take]; rfl)) ?_; (with_reducible refine (arraslaw5_num.calls t360 t372 _ A34.out).mono ?_); rintro e w' ⟨rfl, ⟨nd, rfl⟩⟩; refine ⟨_, rfl, ?_⟩) | (go_at_call 25; (with_reducible refine (arraslaw5_num.calls t371 t373 _ A36.out).mono ?_); rintro e w' ⟨rfl, ⟨nd, rfl⟩⟩))
                go_meet
                case rel => exact ⟨_, (true), (by first | rfl | (simp; done) | (simp [*]; done)), H', ⟨by have := HK1.out; have := HJ1.out; have := HJ6.out; first | omega | exact Nat.le_refl _⟩, ⟨by (with_reducible repeat (first | refine blk_drewN ?_ _ | refine blk_drew ?_ | refine blk_alloc ?_ _)); exact BK357.out⟩, ⟨by repeat (first | (with_reducible first | exact HB.out | apply below_alloc | apply pw_below_drewN | apply below_drew1 | refine below_set ?_ GE357.out) | exact HB.out)⟩⟩
             ·rw [if_neg c35] at H
              have c35b0 : (t372 == 0) = false := beq_eq_false_iff_ne.mpr c35
              have c35b1 : (t372 != 0) = true := bne_iff_ne.mpr c35
              (first | rw [c35b0] | (simp only [i64_w, i32_w]; rw [c35b0]) | skip)
              as_aux_lemma =>
               have H' := Aside0.mk H
               clear H
               go_wp2_with (first | ((with_reducible refine gate_callee (f := 25) rfl ?_); refine goesL_ (some 65) rfl rfl Try.func25 (by kernel_rfl) rfl #[.int .i64 t360] rfl (by (try simp only [List.map_toArray, List.map_cons, List.map_nil]); first | done | rfl | (simp only [List.length_drop, List.length_take]; rfl)) ?_; (with_reducible refine (arraslaw5_num.calls t360 t372 _ A34.out).mono ?_); rintro e w' ⟨rfl, ⟨nd, rfl⟩⟩; refine ⟨_, rfl, ?_⟩))
               go_meet
               case rel => exact ⟨_, (false), (by first | rfl | (simp; done) | (simp [*]; done)), H', ⟨by have := HK1.out; have := HJ1.out; have := HJ6.out; first | omega | exact Nat.le_refl _⟩, ⟨by (with_reducible repeat (first | refine blk_drewN ?_ _ | refine blk_drew ?_ | refine blk_alloc ?_ _)); exact BK357.out⟩, ⟨by repeat (first | (with_reducible first | exact HB.out | apply below_alloc | apply pw_below_drewN | apply below_drew1 | refine below_set ?_ GE357.out) | exact HB.out)⟩⟩
            case rest =>
             clear HC26
             (try clear c1); (try clear c2); (try clear p2); (try clear c3); (try clear c3b0); (try clear p3); (try clear q3); (try clear hx3); (try clear c4); (try clear c5); (try clear c5b0); (try clear c6); (try clear c6b0); (try clear c8); (try clear c11); (try clear c14); (try clear c14b0); (try clear c14b1); (try clear c17); (try clear c21); (try clear c23); (try clear c24); (try clear c25); (try clear c27); (try clear c35); (try clear c35b0); (try clear c35b1); (try clear p35); (try clear q35); (try clear hx35); (try clear c37); (try clear c37b0); (try clear c37b1); (try clear c38); (try clear c38b0); (try clear c38b1); (try clear hcz12_0); (try clear hcz12_1); (try clear hcz12_2); (try clear hcz12_3); (try clear hcz15_0); (try clear hcz15_1); (try clear hcz15_2); (try clear hcz15_3); (try clear hcz17_0); (try clear hcz17_1); (try clear hcz17_2); (try clear hcz17_3); (try clear hcz18_0); (try clear hcz18_1); (try clear hcz18_2); (try clear hcz18_3); (try clear hcz20_0); (try clear hcz20_1); (try clear hcz20_2); (try clear hcz20_3); (try clear hcz27_0); (try clear hcz27_1); (try clear hcz27_2); (try clear hcz27_3); (try clear hcz39_0); (try clear hcz39_1); (try clear hcz39_2); (try clear hcz39_3); (try clear hcz40_0); (try clear hcz40_1); (try clear hcz40_2); (try clear hcz40_3); (try clear hcz9_0); (try clear hcz9_1); (try clear hcz9_2); (try clear hcz9_3); (try clear hfz12_0); (try clear hfz12_1); (try clear hfz12_2); (try clear hfz12_3); (try clear hfz15_0); (try clear hfz15_1); (try clear hfz15_2); (try clear hfz15_3); (try clear hfz17_0); (try clear hfz17_1); (try clear hfz17_2); (try clear hfz17_3); (try clear hfz18_0); (try clear hfz18_1); (try clear hfz18_2); (try clear hfz18_3); (try clear hfz20_0); (try clear hfz20_1); (try clear hfz20_2); (try clear hfz20_3); (try clear hfz27_0); (try clear hfz27_1); (try clear hfz27_2); (try clear hfz27_3); (try clear hfz39_0); (try clear hfz39_1); (try clear hfz39_2); (try clear hfz39_3); (try clear hfz40_0); (try clear hfz40_1); (try clear hfz40_2); (try clear hfz40_3); (try clear hfz9_0); (try clear hfz9_1); (try clear hfz9_2); (try clear hfz9_3); (try clear hx356_0); (try clear hx356_1); (try clear hx356_2); (try clear hx356_3); (try clear p2); (try clear p3); (try clear p356); (try clear q3); (try clear q356)
             obtain ⟨kq, x83_25, rfl, HA, HJ25, BK357, HB⟩ := hcut
             cases kq with
             | zero => exact absurd HA.out (by simp [arraslaw5_CodeBack.j3])
             | succ kj25 =>
              have H := HA.out
              clear HA
              simp only [arraslaw5_CodeBack.j3] at H
              by_cases c41 : x83_25 = true
              ·subst c41
               have H1 : (some false) = some r := by rw [if_pos rfl] at H; exact H
               clear H
               have H := H1
               clear H1
               as_aux_lemma =>
                obtain rfl := Option.some.inj H
                go_wp2
                go_ret
                exact ⟨by first | rfl | (simp [errW_none, errW_some] <;> rfl) | (simp [*, errW_none, errW_some] <;> rfl), by repeat (first | (with_reducible first | exact HB.out | apply below_alloc | apply pw_below_drewN | apply below_drew1 | refine below_set ?_ GE357.out) | exact HB.out)⟩
              ·replace c41 := Bool.eq_false_iff.mpr c41
               subst c41
               have H1 : ((code_Text.f kj25 ((rd_T43 l0 x3_1).f1)).bind fun bt374 => ((arrasref0_CopyBytes.f kj25 bt374.1).bind fun t378 => (if t378.length + ((rd_T43 l0 x3_1).f3).length < 140737488355328 then ((code_TakeText.f kj25 (t378 ++ ((rd_T43 l0 x3_1).f3))).bind fun bt384 => ((arraslaw5_num.f bt374.2).bind fun t387 => (if t387 = 0 then ((arraslaw5_num.f bt384.2.2).bind fun t388 => (if t388 = 0 then (if bt384.1.toList = ((rd_T43 l0 x3_1).f1).toList then (arraslaw5_CodeBack.j4 kj25 l0 x3_1 bt374.1 (bt384.2.1 != (bt374.1.length : Int)) ((rd_T43 l0 x3_1).f0) ((rd_T43 l0 x3_1).f1) ((rd_T43 l0 x3_1).f2) ((rd_T43 l0 x3_1).f3)) else (arraslaw5_CodeBack.j4 kj25 l0 x3_1 bt374.1 true ((rd_T43 l0 x3_1).f0) ((rd_T43 l0 x3_1).f1) ((rd_T43 l0 x3_1).f2) ((rd_T43 l0 x3_1).f3))) else (arraslaw5_CodeBack.j4 kj25 l0 x3_1 bt374.1 true ((rd_T43 l0 x3_1).f0) ((rd_T43 l0 x3_1).f1) ((rd_T43 l0 x3_1).f2) ((rd_T43 l0 x3_1).f3)))) else (arraslaw5_CodeBack.j4 kj25 l0 x3_1 bt374.1 true ((rd_T43 l0 x3_1).f0) ((rd_T43 l0 x3_1).f1) ((rd_T43 l0 x3_1).f2) ((rd_T43 l0 x3_1).f3))))) else (none)))) = some r := by rw [if_neg (show ¬ (false = true) by decide)] at H; exact H
               clear H
               have H := H1
               clear H1
               replace H := Option.bind_eq_some_iff.mp H
               obtain ⟨⟨t374, t375⟩, A420, H⟩ := H
               (try dsimp only at H)
               have A42 := Aside0.mk A420
               clear A420
               replace H := Option.bind_eq_some_iff.mp H
               obtain ⟨t378, A430, H⟩ := H
               (try dsimp only at H)
               have A43 := Aside0.mk A430
               clear A430
               by_cases c44 : t378.length + ((rd_T43 l0 x3_1).f3).length < 140737488355328
               ·rw [if_pos c44] at H
                have LMc44 := Aside0.mk c44
                clear c44
                obtain ⟨y381, hy381⟩ : ∃ y_ : List Int, y_ = (t378 ++ ((rd_T43 l0 x3_1).f3)) := ⟨_, rfl⟩
                replace H : ((code_TakeText.f kj25 y381).bind fun bt384 => ((arraslaw5_num.f t375).bind fun t387 => (if t387 = 0 then ((arraslaw5_num.f bt384.2.2).bind fun t388 => (if t388 = 0 then (if bt384.1.toList = ((rd_T43 l0 x3_1).f1).toList then (arraslaw5_CodeBack.j4 kj25 l0 x3_1 t374 (bt384.2.1 != (t374.length : Int)) ((rd_T43 l0 x3_1).f0) ((rd_T43 l0 x3_1).f1) ((rd_T43 l0 x3_1).f2) ((rd_T43 l0 x3_1).f3)) else (arraslaw5_CodeBack.j4 kj25 l0 x3_1 t374 true ((rd_T43 l0 x3_1).f0) ((rd_T43 l0 x3_1).f1) ((rd_T43 l0 x3_1).f2) ((rd_T43 l0 x3_1).f3))) else (arraslaw5_CodeBack.j4 kj25 l0 x3_1 t374 true ((rd_T43 l0 x3_1).f0) ((rd_T43 l0 x3_1).f1) ((rd_T43 l0 x3_1).f2) ((rd_T43 l0 x3_1).f3)))) else (arraslaw5_CodeBack.j4 kj25 l0 x3_1 t374 true ((rd_T43 l0 x3_1).f0) ((rd_T43 l0 x3_1).f1) ((rd_T43 l0 x3_1).f2) ((rd_T43 l0 x3_1).f3))))) = some r := by first | (rw [hy381]; with_reducible exact H) | (have H2_ := (Option.bind_some _ _).symm.trans H; rw [hy381]; with_reducible exact H2_) | (have H2_ := (Option.bind_some _ _).symm.trans H; with_reducible exact H2_) | with_reducible exact H | (rw [hy381]; exact H) | exact H
                have Ny381 := Aside0.mk hy381
                clear hy381
                replace H := Option.bind_eq_some_iff.mp H
                obtain ⟨⟨t384, t385, t386⟩, A450, H⟩ := H
                (try dsimp only at H)
                have A45 := Aside0.mk A450
                clear A450
                have HC46 := Aside0.mk H
                clear H
                have hcz47_0 : wc.cell? ⟨gb357, 0, none⟩ = some (.int .i64 ((rd_T43 l0 x3_1).f0)) := (blk_cell BK357.out 0).trans rfl
                have hcz47_1 : wc.cell? ⟨gb357, 1, none⟩ = some (.string ((rd_T43 l0 x3_1).f1)) := (blk_cell BK357.out 1).trans rfl
                have hcz47_2 : wc.cell? ⟨gb357, 2, none⟩ = some (.slice A356_2 ((rd_T43 l0 x3_1).f2).length c356_2) := (blk_cell BK357.out 2).trans rfl
                have hcz47_3 : wc.cell? ⟨gb357, 3, none⟩ = some (.slice A356_3 ((rd_T43 l0 x3_1).f3).length c356_3) := (blk_cell BK357.out 3).trans rfl
                have hfz47_0 := blk_frozen BK357.out 0
                have hfz47_1 := blk_frozen BK357.out 1
                have hfz47_2 := blk_frozen BK357.out 2
                have hfz47_3 := blk_frozen BK357.out 3
                try go_wp2_with (first | ((with_reducible refine gate_callee (f := 28) rfl ?_); refine goesL_ (some 87) rfl rfl Try.func28 (by kernel_rfl) rfl #[.string ((rd_T43 l0 x3_1).f1)] rfl (by (try simp only [List.map_toArray, List.map_cons, List.map_nil]); first | done | rfl | (simp only [List.length_drop, List.length_take]; rfl)) ?_; (with_reducible refine (code_Text.calls kj25 ((rd_T43 l0 x3_1).f1) t374 t375 _ A42.out).mono ?_); rintro e w48 ⟨v376, rfl, ho0, hb⟩; refine ⟨_, rfl, ?_⟩; have n0_ := Aside0.mk (Kd.R_lower ho0 (below_size (by repeat (first | (with_reducible first | exact HB.out | apply below_alloc | apply pw_below_drewN | apply below_drew1 | refine below_set ?_ GE357.out) | exact HB.out)))); have n1_ := Aside0.mk (blk_below (g := gb357) (o := .cells #[.int .i64 ((rd_T43 l0 x3_1).f0), .string ((rd_T43 l0 x3_1).f1), .slice A356_2 ((rd_T43 l0 x3_1).f2).length c356_2, .slice A356_3 ((rd_T43 l0 x3_1).f3).length c356_3] 43 (0, 0)) (by (with_reducible repeat (first | refine blk_drewN ?_ _ | refine blk_drew ?_ | refine blk_alloc ?_ _)); exact BK357.out) hb); have n2_ := Aside0.mk (below_step (by repeat (first | (with_reducible first | exact HB.out | apply below_alloc | apply pw_below_drewN | apply below_drew1 | refine below_set ?_ GE357.out) | exact HB.out)) hb); clear BK357; clear HB; have HO377 := n0_; have BK357 := n1_; have HB := n2_; clear n0_ n1_ n2_; (try clear hb); (try clear hb2); (try clear hk); (try clear hi); (try clear ho0)))
                have n0_ := Aside0.mk (Kd.R_drew HO377.out)
                have n1_ := Aside0.mk (blk_drew BK357.out)
                have n2_ := Aside0.mk (below_drew1 HB.out)
                clear HO377
                clear BK357
                clear HB
                have HO377 := n0_
                have BK357 := n1_
                have HB := n2_
                clear n0_ n1_ n2_
                obtain ⟨Ao50, co50, eo50⟩ := Kd.R_slice HO377.out
                (first | subst eo50 | (injection eo50 with f1_ f2_ f3_; have f4_ := f1_.symm; have f5_ := f3_.symm; clear f1_ f2_ f3_; subst f4_; subst f5_))
                refine start_ (n := 13) (S := fun w' => w'.cell? ⟨gb357, 0, none⟩ = some (.int .i64 ((rd_T43 l0 x3_1).f0)) ∧ w'.cell? ⟨gb357, 1, none⟩ = some (.string ((rd_T43 l0 x3_1).f1)) ∧ w'.cell? ⟨gb357, 2, none⟩ = some (.slice A356_2 ((rd_T43 l0 x3_1).f2).length c356_2) ∧ w'.cell? ⟨gb357, 3, none⟩ = some (.slice A356_3 ((rd_T43 l0 x3_1).f3).length c356_3)) (ds := []) #[false, false, false, false, false, false, false, false, false, false, false, false, false] (by kernel_rfl) rfl rfl ⟨(blk_cell BK357.out 0).trans rfl, (blk_cell BK357.out 1).trans rfl, (blk_cell BK357.out 2).trans rfl, (blk_cell BK357.out 3).trans rfl⟩ (fun hHeld => ?_); refine with_tabW arraslaw5_CodeBack.tab12 arraslaw5_CodeBack.bits12 (fun HT_ HW_ => ?_)
                generalize w48.drew = w49 at HO377 BK357 HB hHeld ⊢
                refine pure_ (i := 0) (N := some 91) (v := ?_) (a' := ?_) #[true, false, false, false, false, false, false, false, false, false, false, false, false] rfl rfl (any_of HT_.out (by kernel_rfl)) (fun _ _ _ h => h) (Or.inl ⟨by rfl, ?_⟩) ?_ ?_
                rotate_left
                ·intro w'
                 go_simp
                 with_reducible rfl
                rotate_left
                ·simp only [Act.put, List.setIfInBounds_toArray, List.set_cons_zero, List.set_cons_succ, i64_w, i32_w]
                 rfl
                refine pure_ (i := 2) (N := some 93) (v := ?_) (a' := ?_) #[true, false, true, false, false, false, false, false, false, false, false, false, false] rfl rfl (any_of HT_.out (by kernel_rfl)) (fun _ _ _ h => h) (Or.inl ⟨by rfl, ?_⟩) ?_ ?_
                rotate_left
                ·intro w'
                 go_simp
                 with_reducible rfl
                rotate_left
                ·simp only [Act.put, List.setIfInBounds_toArray, List.set_cons_zero, List.set_cons_succ, i64_w, i32_w]
                 rfl
                refine take_ (i := 3) (N := some 94) (v := ?_) (a' := ?_) #[true, false, true, true, false, false, false, false, false, false, false, false, false] rfl rfl (take_ofW HT_.out HW_.out (by kernel_rfl)) (fun _ _ _ h => h) (Or.inl ⟨by rfl, ?_⟩) hHeld ?_ ?_
                rotate_left
                ·rintro w' ⟨s0, s1, s2, s3⟩
                 go_simp
                 with_reducible rfl
                rotate_left
                ·simp only [Act.put, List.setIfInBounds_toArray, List.set_cons_zero, List.set_cons_succ, i64_w, i32_w]
                 rfl
                refine one_ (i := 1) (N := some 92) #[true, true, true, true, false, false, false, false, false, false, false, false, false] rfl rfl (one_of HT_.out (by kernel_rfl)) (by decide) (fun K hK => ?_)
                refine goes_ Try.func17 (by kernel_rfl) rfl #[.slice Ao50 t374.length co50] (by rfl) rfl rfl (by (try simp only [List.map_toArray, List.map_cons, List.map_nil]); first | done | rfl | (simp only [List.length_drop, List.length_take]; rfl)) ?_
                with_reducible refine (arrasref0_CopyBytes.calls kj25 _ _ t374 t378 _ ?side1 ?side2 A43.out).mono ?_
                (case side1 => repeat (first | exact (Kd.R_reads' HO377.out).2.2 | with_reducible first | refine Kd.C_alloc ?_ _ | refine Kd.C_drewN ?_ _ | refine Kd.C_drew ?_))
                (case side2 => exact (Kd.R_reads' HO377.out).2.1)
                rintro e w51 ⟨v379, rfl, ho0, hb⟩
                refine ⟨_, rfl, ?_⟩
                have n0_ := Aside0.mk (Kd.R_elder' (by (with_reducible repeat (first | apply Kd.R_alloc | apply Kd.R_drewN | apply Kd.R_drew)); exact HO377.out) (Kd.R_base ho0) hb)
                have n1_ := Aside0.mk (Kd.R_lower (Kd.R_new' ho0 (Kd.R_lt (by (with_reducible repeat (first | apply Kd.R_alloc | apply Kd.R_drewN | apply Kd.R_drew)); exact HO377.out))) (below_size (by repeat (first | (with_reducible first | exact HB.out | apply below_alloc | apply pw_below_drewN | apply below_drew1 | refine below_set ?_ GE357.out) | exact HB.out))))
                have n2_ := Aside0.mk (blk_below (g := gb357) (o := .cells #[.int .i64 ((rd_T43 l0 x3_1).f0), .string ((rd_T43 l0 x3_1).f1), .slice A356_2 ((rd_T43 l0 x3_1).f2).length c356_2, .slice A356_3 ((rd_T43 l0 x3_1).f3).length c356_3] 43 (0, 0)) (by (with_reducible repeat (first | refine blk_drewN ?_ _ | refine blk_drew ?_ | refine blk_alloc ?_ _)); exact BK357.out) hb)
                have n3_ := Aside0.mk (below_step (by repeat (first | (with_reducible first | exact HB.out | apply below_alloc | apply pw_below_drewN | apply below_drew1 | refine below_set ?_ GE357.out) | exact HB.out)) hb)
                clear HO377
                clear BK357
                clear HB
                have HO377 := n0_
                have HO380 := n1_
                have BK357 := n2_
                have HB := n3_
                clear n0_ n1_ n2_ n3_
                (try clear hb)
                (try clear hb2)
                (try clear hk)
                (try clear hi)
                (try clear ho0)
                refine hK.out _ _ ⟨(blk_cell BK357.out 0).trans rfl, (blk_cell BK357.out 1).trans rfl, (blk_cell BK357.out 2).trans rfl, (blk_cell BK357.out 3).trans rfl⟩ (fun hHeld => ?_)
                clear hK K
                refine norm_ (a' := ?_) ?_ ?_
                rotate_left
                ·show Act.put _ (some 92) _ = _
                 simp only [Act.put, List.setIfInBounds_toArray, List.set_cons_zero, List.set_cons_succ, i64_w, i32_w]
                 rfl
                refine one_ (i := 4) (N := some 95) #[true, true, true, true, true, false, false, false, false, false, false, false, false] rfl rfl (one_of HT_.out (by kernel_rfl)) (by decide) (fun K hK => ?_)
                refine Kd.R_append_rows_step (Kd.int .u8) (w0 := w) w.heap.size (by rfl) (.tmp 92) (.tmp 94) 24 5 (.int .u8 0) 1 rfl Try.underlying24 info5 rfl (by decide) (by omega) v379 t378 ((rd_T43 l0 x3_1).f3) _ _ _ (fun k_ => some k_ ≠ (.slice Ao50 t374.length co50 : Value).ownBlock) (fun _ => False) rfl rfl ?aO ?aR (fun _ _ h => h) (fun _ h => h.elim) ?aF ?aB ?aS ?aL ?_
                (case aR => repeat (first | exact (Kd.C_below HR356_3.out HB.out) | with_reducible first | refine Kd.C_alloc ?_ _ | refine Kd.C_drewN ?_ _ | refine Kd.C_drew ?_))
                (case aB => exact (by repeat (first | (with_reducible first | exact HB.out | apply below_alloc | apply pw_below_drewN | apply below_drew1 | refine below_set ?_ GE357.out) | exact HB.out)))
                (case aF => exact (fun k_ hk => Kd.fresh' (Kd.R_lt (by (with_reducible repeat (first | apply Kd.R_alloc | apply Kd.R_drewN | apply Kd.R_drew)); exact HO377.out)) k_ hk))
                (case aO => exact (by (with_reducible repeat (first | apply Kd.R_alloc | apply Kd.R_drewN | apply Kd.R_drew)); exact Kd.R_mono HO380.out (fun _ hk => (by first | exact hk.2 | simp_all))))
                (case aS => exact (below_size (by repeat (first | (with_reducible first | exact HB.out | apply below_alloc | apply pw_below_drewN | apply below_drew1 | refine below_set ?_ GE357.out) | exact HB.out))))
                (case aL => have := LMc44.out; omega)
                intro v382 w52 ho hb hg hat
                rw [← Ny381.out] at ho
                have n0_ := Aside0.mk (blk_grown (g := gb357) (o := .cells #[.int .i64 ((rd_T43 l0 x3_1).f0), .string ((rd_T43 l0 x3_1).f1), .slice A356_2 ((rd_T43 l0 x3_1).f2).length c356_2, .slice A356_3 ((rd_T43 l0 x3_1).f3).length c356_3] 43 (0, 0)) (by (with_reducible repeat (first | refine blk_drewN ?_ _ | refine blk_drew ?_ | refine blk_alloc ?_ _)); exact BK357.out) hg (Kd.R_ne HO380.out BK357.out (by decide)))
                have n1_ := Aside0.mk (Kd.R_after (ok := (fun _ => True)) (by (with_reducible repeat (first | apply Kd.R_alloc | apply Kd.R_drewN | apply Kd.R_drew)); exact HO377.out) hg hat)
                have n2_ := Aside0.mk (hb)
                have n3_ := Aside0.mk (ho)
                clear BK357
                clear HO377
                clear HB
                clear HO380
                have BK357 := n0_
                have HO377 := n1_
                have HB := n2_
                have HO383 := n3_
                clear n0_ n1_ n2_ n3_
                clear ho hb hg hat
                obtain ⟨Ao53, co53, eo53⟩ := Kd.R_slice HO383.out
                (first | subst eo53 | (injection eo53 with f1_ f2_ f3_; have f4_ := f1_.symm; have f5_ := f3_.symm; clear f1_ f2_ f3_; subst f4_; subst f5_))
                refine hK.out _ _ ⟨(blk_cell BK357.out 0).trans rfl, (blk_cell BK357.out 1).trans rfl, (blk_cell BK357.out 2).trans rfl, (blk_cell BK357.out 3).trans rfl⟩ (fun hHeld => ?_)
                clear hK K
                refine norm_ (a' := ?_) ?_ ?_
                rotate_left
                ·show Act.put _ (some 95) _ = _
                 simp only [Act.put, List.setIfInBounds_toArray, List.set_cons_zero, List.set_cons_succ, i64_w, i32_w]
                 rfl
                refine one_ (i := 5) (N := some 96) #[true, true, true, true, true, true, false, false, false, false, false, false, false] rfl rfl (one_of HT_.out (by kernel_rfl)) (by decide) (fun K hK => ?_)
                refine goes_ Try.func36 (by kernel_rfl) rfl #[.slice Ao53 y381.length co53] (by rfl) rfl rfl (by (try simp only [List.map_toArray, List.map_cons, List.map_nil]); first | done | rfl | (simp only [List.length_drop, List.length_take]; rfl)) ?_
                with_reducible refine (code_TakeText.calls kj25 _ _ y381 t384 t385 t386 _ ?side1 ?side2 A45.out).mono ?_
                (case side1 => repeat (first | exact (Kd.R_reads' HO383.out).2.2 | with_reducible first | refine Kd.C_alloc ?_ _ | refine Kd.C_drewN ?_ _ | refine Kd.C_drew ?_))
                (case side2 => exact (Kd.R_reads' HO383.out).2.1)
                rintro e w' ⟨rfl, ⟨nd, rfl⟩⟩
                refine ⟨_, rfl, ?_⟩
                refine hK.out _ _ ⟨(blk_cell BK357.out 0).trans rfl, (blk_cell BK357.out 1).trans rfl, (blk_cell BK357.out 2).trans rfl, (blk_cell BK357.out 3).trans rfl⟩ (fun hHeld => ?_)
                clear hK K
                refine norm_ (a' := ?_) ?_ ?_
                rotate_left
                ·show Act.put _ (some 96) _ = _
                 simp only [Act.put, List.setIfInBounds_toArray, List.set_cons_zero, List.set_cons_succ, i64_w, i32_w]
                 rfl
                refine pure_ (i := 6) (N := some 90) (v := ?_) (a' := ?_) #[true, true, true, true, true, true, true, false, false, false, false, false, false] rfl rfl (any_of HT_.out (by kernel_rfl)) (fun _ _ _ h => h) (Or.inl ⟨by rfl, ?_⟩) ?_ ?_
                rotate_left
                ·intro w'
                 go_simp
                 with_reducible rfl
                rotate_left
                ·simp only [Act.put, List.setIfInBounds_toArray, List.set_cons_zero, List.set_cons_succ, i64_w, i32_w]
                 rfl
                refine pure_ (i := 7) (N := some 97) (v := ?_) (a' := ?_) #[true, true, true, true, true, true, true, true, false, false, false, false, false] rfl rfl (any_of HT_.out (by kernel_rfl)) (fun _ _ _ h => h) (Or.inl ⟨by rfl, ?_⟩) ?_ ?_
                rotate_left
                ·intro w'
                 go_simp
                 with_reducible rfl
                rotate_left
                ·simp only [Act.put, List.setIfInBounds_toArray, List.set_cons_zero, List.set_cons_succ, i64_w, i32_w]
                 rfl
                refine pure_ (i := 8) (N := some 98) (v := ?_) (a' := ?_) #[true, true, true, true, true, true, true, true, true, false, false, false, false] rfl rfl (any_of HT_.out (by kernel_rfl)) (fun _ _ _ h => h) (Or.inl ⟨by rfl, ?_⟩) ?_ ?_
                rotate_left
                ·intro w'
                 go_simp
                 with_reducible rfl
                rotate_left
                ·simp only [Act.put, List.setIfInBounds_toArray, List.set_cons_zero, List.set_cons_succ, i64_w, i32_w]
                 rfl
                refine pure_ (i := 9) (N := some 99) (v := ?_) (a' := ?_) #[true, true, true, true, true, true, true, true, true, true, false, false, false] rfl rfl (any_of HT_.out (by kernel_rfl)) (fun _ _ _ h => h) (Or.inl ⟨by rfl, ?_⟩) ?_ ?_
                rotate_left
                ·intro w'
                 go_simp
                 with_reducible rfl
                rotate_left
                ·simp only [Act.put, List.setIfInBounds_toArray, List.set_cons_zero, List.set_cons_succ, i64_w, i32_w]
                 rfl
                refine pure_ (i := 10) (N := some 11) (v := ?_) (a' := ?_) #[true, true, true, true, true, true, true, true, true, true, true, false, false] rfl rfl (any_of HT_.out (by kernel_rfl)) (fun _ _ _ h => h) (Or.inl ⟨by rfl, ?_⟩) ?_ ?_
                rotate_left
                ·intro w'
                 go_simp
                 with_reducible rfl
                rotate_left
                ·simp only [Act.put, List.setIfInBounds_toArray, List.set_cons_zero, List.set_cons_succ, i64_w, i32_w]
                 rfl
                refine pure_ (i := 11) (N := some 8) (v := ?_) (a' := ?_) #[true, true, true, true, true, true, true, true, true, true, true, true, false] rfl rfl (any_of HT_.out (by kernel_rfl)) (fun _ _ _ h => h) (Or.inl ⟨by rfl, ?_⟩) ?_ ?_
                rotate_left
                ·intro w'
                 go_simp
                 with_reducible rfl
                rotate_left
                ·simp only [Act.put, List.setIfInBounds_toArray, List.set_cons_zero, List.set_cons_succ, i64_w, i32_w]
                 rfl
                refine pure_ (i := 12) (N := some 9) (v := ?_) (a' := ?_) #[true, true, true, true, true, true, true, true, true, true, true, true, true] rfl rfl (any_of HT_.out (by kernel_rfl)) (fun _ _ _ h => h) (Or.inl ⟨by rfl, ?_⟩) ?_ ?_
                rotate_left
                ·intro w'
                 go_simp
                 with_reducible rfl
                rotate_left
                ·simp only [Act.put, List.setIfInBounds_toArray, List.set_cons_zero, List.set_cons_succ, i64_w, i32_w]
                 rfl
                refine done_ (done_of HT_.out (by kernel_rfl)) ?_
                go_upto_region 13 with (fail)
                (try (rw [drewN_self w52]; generalize hq_ : World.drewN w52 _ = w52; have n0_ : Aside0 (Kd.R (Kd.int .u8) 5 w52 w.heap.size (fun k_ => some k_ ≠ (.slice Ao53 y381.length co53 : Value).ownBlock) (.slice Ao50 t374.length co50) t374) := ⟨by rw [← hq_]; exact (by (with_reducible repeat (first | apply Kd.R_alloc | apply Kd.R_drewN | apply Kd.R_drew)); exact Kd.R_mono HO377.out (fun _ hk => (by first | exact hk.2 | simp_all)))⟩; have n1_ : Aside0 (Kd.R (Kd.int .u8) 5 w52 w.heap.size (fun k_ => some k_ ≠ (.slice Ao50 t374.length co50 : Value).ownBlock) (.slice Ao53 y381.length co53) y381) := ⟨by rw [← hq_]; exact (by (with_reducible repeat (first | apply Kd.R_alloc | apply Kd.R_drewN | apply Kd.R_drew)); exact HO383.out)⟩; have n2_ : Aside0 (w52.heap[gb357]? = some (.cells #[.int .i64 ((rd_T43 l0 x3_1).f0), .string ((rd_T43 l0 x3_1).f1), .slice A356_2 ((rd_T43 l0 x3_1).f2).length c356_2, .slice A356_3 ((rd_T43 l0 x3_1).f3).length c356_3] 43 (0, 0))) := ⟨by rw [← hq_]; exact (by (with_reducible repeat (first | refine blk_drewN ?_ _ | refine blk_drew ?_ | refine blk_alloc ?_ _)); exact BK357.out)⟩; have n3_ : Aside0 (Below w.heap.size w w52) := ⟨by rw [← hq_]; exact (by repeat (first | (with_reducible first | exact HB.out | apply below_alloc | apply pw_below_drewN | apply below_drew1 | refine below_set ?_ GE357.out) | exact HB.out))⟩; clear HO377 HO383 BK357 HB hq_; have HO377 := n0_; have HO383 := n1_; have BK357 := n2_; have HB := n3_; clear n0_ n1_ n2_ n3_))
                go_cut [119] (fun v119 wc => ∃ (kq : Nat) (x119_45 : Bool), v119 = .bool x119_45 ∧ Aside0 (arraslaw5_CodeBack.j4 kq l0 x3_1 t374 x119_45 ((rd_T43 l0 x3_1).f0) ((rd_T43 l0 x3_1).f1) ((rd_T43 l0 x3_1).f2) ((rd_T43 l0 x3_1).f3) = some r) ∧ Aside0 (kq ≤ kj25) ∧ Aside0 (Kd.R (Kd.int .u8) 5 wc w.heap.size (fun _ => True) (.slice Ao50 t374.length co50) t374) ∧ Aside0 (wc.heap[gb357]? = some (.cells #[.int .i64 ((rd_T43 l0 x3_1).f0), .string ((rd_T43 l0 x3_1).f1), (.slice A356_2 ((rd_T43 l0 x3_1).f2).length c356_2), (.slice A356_3 ((rd_T43 l0 x3_1).f3).length c356_3)] 43 (0, 0))) ∧ Aside0 (Below w.heap.size w wc))
                case first =>
                 have H := HC46.out
                 clear HC46
                 replace H := Option.bind_eq_some_iff.mp H
                 obtain ⟨t387, A540, H⟩ := H
                 (try dsimp only at H)
                 have A54 := Aside0.mk A540
                 clear A540
                 by_cases c55 : t387 = 0
                 ·rw [if_pos c55] at H
                  have c55b0 : (t387 == 0) = true := beq_iff_eq.mpr c55
                  have c55b1 : (t387 != 0) = false := bne_eq_false_iff_eq.mpr c55
                  clear c55
                  (first | rw [c55b0] | (simp only [i64_w, i32_w]; rw [c55b0]) | skip)
                  replace H := Option.bind_eq_some_iff.mp H
                  obtain ⟨t388, A560, H⟩ := H
                  (try dsimp only at H)
                  have A56 := Aside0.mk A560
                  clear A560
                  by_cases c57 : t388 = 0
                  ·rw [if_pos c57] at H
                   have c57b0 : (t388 == 0) = true := beq_iff_eq.mpr c57
                   have c57b1 : (t388 != 0) = false := bne_eq_false_iff_eq.mpr c57
                   clear c57
                   by_cases c58 : t384.toList = ((rd_T43 l0 x3_1).f1).toList
                   ·rw [if_pos c58] at H
                    have c58b0 : (t384.toList == ((rd_T43 l0 x3_1).f1).toList) = true := beq_iff_eq.mpr c58
                    have c58b1 : (t384.toList != ((rd_T43 l0 x3_1).f1).toList) = false := bne_eq_false_iff_eq.mpr c58
                    clear c58
                    as_aux_lemma =>
                     have H' := Aside0.mk H
                     clear H
                     go_wp2_with (first | ((with_reducible refine gate_callee (f := 25) rfl ?_); refine goesL_ (some 101) rfl rfl Try.func25 (by kernel_rfl) rfl #[.int .i64 t375] rfl (by (try simp only [List.map_toArray, List.map_cons, List.map_nil]); first | done | rfl | (simp only [List.length_drop, List.length_take]; rfl)) ?_; (with_reducible refine (arraslaw5_num.calls t375 t387 _ A54.out).mono ?_); rintro e w' ⟨rfl, ⟨nd, rfl⟩⟩; refine ⟨_, rfl, ?_⟩) | (go_at_call 25; (with_reducible refine (arraslaw5_num.calls t386 t388 _ A56.out).mono ?_); rintro e w' ⟨rfl, ⟨nd, rfl⟩⟩; have hcz59_0 : w52.cell? ⟨gb357, 0, none⟩ = some (.int .i64 ((rd_T43 l0 x3_1).f0)) := (blk_cell BK357.out 0).trans rfl; have hcz59_1 : w52.cell? ⟨gb357, 1, none⟩ = some (.string ((rd_T43 l0 x3_1).f1)) := (blk_cell BK357.out 1).trans rfl; have hcz59_2 : w52.cell? ⟨gb357, 2, none⟩ = some (.slice A356_2 ((rd_T43 l0 x3_1).f2).length c356_2) := (blk_cell BK357.out 2).trans rfl; have hcz59_3 : w52.cell? ⟨gb357, 3, none⟩ = some (.slice A356_3 ((rd_T43 l0 x3_1).f3).length c356_3) := (blk_cell BK357.out 3).trans rfl; have hfz59_0 := blk_frozen BK357.out 0; have hfz59_1 := blk_frozen BK357.out 1; have hfz59_2 := blk_frozen BK357.out 2; have hfz59_3 := blk_frozen BK357.out 3))
                     go_meet
                     case rel => exact ⟨_, ((t385 != (t374.length : Int))), (by first | rfl | (simp; done) | (simp [*]; done)), H', ⟨by have := HK1.out; have := HJ1.out; have := HJ6.out; have := HJ25.out; first | omega | exact Nat.le_refl _⟩, ⟨by (with_reducible repeat (first | apply Kd.R_alloc | apply Kd.R_drewN | apply Kd.R_drew)); exact Kd.R_mono HO377.out (fun _ hk => trivial)⟩, ⟨by (with_reducible repeat (first | refine blk_drewN ?_ _ | refine blk_drew ?_ | refine blk_alloc ?_ _)); exact BK357.out⟩, ⟨by repeat (first | (with_reducible first | exact HB.out | apply below_alloc | apply pw_below_drewN | apply below_drew1 | refine below_set ?_ GE357.out) | exact HB.out)⟩⟩
                   ·rw [if_neg c58] at H
                    have c58b0 : (t384.toList == ((rd_T43 l0 x3_1).f1).toList) = false := beq_eq_false_iff_ne.mpr c58
                    have c58b1 : (t384.toList != ((rd_T43 l0 x3_1).f1).toList) = true := bne_iff_ne.mpr c58
                    as_aux_lemma =>
                     have H' := Aside0.mk H
                     clear H
                     go_wp2_with (first | ((with_reducible refine gate_callee (f := 25) rfl ?_); refine goesL_ (some 101) rfl rfl Try.func25 (by kernel_rfl) rfl #[.int .i64 t375] rfl (by (try simp only [List.map_toArray, List.map_cons, List.map_nil]); first | done | rfl | (simp only [List.length_drop, List.length_take]; rfl)) ?_; (with_reducible refine (arraslaw5_num.calls t375 t387 _ A54.out).mono ?_); rintro e w' ⟨rfl, ⟨nd, rfl⟩⟩; refine ⟨_, rfl, ?_⟩) | (go_at_call 25; (with_reducible refine (arraslaw5_num.calls t386 t388 _ A56.out).mono ?_); rintro e w' ⟨rfl, ⟨nd, rfl⟩⟩; have hcz60_0 : w52.cell? ⟨gb357, 0, none⟩ = some (.int .i64 ((rd_T43 l0 x3_1).f0)) := (blk_cell BK357.out 0).trans rfl; have hcz60_1 : w52.cell? ⟨gb357, 1, none⟩ = some (.string ((rd_T43 l0 x3_1).f1)) := (blk_cell BK357.out 1).trans rfl; have hcz60_2 : w52.cell? ⟨gb357, 2, none⟩ = some (.slice A356_2 ((rd_T43 l0 x3_1).f2).length c356_2) := (blk_cell BK357.out 2).trans rfl; have hcz60_3 : w52.cell? ⟨gb357, 3, none⟩ = some (.slice A356_3 ((rd_T43 l0 x3_1).f3).length c356_3) := (blk_cell BK357.out 3).trans rfl; have hfz60_0 := blk_frozen BK357.out 0; have hfz60_1 := blk_frozen BK357.out 1; have hfz60_2 := blk_frozen BK357.out 2; have hfz60_3 := blk_frozen BK357.out 3))
                     go_meet
                     case rel => exact ⟨_, (true), (by first | rfl | (simp; done) | (simp [*]; done)), H', ⟨by have := HK1.out; have := HJ1.out; have := HJ6.out; have := HJ25.out; first | omega | exact Nat.le_refl _⟩, ⟨by (with_reducible repeat (first | apply Kd.R_alloc | apply Kd.R_drewN | apply Kd.R_drew)); exact Kd.R_mono HO377.out (fun _ hk => trivial)⟩, ⟨by (with_reducible repeat (first | refine blk_drewN ?_ _ | refine blk_drew ?_ | refine blk_alloc ?_ _)); exact BK357.out⟩, ⟨by repeat (first | (with_reducible first | exact HB.out | apply below_alloc | apply pw_below_drewN | apply below_drew1 | refine below_set ?_ GE357.out) | exact HB.out)⟩⟩
                  ·rw [if_neg c57] at H
                   have c57b0 : (t388 == 0) = false := beq_eq_false_iff_ne.mpr c57
                   have c57b1 : (t388 != 0) = true := bne_iff_ne.mpr c57
                   as_aux_lemma =>
                    have H' := Aside0.mk H
                    clear H
                    go_wp2_with (first | ((with_reducible refine gate_callee (f := 25) rfl ?_); refine goesL_ (some 101) rfl rfl Try.func25 (by kernel_rfl) rfl #[.int .i64 t375] rfl (by (try simp only [List.map_toArray, List.map_cons, List.map_nil]); first | done | rfl | (simp only [List.length_drop, List.length_take]; rfl)) ?_; (with_reducible refine (arraslaw5_num.calls t375 t387 _ A54.out).mono ?_); rintro e w' ⟨rfl, ⟨nd, rfl⟩⟩; refine ⟨_, rfl, ?_⟩) | (go_at_call 25; (with_reducible refine (arraslaw5_num.calls t386 t388 _ A56.out).mono ?_); rintro e w' ⟨rfl, ⟨nd, rfl⟩⟩))
                    go_meet
                    case rel => exact ⟨_, (true), (by first | rfl | (simp; done) | (simp [*]; done)), H', ⟨by have := HK1.out; have := HJ1.out; have := HJ6.out; have := HJ25.out; first | omega | exact Nat.le_refl _⟩, ⟨by (with_reducible repeat (first | apply Kd.R_alloc | apply Kd.R_drewN | apply Kd.R_drew)); exact Kd.R_mono HO377.out (fun _ hk => trivial)⟩, ⟨by (with_reducible repeat (first | refine blk_drewN ?_ _ | refine blk_drew ?_ | refine blk_alloc ?_ _)); exact BK357.out⟩, ⟨by repeat (first | (with_reducible first | exact HB.out | apply below_alloc | apply pw_below_drewN | apply below_drew1 | refine below_set ?_ GE357.out) | exact HB.out)⟩⟩
                 ·rw [if_neg c55] at H
                  have c55b0 : (t387 == 0) = false := beq_eq_false_iff_ne.mpr c55
                  have c55b1 : (t387 != 0) = true := bne_iff_ne.mpr c55
                  (first | rw [c55b0] | (simp only [i64_w, i32_w]; rw [c55b0]) | skip)
                  as_aux_lemma =>
                   have H' := Aside0.mk H
                   clear H
                   go_wp2_with (first | ((with_reducible refine gate_callee (f := 25) rfl ?_); refine goesL_ (some 101) rfl rfl Try.func25 (by kernel_rfl) rfl #[.int .i64 t375] rfl (by (try simp only [List.map_toArray, List.map_cons, List.map_nil]); first | done | rfl | (simp only [List.length_drop, List.length_take]; rfl)) ?_; (with_reducible refine (arraslaw5_num.calls t375 t387 _ A54.out).mono ?_); rintro e w' ⟨rfl, ⟨nd, rfl⟩⟩; refine ⟨_, rfl, ?_⟩))
                   go_meet
                   case rel => exact ⟨_, (true), (by first | rfl | (simp; done) | (simp [*]; done)), H', ⟨by have := HK1.out; have := HJ1.out; have := HJ6.out; have := HJ25.out; first | omega | exact Nat.le_refl _⟩, ⟨by (with_reducible repeat (first | apply Kd.R_alloc | apply Kd.R_drewN | apply Kd.R_drew)); exact Kd.R_mono HO377.out (fun _ hk => trivial)⟩, ⟨by (with_reducible repeat (first | refine blk_drewN ?_ _ | refine blk_drew ?_ | refine blk_alloc ?_ _)); exact BK357.out⟩, ⟨by repeat (first | (with_reducible first | exact HB.out | apply below_alloc | apply pw_below_drewN | apply below_drew1 | refine below_set ?_ GE357.out) | exact HB.out)⟩⟩
                case rest =>
                 clear HC46
                 (try clear c1); (try clear c2); (try clear p2); (try clear c3); (try clear c3b0); (try clear p3); (try clear q3); (try clear hx3); (try clear c4); (try clear c5); (try clear c5b0); (try clear c6); (try clear c6b0); (try clear c8); (try clear c11); (try clear c14); (try clear c14b0); (try clear c14b1); (try clear c17); (try clear c21); (try clear c23); (try clear c24); (try clear c25); (try clear c27); (try clear c28); (try clear c35); (try clear c35b0); (try clear c35b1); (try clear p35); (try clear q35); (try clear hx35); (try clear c36); (try clear c37); (try clear c37b0); (try clear c37b1); (try clear c38); (try clear c38b0); (try clear c38b1); (try clear c41); (try clear c44); (try clear c55); (try clear c55b0); (try clear c55b1); (try clear c57); (try clear c57b0); (try clear c57b1); (try clear c58); (try clear c58b0); (try clear c58b1); (try clear hcz12_0); (try clear hcz12_1); (try clear hcz12_2); (try clear hcz12_3); (try clear hcz15_0); (try clear hcz15_1); (try clear hcz15_2); (try clear hcz15_3); (try clear hcz17_0); (try clear hcz17_1); (try clear hcz17_2); (try clear hcz17_3); (try clear hcz18_0); (try clear hcz18_1); (try clear hcz18_2); (try clear hcz18_3); (try clear hcz20_0); (try clear hcz20_1); (try clear hcz20_2); (try clear hcz20_3); (try clear hcz27_0); (try clear hcz27_1); (try clear hcz27_2); (try clear hcz27_3); (try clear hcz39_0); (try clear hcz39_1); (try clear hcz39_2); (try clear hcz39_3); (try clear hcz40_0); (try clear hcz40_1); (try clear hcz40_2); (try clear hcz40_3); (try clear hcz47_0); (try clear hcz47_1); (try clear hcz47_2); (try clear hcz47_3); (try clear hcz59_0); (try clear hcz59_1); (try clear hcz59_2); (try clear hcz59_3); (try clear hcz60_0); (try clear hcz60_1); (try clear hcz60_2); (try clear hcz60_3); (try clear hcz9_0); (try clear hcz9_1); (try clear hcz9_2); (try clear hcz9_3); (try clear hfz12_0); (try clear hfz12_1); (try clear hfz12_2); (try clear hfz12_3); (try clear hfz15_0); (try clear hfz15_1); (try clear hfz15_2); (try clear hfz15_3); (try clear hfz17_0); (try clear hfz17_1); (try clear hfz17_2); (try clear hfz17_3); (try clear hfz18_0); (try clear hfz18_1); (try clear hfz18_2); (try clear hfz18_3); (try clear hfz20_0); (try clear hfz20_1); (try clear hfz20_2); (try clear hfz20_3); (try clear hfz27_0); (try clear hfz27_1); (try clear hfz27_2); (try clear hfz27_3); (try clear hfz39_0); (try clear hfz39_1); (try clear hfz39_2); (try clear hfz39_3); (try clear hfz40_0); (try clear hfz40_1); (try clear hfz40_2); (try clear hfz40_3); (try clear hfz47_0); (try clear hfz47_1); (try clear hfz47_2); (try clear hfz47_3); (try clear hfz59_0); (try clear hfz59_1); (try clear hfz59_2); (try clear hfz59_3); (try clear hfz60_0); (try clear hfz60_1); (try clear hfz60_2); (try clear hfz60_3); (try clear hfz9_0); (try clear hfz9_1); (try clear hfz9_2); (try clear hfz9_3); (try clear hx356_0); (try clear hx356_1); (try clear hx356_2); (try clear hx356_3); (try clear p2); (try clear p3); (try clear p35); (try clear p356); (try clear q3); (try clear q35); (try clear q356)
                 obtain ⟨kq, x119_45, rfl, HA, HJ45, HO_10, BK357, HB⟩ := hcut
                 cases kq with
                 | zero => exact absurd HA.out (by simp [arraslaw5_CodeBack.j4])
                 | succ kj45 =>
                  have H := HA.out
                  clear HA
                  simp only [arraslaw5_CodeBack.j4] at H
                  by_cases c61 : x119_45 = true
                  ·subst c61
                   have H1 : (some false) = some r := by rw [if_pos rfl] at H; exact H
                   clear H
                   have H := H1
                   clear H1
                   as_aux_lemma =>
                    obtain rfl := Option.some.inj H
                    go_wp2
                    go_ret
                    exact ⟨by first | rfl | (simp [errW_none, errW_some] <;> rfl) | (simp [*, errW_none, errW_some] <;> rfl), by repeat (first | (with_reducible first | exact HB.out | apply below_alloc | apply pw_below_drewN | apply below_drew1 | refine below_set ?_ GE357.out) | exact HB.out)⟩
                  ·replace c61 := Bool.eq_false_iff.mpr c61
                   subst c61
                   have H1 : ((code_Nums.f kj45 ((rd_T43 l0 x3_1).f2)).bind fun bt389 => ((arrasref0_CopyBytes.f kj45 bt389.1).bind fun t393 => (if t393.length + ((rd_T43 l0 x3_1).f3).length < 140737488355328 then ((code_TakeNums.f kj45 (t393 ++ ((rd_T43 l0 x3_1).f3))).bind fun bt399 => ((arraslaw5_num.f bt389.2).bind fun t404 => (if t404 = 0 then ((arraslaw5_num.f bt399.2.2).bind fun t405 => (if t405 = 0 then ((arrasref0_EqNumbers.f kj45 bt399.1 ((rd_T43 l0 x3_1).f2)).bind fun t406 => (if t406 = true then (arraslaw5_CodeBack.j5 kj45 l0 x3_1 t374 (bt399.2.1 != (bt389.1.length : Int)) ((rd_T43 l0 x3_1).f0) ((rd_T43 l0 x3_1).f1) ((rd_T43 l0 x3_1).f2) ((rd_T43 l0 x3_1).f3)) else (arraslaw5_CodeBack.j5 kj45 l0 x3_1 t374 true ((rd_T43 l0 x3_1).f0) ((rd_T43 l0 x3_1).f1) ((rd_T43 l0 x3_1).f2) ((rd_T43 l0 x3_1).f3)))) else (arraslaw5_CodeBack.j5 kj45 l0 x3_1 t374 true ((rd_T43 l0 x3_1).f0) ((rd_T43 l0 x3_1).f1) ((rd_T43 l0 x3_1).f2) ((rd_T43 l0 x3_1).f3)))) else (arraslaw5_CodeBack.j5 kj45 l0 x3_1 t374 false ((rd_T43 l0 x3_1).f0) ((rd_T43 l0 x3_1).f1) ((rd_T43 l0 x3_1).f2) ((rd_T43 l0 x3_1).f3))))) else (none)))) = some r := by rw [if_neg (show ¬ (false = true) by decide)] at H; exact H
                   clear H
                   have H := H1
                   clear H1
                   replace H := Option.bind_eq_some_iff.mp H
                   obtain ⟨⟨t389, t390⟩, A620, H⟩ := H
                   (try dsimp only at H)
                   have A62 := Aside0.mk A620
                   clear A620
                   replace H := Option.bind_eq_some_iff.mp H
                   obtain ⟨t393, A630, H⟩ := H
                   (try dsimp only at H)
                   have A63 := Aside0.mk A630
                   clear A630
                   by_cases c64 : t393.length + ((rd_T43 l0 x3_1).f3).length < 140737488355328
                   ·rw [if_pos c64] at H
                    have LMc64 := Aside0.mk c64
                    clear c64
                    obtain ⟨y396, hy396⟩ : ∃ y_ : List Int, y_ = (t393 ++ ((rd_T43 l0 x3_1).f3)) := ⟨_, rfl⟩
                    replace H : ((code_TakeNums.f kj45 y396).bind fun bt399 => ((arraslaw5_num.f t390).bind fun t404 => (if t404 = 0 then ((arraslaw5_num.f bt399.2.2).bind fun t405 => (if t405 = 0 then ((arrasref0_EqNumbers.f kj45 bt399.1 ((rd_T43 l0 x3_1).f2)).bind fun t406 => (if t406 = true then (arraslaw5_CodeBack.j5 kj45 l0 x3_1 t374 (bt399.2.1 != (t389.length : Int)) ((rd_T43 l0 x3_1).f0) ((rd_T43 l0 x3_1).f1) ((rd_T43 l0 x3_1).f2) ((rd_T43 l0 x3_1).f3)) else (arraslaw5_CodeBack.j5 kj45 l0 x3_1 t374 true ((rd_T43 l0 x3_1).f0) ((rd_T43 l0 x3_1).f1) ((rd_T43 l0 x3_1).f2) ((rd_T43 l0 x3_1).f3)))) else (arraslaw5_CodeBack.j5 kj45 l0 x3_1 t374 true ((rd_T43 l0 x3_1).f0) ((rd_T43 l0 x3_1).f1) ((rd_T43 l0 x3_1).f2) ((rd_T43 l0 x3_1).f3)))) else (arraslaw5_CodeBack.j5 kj45 l0 x3_1 t374 false ((rd_T43 l0 x3_1).f0) ((rd_T43 l0 x3_1).f1) ((rd_T43 l0 x3_1).f2) ((rd_T43 l0 x3_1).f3))))) = some r := by first | (rw [hy396]; with_reducible exact H) | (have H2_ := (Option.bind_some _ _).symm.trans H; rw [hy396]; with_reducible exact H2_) | (have H2_ := (Option.bind_some _ _).symm.trans H; with_reducible exact H2_) | with_reducible exact H | (rw [hy396]; exact H) | exact H
                    have Ny396 := Aside0.mk hy396
                    clear hy396
                    replace H := Option.bind_eq_some_iff.mp H
                    obtain ⟨⟨t399, t400, t401⟩, A650, H⟩ := H
                    (try dsimp only at H)
                    have A65 := Aside0.mk A650
                    clear A650
                    have HC66 := Aside0.mk H
                    clear H
                    have hcz67_0 : wc.cell? ⟨gb357, 0, none⟩ = some (.int .i64 ((rd_T43 l0 x3_1).f0)) := (blk_cell BK357.out 0).trans rfl
                    have hcz67_1 : wc.cell? ⟨gb357, 1, none⟩ = some (.string ((rd_T43 l0 x3_1).f1)) := (blk_cell BK357.out 1).trans rfl
                    have hcz67_2 : wc.cell? ⟨gb357, 2, none⟩ = some (.slice A356_2 ((rd_T43 l0 x3_1).f2).length c356_2) := (blk_cell BK357.out 2).trans rfl
                    have hcz67_3 : wc.cell? ⟨gb357, 3, none⟩ = some (.slice A356_3 ((rd_T43 l0 x3_1).f3).length c356_3) := (blk_cell BK357.out 3).trans rfl
                    have hfz67_0 := blk_frozen BK357.out 0
                    have hfz67_1 := blk_frozen BK357.out 1
                    have hfz67_2 := blk_frozen BK357.out 2
                    have hfz67_3 := blk_frozen BK357.out 3
                    try go_wp2_with (first | ((with_reducible refine gate_callee (f := 29) rfl ?_); refine goesL_ (some 123) rfl rfl Try.func29 (by kernel_rfl) rfl #[.slice A356_2 ((rd_T43 l0 x3_1).f2).length c356_2] rfl (by (try simp only [List.map_toArray, List.map_cons, List.map_nil]); first | done | rfl | (simp only [List.length_drop, List.length_take]; rfl)) ?_; (with_reducible refine (code_Nums.calls kj45 _ _ ((rd_T43 l0 x3_1).f2) t389 t390 _ ?side1 ?side2 A62.out).mono ?_); (case side1 => repeat (first | exact (Kd.C_below HR356_2.out HB.out) | with_reducible first | refine Kd.C_alloc ?_ _ | refine Kd.C_drewN ?_ _ | refine Kd.C_drew ?_)); (case side2 => exact HC356_2.out); rintro e w68 ⟨v391, rfl, ho0, hb⟩; refine ⟨_, rfl, ?_⟩; have n0_ := Aside0.mk (Kd.R_elder' (by (with_reducible repeat (first | apply Kd.R_alloc | apply Kd.R_drewN | apply Kd.R_drew)); exact HO_10.out) (Kd.R_base ho0) hb); have n1_ := Aside0.mk (Kd.R_lower (Kd.R_new' ho0 (Kd.R_lt (by (with_reducible repeat (first | apply Kd.R_alloc | apply Kd.R_drewN | apply Kd.R_drew)); exact HO_10.out))) (below_size (by repeat (first | (with_reducible first | exact HB.out | apply below_alloc | apply pw_below_drewN | apply below_drew1 | refine below_set ?_ GE357.out) | exact HB.out)))); have n2_ := Aside0.mk (blk_below (g := gb357) (o := .cells #[.int .i64 ((rd_T43 l0 x3_1).f0), .string ((rd_T43 l0 x3_1).f1), .slice A356_2 ((rd_T43 l0 x3_1).f2).length c356_2, .slice A356_3 ((rd_T43 l0 x3_1).f3).length c356_3] 43 (0, 0)) (by (with_reducible repeat (first | refine blk_drewN ?_ _ | refine blk_drew ?_ | refine blk_alloc ?_ _)); exact BK357.out) hb); have n3_ := Aside0.mk (below_step (by repeat (first | (with_reducible first | exact HB.out | apply below_alloc | apply pw_below_drewN | apply below_drew1 | refine below_set ?_ GE357.out) | exact HB.out)) hb); clear HO_10; clear BK357; clear HB; have HO_10 := n0_; have HO392 := n1_; have BK357 := n2_; have HB := n3_; clear n0_ n1_ n2_ n3_; (try clear hb); (try clear hb2); (try clear hk); (try clear hi); (try clear ho0)))
                    have n0_ := Aside0.mk (Kd.R_drew HO_10.out)
                    have n1_ := Aside0.mk (Kd.R_drew HO392.out)
                    have n2_ := Aside0.mk (blk_drew BK357.out)
                    have n3_ := Aside0.mk (below_drew1 HB.out)
                    clear HO_10
                    clear HO392
                    clear BK357
                    clear HB
                    have HO_10 := n0_
                    have HO392 := n1_
                    have BK357 := n2_
                    have HB := n3_
                    clear n0_ n1_ n2_ n3_
                    obtain ⟨Ao70, co70, eo70⟩ := Kd.R_slice HO392.out
                    (first | subst eo70 | (injection eo70 with f1_ f2_ f3_; have f4_ := f1_.symm; have f5_ := f3_.symm; clear f1_ f2_ f3_; subst f4_; subst f5_))
                    refine start_ (n := 13) (S := fun w' => w'.cell? ⟨gb357, 0, none⟩ = some (.int .i64 ((rd_T43 l0 x3_1).f0)) ∧ w'.cell? ⟨gb357, 1, none⟩ = some (.string ((rd_T43 l0 x3_1).f1)) ∧ w'.cell? ⟨gb357, 2, none⟩ = some (.slice A356_2 ((rd_T43 l0 x3_1).f2).length c356_2) ∧ w'.cell? ⟨gb357, 3, none⟩ = some (.slice A356_3 ((rd_T43 l0 x3_1).f3).length c356_3)) (ds := []) #[false, false, false, false, false, false, false, false, false, false, false, false, false] (by kernel_rfl) rfl rfl ⟨(blk_cell BK357.out 0).trans rfl, (blk_cell BK357.out 1).trans rfl, (blk_cell BK357.out 2).trans rfl, (blk_cell BK357.out 3).trans rfl⟩ (fun hHeld => ?_); refine with_tabW arraslaw5_CodeBack.tab16 arraslaw5_CodeBack.bits16 (fun HT_ HW_ => ?_)
                    generalize w68.drew = w69 at HO_10 HO392 BK357 HB hHeld ⊢
                    refine pure_ (i := 0) (N := some 127) (v := ?_) (a' := ?_) #[true, false, false, false, false, false, false, false, false, false, false, false, false] rfl rfl (any_of HT_.out (by kernel_rfl)) (fun _ _ _ h => h) (Or.inl ⟨by rfl, ?_⟩) ?_ ?_
                    rotate_left
                    ·intro w'
                     go_simp
                     with_reducible rfl
                    rotate_left
                    ·simp only [Act.put, List.setIfInBounds_toArray, List.set_cons_zero, List.set_cons_succ, i64_w, i32_w]
                     rfl
                    refine pure_ (i := 2) (N := some 129) (v := ?_) (a' := ?_) #[true, false, true, false, false, false, false, false, false, false, false, false, false] rfl rfl (any_of HT_.out (by kernel_rfl)) (fun _ _ _ h => h) (Or.inl ⟨by rfl, ?_⟩) ?_ ?_
                    rotate_left
                    ·intro w'
                     go_simp
                     with_reducible rfl
                    rotate_left
                    ·simp only [Act.put, List.setIfInBounds_toArray, List.set_cons_zero, List.set_cons_succ, i64_w, i32_w]
                     rfl
                    refine take_ (i := 3) (N := some 130) (v := ?_) (a' := ?_) #[true, false, true, true, false, false, false, false, false, false, false, false, false] rfl rfl (take_ofW HT_.out HW_.out (by kernel_rfl)) (fun _ _ _ h => h) (Or.inl ⟨by rfl, ?_⟩) hHeld ?_ ?_
                    rotate_left
                    ·rintro w' ⟨s0, s1, s2, s3⟩
                     go_simp
                     with_reducible rfl
                    rotate_left
                    ·simp only [Act.put, List.setIfInBounds_toArray, List.set_cons_zero, List.set_cons_succ, i64_w, i32_w]
                     rfl
                    refine one_ (i := 1) (N := some 128) #[true, true, true, true, false, false, false, false, false, false, false, false, false] rfl rfl (one_of HT_.out (by kernel_rfl)) (by decide) (fun K hK => ?_)
                    refine goes_ Try.func17 (by kernel_rfl) rfl #[.slice Ao70 t389.length co70] (by rfl) rfl rfl (by (try simp only [List.map_toArray, List.map_cons, List.map_nil]); first | done | rfl | (simp only [List.length_drop, List.length_take]; rfl)) ?_
                    with_reducible refine (arrasref0_CopyBytes.calls kj45 _ _ t389 t393 _ ?side1 ?side2 A63.out).mono ?_
                    (case side1 => repeat (first | exact (Kd.R_reads' HO392.out).2.2 | with_reducible first | refine Kd.C_alloc ?_ _ | refine Kd.C_drewN ?_ _ | refine Kd.C_drew ?_))
                    (case side2 => exact (Kd.R_reads' HO392.out).2.1)
                    rintro e w71 ⟨v394, rfl, ho0, hb⟩
                    refine ⟨_, rfl, ?_⟩
                    have n0_ := Aside0.mk (Kd.R_elder' (by (with_reducible repeat (first | apply Kd.R_alloc | apply Kd.R_drewN | apply Kd.R_drew)); exact HO_10.out) (Kd.R_base ho0) hb)
                    have n1_ := Aside0.mk (Kd.R_elder' (by (with_reducible repeat (first | apply Kd.R_alloc | apply Kd.R_drewN | apply Kd.R_drew)); exact HO392.out) (Kd.R_base ho0) hb)
                    have n2_ := Aside0.mk (Kd.R_lower (Kd.R_new' (Kd.R_new' ho0 (Kd.R_lt (by (with_reducible repeat (first | apply Kd.R_alloc | apply Kd.R_drewN | apply Kd.R_drew)); exact HO_10.out))) (Kd.R_lt (by (with_reducible repeat (first | apply Kd.R_alloc | apply Kd.R_drewN | apply Kd.R_drew)); exact HO392.out))) (below_size (by repeat (first | (with_reducible first | exact HB.out | apply below_alloc | apply pw_below_drewN | apply below_drew1 | refine below_set ?_ GE357.out) | exact HB.out))))
                    have n3_ := Aside0.mk (blk_below (g := gb357) (o := .cells #[.int .i64 ((rd_T43 l0 x3_1).f0), .string ((rd_T43 l0 x3_1).f1), .slice A356_2 ((rd_T43 l0 x3_1).f2).length c356_2, .slice A356_3 ((rd_T43 l0 x3_1).f3).length c356_3] 43 (0, 0)) (by (with_reducible repeat (first | refine blk_drewN ?_ _ | refine blk_drew ?_ | refine blk_alloc ?_ _)); exact BK357.out) hb)
                    have n4_ := Aside0.mk (below_step (by repeat (first | (with_reducible first | exact HB.out | apply below_alloc | apply pw_below_drewN | apply below_drew1 | refine below_set ?_ GE357.out) | exact HB.out)) hb)
                    clear HO_10
                    clear HO392
                    clear BK357
                    clear HB
                    have HO_10 := n0_
                    have HO392 := n1_
                    have HO395 := n2_
                    have BK357 := n3_
                    have HB := n4_
                    clear n0_ n1_ n2_ n3_ n4_
                    (try clear hb)
                    (try clear hb2)
                    (try clear hk)
                    (try clear hi)
                    (try clear ho0)
                    refine hK.out _ _ ⟨(blk_cell BK357.out 0).trans rfl, (blk_cell BK357.out 1).trans rfl, (blk_cell BK357.out 2).trans rfl, (blk_cell BK357.out 3).trans rfl⟩ (fun hHeld => ?_)
                    clear hK K
                    refine norm_ (a' := ?_) ?_ ?_
                    rotate_left
                    ·show Act.put _ (some 128) _ = _
                     simp only [Act.put, List.setIfInBounds_toArray, List.set_cons_zero, List.set_cons_succ, i64_w, i32_w]
                     rfl
                    refine one_ (i := 4) (N := some 131) #[true, true, true, true, true, false, false, false, false, false, false, false, false] rfl rfl (one_of HT_.out (by kernel_rfl)) (by decide) (fun K hK => ?_)
                    refine Kd.R_append_rows_step (Kd.int .u8) (w0 := w) w.heap.size (by rfl) (.tmp 128) (.tmp 130) 24 5 (.int .u8 0) 1 rfl Try.underlying24 info5 rfl (by decide) (by omega) v394 t393 ((rd_T43 l0 x3_1).f3) _ _ _ (fun k_ => some k_ ≠ (.slice Ao50 t374.length co50 : Value).ownBlock ∧ some k_ ≠ (.slice Ao70 t389.length co70 : Value).ownBlock) (fun _ => False) rfl rfl ?aO ?aR (fun _ _ h => h) (fun _ h => h.elim) ?aF ?aB ?aS ?aL ?_
                    (case aR => repeat (first | exact (Kd.C_below HR356_3.out HB.out) | with_reducible first | refine Kd.C_alloc ?_ _ | refine Kd.C_drewN ?_ _ | refine Kd.C_drew ?_))
                    (case aB => exact (by repeat (first | (with_reducible first | exact HB.out | apply below_alloc | apply pw_below_drewN | apply below_drew1 | refine below_set ?_ GE357.out) | exact HB.out)))
                    (case aF => exact (fun k_ hk => ⟨Kd.fresh' (Kd.R_lt (by (with_reducible repeat (first | apply Kd.R_alloc | apply Kd.R_drewN | apply Kd.R_drew)); exact HO_10.out)) k_ hk, Kd.fresh' (Kd.R_lt (by (with_reducible repeat (first | apply Kd.R_alloc | apply Kd.R_drewN | apply Kd.R_drew)); exact HO392.out)) k_ hk⟩))
                    (case aO => exact (by (with_reducible repeat (first | apply Kd.R_alloc | apply Kd.R_drewN | apply Kd.R_drew)); exact Kd.R_mono HO395.out (fun _ hk => (by first | exact ⟨hk.1.2, hk.2⟩ | simp_all))))
                    (case aS => exact (below_size (by repeat (first | (with_reducible first | exact HB.out | apply below_alloc | apply pw_below_drewN | apply below_drew1 | refine below_set ?_ GE357.out) | exact HB.out))))
                    (case aL => have := LMc64.out; omega)
                    intro v397 w72 ho hb hg hat
                    rw [← Ny396.out] at ho
                    have n0_ := Aside0.mk (Kd.R_after (ok := (fun k_ => some k_ ≠ (.slice Ao70 t389.length co70 : Value).ownBlock)) (by (with_reducible repeat (first | apply Kd.R_alloc | apply Kd.R_drewN | apply Kd.R_drew)); exact Kd.R_mono HO_10.out (fun _ hk => (by first | exact ⟨hk.1.2, hk.2⟩ | simp_all))) hg hat)
                    have n1_ := Aside0.mk (blk_grown (g := gb357) (o := .cells #[.int .i64 ((rd_T43 l0 x3_1).f0), .string ((rd_T43 l0 x3_1).f1), .slice A356_2 ((rd_T43 l0 x3_1).f2).length c356_2, .slice A356_3 ((rd_T43 l0 x3_1).f3).length c356_3] 43 (0, 0)) (by (with_reducible repeat (first | refine blk_drewN ?_ _ | refine blk_drew ?_ | refine blk_alloc ?_ _)); exact BK357.out) hg (Kd.R_ne HO395.out BK357.out (by decide)))
                    have n2_ := Aside0.mk (Kd.R_after (ok := (fun k_ => some k_ ≠ (.slice Ao50 t374.length co50 : Value).ownBlock)) (by (with_reducible repeat (first | apply Kd.R_alloc | apply Kd.R_drewN | apply Kd.R_drew)); exact Kd.R_mono HO392.out (fun _ hk => (by first | exact ⟨hk.1.2, hk.2⟩ | simp_all))) hg hat)
                    have n3_ := Aside0.mk (hb)
                    have n4_ := Aside0.mk (ho)
                    clear HO_10
                    clear BK357
                    clear HO392
                    clear HB
                    clear HO395
                    have HO_10 := n0_
                    have BK357 := n1_
                    have HO392 := n2_
                    have HB := n3_
                    have HO398 := n4_
                    clear n0_ n1_ n2_ n3_ n4_
                    clear ho hb hg hat
                    obtain ⟨Ao73, co73, eo73⟩ := Kd.R_slice HO398.out
                    (first | subst eo73 | (injection eo73 with f1_ f2_ f3_; have f4_ := f1_.symm; have f5_ := f3_.symm; clear f1_ f2_ f3_; subst f4_; subst f5_))
                    refine hK.out _ _ ⟨(blk_cell BK357.out 0).trans rfl, (blk_cell BK357.out 1).trans rfl, (blk_cell BK357.out 2).trans rfl, (blk_cell BK357.out 3).trans rfl⟩ (fun hHeld => ?_)
                    clear hK K
                    refine norm_ (a' := ?_) ?_ ?_
                    rotate_left
                    ·show Act.put _ (some 131) _ = _
                     simp only [Act.put, List.setIfInBounds_toArray, List.set_cons_zero, List.set_cons_succ, i64_w, i32_w]
                     rfl
                    refine one_ (i := 5) (N := some 132) #[true, true, true, true, true, true, false, false, false, false, false, false, false] rfl rfl (one_of HT_.out (by kernel_rfl)) (by decide) (fun K hK => ?_)
                    refine goes_ Try.func38 (by kernel_rfl) rfl #[.slice Ao73 y396.length co73] (by rfl) rfl rfl (by (try simp only [List.map_toArray, List.map_cons, List.map_nil]); first | done | rfl | (simp only [List.length_drop, List.length_take]; rfl)) ?_
                    with_reducible refine (code_TakeNums.calls kj45 _ _ y396 t399 t400 t401 _ ?side1 ?side2 A65.out).mono ?_
                    (case side1 => repeat (first | exact (Kd.R_reads' HO398.out).2.2 | with_reducible first | refine Kd.C_alloc ?_ _ | refine Kd.C_drewN ?_ _ | refine Kd.C_drew ?_))
                    (case side2 => exact (Kd.R_reads' HO398.out).2.1)
                    rintro e w74 ⟨v402, rfl, ho0, hb⟩
                    refine ⟨_, rfl, ?_⟩
                    have n0_ := Aside0.mk (Kd.R_below (by (with_reducible repeat (first | apply Kd.R_alloc | apply Kd.R_drewN | apply Kd.R_drew)); exact HO_10.out) hb)
                    have n1_ := Aside0.mk (Kd.R_below (by (with_reducible repeat (first | apply Kd.R_alloc | apply Kd.R_drewN | apply Kd.R_drew)); exact HO392.out) hb)
                    have n2_ := Aside0.mk (Kd.R_below (by (with_reducible repeat (first | apply Kd.R_alloc | apply Kd.R_drewN | apply Kd.R_drew)); exact HO398.out) hb)
                    have n3_ := Aside0.mk (Kd.R_lower ho0 (below_size (by repeat (first | (with_reducible first | exact HB.out | apply below_alloc | apply pw_below_drewN | apply below_drew1 | refine below_set ?_ GE357.out) | exact HB.out))))
                    have n4_ := Aside0.mk (blk_below (g := gb357) (o := .cells #[.int .i64 ((rd_T43 l0 x3_1).f0), .string ((rd_T43 l0 x3_1).f1), .slice A356_2 ((rd_T43 l0 x3_1).f2).length c356_2, .slice A356_3 ((rd_T43 l0 x3_1).f3).length c356_3] 43 (0, 0)) (by (with_reducible repeat (first | refine blk_drewN ?_ _ | refine blk_drew ?_ | refine blk_alloc ?_ _)); exact BK357.out) hb)
                    have n5_ := Aside0.mk (below_step (by repeat (first | (with_reducible first | exact HB.out | apply below_alloc | apply pw_below_drewN | apply below_drew1 | refine below_set ?_ GE357.out) | exact HB.out)) hb)
                    clear HO_10
                    clear HO392
                    clear HO398
                    clear BK357
                    clear HB
                    have HO_10 := n0_
                    have HO392 := n1_
                    have HO398 := n2_
                    have HO403 := n3_
                    have BK357 := n4_
                    have HB := n5_
                    clear n0_ n1_ n2_ n3_ n4_ n5_
                    (try clear hb)
                    (try clear hb2)
                    (try clear hk)
                    (try clear hi)
                    (try clear ho0)
                    refine hK.out _ _ ⟨(blk_cell BK357.out 0).trans rfl, (blk_cell BK357.out 1).trans rfl, (blk_cell BK357.out 2).trans rfl, (blk_cell BK357.out 3).trans rfl⟩ (fun hHeld => ?_)
                    clear hK K
                    refine norm_ (a' := ?_) ?_ ?_
                    rotate_left
                    ·show Act.put _ (some 132) _ = _
                     simp only [Act.put, List.setIfInBounds_toArray, List.set_cons_zero, List.set_cons_succ, i64_w, i32_w]
                     rfl
                    refine pure_ (i := 6) (N := some 126) (v := ?_) (a' := ?_) #[true, true, true, true, true, true, true, false, false, false, false, false, false] rfl rfl (any_of HT_.out (by kernel_rfl)) (fun _ _ _ h => h) (Or.inl ⟨by rfl, ?_⟩) ?_ ?_
                    rotate_left
                    ·intro w'
                     go_simp
                     with_reducible rfl
                    rotate_left
                    ·simp only [Act.put, List.setIfInBounds_toArray, List.set_cons_zero, List.set_cons_succ, i64_w, i32_w]
                     rfl
                    refine pure_ (i := 7) (N := some 133) (v := ?_) (a' := ?_) #[true, true, true, true, true, true, true, true, false, false, false, false, false] rfl rfl (any_of HT_.out (by kernel_rfl)) (fun _ _ _ h => h) (Or.inl ⟨by rfl, ?_⟩) ?_ ?_
                    rotate_left
                    ·intro w'
                     go_simp
                     with_reducible rfl
                    rotate_left
                    ·simp only [Act.put, List.setIfInBounds_toArray, List.set_cons_zero, List.set_cons_succ, i64_w, i32_w]
                     rfl
                    refine pure_ (i := 8) (N := some 134) (v := ?_) (a' := ?_) #[true, true, true, true, true, true, true, true, true, false, false, false, false] rfl rfl (any_of HT_.out (by kernel_rfl)) (fun _ _ _ h => h) (Or.inl ⟨by rfl, ?_⟩) ?_ ?_
                    rotate_left
                    ·intro w'
                     go_simp
                     with_reducible rfl
                    rotate_left
                    ·simp only [Act.put, List.setIfInBounds_toArray, List.set_cons_zero, List.set_cons_succ, i64_w, i32_w]
                     rfl
                    refine pure_ (i := 9) (N := some 135) (v := ?_) (a' := ?_) #[true, true, true, true, true, true, true, true, true, true, false, false, false] rfl rfl (any_of HT_.out (by kernel_rfl)) (fun _ _ _ h => h) (Or.inl ⟨by rfl, ?_⟩) ?_ ?_
                    rotate_left
                    ·intro w'
                     go_simp
                     with_reducible rfl
                    rotate_left
                    ·simp only [Act.put, List.setIfInBounds_toArray, List.set_cons_zero, List.set_cons_succ, i64_w, i32_w]
                     rfl
                    refine pure_ (i := 10) (N := some 13) (v := ?_) (a' := ?_) #[true, true, true, true, true, true, true, true, true, true, true, false, false] rfl rfl (any_of HT_.out (by kernel_rfl)) (fun _ _ _ h => h) (Or.inl ⟨by rfl, ?_⟩) ?_ ?_
                    rotate_left
                    ·intro w'
                     go_simp
                     with_reducible rfl
                    rotate_left
                    ·simp only [Act.put, List.setIfInBounds_toArray, List.set_cons_zero, List.set_cons_succ, i64_w, i32_w]
                     rfl
                    refine pure_ (i := 11) (N := some 8) (v := ?_) (a' := ?_) #[true, true, true, true, true, true, true, true, true, true, true, true, false] rfl rfl (any_of HT_.out (by kernel_rfl)) (fun _ _ _ h => h) (Or.inl ⟨by rfl, ?_⟩) ?_ ?_
                    rotate_left
                    ·intro w'
                     go_simp
                     with_reducible rfl
                    rotate_left
                    ·simp only [Act.put, List.setIfInBounds_toArray, List.set_cons_zero, List.set_cons_succ, i64_w, i32_w]
                     rfl
                    refine pure_ (i := 12) (N := some 9) (v := ?_) (a' := ?_) #[true, true, true, true, true, true, true, true, true, true, true, true, true] rfl rfl (any_of HT_.out (by kernel_rfl)) (fun _ _ _ h => h) (Or.inl ⟨by rfl, ?_⟩) ?_ ?_
                    rotate_left
                    ·intro w'
                     go_simp
                     with_reducible rfl
                    rotate_left
                    ·simp only [Act.put, List.setIfInBounds_toArray, List.set_cons_zero, List.set_cons_succ, i64_w, i32_w]
                     rfl
                    refine done_ (done_of HT_.out (by kernel_rfl)) ?_
                    go_upto_region 17 with (fail)
                    go_cut [156] (fun v156 wc => ∃ (kq : Nat) (x156_65 : Bool), v156 = .bool x156_65 ∧ Aside0 (arraslaw5_CodeBack.j5 kq l0 x3_1 t374 x156_65 ((rd_T43 l0 x3_1).f0) ((rd_T43 l0 x3_1).f1) ((rd_T43 l0 x3_1).f2) ((rd_T43 l0 x3_1).f3) = some r) ∧ Aside0 (kq ≤ kj45) ∧ Aside0 (Kd.R (Kd.int .u8) 5 wc w.heap.size (fun _ => True) (.slice Ao50 t374.length co50) t374) ∧ Aside0 (wc.heap[gb357]? = some (.cells #[.int .i64 ((rd_T43 l0 x3_1).f0), .string ((rd_T43 l0 x3_1).f1), (.slice A356_2 ((rd_T43 l0 x3_1).f2).length c356_2), (.slice A356_3 ((rd_T43 l0 x3_1).f3).length c356_3)] 43 (0, 0))) ∧ Aside0 (Below w.heap.size w wc))
                    case first =>
                     have H := HC66.out
                     clear HC66
                     replace H := Option.bind_eq_some_iff.mp H
                     obtain ⟨t404, A750, H⟩ := H
                     (try dsimp only at H)
                     have A75 := Aside0.mk A750
                     clear A750
                     by_cases c76 : t404 = 0
                     ·rw [if_pos c76] at H
                      have c76b0 : (t404 == 0) = true := beq_iff_eq.mpr c76
                      have c76b1 : (t404 != 0) = false := bne_eq_false_iff_eq.mpr c76
                      clear c76
                      (first | rw [c76b0] | (simp only [i64_w, i32_w]; rw [c76b0]) | skip)
                      replace H := Option.bind_eq_some_iff.mp H
                      obtain ⟨t405, A770, H⟩ := H
                      (try dsimp only at H)
                      have A77 := Aside0.mk A770
                      clear A770
                      by_cases c78 : t405 = 0
                      ·rw [if_pos c78] at H
                       have c78b0 : (t405 == 0) = true := beq_iff_eq.mpr c78
                       have c78b1 : (t405 != 0) = false := bne_eq_false_iff_eq.mpr c78
                       clear c78
                       replace H := Option.bind_eq_some_iff.mp H
                       obtain ⟨t406, A790, H⟩ := H
                       (try dsimp only at H)
                       have A79 := Aside0.mk A790
                       clear A790
                       by_cases c80 : t406 = true
                       ·subst c80
                        have H1 : (arraslaw5_CodeBack.j5 kj45 l0 x3_1 t374 (t400 != (t389.length : Int)) ((rd_T43 l0 x3_1).f0) ((rd_T43 l0 x3_1).f1) ((rd_T43 l0 x3_1).f2) ((rd_T43 l0 x3_1).f3)) = some r := by rw [if_pos rfl] at H; exact H
                        clear H
                        have H := H1
                        clear H1
                        as_aux_lemma =>
                         have H' := Aside0.mk H
                         clear H
                         go_wp2_with (first | ((with_reducible refine gate_callee (f := 25) rfl ?_); refine goesL_ (some 137) rfl rfl Try.func25 (by kernel_rfl) rfl #[.int .i64 t390] rfl (by (try simp only [List.map_toArray, List.map_cons, List.map_nil]); first | done | rfl | (simp only [List.length_drop, List.length_take]; rfl)) ?_; (with_reducible refine (arraslaw5_num.calls t390 t404 _ A75.out).mono ?_); rintro e w' ⟨rfl, ⟨nd, rfl⟩⟩; refine ⟨_, rfl, ?_⟩) | (go_at_call 25; (with_reducible refine (arraslaw5_num.calls t401 t405 _ A77.out).mono ?_); rintro e w' ⟨rfl, ⟨nd, rfl⟩⟩; have hcz81_0 : w74.cell? ⟨gb357, 0, none⟩ = some (.int .i64 ((rd_T43 l0 x3_1).f0)) := (blk_cell BK357.out 0).trans rfl; have hcz81_1 : w74.cell? ⟨gb357, 1, none⟩ = some (.string ((rd_T43 l0 x3_1).f1)) := (blk_cell BK357.out 1).trans rfl; have hcz81_2 : w74.cell? ⟨gb357, 2, none⟩ = some (.slice A356_2 ((rd_T43 l0 x3_1).f2).length c356_2) := (blk_cell BK357.out 2).trans rfl; have hcz81_3 : w74.cell? ⟨gb357, 3, none⟩ = some (.slice A356_3 ((rd_T43 l0 x3_1).f3).length c356_3) := (blk_cell BK357.out 3).trans rfl; have hfz81_0 := blk_frozen BK357.out 0; have hfz81_1 := blk_frozen BK357.out 1; have hfz81_2 := blk_frozen BK357.out 2; have hfz81_3 := blk_frozen BK357.out 3; obtain ⟨Ao82, co82, eo82⟩ := Kd.R_slice HO403.out; subst eo82) | (go_at_call 40; (with_reducible refine (arrasref0_EqNumbers.calls kj45 _ _ t399 _ _ ((rd_T43 l0 x3_1).f2) true _ ?side1 ?side2 ?side3 ?side4 A79.out).mono ?_); (case side1 => repeat (first | exact (Kd.R_reads' HO403.out).2.2 | with_reducible first | refine Kd.C_alloc ?_ _ | refine Kd.C_drewN ?_ _ | refine Kd.C_drew ?_)); (case side2 => exact (Kd.R_reads' HO403.out).2.1); (case side3 => repeat (first | exact (Kd.C_below HR356_2.out (by repeat (first | (with_reducible first | exact HB.out | apply below_alloc | apply pw_below_drewN | apply below_drew1 | refine below_set ?_ GE357.out) | exact HB.out))) | with_reducible first | refine Kd.C_alloc ?_ _ | refine Kd.C_drewN ?_ _ | refine Kd.C_drew ?_)); (case side4 => exact HC356_2.out); rintro e w' ⟨rfl, ⟨nd, rfl⟩⟩))
                         go_meet
                         case rel => exact ⟨_, ((t400 != (t389.length : Int))), (by first | rfl | (simp; done) | (simp [*]; done)), H', ⟨by have := HK1.out; have := HJ1.out; have := HJ6.out; have := HJ25.out; have := HJ45.out; first | omega | exact Nat.le_refl _⟩, ⟨by (with_reducible repeat (first | apply Kd.R_alloc | apply Kd.R_drewN | apply Kd.R_drew)); exact Kd.R_mono HO_10.out (fun _ hk => trivial)⟩, ⟨by (with_reducible repeat (first | refine blk_drewN ?_ _ | refine blk_drew ?_ | refine blk_alloc ?_ _)); exact BK357.out⟩, ⟨by repeat (first | (with_reducible first | exact HB.out | apply below_alloc | apply pw_below_drewN | apply below_drew1 | refine below_set ?_ GE357.out) | exact HB.out)⟩⟩
                       ·replace c80 := Bool.eq_false_iff.mpr c80
                        subst c80
                        have H1 : (arraslaw5_CodeBack.j5 kj45 l0 x3_1 t374 true ((rd_T43 l0 x3_1).f0) ((rd_T43 l0 x3_1).f1) ((rd_T43 l0 x3_1).f2) ((rd_T43 l0 x3_1).f3)) = some r := by rw [if_neg (show ¬ (false = true) by decide)] at H; exact H
                        clear H
                        have H := H1
                        clear H1
                        as_aux_lemma =>
                         have H' := Aside0.mk H
                         clear H
                         go_wp2_with (first | ((with_reducible refine gate_callee (f := 25) rfl ?_); refine goesL_ (some 137) rfl rfl Try.func25 (by kernel_rfl) rfl #[.int .i64 t390] rfl (by (try simp only [List.map_toArray, List.map_cons, List.map_nil]); first | done | rfl | (simp only [List.length_drop, List.length_take]; rfl)) ?_; (with_reducible refine (arraslaw5_num.calls t390 t404 _ A75.out).mono ?_); rintro e w' ⟨rfl, ⟨nd, rfl⟩⟩; refine ⟨_, rfl, ?_⟩) | (go_at_call 25; (with_reducible refine (arraslaw5_num.calls t401 t405 _ A77.out).mono ?_); rintro e w' ⟨rfl, ⟨nd, rfl⟩⟩; have hcz83_0 : w74.cell? ⟨gb357, 0, none⟩ = some (.int .i64 ((rd_T43 l0 x3_1).f0)) := (blk_cell BK357.out 0).trans rfl; have hcz83_1 : w74.cell? ⟨gb357, 1, none⟩ = some (.string ((rd_T43 l0 x3_1).f1)) := (blk_cell BK357.out 1).trans rfl; have hcz83_2 : w74.cell? ⟨gb357, 2, none⟩ = some (.slice A356_2 ((rd_T43 l0 x3_1).f2).length c356_2) := (blk_cell BK357.out 2).trans rfl; have hcz83_3 : w74.cell? ⟨gb357, 3, none⟩ = some (.slice A356_3 ((rd_T43 l0 x3_1).f3).length c356_3) := (blk_cell BK357.out 3).trans rfl; have hfz83_0 := blk_frozen BK357.out 0; have hfz83_1 := blk_frozen BK357.out 1; have hfz83_2 := blk_frozen BK357.out 2; have hfz83_3 := blk_frozen BK357.out 3; obtain ⟨Ao84, co84, eo84⟩ := Kd.R_slice HO403.out; subst eo84) | (go_at_call 40; (with_reducible refine (arrasref0_EqNumbers.calls kj45 _ _ t399 _ _ ((rd_T43 l0 x3_1).f2) false _ ?side1 ?side2 ?side3 ?side4 A79.out).mono ?_); (case side1 => repeat (first | exact (Kd.R_reads' HO403.out).2.2 | with_reducible first | refine Kd.C_alloc ?_ _ | refine Kd.C_drewN ?_ _ | refine Kd.C_drew ?_)); (case side2 => exact (Kd.R_reads' HO403.out).2.1); (case side3 => repeat (first | exact (Kd.C_below HR356_2.out (by repeat (first | (with_reducible first | exact HB.out | apply below_alloc | apply pw_below_drewN | apply below_drew1 | refine below_set ?_ GE357.out) | exact HB.out))) | with_reducible first | refine Kd.C_alloc ?_ _ | refine Kd.C_drewN ?_ _ | refine Kd.C_drew ?_)); (case side4 => exact HC356_2.out); rintro e w' ⟨rfl, ⟨nd, rfl⟩⟩))
                         go_meet
                         case rel => exact ⟨_, (true), (by first | rfl | (simp; done) | (simp [*]; done)), H', ⟨by have := HK1.out; have := HJ1.out; have := HJ6.out; have := HJ25.out; have := HJ45.out; first | omega | exact Nat.le_refl _⟩, ⟨by (with_reducible repeat (first | apply Kd.R_alloc | apply Kd.R_drewN | apply Kd.R_drew)); exact Kd.R_mono HO_10.out (fun _ hk => trivial)⟩, ⟨by (with_reducible repeat (first | refine blk_drewN ?_ _ | refine blk_drew ?_ | refine blk_alloc ?_ _)); exact BK357.out⟩, ⟨by repeat (first | (with_reducible first | exact HB.out | apply below_alloc | apply pw_below_drewN | apply below_drew1 | refine below_set ?_ GE357.out) | exact HB.out)⟩⟩
                      ·rw [if_neg c78] at H
                       have c78b0 : (t405 == 0) = false := beq_eq_false_iff_ne.mpr c78
                       have c78b1 : (t405 != 0) = true := bne_iff_ne.mpr c78
                       as_aux_lemma =>
                        have H' := Aside0.mk H
                        clear H
                        go_wp2_with (first | ((with_reducible refine gate_callee (f := 25) rfl ?_); refine goesL_ (some 137) rfl rfl Try.func25 (by kernel_rfl) rfl #[.int .i64 t390] rfl (by (try simp only [List.map_toArray, List.map_cons, List.map_nil]); first | done | rfl | (simp only [List.length_drop, List.length_take]; rfl)) ?_; (with_reducible refine (arraslaw5_num.calls t390 t404 _ A75.out).mono ?_); rintro e w' ⟨rfl, ⟨nd, rfl⟩⟩; refine ⟨_, rfl, ?_⟩) | (go_at_call 25; (with_reducible refine (arraslaw5_num.calls t401 t405 _ A77.out).mono ?_); rintro e w' ⟨rfl, ⟨nd, rfl⟩⟩))
                        go_meet
                        case rel => exact ⟨_, (true), (by first | rfl | (simp; done) | (simp [*]; done)), H', ⟨by have := HK1.out; have := HJ1.out; have := HJ6.out; have := HJ25.out; have := HJ45.out; first | omega | exact Nat.le_refl _⟩, ⟨by (with_reducible repeat (first | apply Kd.R_alloc | apply Kd.R_drewN | apply Kd.R_drew)); exact Kd.R_mono HO_10.out (fun _ hk => trivial)⟩, ⟨by (with_reducible repeat (first | refine blk_drewN ?_ _ | refine blk_drew ?_ | refine blk_alloc ?_ _)); exact BK357.out⟩, ⟨by repeat (first | (with_reducible first | exact HB.out | apply below_alloc | apply pw_below_drewN | apply below_drew1 | refine below_set ?_ GE357.out) | exact HB.out)⟩⟩
                     ·rw [if_neg c76] at H
                      have c76b0 : (t404 == 0) = false := beq_eq_false_iff_ne.mpr c76
                      have c76b1 : (t404 != 0) = true := bne_iff_ne.mpr c76
                      (first | rw [c76b0] | (simp only [i64_w, i32_w]; rw [c76b0]) | skip)
                      as_aux_lemma =>
                       have H' := Aside0.mk H
                       clear H
                       go_wp2_with (first | ((with_reducible refine gate_callee (f := 25) rfl ?_); refine goesL_ (some 137) rfl rfl Try.func25 (by kernel_rfl) rfl #[.int .i64 t390] rfl (by (try simp only [List.map_toArray, List.map_cons, List.map_nil]); first | done | rfl | (simp only [List.length_drop, List.length_take]; rfl)) ?_; (with_reducible refine (arraslaw5_num.calls t390 t404 _ A75.out).mono ?_); rintro e w' ⟨rfl, ⟨nd, rfl⟩⟩; refine ⟨_, rfl, ?_⟩))
                       go_meet
                       case rel => exact ⟨_, (false), (by first | rfl | (simp; done) | (simp [*]; done)), H', ⟨by have := HK1.out; have := HJ1.out; have := HJ6.out; have := HJ25.out; have := HJ45.out; first | omega | exact Nat.le_refl _⟩, ⟨by (with_reducible repeat (first | apply Kd.R_alloc | apply Kd.R_drewN | apply Kd.R_drew)); exact Kd.R_mono HO_10.out (fun _ hk => trivial)⟩, ⟨by (with_reducible repeat (first | refine blk_drewN ?_ _ | refine blk_drew ?_ | refine blk_alloc ?_ _)); exact BK357.out⟩, ⟨by repeat (first | (with_reducible first | exact HB.out | apply below_alloc | apply pw_below_drewN | apply below_drew1 | refine below_set ?_ GE357.out) | exact HB.out)⟩⟩
                    case rest =>
                     clear HC66
                     (try clear c1); (try clear c2); (try clear p2); (try clear c3); (try clear c3b0); (try clear p3); (try clear q3); (try clear hx3); (try clear c4); (try clear c5); (try clear c5b0); (try clear c6); (try clear c6b0); (try clear c7); (try clear c8); (try clear c11); (try clear c14); (try clear c14b0); (try clear c14b1); (try clear c17); (try clear c21); (try clear c23); (try clear c24); (try clear c25); (try clear c27); (try clear c28); (try clear c29); (try clear c35); (try clear c35b0); (try clear c35b1); (try clear p35); (try clear q35); (try clear hx35); (try clear c36); (try clear c37); (try clear c37b0); (try clear c37b1); (try clear c38); (try clear c38b0); (try clear c38b1); (try clear c41); (try clear c44); (try clear c55); (try clear c55b0); (try clear c55b1); (try clear c57); (try clear c57b0); (try clear c57b1); (try clear c58); (try clear c58b0); (try clear c58b1); (try clear c61); (try clear c64); (try clear c76); (try clear c76b0); (try clear c76b1); (try clear c78); (try clear c78b0); (try clear c78b1); (try clear c80); (try clear hcz12_0); (try clear hcz12_1); (try clear hcz12_2); (try clear hcz12_3); (try clear hcz15_0); (try clear hcz15_1); (try clear hcz15_2); (try clear hcz15_3); (try clear hcz17_0); (try clear hcz17_1); (try clear hcz17_2); (try clear hcz17_3); (try clear hcz18_0); (try clear hcz18_1); (try clear hcz18_2); (try clear hcz18_3); (try clear hcz20_0); (try clear hcz20_1); (try clear hcz20_2); (try clear hcz20_3); (try clear hcz27_0); (try clear hcz27_1); (try clear hcz27_2); (try clear hcz27_3); (try clear hcz39_0); (try clear hcz39_1); (try clear hcz39_2); (try clear hcz39_3); (try clear hcz40_0); (try clear hcz40_1); (try clear hcz40_2); (try clear hcz40_3); (try clear hcz47_0); (try clear hcz47_1); (try clear hcz47_2); (try clear hcz47_3); (try clear hcz59_0); (try clear hcz59_1); (try clear hcz59_2); (try clear hcz59_3); (try clear hcz60_0); (try clear hcz60_1); (try clear hcz60_2); (try clear hcz60_3); (try clear hcz67_0); (try clear hcz67_1); (try clear hcz67_2); (try clear hcz67_3); (try clear hcz81_0); (try clear hcz81_1); (try clear hcz81_2); (try clear hcz81_3); (try clear hcz83_0); (try clear hcz83_1); (try clear hcz83_2); (try clear hcz83_3); (try clear hcz9_0); (try clear hcz9_1); (try clear hcz9_2); (try clear hcz9_3); (try clear hfz12_0); (try clear hfz12_1); (try clear hfz12_2); (try clear hfz12_3); (try clear hfz15_0); (try clear hfz15_1); (try clear hfz15_2); (try clear hfz15_3); (try clear hfz17_0); (try clear hfz17_1); (try clear hfz17_2); (try clear hfz17_3); (try clear hfz18_0); (try clear hfz18_1); (try clear hfz18_2); (try clear hfz18_3); (try clear hfz20_0); (try clear hfz20_1); (try clear hfz20_2); (try clear hfz20_3); (try clear hfz27_0); (try clear hfz27_1); (try clear hfz27_2); (try clear hfz27_3); (try clear hfz39_0); (try clear hfz39_1); (try clear hfz39_2); (try clear hfz39_3); (try clear hfz40_0); (try clear hfz40_1); (try clear hfz40_2); (try clear hfz40_3); (try clear hfz47_0); (try clear hfz47_1); (try clear hfz47_2); (try clear hfz47_3); (try clear hfz59_0); (try clear hfz59_1); (try clear hfz59_2); (try clear hfz59_3); (try clear hfz60_0); (try clear hfz60_1); (try clear hfz60_2); (try clear hfz60_3); (try clear hfz67_0); (try clear hfz67_1); (try clear hfz67_2); (try clear hfz67_3); (try clear hfz81_0); (try clear hfz81_1); (try clear hfz81_2); (try clear hfz81_3); (try clear hfz83_0); (try clear hfz83_1); (try clear hfz83_2); (try clear hfz83_3); (try clear hfz9_0); (try clear hfz9_1); (try clear hfz9_2); (try clear hfz9_3); (try clear hx356_0); (try clear hx356_1); (try clear hx356_2); (try clear hx356_3); (try clear p2); (try clear p3); (try clear p35); (try clear p356); (try clear q3); (try clear q35); (try clear q356)
                     obtain ⟨kq, x156_65, rfl, HA, HJ65, HO_10, BK357, HB⟩ := hcut
                     cases kq with
                     | zero => exact absurd HA.out (by simp [arraslaw5_CodeBack.j5])
                     | succ kj65 =>
                      have H := HA.out
                      clear HA
                      simp only [arraslaw5_CodeBack.j5] at H
                      by_cases c85 : x156_65 = true
                      ·subst c85
                       have H1 : (some false) = some r := by rw [if_pos rfl] at H; exact H
                       clear H
                       have H := H1
                       clear H1
                       as_aux_lemma =>
                        obtain rfl := Option.some.inj H
                        go_wp2
                        go_ret
                        exact ⟨by first | rfl | (simp [errW_none, errW_some] <;> rfl) | (simp [*, errW_none, errW_some] <;> rfl), by repeat (first | (with_reducible first | exact HB.out | apply below_alloc | apply pw_below_drewN | apply below_drew1 | refine below_set ?_ GE357.out) | exact HB.out)⟩
                      ·replace c85 := Bool.eq_false_iff.mpr c85
                       subst c85
                       have H1 : (arraslaw5_CodeBack.l1 kj65 l0 x3_1 t374 0 ((rd_T43 l0 x3_1).f0) ((rd_T43 l0 x3_1).f1) ((rd_T43 l0 x3_1).f2) ((rd_T43 l0 x3_1).f3)) = some r := by rw [if_neg (show ¬ (false = true) by decide)] at H; exact H
                       clear H
                       have H := H1
                       clear H1
                       have H' := Aside0.mk H
                       clear H
                       go_wp2
                       go_loopg [14] kj65 (fun kq v14 w' => ∃ (x14_7 : Int), v14 = .int .i64 x14_7 ∧ Aside0 (arraslaw5_CodeBack.l1 kq l0 x3_1 t374 x14_7 ((rd_T43 l0 x3_1).f0) ((rd_T43 l0 x3_1).f1) ((rd_T43 l0 x3_1).f2) ((rd_T43 l0 x3_1).f3) = some r) ∧ Aside0 (kq ≤ kj65) ∧ Aside0 (Kd.R (Kd.int .u8) 5 w' w.heap.size (fun _ => True) (.slice Ao50 t374.length co50) t374) ∧ Aside0 (w'.heap[gb357]? = some (.cells #[.int .i64 ((rd_T43 l0 x3_1).f0), .string ((rd_T43 l0 x3_1).f1), (.slice A356_2 ((rd_T43 l0 x3_1).f2).length c356_2), (.slice A356_3 ((rd_T43 l0 x3_1).f3).length c356_3)] 43 (0, 0))) ∧ Aside0 (Below w.heap.size w w'))
                       case atStart => exact ⟨(0), (by first | rfl | (simp; done) | (simp [*]; done)), H', ⟨Nat.le_refl _⟩, ⟨by (with_reducible repeat (first | apply Kd.R_alloc | apply Kd.R_drewN | apply Kd.R_drew)); exact HO_10.out⟩, ⟨by (with_reducible repeat (first | refine blk_drewN ?_ _ | refine blk_drew ?_ | refine blk_alloc ?_ _)); exact BK357.out⟩, ⟨by repeat (first | (with_reducible first | exact HB.out | apply below_alloc | apply pw_below_drewN | apply below_drew1 | refine below_set ?_ GE357.out) | exact HB.out)⟩⟩
                       case round =>
                        clear H'
                        (try clear c1); (try clear c2); (try clear p2); (try clear c3); (try clear c3b0); (try clear p3); (try clear q3); (try clear hx3); (try clear c4); (try clear c5); (try clear c5b0); (try clear c6); (try clear c6b0); (try clear c7); (try clear c8); (try clear c11); (try clear c14); (try clear c14b0); (try clear c14b1); (try clear c17); (try clear c21); (try clear c23); (try clear c24); (try clear c25); (try clear c27); (try clear c28); (try clear c29); (try clear c35); (try clear c35b0); (try clear c35b1); (try clear p35); (try clear q35); (try clear hx35); (try clear c36); (try clear c37); (try clear c37b0); (try clear c37b1); (try clear c38); (try clear c38b0); (try clear c38b1); (try clear c41); (try clear c44); (try clear c55); (try clear c55b0); (try clear c55b1); (try clear c57); (try clear c57b0); (try clear c57b1); (try clear c58); (try clear c58b0); (try clear c58b1); (try clear c61); (try clear c64); (try clear c76); (try clear c76b0); (try clear c76b1); (try clear c78); (try clear c78b0); (try clear c78b1); (try clear c80); (try clear c85); (try clear hcz12_0); (try clear hcz12_1); (try clear hcz12_2); (try clear hcz12_3); (try clear hcz15_0); (try clear hcz15_1); (try clear hcz15_2); (try clear hcz15_3); (try clear hcz17_0); (try clear hcz17_1); (try clear hcz17_2); (try clear hcz17_3); (try clear hcz18_0); (try clear hcz18_1); (try clear hcz18_2); (try clear hcz18_3); (try clear hcz20_0); (try clear hcz20_1); (try clear hcz20_2); (try clear hcz20_3); (try clear hcz27_0); (try clear hcz27_1); (try clear hcz27_2); (try clear hcz27_3); (try clear hcz39_0); (try clear hcz39_1); (try clear hcz39_2); (try clear hcz39_3); (try clear hcz40_0); (try clear hcz40_1); (try clear hcz40_2); (try clear hcz40_3); (try clear hcz47_0); (try clear hcz47_1); (try clear hcz47_2); (try clear hcz47_3); (try clear hcz59_0); (try clear hcz59_1); (try clear hcz59_2); (try clear hcz59_3); (try clear hcz60_0); (try clear hcz60_1); (try clear hcz60_2); (try clear hcz60_3); (try clear hcz67_0); (try clear hcz67_1); (try clear hcz67_2); (try clear hcz67_3); (try clear hcz81_0); (try clear hcz81_1); (try clear hcz81_2); (try clear hcz81_3); (try clear hcz83_0); (try clear hcz83_1); (try clear hcz83_2); (try clear hcz83_3); (try clear hcz9_0); (try clear hcz9_1); (try clear hcz9_2); (try clear hcz9_3); (try clear hfz12_0); (try clear hfz12_1); (try clear hfz12_2); (try clear hfz12_3); (try clear hfz15_0); (try clear hfz15_1); (try clear hfz15_2); (try clear hfz15_3); (try clear hfz17_0); (try clear hfz17_1); (try clear hfz17_2); (try clear hfz17_3); (try clear hfz18_0); (try clear hfz18_1); (try clear hfz18_2); (try clear hfz18_3); (try clear hfz20_0); (try clear hfz20_1); (try clear hfz20_2); (try clear hfz20_3); (try clear hfz27_0); (try clear hfz27_1); (try clear hfz27_2); (try clear hfz27_3); (try clear hfz39_0); (try clear hfz39_1); (try clear hfz39_2); (try clear hfz39_3); (try clear hfz40_0); (try clear hfz40_1); (try clear hfz40_2); (try clear hfz40_3); (try clear hfz47_0); (try clear hfz47_1); (try clear hfz47_2); (try clear hfz47_3); (try clear hfz59_0); (try clear hfz59_1); (try clear hfz59_2); (try clear hfz59_3); (try clear hfz60_0); (try clear hfz60_1); (try clear hfz60_2); (try clear hfz60_3); (try clear hfz67_0); (try clear hfz67_1); (try clear hfz67_2); (try clear hfz67_3); (try clear hfz81_0); (try clear hfz81_1); (try clear hfz81_2); (try clear hfz81_3); (try clear hfz83_0); (try clear hfz83_1); (try clear hfz83_2); (try clear hfz83_3); (try clear hfz9_0); (try clear hfz9_1); (try clear hfz9_2); (try clear hfz9_3); (try clear hx356_0); (try clear hx356_1); (try clear hx356_2); (try clear hx356_3); (try clear p2); (try clear p3); (try clear p35); (try clear p356); (try clear q3); (try clear q35); (try clear q356)
                        obtain ⟨x14_7, rfl, HA, HK7, HO_10, BK357, HB⟩ := hrel
                        cases gk with
                        | zero => exact absurd HA.out (by simp [arraslaw5_CodeBack.l1])
                        | succ k7 =>
                         have H := HA.out
                         clear HA
                         simp only [arraslaw5_CodeBack.l1] at H
                         by_cases c86 : x14_7 < (t374.length : Int)
                         ·rw [if_pos c86] at H
                          have c86b0 : decide (x14_7 < (t374.length : Int)) = true := decide_eq_true c86
                          clear c86
                          by_cases c87 : 0 ≤ x14_7
                          ·rw [if_pos c87] at H
                           have c87b0 := eq_true c87
                           have c87b1 : decide (0 ≤ x14_7) = true := decide_eq_true c87
                           clear c87
                           by_cases c88 : x14_7 ≤ (t374.length : Int)
                           ·rw [if_pos c88] at H
                            have c88b0 := eq_true c88
                            have c88b1 : decide (x14_7 ≤ (t374.length : Int)) = true := decide_eq_true c88
                            clear c88
                            obtain ⟨y407, hy407⟩ : ∃ y_ : List Int, y_ = (t374.take (x14_7 : Int).toNat) := ⟨_, rfl⟩
                            replace H : ((code_TakeText.f k7 y407).bind fun bt411 => ((arraslaw5_num.f bt411.2.2).bind fun t414 => (if t414 = 7 then (arraslaw5_CodeBack.l1 k7 l0 x3_1 t374 (wrap64 (x14_7 + 1)) ((rd_T43 l0 x3_1).f0) ((rd_T43 l0 x3_1).f1) ((rd_T43 l0 x3_1).f2) ((rd_T43 l0 x3_1).f3)) else (some false)))) = some r := by first | (rw [hy407]; with_reducible exact H) | (have H2_ := (Option.bind_some _ _).symm.trans H; rw [hy407]; with_reducible exact H2_) | (have H2_ := (Option.bind_some _ _).symm.trans H; with_reducible exact H2_) | with_reducible exact H | (rw [hy407]; exact H) | exact H
                            have Ny407 := Aside0.mk hy407
                            clear hy407
                            replace H := Option.bind_eq_some_iff.mp H
                            obtain ⟨⟨t411, t412, t413⟩, A890, H⟩ := H
                            (try dsimp only at H)
                            have A89 := Aside0.mk A890
                            clear A890
                            replace H := Option.bind_eq_some_iff.mp H
                            obtain ⟨t414, A900, H⟩ := H
                            (try dsimp only at H)
                            have A90 := Aside0.mk A900
                            clear A900
                            by_cases c91 : t414 = 7
                            ·rw [if_pos c91] at H
                             have c91b0 : (t414 == 7) = true := beq_iff_eq.mpr c91
                             have c91b1 : (t414 != 7) = false := bne_eq_false_iff_eq.mpr c91
                             clear c91
                             as_aux_lemma =>
                              have H' := Aside0.mk H
                              clear H
                              have q92 : (x14_7 : Int) ≤ ((t374.length : Int) : Int) := of_decide_eq_true (by first | (with_reducible assumption) | assumption)
                              obtain ⟨i092, hi092, _, hsz92, _⟩ := info_parts info5
                              have hroom92 : t374.length ≤ co50 := (Kd.R_reads' HO_10.out).2.1
                              have hC92 : Kd.C (Kd.int .u8) _ Ao50 t374.length t374 := (Kd.R_reads' HO_10.out).2.2
                              have hcut92 := cut_to (P := Try.prog) 24 5 .i64 Try.underlying24 hi092 Ao50 t374.length co50 x14_7 (of_decide_eq_true (by first | (with_reducible assumption) | assumption)) q92 hroom92
                              have hr92 := Kd.C_take (m := (x14_7 : Int).toNat) hC92 (by omega)
                              have hy92 : y407.length = (x14_7 : Int).toNat := (by rw [Ny407.out, List.length_take]; omega)
                              rw [← Ny407.out] at hr92
                              rw [← hy92] at hcut92
                              have HR410 := Aside0.mk hr92
                              have HC410 := Aside0.mk (show y407.length ≤ co50 from by omega)
                              clear hr92 hC92 hroom92 hi092 hsz92
                              have KY92 := Aside0.mk hy92
                              clear hy92
                              have KL92 := Aside0.mk (show (x14_7 : Int).toNat ≤ t374.length from by omega)
                              replace q92 := eq_true q92
                              go_wp2_with (first | ((with_reducible refine gate_callee (f := 36) rfl ?_); refine goesL_ (some 167) rfl rfl Try.func36 (by kernel_rfl) rfl #[.slice Ao50 y407.length co50] rfl (by (try simp only [List.map_toArray, List.map_cons, List.map_nil]); first | done | rfl | (simp only [List.length_drop, List.length_take]; rfl)) ?_; (with_reducible refine (code_TakeText.calls k7 _ _ y407 t411 t412 t413 _ ?side1 ?side2 A89.out).mono ?_); (case side1 => repeat (first | exact (by repeat (first | (with_reducible exact HR410.out) | with_reducible first | refine Kd.C_alloc ?_ _ | refine Kd.C_drewN ?_ _ | refine Kd.C_drew ?_ | exact HR410.out)) | with_reducible first | refine Kd.C_alloc ?_ _ | refine Kd.C_drewN ?_ _ | refine Kd.C_drew ?_)); (case side2 => exact HC410.out); rintro e w' ⟨rfl, ⟨nd, rfl⟩⟩; refine ⟨_, rfl, ?_⟩) | ((with_reducible refine gate_callee (f := 25) rfl ?_); refine goesL_ (some 172) rfl rfl Try.func25 (by kernel_rfl) rfl #[.int .i64 t413] rfl (by (try simp only [List.map_toArray, List.map_cons, List.map_nil]); first | done | rfl | (simp only [List.length_drop, List.length_take]; rfl)) ?_; (with_reducible refine (arraslaw5_num.calls t413 t414 _ A90.out).mono ?_); rintro e w' ⟨rfl, ⟨nd, rfl⟩⟩; refine ⟨_, rfl, ?_⟩))
                              go_roundg k7
                              case measure => have := HK1.out; have := HJ1.out; have := HJ6.out; have := HJ25.out; have := HJ45.out; have := HJ65.out; have := HK7.out; omega
                              case rel => exact ⟨(wrap64 (x14_7 + 1)), (by first | rfl | (simp; done) | (simp [*]; done)), H', ⟨by have := HK1.out; have := HJ1.out; have := HJ6.out; have := HJ25.out; have := HJ45.out; have := HJ65.out; have := HK7.out; omega⟩, ⟨by (with_reducible repeat (first | apply Kd.R_alloc | apply Kd.R_drewN | apply Kd.R_drew)); exact HO_10.out⟩, ⟨by (with_reducible repeat (first | refine blk_drewN ?_ _ | refine blk_drew ?_ | refine blk_alloc ?_ _)); exact BK357.out⟩, ⟨by repeat (first | (with_reducible first | exact HB.out | apply below_alloc | apply pw_below_drewN | apply below_drew1 | refine below_set ?_ GE357.out) | exact HB.out)⟩⟩
                            ·rw [if_neg c91] at H
                             have c91b0 : (t414 == 7) = false := beq_eq_false_iff_ne.mpr c91
                             have c91b1 : (t414 != 7) = true := bne_iff_ne.mpr c91
                             as_aux_lemma =>
                              obtain rfl := Option.some.inj H
                              have q93 : (x14_7 : Int) ≤ ((t374.length : Int) : Int) := of_decide_eq_true (by first | (with_reducible assumption) | assumption)
                              obtain ⟨i093, hi093, _, hsz93, _⟩ := info_parts info5
                              have hroom93 : t374.length ≤ co50 := (Kd.R_reads' HO_10.out).2.1
                              have hC93 : Kd.C (Kd.int .u8) _ Ao50 t374.length t374 := (Kd.R_reads' HO_10.out).2.2
                              have hcut93 := cut_to (P := Try.prog) 24 5 .i64 Try.underlying24 hi093 Ao50 t374.length co50 x14_7 (of_decide_eq_true (by first | (with_reducible assumption) | assumption)) q93 hroom93
                              have hr93 := Kd.C_take (m := (x14_7 : Int).toNat) hC93 (by omega)
                              have hy93 : y407.length = (x14_7 : Int).toNat := (by rw [Ny407.out, List.length_take]; omega)
                              rw [← Ny407.out] at hr93
                              rw [← hy93] at hcut93
                              have HR410 := Aside0.mk hr93
                              have HC410 := Aside0.mk (show y407.length ≤ co50 from by omega)
                              clear hr93 hC93 hroom93 hi093 hsz93
                              have KY93 := Aside0.mk hy93
                              clear hy93
                              have KL93 := Aside0.mk (show (x14_7 : Int).toNat ≤ t374.length from by omega)
                              replace q93 := eq_true q93
                              go_wp2_with (first | ((with_reducible refine gate_callee (f := 36) rfl ?_); refine goesL_ (some 167) rfl rfl Try.func36 (by kernel_rfl) rfl #[.slice Ao50 y407.length co50] rfl (by (try simp only [List.map_toArray, List.map_cons, List.map_nil]); first | done | rfl | (simp only [List.length_drop, List.length_take]; rfl)) ?_; (with_reducible refine (code_TakeText.calls k7 _ _ y407 t411 t412 t413 _ ?side1 ?side2 A89.out).mono ?_); (case side1 => repeat (first | exact (by repeat (first | (with_reducible exact HR410.out) | with_reducible first | refine Kd.C_alloc ?_ _ | refine Kd.C_drewN ?_ _ | refine Kd.C_drew ?_ | exact HR410.out)) | with_reducible first | refine Kd.C_alloc ?_ _ | refine Kd.C_drewN ?_ _ | refine Kd.C_drew ?_)); (case side2 => exact HC410.out); rintro e w' ⟨rfl, ⟨nd, rfl⟩⟩; refine ⟨_, rfl, ?_⟩) | ((with_reducible refine gate_callee (f := 25) rfl ?_); refine goesL_ (some 172) rfl rfl Try.func25 (by kernel_rfl) rfl #[.int .i64 t413] rfl (by (try simp only [List.map_toArray, List.map_cons, List.map_nil]); first | done | rfl | (simp only [List.length_drop, List.length_take]; rfl)) ?_; (with_reducible refine (arraslaw5_num.calls t413 t414 _ A90.out).mono ?_); rintro e w' ⟨rfl, ⟨nd, rfl⟩⟩; refine ⟨_, rfl, ?_⟩))
                              go_ret
                              exact ⟨by first | rfl | (simp [errW_none, errW_some] <;> rfl) | (simp [*, errW_none, errW_some] <;> rfl), by repeat (first | (with_reducible first | exact HB.out | apply below_alloc | apply pw_below_drewN | apply below_drew1 | refine below_set ?_ GE357.out) | exact HB.out)⟩
                           ·rw [if_neg c88] at H
                            exact absurd H (by simp)
                          ·rw [if_neg c87] at H
                           exact absurd H (by simp)
                         ·rw [if_neg c86] at H
                          have c86b0 : decide (x14_7 < (t374.length : Int)) = false := decide_eq_false c86
                          clear c86
                          replace H := Option.bind_eq_some_iff.mp H
                          obtain ⟨⟨t415, t416, t417⟩, A940, H⟩ := H
                          (try dsimp only at H)
                          have A94 := Aside0.mk A940
                          clear A940
                          replace H := Option.bind_eq_some_iff.mp H
                          obtain ⟨t418, A950, H⟩ := H
                          (try dsimp only at H)
                          have A95 := Aside0.mk A950
                          clear A950
                          by_cases c96 : t418 = 0
                          ·rw [if_pos c96] at H
                           have c96b0 : (t418 == 0) = true := beq_iff_eq.mpr c96
                           have c96b1 : (t418 != 0) = false := bne_eq_false_iff_eq.mpr c96
                           clear c96
                           replace H := Option.bind_eq_some_iff.mp H
                           obtain ⟨⟨t419, t420⟩, A970, H⟩ := H
                           (try dsimp only at H)
                           have A97 := Aside0.mk A970
                           clear A970
                           replace H := Option.bind_eq_some_iff.mp H
                           obtain ⟨t423, A980, H⟩ := H
                           (try dsimp only at H)
                           have A98 := Aside0.mk A980
                           clear A980
                           by_cases c99 : t423 = 0
                           ·rw [if_pos c99] at H
                            have c99b0 : (t423 == 0) = true := beq_iff_eq.mpr c99
                            have c99b1 : (t423 != 0) = false := bne_eq_false_iff_eq.mpr c99
                            clear c99
                            by_cases c100 : 0 ≤ t416
                            ·rw [if_pos c100] at H
                             have c100b0 := eq_true c100
                             have c100b1 : decide (0 ≤ t416) = true := decide_eq_true c100
                             clear c100
                             by_cases c101 : t416 ≤ (((rd_T43 l0 x3_1).f3).length : Int)
                             ·rw [if_pos c101] at H
                              have c101b0 := eq_true c101
                              have c101b1 : decide (t416 ≤ (((rd_T43 l0 x3_1).f3).length : Int)) = true := decide_eq_true c101
                              clear c101
                              replace H := Option.bind_eq_some_iff.mp H
                              obtain ⟨t425, A1020, H⟩ := H
                              replace H : (if t425 = true then (arraslaw5_CodeBack.l0 k7 l0 (wrap64 (x3_1 + 1))) else (some false)) = some r := H
                              have A102 := Aside0.mk A1020
                              clear A1020
                              by_cases c103 : t425 = true
                              ·subst c103
                               have H1 : (arraslaw5_CodeBack.l0 k7 l0 (wrap64 (x3_1 + 1))) = some r := by rw [if_pos rfl] at H; exact H
                               clear H
                               have H := H1
                               clear H1
                               as_aux_lemma =>
                                have H' := Aside0.mk H
                                clear H
                                have hcz104_0 : wr.cell? ⟨gb357, 0, none⟩ = some (.int .i64 ((rd_T43 l0 x3_1).f0)) := (blk_cell BK357.out 0).trans rfl
                                have hcz104_1 : wr.cell? ⟨gb357, 1, none⟩ = some (.string ((rd_T43 l0 x3_1).f1)) := (blk_cell BK357.out 1).trans rfl
                                have hcz104_2 : wr.cell? ⟨gb357, 2, none⟩ = some (.slice A356_2 ((rd_T43 l0 x3_1).f2).length c356_2) := (blk_cell BK357.out 2).trans rfl
                                have hcz104_3 : wr.cell? ⟨gb357, 3, none⟩ = some (.slice A356_3 ((rd_T43 l0 x3_1).f3).length c356_3) := (blk_cell BK357.out 3).trans rfl
                                have hfz104_0 := blk_frozen BK357.out 0
                                have hfz104_1 := blk_frozen BK357.out 1
                                have hfz104_2 := blk_frozen BK357.out 2
                                have hfz104_3 := blk_frozen BK357.out 3
                                go_wp2_with (first | ((with_reducible refine gate_callee (f := 24) rfl ?_); refine goesL_ (some 177) rfl rfl Try.func24 (by kernel_rfl) rfl #[.slice A356_3 ((rd_T43 l0 x3_1).f3).length c356_3] rfl (by (try simp only [List.map_toArray, List.map_cons, List.map_nil]); first | done | rfl | (simp only [List.length_drop, List.length_take]; rfl)) ?_; (with_reducible refine (code_TakeNum.calls k7 _ _ ((rd_T43 l0 x3_1).f3) t415 t416 t417 _ ?side1 ?side2 A94.out).mono ?_); (case side1 => repeat (first | exact (Kd.C_below HR356_3.out HB.out) | with_reducible first | refine Kd.C_alloc ?_ _ | refine Kd.C_drewN ?_ _ | refine Kd.C_drew ?_)); (case side2 => exact HC356_3.out); rintro e w' ⟨rfl, ⟨nd, rfl⟩⟩; refine ⟨_, rfl, ?_⟩) | ((with_reducible refine gate_callee (f := 25) rfl ?_); refine goesL_ (some 182) rfl rfl Try.func25 (by kernel_rfl) rfl #[.int .i64 t417] rfl (by (try simp only [List.map_toArray, List.map_cons, List.map_nil]); first | done | rfl | (simp only [List.length_drop, List.length_take]; rfl)) ?_; (with_reducible refine (arraslaw5_num.calls t417 t418 _ A95.out).mono ?_); rintro e w' ⟨rfl, ⟨nd, rfl⟩⟩; refine ⟨_, rfl, ?_⟩) | ((with_reducible refine gate_callee (f := 23) rfl ?_); refine goesL_ (some 186) rfl rfl Try.func23 (by kernel_rfl) rfl #[.int .i64 t415] rfl (by (try simp only [List.map_toArray, List.map_cons, List.map_nil]); first | done | rfl | (simp only [List.length_drop, List.length_take]; rfl)) ?_; (with_reducible refine (code_Num.calls k7 t415 t419 t420 _ A97.out).mono ?_); rintro e w105 ⟨v421, rfl, ho0, hb⟩; refine ⟨_, rfl, ?_⟩; have n0_ := Aside0.mk (Kd.R_elder' (by (with_reducible repeat (first | apply Kd.R_alloc | apply Kd.R_drewN | apply Kd.R_drew)); exact HO_10.out) (Kd.R_base ho0) hb); have n1_ := Aside0.mk (Kd.R_lower (Kd.R_new' ho0 (Kd.R_lt (by (with_reducible repeat (first | apply Kd.R_alloc | apply Kd.R_drewN | apply Kd.R_drew)); exact HO_10.out))) (below_size (by repeat (first | (with_reducible first | exact HB.out | apply below_alloc | apply pw_below_drewN | apply below_drew1 | refine below_set ?_ GE357.out) | exact HB.out)))); have n2_ := Aside0.mk (blk_below (g := gb357) (o := .cells #[.int .i64 ((rd_T43 l0 x3_1).f0), .string ((rd_T43 l0 x3_1).f1), .slice A356_2 ((rd_T43 l0 x3_1).f2).length c356_2, .slice A356_3 ((rd_T43 l0 x3_1).f3).length c356_3] 43 (0, 0)) (by (with_reducible repeat (first | refine blk_drewN ?_ _ | refine blk_drew ?_ | refine blk_alloc ?_ _)); exact BK357.out) hb); have n3_ := Aside0.mk (below_step (by repeat (first | (with_reducible first | exact HB.out | apply below_alloc | apply pw_below_drewN | apply below_drew1 | refine below_set ?_ GE357.out) | exact HB.out)) hb); clear HO_10; clear BK357; clear HB; have HO_10 := n0_; have HO422 := n1_; have BK357 := n2_; have HB := n3_; clear n0_ n1_ n2_ n3_; (try clear hb); (try clear hb2); (try clear hk); (try clear hi); (try clear ho0)) | ((with_reducible refine gate_callee (f := 25) rfl ?_); refine goesL_ (some 190) rfl rfl Try.func25 (by kernel_rfl) rfl #[.int .i64 t420] rfl (by (try simp only [List.map_toArray, List.map_cons, List.map_nil]); first | done | rfl | (simp only [List.length_drop, List.length_take]; rfl)) ?_; (with_reducible refine (arraslaw5_num.calls t420 t423 _ A98.out).mono ?_); rintro e w' ⟨rfl, ⟨nd, rfl⟩⟩; refine ⟨_, rfl, ?_⟩; have hcz106_0 : w105.cell? ⟨gb357, 0, none⟩ = some (.int .i64 ((rd_T43 l0 x3_1).f0)) := (blk_cell BK357.out 0).trans rfl; have hcz106_1 : w105.cell? ⟨gb357, 1, none⟩ = some (.string ((rd_T43 l0 x3_1).f1)) := (blk_cell BK357.out 1).trans rfl; have hcz106_2 : w105.cell? ⟨gb357, 2, none⟩ = some (.slice A356_2 ((rd_T43 l0 x3_1).f2).length c356_2) := (blk_cell BK357.out 2).trans rfl; have hcz106_3 : w105.cell? ⟨gb357, 3, none⟩ = some (.slice A356_3 ((rd_T43 l0 x3_1).f3).length c356_3) := (blk_cell BK357.out 3).trans rfl; have hfz106_0 := blk_frozen BK357.out 0; have hfz106_1 := blk_frozen BK357.out 1; have hfz106_2 := blk_frozen BK357.out 2; have hfz106_3 := blk_frozen BK357.out 3; obtain ⟨i0107, hi0107, _, hsz107, _⟩ := info_parts info5; obtain ⟨hcut107, hA107, hC107⟩ := print_take_of (P := Try.prog) (Value.int .u8) 0 24 5 .i64 Try.underlying24 hi0107 hsz107 A356_3 c356_3 ((rd_T43 l0 x3_1).f3) t416 (of_decide_eq_true (by first | (with_reducible assumption) | assumption)) (of_decide_eq_true (by first | (with_reducible assumption) | assumption)) HC356_3.out; have HR424 := Aside0.mk (Kd.C_of_reads (h1 := fun _ => rfl) (hA107 _ (Kd.reads_of_C HR356_3.out))); have HC424 := Aside0.mk hC107; clear hA107 hC107 hi0107 hsz107; obtain ⟨Ao108, co108, eo108⟩ := Kd.R_slice HO422.out; subst eo108) | (go_at_call 20; refine calls_of_args (args' := #[.slice Ao108 t419.length co108, .slice A356_3 (((rd_T43 l0 x3_1).f3).take (t416 : Int).toNat).length c356_3]) (by first | (rw [show (((rd_T43 l0 x3_1).f3).take (t416 : Int).toNat).length = t416.toNat from (by rw [List.length_take]; have h_ : (t416 : Int) ≤ (((rd_T43 l0 x3_1).f3).length : Int) := of_decide_eq_true (by first | (with_reducible assumption) | assumption); omega)] <;> rfl) | rfl) ?_; (with_reducible refine (arrasref0_EqBytes.calls k7 _ _ t419 _ _ (((rd_T43 l0 x3_1).f3).take (t416 : Int).toNat) true _ ?side1 ?side2 ?side3 ?side4 A102.out).mono ?_); (case side1 => repeat (first | exact (Kd.R_reads' HO422.out).2.2 | with_reducible first | refine Kd.C_alloc ?_ _ | refine Kd.C_drewN ?_ _ | refine Kd.C_drew ?_)); (case side2 => exact (Kd.R_reads' HO422.out).2.1); (case side3 => repeat (first | exact (Kd.C_below HR424.out (by repeat (first | (with_reducible first | exact HB.out | apply below_alloc | apply pw_below_drewN | apply below_drew1 | refine below_set ?_ GE357.out) | exact HB.out))) | with_reducible first | refine Kd.C_alloc ?_ _ | refine Kd.C_drewN ?_ _ | refine Kd.C_drew ?_)); (case side4 => exact HC424.out); rintro e w' ⟨rfl, ⟨nd, rfl⟩⟩))
                                go_roundg k7
                                case measure => have := HK1.out; have := HJ1.out; have := HJ6.out; have := HJ25.out; have := HJ45.out; have := HJ65.out; have := HK7.out; omega
                                case rel => exact ⟨(wrap64 (x3_1 + 1)), (by first | rfl | (simp; done) | (simp [*]; done)), H', ⟨by have := HK1.out; have := HJ1.out; have := HJ6.out; have := HJ25.out; have := HJ45.out; have := HJ65.out; have := HK7.out; omega⟩, ⟨by repeat (first | (with_reducible first | exact HB.out | apply below_alloc | apply pw_below_drewN | apply below_drew1 | refine below_set ?_ GE357.out) | exact HB.out)⟩⟩
                              ·replace c103 := Bool.eq_false_iff.mpr c103
                               subst c103
                               have H1 : (some false) = some r := by rw [if_neg (show ¬ (false = true) by decide)] at H; exact H
                               clear H
                               have H := H1
                               clear H1
                               as_aux_lemma =>
                                obtain rfl := Option.some.inj H
                                have hcz109_0 : wr.cell? ⟨gb357, 0, none⟩ = some (.int .i64 ((rd_T43 l0 x3_1).f0)) := (blk_cell BK357.out 0).trans rfl
                                have hcz109_1 : wr.cell? ⟨gb357, 1, none⟩ = some (.string ((rd_T43 l0 x3_1).f1)) := (blk_cell BK357.out 1).trans rfl
                                have hcz109_2 : wr.cell? ⟨gb357, 2, none⟩ = some (.slice A356_2 ((rd_T43 l0 x3_1).f2).length c356_2) := (blk_cell BK357.out 2).trans rfl
                                have hcz109_3 : wr.cell? ⟨gb357, 3, none⟩ = some (.slice A356_3 ((rd_T43 l0 x3_1).f3).length c356_3) := (blk_cell BK357.out 3).trans rfl
                                have hfz109_0 := blk_frozen BK357.out 0
                                have hfz109_1 := blk_frozen BK357.out 1
                                have hfz109_2 := blk_frozen BK357.out 2
                                have hfz109_3 := blk_frozen BK357.out 3
                                go_wp2_with (first | ((with_reducible refine gate_callee (f := 24) rfl ?_); refine goesL_ (some 177) rfl rfl Try.func24 (by kernel_rfl) rfl #[.slice A356_3 ((rd_T43 l0 x3_1).f3).length c356_3] rfl (by (try simp only [List.map_toArray, List.map_cons, List.map_nil]); first | done | rfl | (simp only [List.length_drop, List.length_take]; rfl)) ?_; (with_reducible refine (code_TakeNum.calls k7 _ _ ((rd_T43 l0 x3_1).f3) t415 t416 t417 _ ?side1 ?side2 A94.out).mono ?_); (case side1 => repeat (first | exact (Kd.C_below HR356_3.out HB.out) | with_reducible first | refine Kd.C_alloc ?_ _ | refine Kd.C_drewN ?_ _ | refine Kd.C_drew ?_)); (case side2 => exact HC356_3.out); rintro e w' ⟨rfl, ⟨nd, rfl⟩⟩; refine ⟨_, rfl, ?_⟩) | ((with_reducible refine gate_callee (f := 25) rfl ?_); refine goesL_ (some 182) rfl rfl Try.func25 (by kernel_rfl) rfl #[.int .i64 t417] rfl (by (try simp only [List.map_toArray, List.map_cons, List.map_nil]); first | done | rfl | (simp only [List.length_drop, List.length_take]; rfl)) ?_; (with_reducible refine (arraslaw5_num.calls t417 t418 _ A95.out).mono ?_); rintro e w' ⟨rfl, ⟨nd, rfl⟩⟩; refine ⟨_, rfl, ?_⟩) | ((with_reducible refine gate_callee (f := 23) rfl ?_); refine goesL_ (some 186) rfl rfl Try.func23 (by kernel_rfl) rfl #[.int .i64 t415] rfl (by (try simp only [List.map_toArray, List.map_cons, List.map_nil]); first | done | rfl | (simp only [List.length_drop, List.length_take]; rfl)) ?_; (with_reducible refine (code_Num.calls k7 t415 t419 t420 _ A97.out).mono ?_); rintro e w110 ⟨v421, rfl, ho0, hb⟩; refine ⟨_, rfl, ?_⟩; have n0_ := Aside0.mk (Kd.R_elder' (by (with_reducible repeat (first | apply Kd.R_alloc | apply Kd.R_drewN | apply Kd.R_drew)); exact HO_10.out) (Kd.R_base ho0) hb); have n1_ := Aside0.mk (Kd.R_lower (Kd.R_new' ho0 (Kd.R_lt (by (with_reducible repeat (first | apply Kd.R_alloc | apply Kd.R_drewN | apply Kd.R_drew)); exact HO_10.out))) (below_size (by repeat (first | (with_reducible first | exact HB.out | apply below_alloc | apply pw_below_drewN | apply below_drew1 | refine below_set ?_ GE357.out) | exact HB.out)))); have n2_ := Aside0.mk (blk_below (g := gb357) (o := .cells #[.int .i64 ((rd_T43 l0 x3_1).f0), .string ((rd_T43 l0 x3_1).f1), .slice A356_2 ((rd_T43 l0 x3_1).f2).length c356_2, .slice A356_3 ((rd_T43 l0 x3_1).f3).length c356_3] 43 (0, 0)) (by (with_reducible repeat (first | refine blk_drewN ?_ _ | refine blk_drew ?_ | refine blk_alloc ?_ _)); exact BK357.out) hb); have n3_ := Aside0.mk (below_step (by repeat (first | (with_reducible first | exact HB.out | apply below_alloc | apply pw_below_drewN | apply below_drew1 | refine below_set ?_ GE357.out) | exact HB.out)) hb); clear HO_10; clear BK357; clear HB; have HO_10 := n0_; have HO422 := n1_; have BK357 := n2_; have HB := n3_; clear n0_ n1_ n2_ n3_; (try clear hb); (try clear hb2); (try clear hk); (try clear hi); (try clear ho0)) | ((with_reducible refine gate_callee (f := 25) rfl ?_); refine goesL_ (some 190) rfl rfl Try.func25 (by kernel_rfl) rfl #[.int .i64 t420] rfl (by (try simp only [List.map_toArray, List.map_cons, List.map_nil]); first | done | rfl | (simp only [List.length_drop, List.length_take]; rfl)) ?_; (with_reducible refine (arraslaw5_num.calls t420 t423 _ A98.out).mono ?_); rintro e w' ⟨rfl, ⟨nd, rfl⟩⟩; refine ⟨_, rfl, ?_⟩; have hcz111_0 : w110.cell? ⟨gb357, 0, none⟩ = some (.int .i64 ((rd_T43 l0 x3_1).f0)) := (blk_cell BK357.out 0).trans rfl; have hcz111_1 : w110.cell? ⟨gb357, 1, none⟩ = some (.string ((rd_T43 l0 x3_1).f1)) := (blk_cell BK357.out 1).trans rfl; have hcz111_2 : w110.cell? ⟨gb357, 2, none⟩ = some (.slice A356_2 ((rd_T43 l0 x3_1).f2).length c356_2) := (blk_cell BK357.out 2).trans rfl; have hcz111_3 : w110.cell? ⟨gb357, 3, none⟩ = some (.slice A356_3 ((rd_T43 l0 x3_1).f3).length c356_3) := (blk_cell BK357.out 3).trans rfl; have hfz111_0 := blk_frozen BK357.out 0; have hfz111_1 := blk_frozen BK357.out 1; have hfz111_2 := blk_frozen BK357.out 2; have hfz111_3 := blk_frozen BK357.out 3; obtain ⟨i0112, hi0112, _, hsz112, _⟩ := info_parts info5; obtain ⟨hcut112, hA112, hC112⟩ := print_take_of (P := Try.prog) (Value.int .u8) 0 24 5 .i64 Try.underlying24 hi0112 hsz112 A356_3 c356_3 ((rd_T43 l0 x3_1).f3) t416 (of_decide_eq_true (by first | (with_reducible assumption) | assumption)) (of_decide_eq_true (by first | (with_reducible assumption) | assumption)) HC356_3.out; have HR424 := Aside0.mk (Kd.C_of_reads (h1 := fun _ => rfl) (hA112 _ (Kd.reads_of_C HR356_3.out))); have HC424 := Aside0.mk hC112; clear hA112 hC112 hi0112 hsz112; obtain ⟨Ao113, co113, eo113⟩ := Kd.R_slice HO422.out; subst eo113) | (go_at_call 20; refine calls_of_args (args' := #[.slice Ao113 t419.length co113, .slice A356_3 (((rd_T43 l0 x3_1).f3).take (t416 : Int).toNat).length c356_3]) (by first | (rw [show (((rd_T43 l0 x3_1).f3).take (t416 : Int).toNat).length = t416.toNat from (by rw [List.length_take]; have h_ : (t416 : Int) ≤ (((rd_T43 l0 x3_1).f3).length : Int) := of_decide_eq_true (by first | (with_reducible assumption) | assumption); omega)] <;> rfl) | rfl) ?_; (with_reducible refine (arrasref0_EqBytes.calls k7 _ _ t419 _ _ (((rd_T43 l0 x3_1).f3).take (t416 : Int).toNat) false _ ?side1 ?side2 ?side3 ?side4 A102.out).mono ?_); (case side1 => repeat (first | exact (Kd.R_reads' HO422.out).2.2 | with_reducible first | refine Kd.C_alloc ?_ _ | refine Kd.C_drewN ?_ _ | refine Kd.C_drew ?_)); (case side2 => exact (Kd.R_reads' HO422.out).2.1); (case side3 => repeat (first | exact (Kd.C_below HR424.out (by repeat (first | (with_reducible first | exact HB.out | apply below_alloc | apply pw_below_drewN | apply below_drew1 | refine below_set ?_ GE357.out) | exact HB.out))) | with_reducible first | refine Kd.C_alloc ?_ _ | refine Kd.C_drewN ?_ _ | refine Kd.C_drew ?_)); (case side4 => exact HC424.out); rintro e w' ⟨rfl, ⟨nd, rfl⟩⟩))
                                go_ret
                                exact ⟨by first | rfl | (simp [errW_none, errW_some] <;> rfl) | (simp [*, errW_none, errW_some] <;> rfl), by repeat (first | (with_reducible first | exact HB.out | apply below_alloc | apply pw_below_drewN | apply below_drew1 | refine below_set ?_ GE357.out) | exact HB.out)⟩
                             ·rw [if_neg c101] at H
                              exact absurd H (by simp)
                            ·rw [if_neg c100] at H
                             exact absurd H (by simp)
                           ·rw [if_neg c99] at H
                            have c99b0 : (t423 == 0) = false := beq_eq_false_iff_ne.mpr c99
                            have c99b1 : (t423 != 0) = true := bne_iff_ne.mpr c99
                            as_aux_lemma =>
                             obtain rfl := Option.some.inj H
                             have hcz114_0 : wr.cell? ⟨gb357, 0, none⟩ = some (.int .i64 ((rd_T43 l0 x3_1).f0)) := (blk_cell BK357.out 0).trans rfl
                             have hcz114_1 : wr.cell? ⟨gb357, 1, none⟩ = some (.string ((rd_T43 l0 x3_1).f1)) := (blk_cell BK357.out 1).trans rfl
                             have hcz114_2 : wr.cell? ⟨gb357, 2, none⟩ = some (.slice A356_2 ((rd_T43 l0 x3_1).f2).length c356_2) := (blk_cell BK357.out 2).trans rfl
                             have hcz114_3 : wr.cell? ⟨gb357, 3, none⟩ = some (.slice A356_3 ((rd_T43 l0 x3_1).f3).length c356_3) := (blk_cell BK357.out 3).trans rfl
                             have hfz114_0 := blk_frozen BK357.out 0
                             have hfz114_1 := blk_frozen BK357.out 1
                             have hfz114_2 := blk_frozen BK357.out 2
                             have hfz114_3 := blk_frozen BK357.out 3
                             go_wp2_with (first | ((with_reducible refine gate_callee (f := 24) rfl ?_); refine goesL_ (some 177) rfl rfl Try.func24 (by kernel_rfl) rfl #[.slice A356_3 ((rd_T43 l0 x3_1).f3).length c356_3] rfl (by (try simp only [List.map_toArray, List.map_cons, List.map_nil]); first | done | rfl | (simp only [List.length_drop, List.length_take]; rfl)) ?_; (with_reducible refine (code_TakeNum.calls k7 _ _ ((rd_T43 l0 x3_1).f3) t415 t416 t417 _ ?side1 ?side2 A94.out).mono ?_); (case side1 => repeat (first | exact (Kd.C_below HR356_3.out HB.out) | with_reducible first | refine Kd.C_alloc ?_ _ | refine Kd.C_drewN ?_ _ | refine Kd.C_drew ?_)); (case side2 => exact HC356_3.out); rintro e w' ⟨rfl, ⟨nd, rfl⟩⟩; refine ⟨_, rfl, ?_⟩) | ((with_reducible refine gate_callee (f := 25) rfl ?_); refine goesL_ (some 182) rfl rfl Try.func25 (by kernel_rfl) rfl #[.int .i64 t417] rfl (by (try simp only [List.map_toArray, List.map_cons, List.map_nil]); first | done | rfl | (simp only [List.length_drop, List.length_take]; rfl)) ?_; (with_reducible refine (arraslaw5_num.calls t417 t418 _ A95.out).mono ?_); rintro e w' ⟨rfl, ⟨nd, rfl⟩⟩; refine ⟨_, rfl, ?_⟩) | ((with_reducible refine gate_callee (f := 23) rfl ?_); refine goesL_ (some 186) rfl rfl Try.func23 (by kernel_rfl) rfl #[.int .i64 t415] rfl (by (try simp only [List.map_toArray, List.map_cons, List.map_nil]); first | done | rfl | (simp only [List.length_drop, List.length_take]; rfl)) ?_; (with_reducible refine (code_Num.calls k7 t415 t419 t420 _ A97.out).mono ?_); rintro e w115 ⟨v421, rfl, ho0, hb⟩; refine ⟨_, rfl, ?_⟩; have n0_ := Aside0.mk (Kd.R_elder' (by (with_reducible repeat (first | apply Kd.R_alloc | apply Kd.R_drewN | apply Kd.R_drew)); exact HO_10.out) (Kd.R_base ho0) hb); have n1_ := Aside0.mk (Kd.R_lower (Kd.R_new' ho0 (Kd.R_lt (by (with_reducible repeat (first | apply Kd.R_alloc | apply Kd.R_drewN | apply Kd.R_drew)); exact HO_10.out))) (below_size (by repeat (first | (with_reducible first | exact HB.out | apply below_alloc | apply pw_below_drewN | apply below_drew1 | refine below_set ?_ GE357.out) | exact HB.out)))); have n2_ := Aside0.mk (blk_below (g := gb357) (o := .cells #[.int .i64 ((rd_T43 l0 x3_1).f0), .string ((rd_T43 l0 x3_1).f1), .slice A356_2 ((rd_T43 l0 x3_1).f2).length c356_2, .slice A356_3 ((rd_T43 l0 x3_1).f3).length c356_3] 43 (0, 0)) (by (with_reducible repeat (first | refine blk_drewN ?_ _ | refine blk_drew ?_ | refine blk_alloc ?_ _)); exact BK357.out) hb); have n3_ := Aside0.mk (below_step (by repeat (first | (with_reducible first | exact HB.out | apply below_alloc | apply pw_below_drewN | apply below_drew1 | refine below_set ?_ GE357.out) | exact HB.out)) hb); clear HO_10; clear BK357; clear HB; have HO_10 := n0_; have HO422 := n1_; have BK357 := n2_; have HB := n3_; clear n0_ n1_ n2_ n3_; (try clear hb); (try clear hb2); (try clear hk); (try clear hi); (try clear ho0)) | ((with_reducible refine gate_callee (f := 25) rfl ?_); refine goesL_ (some 190) rfl rfl Try.func25 (by kernel_rfl) rfl #[.int .i64 t420] rfl (by (try simp only [List.map_toArray, List.map_cons, List.map_nil]); first | done | rfl | (simp only [List.length_drop, List.length_take]; rfl)) ?_; (with_reducible refine (arraslaw5_num.calls t420 t423 _ A98.out).mono ?_); rintro e w' ⟨rfl, ⟨nd, rfl⟩⟩; refine ⟨_, rfl, ?_⟩))
                             go_ret
                             exact ⟨by first | rfl | (simp [errW_none, errW_some] <;> rfl) | (simp [*, errW_none, errW_some] <;> rfl), by repeat (first | (with_reducible first | exact HB.out | apply below_alloc | apply pw_below_drewN | apply below_drew1 | refine below_set ?_ GE357.out) | exact HB.out)⟩
                          ·rw [if_neg c96] at H
                           have c96b0 : (t418 == 0) = false := beq_eq_false_iff_ne.mpr c96
                           have c96b1 : (t418 != 0) = true := bne_iff_ne.mpr c96
                           as_aux_lemma =>
                            have H' := Aside0.mk H
                            clear H
                            have hcz116_0 : wr.cell? ⟨gb357, 0, none⟩ = some (.int .i64 ((rd_T43 l0 x3_1).f0)) := (blk_cell BK357.out 0).trans rfl
                            have hcz116_1 : wr.cell? ⟨gb357, 1, none⟩ = some (.string ((rd_T43 l0 x3_1).f1)) := (blk_cell BK357.out 1).trans rfl
                            have hcz116_2 : wr.cell? ⟨gb357, 2, none⟩ = some (.slice A356_2 ((rd_T43 l0 x3_1).f2).length c356_2) := (blk_cell BK357.out 2).trans rfl
                            have hcz116_3 : wr.cell? ⟨gb357, 3, none⟩ = some (.slice A356_3 ((rd_T43 l0 x3_1).f3).length c356_3) := (blk_cell BK357.out 3).trans rfl
                            have hfz116_0 := blk_frozen BK357.out 0
                            have hfz116_1 := blk_frozen BK357.out 1
                            have hfz116_2 := blk_frozen BK357.out 2
                            have hfz116_3 := blk_frozen BK357.out 3
                            go_wp2_with (first | ((with_reducible refine gate_callee (f := 24) rfl ?_); refine goesL_ (some 177) rfl rfl Try.func24 (by kernel_rfl) rfl #[.slice A356_3 ((rd_T43 l0 x3_1).f3).length c356_3] rfl (by (try simp only [List.map_toArray, List.map_cons, List.map_nil]); first | done | rfl | (simp only [List.length_drop, List.length_take]; rfl)) ?_; (with_reducible refine (code_TakeNum.calls k7 _ _ ((rd_T43 l0 x3_1).f3) t415 t416 t417 _ ?side1 ?side2 A94.out).mono ?_); (case side1 => repeat (first | exact (Kd.C_below HR356_3.out HB.out) | with_reducible first | refine Kd.C_alloc ?_ _ | refine Kd.C_drewN ?_ _ | refine Kd.C_drew ?_)); (case side2 => exact HC356_3.out); rintro e w' ⟨rfl, ⟨nd, rfl⟩⟩; refine ⟨_, rfl, ?_⟩) | ((with_reducible refine gate_callee (f := 25) rfl ?_); refine goesL_ (some 182) rfl rfl Try.func25 (by kernel_rfl) rfl #[.int .i64 t417] rfl (by (try simp only [List.map_toArray, List.map_cons, List.map_nil]); first | done | rfl | (simp only [List.length_drop, List.length_take]; rfl)) ?_; (with_reducible refine (arraslaw5_num.calls t417 t418 _ A95.out).mono ?_); rintro e w' ⟨rfl, ⟨nd, rfl⟩⟩; refine ⟨_, rfl, ?_⟩))
                            go_roundg k7
                            case measure => have := HK1.out; have := HJ1.out; have := HJ6.out; have := HJ25.out; have := HJ45.out; have := HJ65.out; have := HK7.out; omega
                            case rel => exact ⟨(wrap64 (x3_1 + 1)), (by first | rfl | (simp; done) | (simp [*]; done)), H', ⟨by have := HK1.out; have := HJ1.out; have := HJ6.out; have := HJ25.out; have := HJ45.out; have := HJ65.out; have := HK7.out; omega⟩, ⟨by repeat (first | (with_reducible first | exact HB.out | apply below_alloc | apply pw_below_drewN | apply below_drew1 | refine below_set ?_ GE357.out) | exact HB.out)⟩⟩
                   ·rw [if_neg c64] at H
                    exact absurd H (by simp)
               ·rw [if_neg c44] at H
                exact absurd H (by simp)
           ·rw [if_neg c24] at H
            exact absurd H (by simp)
       ·rw [if_neg c6] at H
        exact absurd H (by simp)
      ·rw [if_neg c5] at H
       exact absurd H (by simp)
     ·replace c4 := Bool.eq_false_iff.mpr c4
      subst c4
      have H1 : ((arraslaw5_wakes.f kj1).bind fun t355 => (some t355)) = some r := by rw [if_neg (show ¬ (false = true) by decide)] at H; exact H
      clear H
      have H := H1
      clear H1
      replace H := Option.bind_eq_some_iff.mp H
      obtain ⟨t355, A1170, H⟩ := H
      replace H : (some t355) = some r := H
      have A117 := Aside0.mk A1170
      clear A1170
      as_aux_lemma =>
       obtain rfl := Option.some.inj H
       go_wp2_with (first | ((with_reducible refine gate_callee (f := 26) rfl ?_); refine goesL_ (some 201) rfl rfl Try.func26 (by kernel_rfl) rfl #[] rfl (by (try simp only [List.map_toArray, List.map_cons, List.map_nil]); first | done | rfl | (simp only [List.length_drop, List.length_take]; rfl)) ?_; (with_reducible refine (arraslaw5_wakes.calls kj1  t355 _ A117.out).mono ?_); rintro e w118 ⟨rfl, hb⟩; refine ⟨_, rfl, ?_⟩; have n0_ := Aside0.mk (below_step (by repeat (first | (with_reducible first | exact HB.out | apply below_alloc | apply pw_below_drewN | apply below_drew1) | exact HB.out)) hb); clear HB; have HB := n0_; clear n0_; (try clear hb); (try clear hb2); (try clear hk); (try clear hi)))
       go_ret
       exact ⟨by first | rfl | (simp [errW_none, errW_some] <;> rfl) | (simp [*, errW_none, errW_some] <;> rfl), by repeat (first | (with_reducible first | exact HB.out | apply below_alloc | apply pw_below_drewN | apply below_drew1) | exact HB.out)⟩

end Go.Proofs.Ytpmcojmhkpaoaaa.PA
