-- Printed by this session's wip/myprint.py
import Derived.Test.YtpmcojmhkpaoaaaPAx0
import Derived.Test.YtpmcojmhkpaoaaaPAx3
import Derived.Test.YtpmcojmhkpaoaaaPAx4
import Derived.Test.YtpmcojmhkpaoaaaPAx65
import Derived.Test.YtpmcojmhkpaoaaaPAx67
import Derived.Test.YtpmcojmhkpaoaaaPAx70
import Derived.Test.YtpmcojmhkpaoaaaPAx72
import Derived.Test.YtpmcojmhkpaoaaaPAx73
import Derived.Test.YtpmcojmhkpaoaaaPAx74
import Derived.Test.YtpmcojmhkpaoaaaPAx76
import Derived.Test.YtpmcojmhkpaoaaaPAx78
namespace Go.Proofs.Ytpmcojmhkpaoaaa.PA
open Go.RowKit Go.Proofs.YtpmcojmhkpaoaaaW.PrintWords Go.Proofs.YtpmcojmhkpaoaaaW.PrintLast Go.Proofs.YtpmcojmhkpaoaaaW.PrintMore
attribute [local go_sem] max2_int min2_int max_two min_two max_three min_three max_four min_four   -- for this text's walks alone
set_option linter.unusedVariables false
set_option linter.unusedSimpArgs false

/-! ### arraslaw7_HaveLacks: function 14 -/
set_option maxHeartbeats 8000000 in
set_option maxRecDepth 100000 in
theorem arraslaw7_HaveLacks.calls (k : Nat) (A0 : Option Addr) (c0 : Nat) (l0 : List (S86)) (r : Bool) (w : World) (hr0 : Kd.C k86 w A0 l0.length l0) (hc0 : l0.length ≤ c0) (h : arraslaw7_HaveLacks.f k l0 = some r) :
  Calls Try.prog 14 #[.slice A0 l0.length c0] w fun e w' => e = .returned (.bool r) ∧ Below w.heap.size w w' := by
 have hu86 := Try.underlying86
 have HR0 := Aside0.mk hr0
 have HC0 := Aside0.mk hc0
 clear hr0 hc0
 have HB := Aside0.mk (Below.refl w.heap.size w)
 have H : (arraslaw7_HaveLacks.l0 k l0 0) = some r := h
 clear h
 have H' := Aside0.mk H
 clear H
 go_enter Try.func14, Try.ntmps14
 go_wp2
 go_loopg [3] k (fun kq v3 w' => ∃ (x3_1 : Int), v3 = .int .i64 x3_1 ∧ Aside0 (arraslaw7_HaveLacks.l0 kq l0 x3_1 = some r) ∧ Aside0 (kq ≤ k) ∧ Aside0 (Below w.heap.size w w'))
 case atStart => exact ⟨(0), (by first | rfl | (simp; done) | (simp [*]; done)), H', ⟨Nat.le_refl _⟩, ⟨by repeat (first | (with_reducible first | exact HB.out | apply below_alloc | apply pw_below_drewN | apply below_drew1) | exact HB.out)⟩⟩
 case round =>
  clear H'
  (try clear c1)
  obtain ⟨x3_1, rfl, HA, HK1, HB⟩ := hrel
  cases gk with
  | zero => exact absurd HA.out (by simp [arraslaw7_HaveLacks.l0])
  | succ k1 =>
   have H := HA.out
   clear HA
   simp only [arraslaw7_HaveLacks.l0] at H
   have HC2 := Aside0.mk H
   clear H
   go_upto_region 2 with (fail)
   go_cut [28] (fun v28 wc => ∃ (kq : Nat) (x28_1 : Bool), v28 = .bool x28_1 ∧ Aside0 (arraslaw7_HaveLacks.j1 kq l0 x3_1 x28_1 = some r) ∧ Aside0 (kq ≤ k1) ∧ Aside0 (Below w.heap.size w wc))
   case first =>
    have H := HC2.out
    clear HC2
    by_cases c3 : x3_1 < (l0.length : Int)
    ·rw [if_pos c3] at H
     have c3b0 : decide (x3_1 < (l0.length : Int)) = true := decide_eq_true c3
     clear c3
     (first | rw [c3b0] | (simp only [i64_w, i32_w]; rw [c3b0]) | skip)
     as_aux_lemma =>
      have H' := Aside0.mk H
      clear H
      go_wp2
      go_meet
      case rel => exact ⟨_, (decide (x3_1 < 15)), (by first | rfl | (simp; done) | (simp [*]; done)), H', ⟨by have := HK1.out; first | omega | exact Nat.le_refl _⟩, ⟨by repeat (first | (with_reducible first | exact HB.out | apply below_alloc | apply pw_below_drewN | apply below_drew1) | exact HB.out)⟩⟩
    ·rw [if_neg c3] at H
     have c3b0 : decide (x3_1 < (l0.length : Int)) = false := decide_eq_false c3
     clear c3
     (first | rw [c3b0] | (simp only [i64_w, i32_w]; rw [c3b0]) | skip)
     as_aux_lemma =>
      have H' := Aside0.mk H
      clear H
      go_wp2
      go_meet
      case rel => exact ⟨_, (false), (by first | rfl | (simp; done) | (simp [*]; done)), H', ⟨by have := HK1.out; first | omega | exact Nat.le_refl _⟩, ⟨by repeat (first | (with_reducible first | exact HB.out | apply below_alloc | apply pw_below_drewN | apply below_drew1) | exact HB.out)⟩⟩
   case rest =>
    clear HC2
    (try clear c1); (try clear p2); (try clear c3); (try clear c3b0)
    obtain ⟨kq, x28_1, rfl, HA, HJ1, HB⟩ := hcut
    cases kq with
    | zero => exact absurd HA.out (by simp [arraslaw7_HaveLacks.j1])
    | succ kj1 =>
     have H := HA.out
     clear HA
     simp only [arraslaw7_HaveLacks.j1] at H
     by_cases c4 : x28_1 = true
     ·subst c4
      have H1 : (if 0 ≤ x3_1 then (if x3_1 < (l0.length : Int) then ((arraslaw7_heavy.f ((rd_T86 l0 x3_1).f0) ((rd_T86 l0 x3_1).f1) ((rd_T86 l0 x3_1).f2)).bind fun t741 => (if t741 = true then (arraslaw7_HaveLacks.j2 kj1 l0 x3_1 true ((rd_T86 l0 x3_1).f0) ((rd_T86 l0 x3_1).f1) ((rd_T86 l0 x3_1).f2)) else ((arrasref6_Pair.f kj1 ((rd_T86 l0 x3_1).f0) ((rd_T86 l0 x3_1).f1)).bind fun t742 => (arraslaw7_HaveLacks.j2 kj1 l0 x3_1 (!t742) ((rd_T86 l0 x3_1).f0) ((rd_T86 l0 x3_1).f1) ((rd_T86 l0 x3_1).f2))))) else (none)) else (none)) = some r := by rw [if_pos rfl] at H; exact H
      clear H
      have H := H1
      clear H1
      by_cases c5 : 0 ≤ x3_1
      ·rw [if_pos c5] at H
       have c5b0 : decide (0 ≤ x3_1) = true := decide_eq_true c5
       clear c5
       by_cases c6 : x3_1 < (l0.length : Int)
       ·rw [if_pos c6] at H
        have c6b0 : decide (x3_1 < (l0.length : Int)) = true := decide_eq_true c6
        clear c6
        have HC7 := Aside0.mk H
        clear H
        have p739 : 0 ≤ (x3_1 : Int) := of_decide_eq_true (by first | (with_reducible assumption) | assumption)
        have q739 : x3_1 < (l0.length : Int) := of_decide_eq_true (by first | (with_reducible assumption) | assumption)
        obtain ⟨ad739, A739_0, c739_0, A739_1, c739_1, A739_2, c739_2, e739, hx739_0, hx739_1, hx739_2, hl739_0, hi739_0, hl739_1, hi739_1, hl739_2, hi739_2⟩ := at_T86 HR0.out x3_1 p739 q739
        cases e739
        replace hx739_0 := (HB.out.cell (World.block_lt_of_cell? w _ hx739_0)).trans hx739_0
        replace hx739_1 := (HB.out.cell (World.block_lt_of_cell? w _ hx739_1)).trans hx739_1
        replace hx739_2 := (HB.out.cell (World.block_lt_of_cell? w _ hx739_2)).trans hx739_2
        have HR739_0 := Aside0.mk hi739_0
        have HC739_0 := Aside0.mk hl739_0
        clear hi739_0 hl739_0
        have HR739_1 := Aside0.mk hi739_1
        have HC739_1 := Aside0.mk hl739_1
        clear hi739_1 hl739_1
        have HR739_2 := Aside0.mk hi739_2
        have HC739_2 := Aside0.mk hl739_2
        clear hi739_2 hl739_2
        replace p739 := eq_true p739
        replace q739 := eq_true q739
        go_upto_region 5 with (first | ((with_reducible refine gate_dst (N := 4) rfl ?_); refine box_event ?hg (N := 4) ?hd (cs := #[.slice none 0 0, .slice none 0 0, .slice none 0 0]) (t := 86) ?hr ?_; (case hd => rfl); (case hg => rfl); (case hr => first | (go_simp; done) | (go_simp; rfl)); intro gb740 hg w8 hbox hb; have n0_ := Aside0.mk (below_step (by repeat (first | (with_reducible first | exact HB.out | apply below_alloc | apply pw_below_drewN | apply below_drew1) | exact HB.out)) hb); have n1_ := Aside0.mk (hbox); have n2_ := Aside0.mk ((by rw [hg]; exact (below_size (by repeat (first | (with_reducible first | exact HB.out | apply below_alloc | apply pw_below_drewN | apply below_drew1) | exact HB.out))) : w.heap.size ≤ gb740)); have n3_ := Aside0.mk ((by rw [hg]; exact (below_size (by repeat (first | (with_reducible first | exact HB.out | apply below_alloc | apply pw_below_drewN | apply below_drew1) | exact HB.out))) : w.heap.size ≤ gb740)); clear HB; have HB := n0_; have BK740 := n1_; have GW740 := n2_; have GE740 := n3_; clear n0_ n1_ n2_ n3_; clear hb hbox hg; have hcz9_0 : w8.cell? ⟨gb740, 0, none⟩ = some (.slice none 0 0) := (blk_cell BK740.out 0).trans rfl; have hcz9_1 : w8.cell? ⟨gb740, 1, none⟩ = some (.slice none 0 0) := (blk_cell BK740.out 1).trans rfl; have hcz9_2 : w8.cell? ⟨gb740, 2, none⟩ = some (.slice none 0 0) := (blk_cell BK740.out 2).trans rfl; have hfz9_0 := blk_frozen BK740.out 0; have hfz9_1 := blk_frozen BK740.out 1; have hfz9_2 := blk_frozen BK740.out 2))
        (try simp only [Act.put, List.setIfInBounds_toArray, List.set_cons_zero, List.set_cons_succ])
        go_cut [44] (fun v44 wc => ∃ (kq : Nat) (x44_6 : Bool), v44 = .bool x44_6 ∧ Aside0 (arraslaw7_HaveLacks.j2 kq l0 x3_1 x44_6 ((rd_T86 l0 x3_1).f0) ((rd_T86 l0 x3_1).f1) ((rd_T86 l0 x3_1).f2) = some r) ∧ Aside0 (kq ≤ kj1) ∧ Aside0 (wc.heap[gb740]? = some (.cells #[(.slice A739_0 ((rd_T86 l0 x3_1).f0).length c739_0), (.slice A739_1 ((rd_T86 l0 x3_1).f1).length c739_1), (.slice A739_2 ((rd_T86 l0 x3_1).f2).length c739_2)] 86 (0, 0))) ∧ Aside0 (Below w.heap.size w wc))
        case first =>
         have H := HC7.out
         clear HC7
         replace H := Option.bind_eq_some_iff.mp H
         obtain ⟨t741, A100, H⟩ := H
         (try dsimp only at H)
         have A10 := Aside0.mk A100
         clear A100
         by_cases c11 : t741 = true
         ·subst c11
          have H1 : (arraslaw7_HaveLacks.j2 kj1 l0 x3_1 true ((rd_T86 l0 x3_1).f0) ((rd_T86 l0 x3_1).f1) ((rd_T86 l0 x3_1).f2)) = some r := by rw [if_pos rfl] at H; exact H
          clear H
          have H := H1
          clear H1
          as_aux_lemma =>
           have H' := Aside0.mk H
           clear H
           have hcz12_0 : w8.cell? ⟨gb740, 0, none⟩ = some (.slice none 0 0) := (blk_cell BK740.out 0).trans rfl
           have hcz12_1 : w8.cell? ⟨gb740, 1, none⟩ = some (.slice none 0 0) := (blk_cell BK740.out 1).trans rfl
           have hcz12_2 : w8.cell? ⟨gb740, 2, none⟩ = some (.slice none 0 0) := (blk_cell BK740.out 2).trans rfl
           have hfz12_0 := blk_frozen BK740.out 0
           have hfz12_1 := blk_frozen BK740.out 1
           have hfz12_2 := blk_frozen BK740.out 2
           go_wp2_with (first | ((with_reducible refine gate_callee (f := 56) rfl ?_); refine goesL_ (some 36) rfl rfl Try.func56 (by kernel_rfl) rfl #[.agg #[.slice A739_0 ((rd_T86 l0 x3_1).f0).length c739_0, .slice A739_1 ((rd_T86 l0 x3_1).f1).length c739_1, .slice A739_2 ((rd_T86 l0 x3_1).f2).length c739_2]] rfl (by (try simp only [List.map_toArray, List.map_cons, List.map_nil]); first | done | rfl | (simp only [List.length_drop, List.length_take]; rfl)) ?_; (with_reducible refine (arraslaw7_heavy.calls _ _ ((rd_T86 l0 x3_1).f0) _ _ ((rd_T86 l0 x3_1).f1) _ _ ((rd_T86 l0 x3_1).f2) true _ ?side1 ?side2 ?side3 ?side4 ?side5 ?side6 A10.out).mono ?_); (case side1 => exact Kd.C_below HR739_0.out (by repeat (first | (with_reducible first | exact HB.out | apply below_alloc | apply pw_below_drewN | apply below_drew1 | refine below_set ?_ GE740.out) | exact HB.out))); (case side2 => exact HC739_0.out); (case side3 => exact Kd.C_below HR739_1.out (by repeat (first | (with_reducible first | exact HB.out | apply below_alloc | apply pw_below_drewN | apply below_drew1 | refine below_set ?_ GE740.out) | exact HB.out))); (case side4 => exact HC739_1.out); (case side5 => exact Kd.C_below HR739_2.out (by repeat (first | (with_reducible first | exact HB.out | apply below_alloc | apply pw_below_drewN | apply below_drew1 | refine below_set ?_ GE740.out) | exact HB.out))); (case side6 => exact HC739_2.out); rintro e w13 ⟨rfl, hb⟩; refine ⟨_, rfl, ?_⟩; have n0_ := Aside0.mk (blk_below (g := gb740) (o := .cells #[.slice A739_0 ((rd_T86 l0 x3_1).f0).length c739_0, .slice A739_1 ((rd_T86 l0 x3_1).f1).length c739_1, .slice A739_2 ((rd_T86 l0 x3_1).f2).length c739_2] 86 (0, 0)) (by (with_reducible repeat (first | refine blk_drewN ?_ _ | refine blk_drew ?_ | refine blk_alloc ?_ _)); refine blk_put (cs := #[.slice A739_0 ((rd_T86 l0 x3_1).f0).length c739_0, .slice A739_1 ((rd_T86 l0 x3_1).f1).length c739_1, .slice none 0 0]) ?_ 2 _ rfl; (with_reducible repeat (first | refine blk_drewN ?_ _ | refine blk_drew ?_ | refine blk_alloc ?_ _)); refine blk_put (cs := #[.slice A739_0 ((rd_T86 l0 x3_1).f0).length c739_0, .slice none 0 0, .slice none 0 0]) ?_ 1 _ rfl; (with_reducible repeat (first | refine blk_drewN ?_ _ | refine blk_drew ?_ | refine blk_alloc ?_ _)); refine blk_put (cs := #[.slice none 0 0, .slice none 0 0, .slice none 0 0]) ?_ 0 _ rfl; (with_reducible repeat (first | refine blk_drewN ?_ _ | refine blk_drew ?_ | refine blk_alloc ?_ _)); exact BK740.out) hb); have n1_ := Aside0.mk (below_step (by repeat (first | (with_reducible first | exact HB.out | apply below_alloc | apply pw_below_drewN | apply below_drew1 | refine below_set ?_ GE740.out) | exact HB.out)) hb); clear BK740; clear HB; have BK740 := n0_; have HB := n1_; clear n0_ n1_; (try clear hb); (try clear hb2); (try clear hk); (try clear hi)))
           go_meet
           case rel => exact ⟨_, (true), (by first | rfl | (simp; done) | (simp [*]; done)), H', ⟨by have := HK1.out; have := HJ1.out; first | omega | exact Nat.le_refl _⟩, ⟨by (with_reducible repeat (first | refine blk_drewN ?_ _ | refine blk_drew ?_ | refine blk_alloc ?_ _)); exact BK740.out⟩, ⟨by repeat (first | (with_reducible first | exact HB.out | apply below_alloc | apply pw_below_drewN | apply below_drew1 | refine below_set ?_ GE740.out) | exact HB.out)⟩⟩
         ·replace c11 := Bool.eq_false_iff.mpr c11
          subst c11
          have H1 : ((arrasref6_Pair.f kj1 ((rd_T86 l0 x3_1).f0) ((rd_T86 l0 x3_1).f1)).bind fun t742 => (arraslaw7_HaveLacks.j2 kj1 l0 x3_1 (!t742) ((rd_T86 l0 x3_1).f0) ((rd_T86 l0 x3_1).f1) ((rd_T86 l0 x3_1).f2))) = some r := by rw [if_neg (show ¬ (false = true) by decide)] at H; exact H
          clear H
          have H := H1
          clear H1
          replace H := Option.bind_eq_some_iff.mp H
          obtain ⟨t742, A140, H⟩ := H
          replace H : (arraslaw7_HaveLacks.j2 kj1 l0 x3_1 (!t742) ((rd_T86 l0 x3_1).f0) ((rd_T86 l0 x3_1).f1) ((rd_T86 l0 x3_1).f2)) = some r := H
          have A14 := Aside0.mk A140
          clear A140
          as_aux_lemma =>
           have H' := Aside0.mk H
           clear H
           have hcz15_0 : w8.cell? ⟨gb740, 0, none⟩ = some (.slice none 0 0) := (blk_cell BK740.out 0).trans rfl
           have hcz15_1 : w8.cell? ⟨gb740, 1, none⟩ = some (.slice none 0 0) := (blk_cell BK740.out 1).trans rfl
           have hcz15_2 : w8.cell? ⟨gb740, 2, none⟩ = some (.slice none 0 0) := (blk_cell BK740.out 2).trans rfl
           have hfz15_0 := blk_frozen BK740.out 0
           have hfz15_1 := blk_frozen BK740.out 1
           have hfz15_2 := blk_frozen BK740.out 2
           go_wp2_with (first | ((with_reducible refine gate_callee (f := 56) rfl ?_); refine goesL_ (some 36) rfl rfl Try.func56 (by kernel_rfl) rfl #[.agg #[.slice A739_0 ((rd_T86 l0 x3_1).f0).length c739_0, .slice A739_1 ((rd_T86 l0 x3_1).f1).length c739_1, .slice A739_2 ((rd_T86 l0 x3_1).f2).length c739_2]] rfl (by (try simp only [List.map_toArray, List.map_cons, List.map_nil]); first | done | rfl | (simp only [List.length_drop, List.length_take]; rfl)) ?_; (with_reducible refine (arraslaw7_heavy.calls _ _ ((rd_T86 l0 x3_1).f0) _ _ ((rd_T86 l0 x3_1).f1) _ _ ((rd_T86 l0 x3_1).f2) false _ ?side1 ?side2 ?side3 ?side4 ?side5 ?side6 A10.out).mono ?_); (case side1 => exact Kd.C_below HR739_0.out (by repeat (first | (with_reducible first | exact HB.out | apply below_alloc | apply pw_below_drewN | apply below_drew1 | refine below_set ?_ GE740.out) | exact HB.out))); (case side2 => exact HC739_0.out); (case side3 => exact Kd.C_below HR739_1.out (by repeat (first | (with_reducible first | exact HB.out | apply below_alloc | apply pw_below_drewN | apply below_drew1 | refine below_set ?_ GE740.out) | exact HB.out))); (case side4 => exact HC739_1.out); (case side5 => exact Kd.C_below HR739_2.out (by repeat (first | (with_reducible first | exact HB.out | apply below_alloc | apply pw_below_drewN | apply below_drew1 | refine below_set ?_ GE740.out) | exact HB.out))); (case side6 => exact HC739_2.out); rintro e w16 ⟨rfl, hb⟩; refine ⟨_, rfl, ?_⟩; have n0_ := Aside0.mk (blk_below (g := gb740) (o := .cells #[.slice A739_0 ((rd_T86 l0 x3_1).f0).length c739_0, .slice A739_1 ((rd_T86 l0 x3_1).f1).length c739_1, .slice A739_2 ((rd_T86 l0 x3_1).f2).length c739_2] 86 (0, 0)) (by (with_reducible repeat (first | refine blk_drewN ?_ _ | refine blk_drew ?_ | refine blk_alloc ?_ _)); refine blk_put (cs := #[.slice A739_0 ((rd_T86 l0 x3_1).f0).length c739_0, .slice A739_1 ((rd_T86 l0 x3_1).f1).length c739_1, .slice none 0 0]) ?_ 2 _ rfl; (with_reducible repeat (first | refine blk_drewN ?_ _ | refine blk_drew ?_ | refine blk_alloc ?_ _)); refine blk_put (cs := #[.slice A739_0 ((rd_T86 l0 x3_1).f0).length c739_0, .slice none 0 0, .slice none 0 0]) ?_ 1 _ rfl; (with_reducible repeat (first | refine blk_drewN ?_ _ | refine blk_drew ?_ | refine blk_alloc ?_ _)); refine blk_put (cs := #[.slice none 0 0, .slice none 0 0, .slice none 0 0]) ?_ 0 _ rfl; (with_reducible repeat (first | refine blk_drewN ?_ _ | refine blk_drew ?_ | refine blk_alloc ?_ _)); exact BK740.out) hb); have n1_ := Aside0.mk (below_step (by repeat (first | (with_reducible first | exact HB.out | apply below_alloc | apply pw_below_drewN | apply below_drew1 | refine below_set ?_ GE740.out) | exact HB.out)) hb); clear BK740; clear HB; have BK740 := n0_; have HB := n1_; clear n0_ n1_; (try clear hb); (try clear hb2); (try clear hk); (try clear hi); have hcz17_0 : w16.cell? ⟨gb740, 0, none⟩ = some (.slice A739_0 ((rd_T86 l0 x3_1).f0).length c739_0) := (blk_cell BK740.out 0).trans rfl; have hcz17_1 : w16.cell? ⟨gb740, 1, none⟩ = some (.slice A739_1 ((rd_T86 l0 x3_1).f1).length c739_1) := (blk_cell BK740.out 1).trans rfl; have hcz17_2 : w16.cell? ⟨gb740, 2, none⟩ = some (.slice A739_2 ((rd_T86 l0 x3_1).f2).length c739_2) := (blk_cell BK740.out 2).trans rfl; have hfz17_0 := blk_frozen BK740.out 0; have hfz17_1 := blk_frozen BK740.out 1; have hfz17_2 := blk_frozen BK740.out 2) | (go_at_call 57; (with_reducible refine (arrasref6_Pair.calls kj1 _ _ ((rd_T86 l0 x3_1).f0) _ _ ((rd_T86 l0 x3_1).f1) t742 _ ?side1 ?side2 ?side3 ?side4 A14.out).mono ?_); (case side1 => repeat (first | exact (Kd.C_below HR739_0.out HB.out) | with_reducible first | refine Kd.C_alloc ?_ _ | refine Kd.C_drewN ?_ _ | refine Kd.C_drew ?_)); (case side2 => exact HC739_0.out); (case side3 => repeat (first | exact (Kd.C_below HR739_1.out HB.out) | with_reducible first | refine Kd.C_alloc ?_ _ | refine Kd.C_drewN ?_ _ | refine Kd.C_drew ?_)); (case side4 => exact HC739_1.out); rintro e w' ⟨rfl, ⟨nd, rfl⟩⟩))
           go_meet
           case rel => exact ⟨_, (!t742), (by first | rfl | (simp; done) | (simp [*]; done)), H', ⟨by have := HK1.out; have := HJ1.out; first | omega | exact Nat.le_refl _⟩, ⟨by (with_reducible repeat (first | refine blk_drewN ?_ _ | refine blk_drew ?_ | refine blk_alloc ?_ _)); exact BK740.out⟩, ⟨by repeat (first | (with_reducible first | exact HB.out | apply below_alloc | apply pw_below_drewN | apply below_drew1 | refine below_set ?_ GE740.out) | exact HB.out)⟩⟩
        case rest =>
         clear HC7
         (try clear c1); (try clear p2); (try clear c3); (try clear c3b0); (try clear c4); (try clear c5); (try clear c5b0); (try clear c6); (try clear c6b0); (try clear c7); (try clear p7); (try clear q7); (try clear hx7); (try clear c11); (try clear c14); (try clear hcz12_0); (try clear hcz12_1); (try clear hcz12_2); (try clear hcz15_0); (try clear hcz15_1); (try clear hcz15_2); (try clear hcz17_0); (try clear hcz17_1); (try clear hcz17_2); (try clear hcz9_0); (try clear hcz9_1); (try clear hcz9_2); (try clear hfz12_0); (try clear hfz12_1); (try clear hfz12_2); (try clear hfz15_0); (try clear hfz15_1); (try clear hfz15_2); (try clear hfz17_0); (try clear hfz17_1); (try clear hfz17_2); (try clear hfz9_0); (try clear hfz9_1); (try clear hfz9_2); (try clear hx739_0); (try clear hx739_1); (try clear hx739_2); (try clear p2); (try clear p739); (try clear q739)
         obtain ⟨kq, x44_6, rfl, HA, HJ6, BK740, HB⟩ := hcut
         cases kq with
         | zero => exact absurd HA.out (by simp [arraslaw7_HaveLacks.j2])
         | succ kj6 =>
          have H := HA.out
          clear HA
          simp only [arraslaw7_HaveLacks.j2] at H
          by_cases c18 : x44_6 = true
          ·subst c18
           have H1 : (arraslaw7_HaveLacks.l0 kj6 l0 (wrap64 (x3_1 + 1))) = some r := by rw [if_pos rfl] at H; exact H
           clear H
           have H := H1
           clear H1
           as_aux_lemma =>
            have H' := Aside0.mk H
            clear H
            go_wp2
            go_roundg kj6
            case measure => have := HK1.out; have := HJ1.out; have := HJ6.out; omega
            case rel => exact ⟨(wrap64 (x3_1 + 1)), (by first | rfl | (simp; done) | (simp [*]; done)), H', ⟨by have := HK1.out; have := HJ1.out; have := HJ6.out; omega⟩, ⟨by repeat (first | (with_reducible first | exact HB.out | apply below_alloc | apply pw_below_drewN | apply below_drew1 | refine below_set ?_ GE740.out) | exact HB.out)⟩⟩
          ·replace c18 := Bool.eq_false_iff.mpr c18
           subst c18
           have H1 : ((have_Lacks.f kj6 ((rd_T86 l0 x3_1).f0) ((rd_T86 l0 x3_1).f1)).bind fun bt743 => ((have_Join.f kj6 ((rd_T86 l0 x3_1).f0) ((rd_T86 l0 x3_1).f1)).bind fun bt747 => ((arraslaw7_num.f bt743.2).bind fun t751 => (if t751 = 0 then ((arraslaw7_num.f bt747.2).bind fun t752 => (arraslaw7_HaveLacks.j3 kj6 l0 x3_1 bt743.1 bt747.1 (t752 != 0) ((rd_T86 l0 x3_1).f0) ((rd_T86 l0 x3_1).f1) ((rd_T86 l0 x3_1).f2))) else (arraslaw7_HaveLacks.j3 kj6 l0 x3_1 bt743.1 bt747.1 true ((rd_T86 l0 x3_1).f0) ((rd_T86 l0 x3_1).f1) ((rd_T86 l0 x3_1).f2)))))) = some r := by rw [if_neg (show ¬ (false = true) by decide)] at H; exact H
           clear H
           have H := H1
           clear H1
           replace H := Option.bind_eq_some_iff.mp H
           obtain ⟨⟨t743, t744⟩, A190, H⟩ := H
           (try dsimp only at H)
           have A19 := Aside0.mk A190
           clear A190
           replace H := Option.bind_eq_some_iff.mp H
           obtain ⟨⟨t747, t748⟩, A200, H⟩ := H
           (try dsimp only at H)
           have A20 := Aside0.mk A200
           clear A200
           have HC21 := Aside0.mk H
           clear H
           have hcz22_0 : wc.cell? ⟨gb740, 0, none⟩ = some (.slice A739_0 ((rd_T86 l0 x3_1).f0).length c739_0) := (blk_cell BK740.out 0).trans rfl
           have hcz22_1 : wc.cell? ⟨gb740, 1, none⟩ = some (.slice A739_1 ((rd_T86 l0 x3_1).f1).length c739_1) := (blk_cell BK740.out 1).trans rfl
           have hcz22_2 : wc.cell? ⟨gb740, 2, none⟩ = some (.slice A739_2 ((rd_T86 l0 x3_1).f2).length c739_2) := (blk_cell BK740.out 2).trans rfl
           have hfz22_0 := blk_frozen BK740.out 0
           have hfz22_1 := blk_frozen BK740.out 1
           have hfz22_2 := blk_frozen BK740.out 2
           go_upto_region 8 with (first | ((with_reducible refine gate_callee (f := 60) rfl ?_); refine goesL_ (some 50) rfl rfl Try.func60 (by kernel_rfl) rfl #[.slice A739_0 ((rd_T86 l0 x3_1).f0).length c739_0, .slice A739_1 ((rd_T86 l0 x3_1).f1).length c739_1] rfl (by (try simp only [List.map_toArray, List.map_cons, List.map_nil]); first | done | rfl | (simp only [List.length_drop, List.length_take]; rfl)) ?_; (with_reducible refine (have_Lacks.calls kj6 _ _ ((rd_T86 l0 x3_1).f0) _ _ ((rd_T86 l0 x3_1).f1) t743 t744 _ ?side1 ?side2 ?side3 ?side4 A19.out).mono ?_); (case side1 => repeat (first | exact (Kd.C_below HR739_0.out HB.out) | with_reducible first | refine Kd.C_alloc ?_ _ | refine Kd.C_drewN ?_ _ | refine Kd.C_drew ?_)); (case side2 => exact HC739_0.out); (case side3 => repeat (first | exact (Kd.C_below HR739_1.out HB.out) | with_reducible first | refine Kd.C_alloc ?_ _ | refine Kd.C_drewN ?_ _ | refine Kd.C_drew ?_)); (case side4 => exact HC739_1.out); rintro e w23 ⟨v745, rfl, ho0, hb⟩; refine ⟨_, rfl, ?_⟩; have n0_ := Aside0.mk (Kd.R_lower ho0 (below_size (by repeat (first | (with_reducible first | exact HB.out | apply below_alloc | apply pw_below_drewN | apply below_drew1 | refine below_set ?_ GE740.out) | exact HB.out)))); have n1_ := Aside0.mk (blk_below (g := gb740) (o := .cells #[.slice A739_0 ((rd_T86 l0 x3_1).f0).length c739_0, .slice A739_1 ((rd_T86 l0 x3_1).f1).length c739_1, .slice A739_2 ((rd_T86 l0 x3_1).f2).length c739_2] 86 (0, 0)) (by (with_reducible repeat (first | refine blk_drewN ?_ _ | refine blk_drew ?_ | refine blk_alloc ?_ _)); exact BK740.out) hb); have n2_ := Aside0.mk (below_step (by repeat (first | (with_reducible first | exact HB.out | apply below_alloc | apply pw_below_drewN | apply below_drew1 | refine below_set ?_ GE740.out) | exact HB.out)) hb); clear BK740; clear HB; have HO746 := n0_; have BK740 := n1_; have HB := n2_; clear n0_ n1_ n2_; (try clear hb); (try clear hb2); (try clear hk); (try clear hi); (try clear ho0); have hcz24_0 : w23.cell? ⟨gb740, 0, none⟩ = some (.slice A739_0 ((rd_T86 l0 x3_1).f0).length c739_0) := (blk_cell BK740.out 0).trans rfl; have hcz24_1 : w23.cell? ⟨gb740, 1, none⟩ = some (.slice A739_1 ((rd_T86 l0 x3_1).f1).length c739_1) := (blk_cell BK740.out 1).trans rfl; have hcz24_2 : w23.cell? ⟨gb740, 2, none⟩ = some (.slice A739_2 ((rd_T86 l0 x3_1).f2).length c739_2) := (blk_cell BK740.out 2).trans rfl; have hfz24_0 := blk_frozen BK740.out 0; have hfz24_1 := blk_frozen BK740.out 1; have hfz24_2 := blk_frozen BK740.out 2) | ((with_reducible refine gate_callee (f := 58) rfl ?_); refine goesL_ (some 58) rfl rfl Try.func58 (by kernel_rfl) rfl #[.slice A739_0 ((rd_T86 l0 x3_1).f0).length c739_0, .slice A739_1 ((rd_T86 l0 x3_1).f1).length c739_1] rfl (by (try simp only [List.map_toArray, List.map_cons, List.map_nil]); first | done | rfl | (simp only [List.length_drop, List.length_take]; rfl)) ?_; (with_reducible refine (have_Join.calls kj6 _ _ ((rd_T86 l0 x3_1).f0) _ _ ((rd_T86 l0 x3_1).f1) t747 t748 _ ?side1 ?side2 ?side3 ?side4 A20.out).mono ?_); (case side1 => repeat (first | exact (Kd.C_below HR739_0.out HB.out) | with_reducible first | refine Kd.C_alloc ?_ _ | refine Kd.C_drewN ?_ _ | refine Kd.C_drew ?_)); (case side2 => exact HC739_0.out); (case side3 => repeat (first | exact (Kd.C_below HR739_1.out HB.out) | with_reducible first | refine Kd.C_alloc ?_ _ | refine Kd.C_drewN ?_ _ | refine Kd.C_drew ?_)); (case side4 => exact HC739_1.out); rintro e w25 ⟨v749, rfl, ho0, hb⟩; refine ⟨_, rfl, ?_⟩; have n0_ := Aside0.mk (Kd.R_elder' (by (with_reducible repeat (first | apply Kd.R_alloc | apply Kd.R_drewN | apply Kd.R_drew)); exact HO746.out) (Kd.R_base ho0) hb); have n1_ := Aside0.mk (Kd.R_lower (Kd.R_new' ho0 (Kd.R_lt (by (with_reducible repeat (first | apply Kd.R_alloc | apply Kd.R_drewN | apply Kd.R_drew)); exact HO746.out))) (below_size (by repeat (first | (with_reducible first | exact HB.out | apply below_alloc | apply pw_below_drewN | apply below_drew1 | refine below_set ?_ GE740.out) | exact HB.out)))); have n2_ := Aside0.mk (blk_below (g := gb740) (o := .cells #[.slice A739_0 ((rd_T86 l0 x3_1).f0).length c739_0, .slice A739_1 ((rd_T86 l0 x3_1).f1).length c739_1, .slice A739_2 ((rd_T86 l0 x3_1).f2).length c739_2] 86 (0, 0)) (by (with_reducible repeat (first | refine blk_drewN ?_ _ | refine blk_drew ?_ | refine blk_alloc ?_ _)); exact BK740.out) hb); have n3_ := Aside0.mk (below_step (by repeat (first | (with_reducible first | exact HB.out | apply below_alloc | apply pw_below_drewN | apply below_drew1 | refine below_set ?_ GE740.out) | exact HB.out)) hb); clear HO746; clear BK740; clear HB; have HO746 := n0_; have HO750 := n1_; have BK740 := n2_; have HB := n3_; clear n0_ n1_ n2_ n3_; (try clear hb); (try clear hb2); (try clear hk); (try clear hi); (try clear ho0)))
           (try simp only [Act.put, List.setIfInBounds_toArray, List.set_cons_zero, List.set_cons_succ])
           go_cut [68] (fun v68 wc => ∃ (kq : Nat) (x68_20 : Bool), v68 = .bool x68_20 ∧ Aside0 (arraslaw7_HaveLacks.j3 kq l0 x3_1 t743 t747 x68_20 ((rd_T86 l0 x3_1).f0) ((rd_T86 l0 x3_1).f1) ((rd_T86 l0 x3_1).f2) = some r) ∧ Aside0 (kq ≤ kj6) ∧ Aside0 (Kd.R (Kd.int .i64) 3 wc w.heap.size (fun k_ => some k_ ≠ (v749 : Value).ownBlock) v745 t743) ∧ Aside0 (Kd.R (Kd.int .i64) 3 wc w.heap.size (fun k_ => some k_ ≠ (v745 : Value).ownBlock) v749 t747) ∧ Aside0 (wc.heap[gb740]? = some (.cells #[(.slice A739_0 ((rd_T86 l0 x3_1).f0).length c739_0), (.slice A739_1 ((rd_T86 l0 x3_1).f1).length c739_1), (.slice A739_2 ((rd_T86 l0 x3_1).f2).length c739_2)] 86 (0, 0))) ∧ Aside0 (Below w.heap.size w wc))
           case first =>
            have H := HC21.out
            clear HC21
            replace H := Option.bind_eq_some_iff.mp H
            obtain ⟨t751, A260, H⟩ := H
            (try dsimp only at H)
            have A26 := Aside0.mk A260
            clear A260
            by_cases c27 : t751 = 0
            ·rw [if_pos c27] at H
             have c27b0 : (t751 == 0) = true := beq_iff_eq.mpr c27
             have c27b1 : (t751 != 0) = false := bne_eq_false_iff_eq.mpr c27
             clear c27
             (first | rw [c27b0] | (simp only [i64_w, i32_w]; rw [c27b0]) | skip)
             replace H := Option.bind_eq_some_iff.mp H
             obtain ⟨t752, A280, H⟩ := H
             replace H : (arraslaw7_HaveLacks.j3 kj6 l0 x3_1 t743 t747 (t752 != 0) ((rd_T86 l0 x3_1).f0) ((rd_T86 l0 x3_1).f1) ((rd_T86 l0 x3_1).f2)) = some r := H
             have A28 := Aside0.mk A280
             clear A280
             as_aux_lemma =>
              have H' := Aside0.mk H
              clear H
              go_wp2_with (first | ((with_reducible refine gate_callee (f := 61) rfl ?_); refine goesL_ (some 62) rfl rfl Try.func61 (by kernel_rfl) rfl #[.int .i64 t744] rfl (by (try simp only [List.map_toArray, List.map_cons, List.map_nil]); first | done | rfl | (simp only [List.length_drop, List.length_take]; rfl)) ?_; (with_reducible refine (arraslaw7_num.calls t744 t751 _ A26.out).mono ?_); rintro e w' ⟨rfl, ⟨nd, rfl⟩⟩; refine ⟨_, rfl, ?_⟩) | (go_at_call 61; (with_reducible refine (arraslaw7_num.calls t748 t752 _ A28.out).mono ?_); rintro e w' ⟨rfl, ⟨nd, rfl⟩⟩))
              go_meet
              case rel => exact ⟨_, ((t752 != 0)), (by first | rfl | (simp; done) | (simp [*]; done)), H', ⟨by have := HK1.out; have := HJ1.out; have := HJ6.out; first | omega | exact Nat.le_refl _⟩, ⟨by (with_reducible repeat (first | apply Kd.R_alloc | apply Kd.R_drewN | apply Kd.R_drew)); exact Kd.R_mono HO746.out (fun _ hk => (by first | exact hk.2 | simp_all))⟩, ⟨by (with_reducible repeat (first | apply Kd.R_alloc | apply Kd.R_drewN | apply Kd.R_drew)); exact Kd.R_mono HO750.out (fun _ hk => (by first | exact hk.2 | simp_all))⟩, ⟨by (with_reducible repeat (first | refine blk_drewN ?_ _ | refine blk_drew ?_ | refine blk_alloc ?_ _)); exact BK740.out⟩, ⟨by repeat (first | (with_reducible first | exact HB.out | apply below_alloc | apply pw_below_drewN | apply below_drew1 | refine below_set ?_ GE740.out) | exact HB.out)⟩⟩
            ·rw [if_neg c27] at H
             have c27b0 : (t751 == 0) = false := beq_eq_false_iff_ne.mpr c27
             have c27b1 : (t751 != 0) = true := bne_iff_ne.mpr c27
             (first | rw [c27b0] | (simp only [i64_w, i32_w]; rw [c27b0]) | skip)
             as_aux_lemma =>
              have H' := Aside0.mk H
              clear H
              go_wp2_with (first | ((with_reducible refine gate_callee (f := 61) rfl ?_); refine goesL_ (some 62) rfl rfl Try.func61 (by kernel_rfl) rfl #[.int .i64 t744] rfl (by (try simp only [List.map_toArray, List.map_cons, List.map_nil]); first | done | rfl | (simp only [List.length_drop, List.length_take]; rfl)) ?_; (with_reducible refine (arraslaw7_num.calls t744 t751 _ A26.out).mono ?_); rintro e w' ⟨rfl, ⟨nd, rfl⟩⟩; refine ⟨_, rfl, ?_⟩))
              go_meet
              case rel => exact ⟨_, (true), (by first | rfl | (simp; done) | (simp [*]; done)), H', ⟨by have := HK1.out; have := HJ1.out; have := HJ6.out; first | omega | exact Nat.le_refl _⟩, ⟨by (with_reducible repeat (first | apply Kd.R_alloc | apply Kd.R_drewN | apply Kd.R_drew)); exact Kd.R_mono HO746.out (fun _ hk => (by first | exact hk.2 | simp_all))⟩, ⟨by (with_reducible repeat (first | apply Kd.R_alloc | apply Kd.R_drewN | apply Kd.R_drew)); exact Kd.R_mono HO750.out (fun _ hk => (by first | exact hk.2 | simp_all))⟩, ⟨by (with_reducible repeat (first | refine blk_drewN ?_ _ | refine blk_drew ?_ | refine blk_alloc ?_ _)); exact BK740.out⟩, ⟨by repeat (first | (with_reducible first | exact HB.out | apply below_alloc | apply pw_below_drewN | apply below_drew1 | refine below_set ?_ GE740.out) | exact HB.out)⟩⟩
           case rest =>
            clear HC21
            (try clear c1); (try clear c2); (try clear p2); (try clear c3); (try clear c3b0); (try clear c4); (try clear c5); (try clear c5b0); (try clear c6); (try clear c6b0); (try clear p6); (try clear c7); (try clear p7); (try clear q7); (try clear hx7); (try clear c11); (try clear c14); (try clear c18); (try clear c27); (try clear c27b0); (try clear c27b1); (try clear hcz12_0); (try clear hcz12_1); (try clear hcz12_2); (try clear hcz15_0); (try clear hcz15_1); (try clear hcz15_2); (try clear hcz17_0); (try clear hcz17_1); (try clear hcz17_2); (try clear hcz22_0); (try clear hcz22_1); (try clear hcz22_2); (try clear hcz24_0); (try clear hcz24_1); (try clear hcz24_2); (try clear hcz9_0); (try clear hcz9_1); (try clear hcz9_2); (try clear hfz12_0); (try clear hfz12_1); (try clear hfz12_2); (try clear hfz15_0); (try clear hfz15_1); (try clear hfz15_2); (try clear hfz17_0); (try clear hfz17_1); (try clear hfz17_2); (try clear hfz22_0); (try clear hfz22_1); (try clear hfz22_2); (try clear hfz24_0); (try clear hfz24_1); (try clear hfz24_2); (try clear hfz9_0); (try clear hfz9_1); (try clear hfz9_2); (try clear hx739_0); (try clear hx739_1); (try clear hx739_2); (try clear p2); (try clear p7); (try clear p739); (try clear q7); (try clear q739)
            obtain ⟨kq, x68_20, rfl, HA, HJ20, HO_5, HO_7, BK740, HB⟩ := hcut
            cases kq with
            | zero => exact absurd HA.out (by simp [arraslaw7_HaveLacks.j3])
            | succ kj20 =>
             have H := HA.out
             clear HA
             simp only [arraslaw7_HaveLacks.j3] at H
             by_cases c29 : x68_20 = true
             ·subst c29
              have H1 : (some false) = some r := by rw [if_pos rfl] at H; exact H
              clear H
              have H := H1
              clear H1
              as_aux_lemma =>
               obtain rfl := Option.some.inj H
               go_wp2
               go_ret
               exact ⟨by first | rfl | (simp [errW_none, errW_some] <;> rfl) | (simp [*, errW_none, errW_some] <;> rfl), by repeat (first | (with_reducible first | exact HB.out | apply below_alloc | apply pw_below_drewN | apply below_drew1 | refine below_set ?_ GE740.out) | exact HB.out)⟩
             ·replace c29 := Bool.eq_false_iff.mpr c29
              subst c29
              have H1 : ((have_Lacks.f kj20 t747 ((rd_T86 l0 x3_1).f1)).bind fun bt753 => ((have_Covers.f kj20 ((rd_T86 l0 x3_1).f0) ((rd_T86 l0 x3_1).f1)).bind fun bt757 => (arraslaw7_HaveLacks.l1 kj20 l0 x3_1 t743 t747 bt753.1 bt753.2 bt757.1 bt757.2 true 0 ((rd_T86 l0 x3_1).f0) ((rd_T86 l0 x3_1).f1) ((rd_T86 l0 x3_1).f2)))) = some r := by rw [if_neg (show ¬ (false = true) by decide)] at H; exact H
              clear H
              have H := H1
              clear H1
              replace H := Option.bind_eq_some_iff.mp H
              obtain ⟨⟨t753, t754⟩, A300, H⟩ := H
              (try dsimp only at H)
              have A30 := Aside0.mk A300
              clear A300
              replace H := Option.bind_eq_some_iff.mp H
              obtain ⟨⟨t757, t758⟩, A310, H⟩ := H
              replace H : (arraslaw7_HaveLacks.l1 kj20 l0 x3_1 t743 t747 t753 t754 t757 t758 true 0 ((rd_T86 l0 x3_1).f0) ((rd_T86 l0 x3_1).f1) ((rd_T86 l0 x3_1).f2)) = some r := H
              have A31 := Aside0.mk A310
              clear A310
              have H' := Aside0.mk H
              clear H
              have hcz32_0 : wc.cell? ⟨gb740, 0, none⟩ = some (.slice A739_0 ((rd_T86 l0 x3_1).f0).length c739_0) := (blk_cell BK740.out 0).trans rfl
              have hcz32_1 : wc.cell? ⟨gb740, 1, none⟩ = some (.slice A739_1 ((rd_T86 l0 x3_1).f1).length c739_1) := (blk_cell BK740.out 1).trans rfl
              have hcz32_2 : wc.cell? ⟨gb740, 2, none⟩ = some (.slice A739_2 ((rd_T86 l0 x3_1).f2).length c739_2) := (blk_cell BK740.out 2).trans rfl
              have hfz32_0 := blk_frozen BK740.out 0
              have hfz32_1 := blk_frozen BK740.out 1
              have hfz32_2 := blk_frozen BK740.out 2
              obtain ⟨Ao33, co33, eo33⟩ := Kd.R_slice HO_7.out
              subst eo33
              go_wp2_with (first | ((with_reducible refine gate_callee (f := 60) rfl ?_); refine goesL_ (some 73) rfl rfl Try.func60 (by kernel_rfl) rfl #[.slice Ao33 t747.length co33, .slice A739_1 ((rd_T86 l0 x3_1).f1).length c739_1] rfl (by (try simp only [List.map_toArray, List.map_cons, List.map_nil]); first | done | rfl | (simp only [List.length_drop, List.length_take]; rfl)) ?_; (with_reducible refine (have_Lacks.calls kj20 _ _ t747 _ _ ((rd_T86 l0 x3_1).f1) t753 t754 _ ?side1 ?side2 ?side3 ?side4 A30.out).mono ?_); (case side1 => repeat (first | exact (Kd.R_reads' HO_7.out).2.2 | with_reducible first | refine Kd.C_alloc ?_ _ | refine Kd.C_drewN ?_ _ | refine Kd.C_drew ?_)); (case side2 => exact (Kd.R_reads' HO_7.out).2.1); (case side3 => repeat (first | exact (Kd.C_below HR739_1.out HB.out) | with_reducible first | refine Kd.C_alloc ?_ _ | refine Kd.C_drewN ?_ _ | refine Kd.C_drew ?_)); (case side4 => exact HC739_1.out); rintro e w34 ⟨v755, rfl, ho0, hb⟩; refine ⟨_, rfl, ?_⟩; have n0_ := Aside0.mk (Kd.R_elder' (by (with_reducible repeat (first | apply Kd.R_alloc | apply Kd.R_drewN | apply Kd.R_drew)); exact HO_5.out) (Kd.R_base ho0) hb); have n1_ := Aside0.mk (Kd.R_elder' (by (with_reducible repeat (first | apply Kd.R_alloc | apply Kd.R_drewN | apply Kd.R_drew)); exact HO_7.out) (Kd.R_base ho0) hb); have n2_ := Aside0.mk (Kd.R_lower (Kd.R_new' (Kd.R_new' ho0 (Kd.R_lt (by (with_reducible repeat (first | apply Kd.R_alloc | apply Kd.R_drewN | apply Kd.R_drew)); exact HO_5.out))) (Kd.R_lt (by (with_reducible repeat (first | apply Kd.R_alloc | apply Kd.R_drewN | apply Kd.R_drew)); exact HO_7.out))) (below_size (by repeat (first | (with_reducible first | exact HB.out | apply below_alloc | apply pw_below_drewN | apply below_drew1 | refine below_set ?_ GE740.out) | exact HB.out)))); have n3_ := Aside0.mk (blk_below (g := gb740) (o := .cells #[.slice A739_0 ((rd_T86 l0 x3_1).f0).length c739_0, .slice A739_1 ((rd_T86 l0 x3_1).f1).length c739_1, .slice A739_2 ((rd_T86 l0 x3_1).f2).length c739_2] 86 (0, 0)) (by (with_reducible repeat (first | refine blk_drewN ?_ _ | refine blk_drew ?_ | refine blk_alloc ?_ _)); exact BK740.out) hb); have n4_ := Aside0.mk (below_step (by repeat (first | (with_reducible first | exact HB.out | apply below_alloc | apply pw_below_drewN | apply below_drew1 | refine below_set ?_ GE740.out) | exact HB.out)) hb); clear HO_5; clear HO_7; clear BK740; clear HB; have HO_5 := n0_; have HO_7 := n1_; have HO756 := n2_; have BK740 := n3_; have HB := n4_; clear n0_ n1_ n2_ n3_ n4_; (try clear hb); (try clear hb2); (try clear hk); (try clear hi); (try clear ho0); have hcz35_0 : w34.cell? ⟨gb740, 0, none⟩ = some (.slice A739_0 ((rd_T86 l0 x3_1).f0).length c739_0) := (blk_cell BK740.out 0).trans rfl; have hcz35_1 : w34.cell? ⟨gb740, 1, none⟩ = some (.slice A739_1 ((rd_T86 l0 x3_1).f1).length c739_1) := (blk_cell BK740.out 1).trans rfl; have hcz35_2 : w34.cell? ⟨gb740, 2, none⟩ = some (.slice A739_2 ((rd_T86 l0 x3_1).f2).length c739_2) := (blk_cell BK740.out 2).trans rfl; have hfz35_0 := blk_frozen BK740.out 0; have hfz35_1 := blk_frozen BK740.out 1; have hfz35_2 := blk_frozen BK740.out 2) | ((with_reducible refine gate_callee (f := 59) rfl ?_); refine goesL_ (some 81) rfl rfl Try.func59 (by kernel_rfl) rfl #[.slice A739_0 ((rd_T86 l0 x3_1).f0).length c739_0, .slice A739_1 ((rd_T86 l0 x3_1).f1).length c739_1] rfl (by (try simp only [List.map_toArray, List.map_cons, List.map_nil]); first | done | rfl | (simp only [List.length_drop, List.length_take]; rfl)) ?_; (with_reducible refine (have_Covers.calls kj20 _ _ ((rd_T86 l0 x3_1).f0) _ _ ((rd_T86 l0 x3_1).f1) t757 t758 _ ?side1 ?side2 ?side3 ?side4 A31.out).mono ?_); (case side1 => repeat (first | exact (Kd.C_below HR739_0.out HB.out) | with_reducible first | refine Kd.C_alloc ?_ _ | refine Kd.C_drewN ?_ _ | refine Kd.C_drew ?_)); (case side2 => exact HC739_0.out); (case side3 => repeat (first | exact (Kd.C_below HR739_1.out HB.out) | with_reducible first | refine Kd.C_alloc ?_ _ | refine Kd.C_drewN ?_ _ | refine Kd.C_drew ?_)); (case side4 => exact HC739_1.out); rintro e w' ⟨rfl, ⟨nd, rfl⟩⟩; refine ⟨_, rfl, ?_⟩))
              go_loopg [13, 14] kj20 (fun kq v13 v14 w' => ∃ (x13_5 : Bool) (x14_5 : Int), v13 = .bool x13_5 ∧ v14 = .int .i64 x14_5 ∧ Aside0 (arraslaw7_HaveLacks.l1 kq l0 x3_1 t743 t747 t753 t754 t757 t758 x13_5 x14_5 ((rd_T86 l0 x3_1).f0) ((rd_T86 l0 x3_1).f1) ((rd_T86 l0 x3_1).f2) = some r) ∧ Aside0 (kq ≤ kj20) ∧ Aside0 (Kd.R (Kd.int .i64) 3 w' w.heap.size (fun k_ => some k_ ≠ ((.slice Ao33 t747.length co33) : Value).ownBlock ∧ some k_ ≠ (v755 : Value).ownBlock) v745 t743) ∧ Aside0 (Kd.R (Kd.int .i64) 3 w' w.heap.size (fun k_ => some k_ ≠ (v745 : Value).ownBlock ∧ some k_ ≠ (v755 : Value).ownBlock) (.slice Ao33 t747.length co33) t747) ∧ Aside0 (Kd.R (Kd.int .i64) 3 w' w.heap.size (fun k_ => some k_ ≠ (v745 : Value).ownBlock ∧ some k_ ≠ ((.slice Ao33 t747.length co33) : Value).ownBlock) v755 t753) ∧ Aside0 (w'.heap[gb740]? = some (.cells #[(.slice A739_0 ((rd_T86 l0 x3_1).f0).length c739_0), (.slice A739_1 ((rd_T86 l0 x3_1).f1).length c739_1), (.slice A739_2 ((rd_T86 l0 x3_1).f2).length c739_2)] 86 (0, 0))) ∧ Aside0 (Below w.heap.size w w'))
              case atStart => exact ⟨(true), (0), (by first | rfl | (simp; done) | (simp [*]; done)), (by first | rfl | (simp; done) | (simp [*]; done)), H', ⟨Nat.le_refl _⟩, ⟨by (with_reducible repeat (first | apply Kd.R_alloc | apply Kd.R_drewN | apply Kd.R_drew)); exact HO_5.out⟩, ⟨by (with_reducible repeat (first | apply Kd.R_alloc | apply Kd.R_drewN | apply Kd.R_drew)); exact HO_7.out⟩, ⟨by (with_reducible repeat (first | apply Kd.R_alloc | apply Kd.R_drewN | apply Kd.R_drew)); exact Kd.R_mono HO756.out (fun _ hk => (by first | exact ⟨hk.1.2, hk.2⟩ | simp_all))⟩, ⟨by (with_reducible repeat (first | refine blk_drewN ?_ _ | refine blk_drew ?_ | refine blk_alloc ?_ _)); exact BK740.out⟩, ⟨by repeat (first | (with_reducible first | exact HB.out | apply below_alloc | apply pw_below_drewN | apply below_drew1 | refine below_set ?_ GE740.out) | exact HB.out)⟩⟩
              case round =>
               clear H'
               (try clear c1); (try clear c2); (try clear p2); (try clear c3); (try clear c3b0); (try clear c4); (try clear c5); (try clear c5b0); (try clear c6); (try clear c6b0); (try clear p6); (try clear c7); (try clear p7); (try clear q7); (try clear hx7); (try clear c11); (try clear c14); (try clear c18); (try clear c27); (try clear c27b0); (try clear c27b1); (try clear c29); (try clear hcz12_0); (try clear hcz12_1); (try clear hcz12_2); (try clear hcz15_0); (try clear hcz15_1); (try clear hcz15_2); (try clear hcz17_0); (try clear hcz17_1); (try clear hcz17_2); (try clear hcz22_0); (try clear hcz22_1); (try clear hcz22_2); (try clear hcz24_0); (try clear hcz24_1); (try clear hcz24_2); (try clear hcz32_0); (try clear hcz32_1); (try clear hcz32_2); (try clear hcz35_0); (try clear hcz35_1); (try clear hcz35_2); (try clear hcz9_0); (try clear hcz9_1); (try clear hcz9_2); (try clear hfz12_0); (try clear hfz12_1); (try clear hfz12_2); (try clear hfz15_0); (try clear hfz15_1); (try clear hfz15_2); (try clear hfz17_0); (try clear hfz17_1); (try clear hfz17_2); (try clear hfz22_0); (try clear hfz22_1); (try clear hfz22_2); (try clear hfz24_0); (try clear hfz24_1); (try clear hfz24_2); (try clear hfz32_0); (try clear hfz32_1); (try clear hfz32_2); (try clear hfz35_0); (try clear hfz35_1); (try clear hfz35_2); (try clear hfz9_0); (try clear hfz9_1); (try clear hfz9_2); (try clear hx739_0); (try clear hx739_1); (try clear hx739_2); (try clear p2); (try clear p6); (try clear p7); (try clear p739); (try clear q7); (try clear q739)
               obtain ⟨x13_5, x14_5, rfl, rfl, HA, HK5, HO_5, HO_7, HO_9, BK740, HB⟩ := hrel
               cases gk with
               | zero => exact absurd HA.out (by simp [arraslaw7_HaveLacks.l1])
               | succ k5 =>
                have H := HA.out
                clear HA
                simp only [arraslaw7_HaveLacks.l1] at H
                by_cases c36 : x14_5 < (t743.length : Int)
                ·rw [if_pos c36] at H
                 have c36b0 : decide (x14_5 < (t743.length : Int)) = true := decide_eq_true c36
                 clear c36
                 by_cases c37 : x13_5 = true
                 ·subst c37
                  have H1 : (if 0 ≤ x14_5 then (arraslaw7_HaveLacks.l1 k5 l0 x3_1 t743 t747 t753 t754 t757 t758 ((rd t743 x14_5) == 0) (wrap64 (x14_5 + 1)) ((rd_T86 l0 x3_1).f0) ((rd_T86 l0 x3_1).f1) ((rd_T86 l0 x3_1).f2)) else (none)) = some r := by rw [if_pos rfl] at H; exact H
                  clear H
                  have H := H1
                  clear H1
                  by_cases c38 : 0 ≤ x14_5
                  ·rw [if_pos c38] at H
                   have c38b0 : decide (0 ≤ x14_5) = true := decide_eq_true c38
                   clear c38
                   as_aux_lemma =>
                    have H' := Aside0.mk H
                    clear H
                    obtain ⟨Ao39, co39, eo39⟩ := Kd.R_slice HO_5.out
                    subst eo39
                    have p759 : 0 ≤ (x14_5 : Int) := of_decide_eq_true (by first | (with_reducible assumption) | assumption)
                    have q759 : x14_5 < (t743.length : Int) := of_decide_eq_true (by first | (with_reducible assumption) | assumption)
                    obtain ⟨ad759, e759, hx759_0⟩ := Kd.at_int (Kd.R_reads' HO_5.out).2.2 x14_5 p759 q759
                    cases e759
                    replace p759 := eq_true p759
                    replace q759 := eq_true q759
                    go_wp2
                    go_roundg k5
                    case measure => have := HK1.out; have := HJ1.out; have := HJ6.out; have := HJ20.out; have := HK5.out; omega
                    case rel => exact ⟨(((rd t743 x14_5) == 0)), (wrap64 (x14_5 + 1)), (by first | rfl | (simp; done) | (simp [*]; done)), (by first | rfl | (simp; done) | (simp [*]; done)), H', ⟨by have := HK1.out; have := HJ1.out; have := HJ6.out; have := HJ20.out; have := HK5.out; omega⟩, ⟨by (with_reducible repeat (first | apply Kd.R_alloc | apply Kd.R_drewN | apply Kd.R_drew)); exact HO_5.out⟩, ⟨by (with_reducible repeat (first | apply Kd.R_alloc | apply Kd.R_drewN | apply Kd.R_drew)); exact HO_7.out⟩, ⟨by (with_reducible repeat (first | apply Kd.R_alloc | apply Kd.R_drewN | apply Kd.R_drew)); exact HO_9.out⟩, ⟨by (with_reducible repeat (first | refine blk_drewN ?_ _ | refine blk_drew ?_ | refine blk_alloc ?_ _)); exact BK740.out⟩, ⟨by repeat (first | (with_reducible first | exact HB.out | apply below_alloc | apply pw_below_drewN | apply below_drew1 | refine below_set ?_ GE740.out) | exact HB.out)⟩⟩
                  ·rw [if_neg c38] at H
                   exact absurd H (by simp)
                 ·replace c37 := Bool.eq_false_iff.mpr c37
                  subst c37
                  have H1 : (arraslaw7_HaveLacks.l1 k5 l0 x3_1 t743 t747 t753 t754 t757 t758 false (wrap64 (x14_5 + 1)) ((rd_T86 l0 x3_1).f0) ((rd_T86 l0 x3_1).f1) ((rd_T86 l0 x3_1).f2)) = some r := by rw [if_neg (show ¬ (false = true) by decide)] at H; exact H
                  clear H
                  have H := H1
                  clear H1
                  as_aux_lemma =>
                   have H' := Aside0.mk H
                   clear H
                   obtain ⟨Ao40, co40, eo40⟩ := Kd.R_slice HO_5.out
                   subst eo40
                   go_wp2
                   go_roundg k5
                   case measure => have := HK1.out; have := HJ1.out; have := HJ6.out; have := HJ20.out; have := HK5.out; omega
                   case rel => exact ⟨(false), (wrap64 (x14_5 + 1)), (by first | rfl | (simp; done) | (simp [*]; done)), (by first | rfl | (simp; done) | (simp [*]; done)), H', ⟨by have := HK1.out; have := HJ1.out; have := HJ6.out; have := HJ20.out; have := HK5.out; omega⟩, ⟨by (with_reducible repeat (first | apply Kd.R_alloc | apply Kd.R_drewN | apply Kd.R_drew)); exact HO_5.out⟩, ⟨by (with_reducible repeat (first | apply Kd.R_alloc | apply Kd.R_drewN | apply Kd.R_drew)); exact HO_7.out⟩, ⟨by (with_reducible repeat (first | apply Kd.R_alloc | apply Kd.R_drewN | apply Kd.R_drew)); exact HO_9.out⟩, ⟨by (with_reducible repeat (first | refine blk_drewN ?_ _ | refine blk_drew ?_ | refine blk_alloc ?_ _)); exact BK740.out⟩, ⟨by repeat (first | (with_reducible first | exact HB.out | apply below_alloc | apply pw_below_drewN | apply below_drew1 | refine below_set ?_ GE740.out) | exact HB.out)⟩⟩
                ·rw [if_neg c36] at H
                 have c36b0 : decide (x14_5 < (t743.length : Int)) = false := decide_eq_false c36
                 clear c36
                 replace H := Option.bind_eq_some_iff.mp H
                 obtain ⟨⟨t760, t761⟩, A410, H⟩ := H
                 replace H : ((have_Count.f k5 t747).bind fun bt762 => (arraslaw7_HaveLacks.l2 k5 l0 x3_1 t743 t753 t754 t757 t758 x13_5 t760 t761 bt762.1 bt762.2 0 0)) = some r := H
                 have A41 := Aside0.mk A410
                 clear A410
                 replace H := Option.bind_eq_some_iff.mp H
                 obtain ⟨⟨t762, t763⟩, A420, H⟩ := H
                 replace H : (arraslaw7_HaveLacks.l2 k5 l0 x3_1 t743 t753 t754 t757 t758 x13_5 t760 t761 t762 t763 0 0) = some r := H
                 have A42 := Aside0.mk A420
                 clear A420
                 have H' := Aside0.mk H
                 clear H
                 obtain ⟨Ao43, co43, eo43⟩ := Kd.R_slice HO_5.out
                 subst eo43
                 have hcz44_0 : wr.cell? ⟨gb740, 0, none⟩ = some (.slice A739_0 ((rd_T86 l0 x3_1).f0).length c739_0) := (blk_cell BK740.out 0).trans rfl
                 have hcz44_1 : wr.cell? ⟨gb740, 1, none⟩ = some (.slice A739_1 ((rd_T86 l0 x3_1).f1).length c739_1) := (blk_cell BK740.out 1).trans rfl
                 have hcz44_2 : wr.cell? ⟨gb740, 2, none⟩ = some (.slice A739_2 ((rd_T86 l0 x3_1).f2).length c739_2) := (blk_cell BK740.out 2).trans rfl
                 have hfz44_0 := blk_frozen BK740.out 0
                 have hfz44_1 := blk_frozen BK740.out 1
                 have hfz44_2 := blk_frozen BK740.out 2
                 go_wp2_with (first | ((with_reducible refine gate_callee (f := 64) rfl ?_); refine goesL_ (some 101) rfl rfl Try.func64 (by kernel_rfl) rfl #[.slice A739_0 ((rd_T86 l0 x3_1).f0).length c739_0] rfl (by (try simp only [List.map_toArray, List.map_cons, List.map_nil]); first | done | rfl | (simp only [List.length_drop, List.length_take]; rfl)) ?_; (with_reducible refine (have_Count.calls k5 _ _ ((rd_T86 l0 x3_1).f0) t760 t761 _ ?side1 ?side2 A41.out).mono ?_); (case side1 => repeat (first | exact (Kd.C_below HR739_0.out HB.out) | with_reducible first | refine Kd.C_alloc ?_ _ | refine Kd.C_drewN ?_ _ | refine Kd.C_drew ?_)); (case side2 => exact HC739_0.out); rintro e w' ⟨rfl, ⟨nd, rfl⟩⟩; refine ⟨_, rfl, ?_⟩) | ((with_reducible refine gate_callee (f := 64) rfl ?_); refine goesL_ (some 106) rfl rfl Try.func64 (by kernel_rfl) rfl #[.slice Ao33 t747.length co33] rfl (by (try simp only [List.map_toArray, List.map_cons, List.map_nil]); first | done | rfl | (simp only [List.length_drop, List.length_take]; rfl)) ?_; (with_reducible refine (have_Count.calls k5 _ _ t747 t762 t763 _ ?side1 ?side2 A42.out).mono ?_); (case side1 => repeat (first | exact (Kd.R_reads' HO_7.out).2.2 | with_reducible first | refine Kd.C_alloc ?_ _ | refine Kd.C_drewN ?_ _ | refine Kd.C_drew ?_)); (case side2 => exact (Kd.R_reads' HO_7.out).2.1); rintro e w' ⟨rfl, ⟨nd, rfl⟩⟩; refine ⟨_, rfl, ?_⟩))
                 go_loopg [19, 20] k5 (fun kq v19 v20 w' => ∃ (x19_6 : Int) (x20_6 : Int), v19 = .int .i64 x19_6 ∧ v20 = .int .i64 x20_6 ∧ Aside0 (arraslaw7_HaveLacks.l2 kq l0 x3_1 t743 t753 t754 t757 t758 x13_5 t760 t761 t762 t763 x19_6 x20_6 = some r) ∧ Aside0 (kq ≤ k5) ∧ Aside0 (Kd.R (Kd.int .i64) 3 w' w.heap.size (fun k_ => some k_ ≠ (v755 : Value).ownBlock) (.slice Ao43 t743.length co43) t743) ∧ Aside0 (Kd.R (Kd.int .i64) 3 w' w.heap.size (fun k_ => some k_ ≠ ((.slice Ao43 t743.length co43) : Value).ownBlock) v755 t753) ∧ Aside0 (w'.heap[gb740]? = some (.cells #[(.slice A739_0 ((rd_T86 l0 x3_1).f0).length c739_0), (.slice A739_1 ((rd_T86 l0 x3_1).f1).length c739_1), (.slice A739_2 ((rd_T86 l0 x3_1).f2).length c739_2)] 86 (0, 0))) ∧ Aside0 (Below w.heap.size w w'))
                 case atStart => exact ⟨(0), (0), (by first | rfl | (simp; done) | (simp [*]; done)), (by first | rfl | (simp; done) | (simp [*]; done)), H', ⟨Nat.le_refl _⟩, ⟨by (with_reducible repeat (first | apply Kd.R_alloc | apply Kd.R_drewN | apply Kd.R_drew)); exact Kd.R_mono HO_5.out (fun _ hk => (by first | exact hk.2 | simp_all))⟩, ⟨by (with_reducible repeat (first | apply Kd.R_alloc | apply Kd.R_drewN | apply Kd.R_drew)); exact Kd.R_mono HO_9.out (fun _ hk => (by first | exact hk.1 | simp_all))⟩, ⟨by (with_reducible repeat (first | refine blk_drewN ?_ _ | refine blk_drew ?_ | refine blk_alloc ?_ _)); exact BK740.out⟩, ⟨by repeat (first | (with_reducible first | exact HB.out | apply below_alloc | apply pw_below_drewN | apply below_drew1 | refine below_set ?_ GE740.out) | exact HB.out)⟩⟩
                 case round =>
                  clear H'
                  (try clear c1); (try clear c2); (try clear p2); (try clear c3); (try clear c3b0); (try clear c4); (try clear c5); (try clear c5b0); (try clear c6); (try clear c6b0); (try clear p6); (try clear c7); (try clear p7); (try clear q7); (try clear hx7); (try clear c11); (try clear c14); (try clear c18); (try clear c27); (try clear c27b0); (try clear c27b1); (try clear c29); (try clear c36); (try clear c36b0); (try clear c37); (try clear c38); (try clear c38b0); (try clear hcz12_0); (try clear hcz12_1); (try clear hcz12_2); (try clear hcz15_0); (try clear hcz15_1); (try clear hcz15_2); (try clear hcz17_0); (try clear hcz17_1); (try clear hcz17_2); (try clear hcz22_0); (try clear hcz22_1); (try clear hcz22_2); (try clear hcz24_0); (try clear hcz24_1); (try clear hcz24_2); (try clear hcz32_0); (try clear hcz32_1); (try clear hcz32_2); (try clear hcz35_0); (try clear hcz35_1); (try clear hcz35_2); (try clear hcz44_0); (try clear hcz44_1); (try clear hcz44_2); (try clear hcz9_0); (try clear hcz9_1); (try clear hcz9_2); (try clear hfz12_0); (try clear hfz12_1); (try clear hfz12_2); (try clear hfz15_0); (try clear hfz15_1); (try clear hfz15_2); (try clear hfz17_0); (try clear hfz17_1); (try clear hfz17_2); (try clear hfz22_0); (try clear hfz22_1); (try clear hfz22_2); (try clear hfz24_0); (try clear hfz24_1); (try clear hfz24_2); (try clear hfz32_0); (try clear hfz32_1); (try clear hfz32_2); (try clear hfz35_0); (try clear hfz35_1); (try clear hfz35_2); (try clear hfz44_0); (try clear hfz44_1); (try clear hfz44_2); (try clear hfz9_0); (try clear hfz9_1); (try clear hfz9_2); (try clear hx739_0); (try clear hx739_1); (try clear hx739_2); (try clear hx759_0); (try clear p2); (try clear p6); (try clear p7); (try clear p739); (try clear p759); (try clear q7); (try clear q739); (try clear q759)
                  obtain ⟨x19_6, x20_6, rfl, rfl, HA, HK6, HO_5, HO_9, BK740, HB⟩ := hrel
                  cases gk with
                  | zero => exact absurd HA.out (by simp [arraslaw7_HaveLacks.l2])
                  | succ k6 =>
                   have H := HA.out
                   clear HA
                   simp only [arraslaw7_HaveLacks.l2] at H
                   by_cases c45 : x20_6 < (t743.length : Int)
                   ·rw [if_pos c45] at H
                    have c45b0 : decide (x20_6 < (t743.length : Int)) = true := decide_eq_true c45
                    clear c45
                    by_cases c46 : 0 ≤ x20_6
                    ·rw [if_pos c46] at H
                     have c46b0 : decide (0 ≤ x20_6) = true := decide_eq_true c46
                     clear c46
                     by_cases c47 : x20_6 < (t753.length : Int)
                     ·rw [if_pos c47] at H
                      have c47b0 : decide (x20_6 < (t753.length : Int)) = true := decide_eq_true c47
                      clear c47
                      by_cases c48 : (rd t753 x20_6) = 0
                      ·rw [if_pos c48] at H
                       have c48b0 : ((rd t753 x20_6) == 0) = true := beq_iff_eq.mpr c48
                       have c48b1 : ((rd t753 x20_6) != 0) = false := bne_eq_false_iff_eq.mpr c48
                       clear c48
                       as_aux_lemma =>
                        have H' := Aside0.mk H
                        clear H
                        have p764 : 0 ≤ (x20_6 : Int) := of_decide_eq_true (by first | (with_reducible assumption) | assumption)
                        have q764 : x20_6 < (t743.length : Int) := of_decide_eq_true (by first | (with_reducible assumption) | assumption)
                        obtain ⟨ad764, e764, hx764_0⟩ := Kd.at_int (Kd.R_reads' HO_5.out).2.2 x20_6 p764 q764
                        cases e764
                        replace p764 := eq_true p764
                        replace q764 := eq_true q764
                        obtain ⟨Ao49, co49, eo49⟩ := Kd.R_slice HO_9.out
                        subst eo49
                        have p765 : 0 ≤ (x20_6 : Int) := of_decide_eq_true (by first | (with_reducible assumption) | assumption)
                        have q765 : x20_6 < (t753.length : Int) := of_decide_eq_true (by first | (with_reducible assumption) | assumption)
                        obtain ⟨ad765, e765, hx765_0⟩ := Kd.at_int (Kd.R_reads' HO_9.out).2.2 x20_6 p765 q765
                        cases e765
                        replace p765 := eq_true p765
                        replace q765 := eq_true q765
                        go_wp2
                        go_roundg k6
                        case measure => have := HK1.out; have := HJ1.out; have := HJ6.out; have := HJ20.out; have := HK5.out; have := HK6.out; omega
                        case rel => exact ⟨(wrap64 (x19_6 + (rd t743 x20_6))), (wrap64 (x20_6 + 1)), (by first | rfl | (simp; done) | (simp [*]; done)), (by first | rfl | (simp; done) | (simp [*]; done)), H', ⟨by have := HK1.out; have := HJ1.out; have := HJ6.out; have := HJ20.out; have := HK5.out; have := HK6.out; omega⟩, ⟨by (with_reducible repeat (first | apply Kd.R_alloc | apply Kd.R_drewN | apply Kd.R_drew)); exact HO_5.out⟩, ⟨by (with_reducible repeat (first | apply Kd.R_alloc | apply Kd.R_drewN | apply Kd.R_drew)); exact HO_9.out⟩, ⟨by (with_reducible repeat (first | refine blk_drewN ?_ _ | refine blk_drew ?_ | refine blk_alloc ?_ _)); exact BK740.out⟩, ⟨by repeat (first | (with_reducible first | exact HB.out | apply below_alloc | apply pw_below_drewN | apply below_drew1 | refine below_set ?_ GE740.out) | exact HB.out)⟩⟩
                      ·rw [if_neg c48] at H
                       have c48b0 : ((rd t753 x20_6) == 0) = false := beq_eq_false_iff_ne.mpr c48
                       have c48b1 : ((rd t753 x20_6) != 0) = true := bne_iff_ne.mpr c48
                       as_aux_lemma =>
                        obtain rfl := Option.some.inj H
                        have p764 : 0 ≤ (x20_6 : Int) := of_decide_eq_true (by first | (with_reducible assumption) | assumption)
                        have q764 : x20_6 < (t743.length : Int) := of_decide_eq_true (by first | (with_reducible assumption) | assumption)
                        obtain ⟨ad764, e764, hx764_0⟩ := Kd.at_int (Kd.R_reads' HO_5.out).2.2 x20_6 p764 q764
                        cases e764
                        replace p764 := eq_true p764
                        replace q764 := eq_true q764
                        obtain ⟨Ao50, co50, eo50⟩ := Kd.R_slice HO_9.out
                        subst eo50
                        have p765 : 0 ≤ (x20_6 : Int) := of_decide_eq_true (by first | (with_reducible assumption) | assumption)
                        have q765 : x20_6 < (t753.length : Int) := of_decide_eq_true (by first | (with_reducible assumption) | assumption)
                        obtain ⟨ad765, e765, hx765_0⟩ := Kd.at_int (Kd.R_reads' HO_9.out).2.2 x20_6 p765 q765
                        cases e765
                        replace p765 := eq_true p765
                        replace q765 := eq_true q765
                        go_wp2
                        go_ret
                        exact ⟨by first | rfl | (simp [errW_none, errW_some] <;> rfl) | (simp [*, errW_none, errW_some] <;> rfl), by repeat (first | (with_reducible first | exact HB.out | apply below_alloc | apply pw_below_drewN | apply below_drew1 | refine below_set ?_ GE740.out) | exact HB.out)⟩
                     ·rw [if_neg c47] at H
                      exact absurd H (by simp)
                    ·rw [if_neg c46] at H
                     exact absurd H (by simp)
                   ·rw [if_neg c45] at H
                    have c45b0 : decide (x20_6 < (t743.length : Int)) = false := decide_eq_false c45
                    clear c45
                    have HC51 := Aside0.mk H
                    clear H
                    go_upto_region 26 with (fail)
                    go_cut [155] (fun v155 wc => ∃ (kq : Nat) (x155_50 : Bool), v155 = .bool x155_50 ∧ Aside0 (arraslaw7_HaveLacks.j6 kq l0 x3_1 x155_50 = some r) ∧ Aside0 (kq ≤ k6) ∧ Aside0 (wc.heap[gb740]? = some (.cells #[(.slice A739_0 ((rd_T86 l0 x3_1).f0).length c739_0), (.slice A739_1 ((rd_T86 l0 x3_1).f1).length c739_1), (.slice A739_2 ((rd_T86 l0 x3_1).f2).length c739_2)] 86 (0, 0))) ∧ Aside0 (Below w.heap.size w wc))
                    case first =>
                     have H := HC51.out
                     clear HC51
                     replace H := Option.bind_eq_some_iff.mp H
                     obtain ⟨t766, A520, H⟩ := H
                     (try dsimp only at H)
                     have A52 := Aside0.mk A520
                     clear A520
                     by_cases c53 : t766 = 0
                     ·rw [if_pos c53] at H
                      have c53b0 : (t766 == 0) = true := beq_iff_eq.mpr c53
                      have c53b1 : (t766 != 0) = false := bne_eq_false_iff_eq.mpr c53
                      clear c53
                      (first | rw [c53b0] | (simp only [i64_w, i32_w]; rw [c53b0]) | skip)
                      replace H := Option.bind_eq_some_iff.mp H
                      obtain ⟨t767, A540, H⟩ := H
                      (try dsimp only at H)
                      have A54 := Aside0.mk A540
                      clear A540
                      by_cases c55 : t767 = 0
                      ·rw [if_pos c55] at H
                       have c55b0 : (t767 == 0) = true := beq_iff_eq.mpr c55
                       have c55b1 : (t767 != 0) = false := bne_eq_false_iff_eq.mpr c55
                       clear c55
                       replace H := Option.bind_eq_some_iff.mp H
                       obtain ⟨t768, A560, H⟩ := H
                       (try dsimp only at H)
                       have A56 := Aside0.mk A560
                       clear A560
                       by_cases c57 : t768 = 0
                       ·rw [if_pos c57] at H
                        have c57b0 : (t768 == 0) = true := beq_iff_eq.mpr c57
                        have c57b1 : (t768 != 0) = false := bne_eq_false_iff_eq.mpr c57
                        clear c57
                        replace H := Option.bind_eq_some_iff.mp H
                        obtain ⟨t769, A580, H⟩ := H
                        (try dsimp only at H)
                        have A58 := Aside0.mk A580
                        clear A580
                        by_cases c59 : t769 = 0
                        ·rw [if_pos c59] at H
                         have c59b0 : (t769 == 0) = true := beq_iff_eq.mpr c59
                         have c59b1 : (t769 != 0) = false := bne_eq_false_iff_eq.mpr c59
                         clear c59
                         by_cases c60 : (t757 != x13_5) = true
                         ·rw [if_pos c60] at H
                          have c60b0 : (t757 != x13_5) = true := c60
                          (try (have c60b1 : decide (t757 = x13_5) = false := by simpa using c60))
                          (try (have c60b2 : (t757 == x13_5) = false := by simpa using c60))
                          (try (have c60b3 : ¬ (t757 = x13_5) := by simpa using c60))
                          clear c60
                          as_aux_lemma =>
                           have H' := Aside0.mk H
                           clear H
                           go_wp2_with (first | ((with_reducible refine gate_callee (f := 61) rfl ?_); refine goesL_ (some 127) rfl rfl Try.func61 (by kernel_rfl) rfl #[.int .i64 t754] rfl (by (try simp only [List.map_toArray, List.map_cons, List.map_nil]); first | done | rfl | (simp only [List.length_drop, List.length_take]; rfl)) ?_; (with_reducible refine (arraslaw7_num.calls t754 t766 _ A52.out).mono ?_); rintro e w' ⟨rfl, ⟨nd, rfl⟩⟩; refine ⟨_, rfl, ?_⟩) | (go_at_call 61; (with_reducible refine (arraslaw7_num.calls t758 t767 _ A54.out).mono ?_); rintro e w' ⟨rfl, ⟨nd, rfl⟩⟩) | (go_at_call 61; (with_reducible refine (arraslaw7_num.calls t761 t768 _ A56.out).mono ?_); rintro e w' ⟨rfl, ⟨nd, rfl⟩⟩) | (go_at_call 61; (with_reducible refine (arraslaw7_num.calls t763 t769 _ A58.out).mono ?_); rintro e w' ⟨rfl, ⟨nd, rfl⟩⟩))
                           go_meet
                           case rel => exact ⟨_, (true), (by first | rfl | (simp; done) | (simp [*]; done)), H', ⟨by have := HK1.out; have := HJ1.out; have := HJ6.out; have := HJ20.out; have := HK5.out; have := HK6.out; first | omega | exact Nat.le_refl _⟩, ⟨by (with_reducible repeat (first | refine blk_drewN ?_ _ | refine blk_drew ?_ | refine blk_alloc ?_ _)); exact BK740.out⟩, ⟨by repeat (first | (with_reducible first | exact HB.out | apply below_alloc | apply pw_below_drewN | apply below_drew1 | refine below_set ?_ GE740.out) | exact HB.out)⟩⟩
                         ·rw [if_neg c60] at H
                          have c60b0 : (t757 != x13_5) = false := by simpa using c60
                          (try (have c60b1 : decide (t757 = x13_5) = true := by simpa using c60))
                          (try (have c60b2 : (t757 == x13_5) = true := by simpa using c60))
                          clear c60
                          as_aux_lemma =>
                           have H' := Aside0.mk H
                           clear H
                           go_wp2_with (first | ((with_reducible refine gate_callee (f := 61) rfl ?_); refine goesL_ (some 127) rfl rfl Try.func61 (by kernel_rfl) rfl #[.int .i64 t754] rfl (by (try simp only [List.map_toArray, List.map_cons, List.map_nil]); first | done | rfl | (simp only [List.length_drop, List.length_take]; rfl)) ?_; (with_reducible refine (arraslaw7_num.calls t754 t766 _ A52.out).mono ?_); rintro e w' ⟨rfl, ⟨nd, rfl⟩⟩; refine ⟨_, rfl, ?_⟩) | (go_at_call 61; (with_reducible refine (arraslaw7_num.calls t758 t767 _ A54.out).mono ?_); rintro e w' ⟨rfl, ⟨nd, rfl⟩⟩) | (go_at_call 61; (with_reducible refine (arraslaw7_num.calls t761 t768 _ A56.out).mono ?_); rintro e w' ⟨rfl, ⟨nd, rfl⟩⟩) | (go_at_call 61; (with_reducible refine (arraslaw7_num.calls t763 t769 _ A58.out).mono ?_); rintro e w' ⟨rfl, ⟨nd, rfl⟩⟩))
                           go_meet
                           case rel => exact ⟨_, ((t762 != (wrap64 (t760 + x19_6)))), (by first | rfl | (simp; done) | (simp [*]; done)), H', ⟨by have := HK1.out; have := HJ1.out; have := HJ6.out; have := HJ20.out; have := HK5.out; have := HK6.out; first | omega | exact Nat.le_refl _⟩, ⟨by (with_reducible repeat (first | refine blk_drewN ?_ _ | refine blk_drew ?_ | refine blk_alloc ?_ _)); exact BK740.out⟩, ⟨by repeat (first | (with_reducible first | exact HB.out | apply below_alloc | apply pw_below_drewN | apply below_drew1 | refine below_set ?_ GE740.out) | exact HB.out)⟩⟩
                        ·rw [if_neg c59] at H
                         have c59b0 : (t769 == 0) = false := beq_eq_false_iff_ne.mpr c59
                         have c59b1 : (t769 != 0) = true := bne_iff_ne.mpr c59
                         as_aux_lemma =>
                          have H' := Aside0.mk H
                          clear H
                          go_wp2_with (first | ((with_reducible refine gate_callee (f := 61) rfl ?_); refine goesL_ (some 127) rfl rfl Try.func61 (by kernel_rfl) rfl #[.int .i64 t754] rfl (by (try simp only [List.map_toArray, List.map_cons, List.map_nil]); first | done | rfl | (simp only [List.length_drop, List.length_take]; rfl)) ?_; (with_reducible refine (arraslaw7_num.calls t754 t766 _ A52.out).mono ?_); rintro e w' ⟨rfl, ⟨nd, rfl⟩⟩; refine ⟨_, rfl, ?_⟩) | (go_at_call 61; (with_reducible refine (arraslaw7_num.calls t758 t767 _ A54.out).mono ?_); rintro e w' ⟨rfl, ⟨nd, rfl⟩⟩) | (go_at_call 61; (with_reducible refine (arraslaw7_num.calls t761 t768 _ A56.out).mono ?_); rintro e w' ⟨rfl, ⟨nd, rfl⟩⟩) | (go_at_call 61; (with_reducible refine (arraslaw7_num.calls t763 t769 _ A58.out).mono ?_); rintro e w' ⟨rfl, ⟨nd, rfl⟩⟩))
                          go_meet
                          case rel => exact ⟨_, (true), (by first | rfl | (simp; done) | (simp [*]; done)), H', ⟨by have := HK1.out; have := HJ1.out; have := HJ6.out; have := HJ20.out; have := HK5.out; have := HK6.out; first | omega | exact Nat.le_refl _⟩, ⟨by (with_reducible repeat (first | refine blk_drewN ?_ _ | refine blk_drew ?_ | refine blk_alloc ?_ _)); exact BK740.out⟩, ⟨by repeat (first | (with_reducible first | exact HB.out | apply below_alloc | apply pw_below_drewN | apply below_drew1 | refine below_set ?_ GE740.out) | exact HB.out)⟩⟩
                       ·rw [if_neg c57] at H
                        have c57b0 : (t768 == 0) = false := beq_eq_false_iff_ne.mpr c57
                        have c57b1 : (t768 != 0) = true := bne_iff_ne.mpr c57
                        as_aux_lemma =>
                         have H' := Aside0.mk H
                         clear H
                         go_wp2_with (first | ((with_reducible refine gate_callee (f := 61) rfl ?_); refine goesL_ (some 127) rfl rfl Try.func61 (by kernel_rfl) rfl #[.int .i64 t754] rfl (by (try simp only [List.map_toArray, List.map_cons, List.map_nil]); first | done | rfl | (simp only [List.length_drop, List.length_take]; rfl)) ?_; (with_reducible refine (arraslaw7_num.calls t754 t766 _ A52.out).mono ?_); rintro e w' ⟨rfl, ⟨nd, rfl⟩⟩; refine ⟨_, rfl, ?_⟩) | (go_at_call 61; (with_reducible refine (arraslaw7_num.calls t758 t767 _ A54.out).mono ?_); rintro e w' ⟨rfl, ⟨nd, rfl⟩⟩) | (go_at_call 61; (with_reducible refine (arraslaw7_num.calls t761 t768 _ A56.out).mono ?_); rintro e w' ⟨rfl, ⟨nd, rfl⟩⟩))
                         go_meet
                         case rel => exact ⟨_, (true), (by first | rfl | (simp; done) | (simp [*]; done)), H', ⟨by have := HK1.out; have := HJ1.out; have := HJ6.out; have := HJ20.out; have := HK5.out; have := HK6.out; first | omega | exact Nat.le_refl _⟩, ⟨by (with_reducible repeat (first | refine blk_drewN ?_ _ | refine blk_drew ?_ | refine blk_alloc ?_ _)); exact BK740.out⟩, ⟨by repeat (first | (with_reducible first | exact HB.out | apply below_alloc | apply pw_below_drewN | apply below_drew1 | refine below_set ?_ GE740.out) | exact HB.out)⟩⟩
                      ·rw [if_neg c55] at H
                       have c55b0 : (t767 == 0) = false := beq_eq_false_iff_ne.mpr c55
                       have c55b1 : (t767 != 0) = true := bne_iff_ne.mpr c55
                       as_aux_lemma =>
                        have H' := Aside0.mk H
                        clear H
                        go_wp2_with (first | ((with_reducible refine gate_callee (f := 61) rfl ?_); refine goesL_ (some 127) rfl rfl Try.func61 (by kernel_rfl) rfl #[.int .i64 t754] rfl (by (try simp only [List.map_toArray, List.map_cons, List.map_nil]); first | done | rfl | (simp only [List.length_drop, List.length_take]; rfl)) ?_; (with_reducible refine (arraslaw7_num.calls t754 t766 _ A52.out).mono ?_); rintro e w' ⟨rfl, ⟨nd, rfl⟩⟩; refine ⟨_, rfl, ?_⟩) | (go_at_call 61; (with_reducible refine (arraslaw7_num.calls t758 t767 _ A54.out).mono ?_); rintro e w' ⟨rfl, ⟨nd, rfl⟩⟩))
                        go_meet
                        case rel => exact ⟨_, (true), (by first | rfl | (simp; done) | (simp [*]; done)), H', ⟨by have := HK1.out; have := HJ1.out; have := HJ6.out; have := HJ20.out; have := HK5.out; have := HK6.out; first | omega | exact Nat.le_refl _⟩, ⟨by (with_reducible repeat (first | refine blk_drewN ?_ _ | refine blk_drew ?_ | refine blk_alloc ?_ _)); exact BK740.out⟩, ⟨by repeat (first | (with_reducible first | exact HB.out | apply below_alloc | apply pw_below_drewN | apply below_drew1 | refine below_set ?_ GE740.out) | exact HB.out)⟩⟩
                     ·rw [if_neg c53] at H
                      have c53b0 : (t766 == 0) = false := beq_eq_false_iff_ne.mpr c53
                      have c53b1 : (t766 != 0) = true := bne_iff_ne.mpr c53
                      (first | rw [c53b0] | (simp only [i64_w, i32_w]; rw [c53b0]) | skip)
                      as_aux_lemma =>
                       have H' := Aside0.mk H
                       clear H
                       go_wp2_with (first | ((with_reducible refine gate_callee (f := 61) rfl ?_); refine goesL_ (some 127) rfl rfl Try.func61 (by kernel_rfl) rfl #[.int .i64 t754] rfl (by (try simp only [List.map_toArray, List.map_cons, List.map_nil]); first | done | rfl | (simp only [List.length_drop, List.length_take]; rfl)) ?_; (with_reducible refine (arraslaw7_num.calls t754 t766 _ A52.out).mono ?_); rintro e w' ⟨rfl, ⟨nd, rfl⟩⟩; refine ⟨_, rfl, ?_⟩))
                       go_meet
                       case rel => exact ⟨_, (true), (by first | rfl | (simp; done) | (simp [*]; done)), H', ⟨by have := HK1.out; have := HJ1.out; have := HJ6.out; have := HJ20.out; have := HK5.out; have := HK6.out; first | omega | exact Nat.le_refl _⟩, ⟨by (with_reducible repeat (first | refine blk_drewN ?_ _ | refine blk_drew ?_ | refine blk_alloc ?_ _)); exact BK740.out⟩, ⟨by repeat (first | (with_reducible first | exact HB.out | apply below_alloc | apply pw_below_drewN | apply below_drew1 | refine below_set ?_ GE740.out) | exact HB.out)⟩⟩
                    case rest =>
                     clear HC51
                     (try clear c1); (try clear c2); (try clear p2); (try clear c3); (try clear c3b0); (try clear c4); (try clear c5); (try clear c5b0); (try clear c6); (try clear c6b0); (try clear p6); (try clear c7); (try clear p7); (try clear q7); (try clear hx7); (try clear c11); (try clear c14); (try clear c18); (try clear c27); (try clear c27b0); (try clear c27b1); (try clear c29); (try clear c36); (try clear c36b0); (try clear c37); (try clear c38); (try clear c38b0); (try clear c45); (try clear c45b0); (try clear c46); (try clear c46b0); (try clear c47); (try clear c47b0); (try clear c48); (try clear c48b0); (try clear c48b1); (try clear c53); (try clear c53b0); (try clear c53b1); (try clear c55); (try clear c55b0); (try clear c55b1); (try clear c57); (try clear c57b0); (try clear c57b1); (try clear c58); (try clear c59); (try clear c59b0); (try clear c59b1); (try clear c60); (try clear c60b0); (try clear c60b1); (try clear c60b2); (try clear hcz12_0); (try clear hcz12_1); (try clear hcz12_2); (try clear hcz15_0); (try clear hcz15_1); (try clear hcz15_2); (try clear hcz17_0); (try clear hcz17_1); (try clear hcz17_2); (try clear hcz22_0); (try clear hcz22_1); (try clear hcz22_2); (try clear hcz24_0); (try clear hcz24_1); (try clear hcz24_2); (try clear hcz32_0); (try clear hcz32_1); (try clear hcz32_2); (try clear hcz35_0); (try clear hcz35_1); (try clear hcz35_2); (try clear hcz44_0); (try clear hcz44_1); (try clear hcz44_2); (try clear hcz9_0); (try clear hcz9_1); (try clear hcz9_2); (try clear hfz12_0); (try clear hfz12_1); (try clear hfz12_2); (try clear hfz15_0); (try clear hfz15_1); (try clear hfz15_2); (try clear hfz17_0); (try clear hfz17_1); (try clear hfz17_2); (try clear hfz22_0); (try clear hfz22_1); (try clear hfz22_2); (try clear hfz24_0); (try clear hfz24_1); (try clear hfz24_2); (try clear hfz32_0); (try clear hfz32_1); (try clear hfz32_2); (try clear hfz35_0); (try clear hfz35_1); (try clear hfz35_2); (try clear hfz44_0); (try clear hfz44_1); (try clear hfz44_2); (try clear hfz9_0); (try clear hfz9_1); (try clear hfz9_2); (try clear hx739_0); (try clear hx739_1); (try clear hx739_2); (try clear hx759_0); (try clear hx764_0); (try clear hx765_0); (try clear p2); (try clear p6); (try clear p7); (try clear p739); (try clear p759); (try clear p764); (try clear p765); (try clear q7); (try clear q739); (try clear q759); (try clear q764); (try clear q765)
                     obtain ⟨kq, x155_50, rfl, HA, HJ50, BK740, HB⟩ := hcut
                     cases kq with
                     | zero => exact absurd HA.out (by simp [arraslaw7_HaveLacks.j6])
                     | succ kj50 =>
                      have H := HA.out
                      clear HA
                      simp only [arraslaw7_HaveLacks.j6] at H
                      by_cases c61 : x155_50 = true
                      ·subst c61
                       have H1 : (some false) = some r := by rw [if_pos rfl] at H; exact H
                       clear H
                       have H := H1
                       clear H1
                       as_aux_lemma =>
                        obtain rfl := Option.some.inj H
                        go_wp2
                        go_ret
                        exact ⟨by first | rfl | (simp [errW_none, errW_some] <;> rfl) | (simp [*, errW_none, errW_some] <;> rfl), by repeat (first | (with_reducible first | exact HB.out | apply below_alloc | apply pw_below_drewN | apply below_drew1 | refine below_set ?_ GE740.out) | exact HB.out)⟩
                      ·replace c61 := Bool.eq_false_iff.mpr c61
                       subst c61
                       have H1 : (arraslaw7_HaveLacks.l0 kj50 l0 (wrap64 (x3_1 + 1))) = some r := by rw [if_neg (show ¬ (false = true) by decide)] at H; exact H
                       clear H
                       have H := H1
                       clear H1
                       as_aux_lemma =>
                        have H' := Aside0.mk H
                        clear H
                        go_wp2
                        go_roundg kj50
                        case measure => have := HK1.out; have := HJ1.out; have := HJ6.out; have := HJ20.out; have := HK5.out; have := HK6.out; have := HJ50.out; omega
                        case rel => exact ⟨(wrap64 (x3_1 + 1)), (by first | rfl | (simp; done) | (simp [*]; done)), H', ⟨by have := HK1.out; have := HJ1.out; have := HJ6.out; have := HJ20.out; have := HK5.out; have := HK6.out; have := HJ50.out; omega⟩, ⟨by repeat (first | (with_reducible first | exact HB.out | apply below_alloc | apply pw_below_drewN | apply below_drew1 | refine below_set ?_ GE740.out) | exact HB.out)⟩⟩
       ·rw [if_neg c6] at H
        exact absurd H (by simp)
      ·rw [if_neg c5] at H
       exact absurd H (by simp)
     ·replace c4 := Bool.eq_false_iff.mpr c4
      subst c4
      have H1 : ((arraslaw7_wakes.f kj1).bind fun t738 => (some t738)) = some r := by rw [if_neg (show ¬ (false = true) by decide)] at H; exact H
      clear H
      have H := H1
      clear H1
      replace H := Option.bind_eq_some_iff.mp H
      obtain ⟨t738, A620, H⟩ := H
      replace H : (some t738) = some r := H
      have A62 := Aside0.mk A620
      clear A620
      as_aux_lemma =>
       obtain rfl := Option.some.inj H
       go_wp2_with (first | ((with_reducible refine gate_callee (f := 63) rfl ?_); refine goesL_ (some 156) rfl rfl Try.func63 (by kernel_rfl) rfl #[] rfl (by (try simp only [List.map_toArray, List.map_cons, List.map_nil]); first | done | rfl | (simp only [List.length_drop, List.length_take]; rfl)) ?_; (with_reducible refine (arraslaw7_wakes.calls kj1  t738 _ A62.out).mono ?_); rintro e w63 ⟨rfl, hb⟩; refine ⟨_, rfl, ?_⟩; have n0_ := Aside0.mk (below_step (by repeat (first | (with_reducible first | exact HB.out | apply below_alloc | apply pw_below_drewN | apply below_drew1) | exact HB.out)) hb); clear HB; have HB := n0_; clear n0_; (try clear hb); (try clear hb2); (try clear hk); (try clear hi)))
       go_ret
       exact ⟨by first | rfl | (simp [errW_none, errW_some] <;> rfl) | (simp [*, errW_none, errW_some] <;> rfl), by repeat (first | (with_reducible first | exact HB.out | apply below_alloc | apply pw_below_drewN | apply below_drew1) | exact HB.out)⟩

end Go.Proofs.Ytpmcojmhkpaoaaa.PA
