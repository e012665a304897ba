-- Printed by this session's wip/myprint.py
import Derived.Test.YtpoohfmddkgndaaPWx0
import Derived.Test.YtpoohfmddkgndaaPWx1
import Derived.Test.YtpoohfmddkgndaaPWx2
import Derived.Test.YtpoohfmddkgndaaPWx3
import Derived.Test.YtpoohfmddkgndaaPWx4
import Derived.Test.YtpoohfmddkgndaaPWx5
import Derived.Test.YtpoohfmddkgndaaPWx6
import Derived.Test.YtpoohfmddkgndaaPWx7
import Derived.Test.YtpoohfmddkgndaaPWx8
namespace Go.Proofs.Ytpoohfmddkgndaa.PW
open Go.RowKit Go.Proofs.YtpoohfmddkgndaaW.PrintWords Go.Proofs.YtpoohfmddkgndaaW.PrintLast Go.Proofs.YtpoohfmddkgndaaW.PrintMore
attribute [local go_sem] max2_int min2_int max_two min_two max_three min_three max_four min_four   -- for this text's walks alone
set_option linter.unusedVariables false
set_option linter.unusedSimpArgs false

/-! ### arraslaw25_SyncWhoms: function 3 -/
set_option maxHeartbeats 8000000 in
set_option maxRecDepth 100000 in
theorem arraslaw25_SyncWhoms.calls (k : Nat) (A0 : Option Addr) (c0 : Nat) (l0 : List (S26)) (r : Bool) (w : World) (hr0 : Kd.C k26 w A0 l0.length l0) (hc0 : l0.length ≤ c0) (h : arraslaw25_SyncWhoms.f k l0 = some r) :
  Calls Try.prog 3 #[.slice A0 l0.length c0] w fun e w' => e = .returned (.bool r) ∧ Below w.heap.size w w' := by
 have hu26 := Try.underlying26
 have HR0 := Aside0.mk hr0
 have HC0 := Aside0.mk hc0
 clear hr0 hc0
 have HB := Aside0.mk (Below.refl w.heap.size w)
 have H : (arraslaw25_SyncWhoms.l0 k l0 0) = some r := h
 clear h
 have H' := Aside0.mk H
 clear H
 go_enter Try.func3, Try.ntmps3
 go_wp2
 go_loopg [3] k (fun kq v3 w' => ∃ (x3_1 : Int), v3 = .int .i64 x3_1 ∧ Aside0 (arraslaw25_SyncWhoms.l0 kq l0 x3_1 = some r) ∧ Aside0 (kq ≤ k) ∧ Aside0 (Below w.heap.size w w'))
 case atStart => exact ⟨(0), (by first | rfl | (simp; done) | (simp [*]; done)), H', ⟨Nat.le_refl _⟩, ⟨by repeat (first | (with_reducible first | exact HB.out | apply below_alloc | apply pw_below_drewN | apply below_drew1) | exact HB.out)⟩⟩
 case round =>
  clear H'
  obtain ⟨x3_1, rfl, HA, HK1, HB⟩ := hrel
  cases gk with
  | zero => exact absurd HA.out (by simp [arraslaw25_SyncWhoms.l0])
  | succ k1 =>
   have H := HA.out
   clear HA
   simp only [arraslaw25_SyncWhoms.l0] at H
   have HC2 := Aside0.mk H
   clear H
   go_upto_region 2 with (fail)
   go_cut [24] (fun v24 wc => ∃ (kq : Nat) (x24_1 : Bool), v24 = .bool x24_1 ∧ Aside0 (arraslaw25_SyncWhoms.j1 kq l0 x3_1 x24_1 = some r) ∧ Aside0 (kq ≤ k1) ∧ Aside0 (Below w.heap.size w wc))
   case first =>
    have H := HC2.out
    clear HC2
    by_cases c3 : x3_1 < (l0.length : Int)
    ·rw [if_pos c3] at H
     have c3b0 : decide (x3_1 < (l0.length : Int)) = true := decide_eq_true c3
     clear c3
     (first | rw [c3b0] | (simp only [i64_w, i32_w]; rw [c3b0]) | skip)
     as_aux_lemma =>
      have H' := Aside0.mk H
      clear H
      go_wp2
      go_meet
      case rel => exact ⟨_, (decide (x3_1 < 10)), (by first | rfl | (simp; done) | (simp [*]; done)), H', ⟨by have := HK1.out; first | omega | exact Nat.le_refl _⟩, ⟨by repeat (first | (with_reducible first | exact HB.out | apply below_alloc | apply pw_below_drewN | apply below_drew1) | exact HB.out)⟩⟩
    ·rw [if_neg c3] at H
     have c3b0 : decide (x3_1 < (l0.length : Int)) = false := decide_eq_false c3
     clear c3
     (first | rw [c3b0] | (simp only [i64_w, i32_w]; rw [c3b0]) | skip)
     as_aux_lemma =>
      have H' := Aside0.mk H
      clear H
      go_wp2
      go_meet
      case rel => exact ⟨_, (false), (by first | rfl | (simp; done) | (simp [*]; done)), H', ⟨by have := HK1.out; first | omega | exact Nat.le_refl _⟩, ⟨by repeat (first | (with_reducible first | exact HB.out | apply below_alloc | apply pw_below_drewN | apply below_drew1) | exact HB.out)⟩⟩
   case rest =>
    clear HC2
    (try clear p2); (try clear c3); (try clear c3b0)
    obtain ⟨kq, x24_1, rfl, HA, HJ1, HB⟩ := hcut
    cases kq with
    | zero => exact absurd HA.out (by simp [arraslaw25_SyncWhoms.j1])
    | succ kj1 =>
     have H := HA.out
     clear HA
     simp only [arraslaw25_SyncWhoms.j1] at H
     by_cases c4 : x24_1 = true
     ·subst c4
      have H1 : (if 0 ≤ x3_1 then (if x3_1 < (l0.length : Int) then ((sync_Whom.f kj1 ((rd_T26 l0 x3_1).f5) ((rd_T26 l0 x3_1).f2) ((rd_T26 l0 x3_1).f4)).bind fun bt110 => ((arrasref25_Reps.f ((rd_T26 l0 x3_1).f2) ((rd_T26 l0 x3_1).f4)).bind fun t113 => (if t113 = true then ((arrasref0_Num.f ((rd_T26 l0 x3_1).f5) (wrap64 (((rd_T26 l0 x3_1).f4) - 1))).bind fun t114 => (arraslaw25_SyncWhoms.j2 kj1 l0 x3_1 bt110.1 bt110.2.1 bt110.2.2 1 0 0 t114 ((rd_T26 l0 x3_1).f0) ((rd_T26 l0 x3_1).f1) ((rd_T26 l0 x3_1).f2) ((rd_T26 l0 x3_1).f3) ((rd_T26 l0 x3_1).f4) ((rd_T26 l0 x3_1).f5))) else (arraslaw25_SyncWhoms.j2 kj1 l0 x3_1 bt110.1 bt110.2.1 bt110.2.2 1 0 0 false ((rd_T26 l0 x3_1).f0) ((rd_T26 l0 x3_1).f1) ((rd_T26 l0 x3_1).f2) ((rd_T26 l0 x3_1).f3) ((rd_T26 l0 x3_1).f4) ((rd_T26 l0 x3_1).f5))))) else (none)) else (none)) = some r := by rw [if_pos rfl] at H; exact H
      clear H
      have H := H1
      clear H1
      by_cases c5 : 0 ≤ x3_1
      ·rw [if_pos c5] at H
       have c5b0 : decide (0 ≤ x3_1) = true := decide_eq_true c5
       clear c5
       by_cases c6 : x3_1 < (l0.length : Int)
       ·rw [if_pos c6] at H
        have c6b0 : decide (x3_1 < (l0.length : Int)) = true := decide_eq_true c6
        clear c6
        replace H := Option.bind_eq_some_iff.mp H
        obtain ⟨⟨t110, t111, t112⟩, A70, H⟩ := H
        (try dsimp only at H)
        have A7 := Aside0.mk A70
        clear A70
        have HC8 := Aside0.mk H
        clear H
        have p108 : 0 ≤ (x3_1 : Int) := of_decide_eq_true (by first | (with_reducible assumption) | assumption)
        have q108 : x3_1 < (l0.length : Int) := of_decide_eq_true (by first | (with_reducible assumption) | assumption)
        obtain ⟨ad108, A108_0, c108_0, A108_1, c108_1, e108, hx108_0, hx108_1, hx108_2, hx108_3, hx108_4, hx108_5, hl108_0, hi108_0, hl108_1, hi108_1⟩ := at_T26 HR0.out x3_1 p108 q108
        cases e108
        replace hx108_0 := (HB.out.cell (World.block_lt_of_cell? w _ hx108_0)).trans hx108_0
        replace hx108_1 := (HB.out.cell (World.block_lt_of_cell? w _ hx108_1)).trans hx108_1
        replace hx108_2 := (HB.out.cell (World.block_lt_of_cell? w _ hx108_2)).trans hx108_2
        replace hx108_3 := (HB.out.cell (World.block_lt_of_cell? w _ hx108_3)).trans hx108_3
        replace hx108_4 := (HB.out.cell (World.block_lt_of_cell? w _ hx108_4)).trans hx108_4
        replace hx108_5 := (HB.out.cell (World.block_lt_of_cell? w _ hx108_5)).trans hx108_5
        have HR108_0 := Aside0.mk hi108_0
        have HC108_0 := Aside0.mk hl108_0
        clear hi108_0 hl108_0
        have HR108_1 := Aside0.mk hi108_1
        have HC108_1 := Aside0.mk hl108_1
        clear hi108_1 hl108_1
        replace p108 := eq_true p108
        replace q108 := eq_true q108
        go_upto_region 7 with (first | ((with_reducible refine gate_dst (N := 4) rfl ?_); refine box_event ?hg (N := 4) ?hd (cs := #[.slice none 0 0, .slice none 0 0, .int .i64 0, .int .i64 0, .int .i64 0, .int .i64 0]) (t := 26) ?hr ?_; (case hd => rfl); (case hg => rfl); (case hr => first | (go_simp; done) | (go_simp; rfl)); intro gb109 hg w9 hbox hb; have n0_ := Aside0.mk (below_step (by repeat (first | (with_reducible first | exact HB.out | apply below_alloc | apply pw_below_drewN | apply below_drew1) | exact HB.out)) hb); have n1_ := Aside0.mk (hbox); have n2_ := Aside0.mk ((by rw [hg]; exact (below_size (by repeat (first | (with_reducible first | exact HB.out | apply below_alloc | apply pw_below_drewN | apply below_drew1) | exact HB.out))) : w.heap.size ≤ gb109)); have n3_ := Aside0.mk ((by rw [hg]; exact (below_size (by repeat (first | (with_reducible first | exact HB.out | apply below_alloc | apply pw_below_drewN | apply below_drew1) | exact HB.out))) : w.heap.size ≤ gb109)); clear HB; have HB := n0_; have BK109 := n1_; have GW109 := n2_; have GE109 := n3_; clear n0_ n1_ n2_ n3_; clear hb hbox hg; have hcz10_0 : w9.cell? ⟨gb109, 0, none⟩ = some (.slice none 0 0) := (blk_cell BK109.out 0).trans rfl; have hcz10_1 : w9.cell? ⟨gb109, 1, none⟩ = some (.slice none 0 0) := (blk_cell BK109.out 1).trans rfl; have hcz10_2 : w9.cell? ⟨gb109, 2, none⟩ = some (.int .i64 0) := (blk_cell BK109.out 2).trans rfl; have hcz10_3 : w9.cell? ⟨gb109, 3, none⟩ = some (.int .i64 0) := (blk_cell BK109.out 3).trans rfl; have hcz10_4 : w9.cell? ⟨gb109, 4, none⟩ = some (.int .i64 0) := (blk_cell BK109.out 4).trans rfl; have hcz10_5 : w9.cell? ⟨gb109, 5, none⟩ = some (.int .i64 0) := (blk_cell BK109.out 5).trans rfl; have hfz10_0 := blk_frozen BK109.out 0; have hfz10_1 := blk_frozen BK109.out 1; have hfz10_2 := blk_frozen BK109.out 2; have hfz10_3 := blk_frozen BK109.out 3; have hfz10_4 := blk_frozen BK109.out 4; have hfz10_5 := blk_frozen BK109.out 5) | ((with_reducible refine gate_callee (f := 17) rfl ?_); refine goesL_ (some 38) rfl rfl Try.func17 (by kernel_rfl) rfl #[.int .i64 ((rd_T26 l0 x3_1).f5), .int .i64 ((rd_T26 l0 x3_1).f2), .int .i64 ((rd_T26 l0 x3_1).f4)] rfl (by (try simp only [List.map_toArray, List.map_cons, List.map_nil]); first | done | rfl | (simp only [List.length_drop, List.length_take]; rfl)) ?_; (with_reducible refine (sync_Whom.calls kj1 ((rd_T26 l0 x3_1).f5) ((rd_T26 l0 x3_1).f2) ((rd_T26 l0 x3_1).f4) t110 t111 t112 _ A7.out).mono ?_); rintro e w' ⟨rfl, ⟨nd, rfl⟩⟩; refine ⟨_, rfl, ?_⟩))
        (try simp only [Act.put, List.setIfInBounds_toArray, List.set_cons_zero, List.set_cons_succ])
        go_cut [54] (fun v54 wc => ∃ (kq : Nat) (x54_7 : Bool), v54 = .bool x54_7 ∧ Aside0 (arraslaw25_SyncWhoms.j2 kq l0 x3_1 t110 t111 t112 1 0 0 x54_7 ((rd_T26 l0 x3_1).f0) ((rd_T26 l0 x3_1).f1) ((rd_T26 l0 x3_1).f2) ((rd_T26 l0 x3_1).f3) ((rd_T26 l0 x3_1).f4) ((rd_T26 l0 x3_1).f5) = some r) ∧ Aside0 (kq ≤ kj1) ∧ Aside0 (wc.heap[gb109]? = some (.cells #[(.slice A108_0 ((rd_T26 l0 x3_1).f0).length c108_0), (.slice A108_1 ((rd_T26 l0 x3_1).f1).length c108_1), .int .i64 ((rd_T26 l0 x3_1).f2), .int .i64 ((rd_T26 l0 x3_1).f3), .int .i64 ((rd_T26 l0 x3_1).f4), .int .i64 ((rd_T26 l0 x3_1).f5)] 26 (0, 0))) ∧ Aside0 (Below w.heap.size w wc))
        case first =>
         generalize hq_ : World.drewN (World.setCell (World.setCell (World.setCell (World.setCell (World.setCell (World.setCell w9 _ _) _ _) _ _) _ _) _ _) _ _) _ = wx
         have n0_ := Aside0.mk (show wx.heap[gb109]? = some (.cells #[(.slice A108_0 ((rd_T26 l0 x3_1).f0).length c108_0), (.slice A108_1 ((rd_T26 l0 x3_1).f1).length c108_1), .int .i64 ((rd_T26 l0 x3_1).f2), .int .i64 ((rd_T26 l0 x3_1).f3), .int .i64 ((rd_T26 l0 x3_1).f4), .int .i64 ((rd_T26 l0 x3_1).f5)] 26 (0, 0)) from by rw [← hq_]; (with_reducible repeat (first | refine blk_drewN ?_ _ | refine blk_drew ?_ | refine blk_alloc ?_ _)); refine blk_put (cs := #[.slice A108_0 ((rd_T26 l0 x3_1).f0).length c108_0, .slice A108_1 ((rd_T26 l0 x3_1).f1).length c108_1, .int .i64 ((rd_T26 l0 x3_1).f2), .int .i64 ((rd_T26 l0 x3_1).f3), .int .i64 ((rd_T26 l0 x3_1).f4), .int .i64 0]) ?_ 5 _ rfl; (with_reducible repeat (first | refine blk_drewN ?_ _ | refine blk_drew ?_ | refine blk_alloc ?_ _)); refine blk_put (cs := #[.slice A108_0 ((rd_T26 l0 x3_1).f0).length c108_0, .slice A108_1 ((rd_T26 l0 x3_1).f1).length c108_1, .int .i64 ((rd_T26 l0 x3_1).f2), .int .i64 ((rd_T26 l0 x3_1).f3), .int .i64 0, .int .i64 0]) ?_ 4 _ rfl; (with_reducible repeat (first | refine blk_drewN ?_ _ | refine blk_drew ?_ | refine blk_alloc ?_ _)); refine blk_put (cs := #[.slice A108_0 ((rd_T26 l0 x3_1).f0).length c108_0, .slice A108_1 ((rd_T26 l0 x3_1).f1).length c108_1, .int .i64 ((rd_T26 l0 x3_1).f2), .int .i64 0, .int .i64 0, .int .i64 0]) ?_ 3 _ rfl; (with_reducible repeat (first | refine blk_drewN ?_ _ | refine blk_drew ?_ | refine blk_alloc ?_ _)); refine blk_put (cs := #[.slice A108_0 ((rd_T26 l0 x3_1).f0).length c108_0, .slice A108_1 ((rd_T26 l0 x3_1).f1).length c108_1, .int .i64 0, .int .i64 0, .int .i64 0, .int .i64 0]) ?_ 2 _ rfl; (with_reducible repeat (first | refine blk_drewN ?_ _ | refine blk_drew ?_ | refine blk_alloc ?_ _)); refine blk_put (cs := #[.slice A108_0 ((rd_T26 l0 x3_1).f0).length c108_0, .slice none 0 0, .int .i64 0, .int .i64 0, .int .i64 0, .int .i64 0]) ?_ 1 _ rfl; (with_reducible repeat (first | refine blk_drewN ?_ _ | refine blk_drew ?_ | refine blk_alloc ?_ _)); refine blk_put (cs := #[.slice none 0 0, .slice none 0 0, .int .i64 0, .int .i64 0, .int .i64 0, .int .i64 0]) ?_ 0 _ rfl; (with_reducible repeat (first | refine blk_drewN ?_ _ | refine blk_drew ?_ | refine blk_alloc ?_ _)); exact BK109.out)
         have n1_ := Aside0.mk (show Below w.heap.size w wx from by rw [← hq_]; repeat (first | (with_reducible first | exact HB.out | apply below_alloc | apply pw_below_drewN | apply below_drew1 | refine below_set ?_ GE109.out) | exact HB.out))
         clear hq_ HB BK109
         have BK109 := n0_
         have HB := n1_
         clear n0_ n1_
         have H := HC8.out
         clear HC8
         replace H := Option.bind_eq_some_iff.mp H
         obtain ⟨t113, A110, H⟩ := H
         (try dsimp only at H)
         have A11 := Aside0.mk A110
         clear A110
         by_cases c12 : t113 = true
         ·subst c12
          have H1 : ((arrasref0_Num.f ((rd_T26 l0 x3_1).f5) (wrap64 (((rd_T26 l0 x3_1).f4) - 1))).bind fun t114 => (arraslaw25_SyncWhoms.j2 kj1 l0 x3_1 t110 t111 t112 1 0 0 t114 ((rd_T26 l0 x3_1).f0) ((rd_T26 l0 x3_1).f1) ((rd_T26 l0 x3_1).f2) ((rd_T26 l0 x3_1).f3) ((rd_T26 l0 x3_1).f4) ((rd_T26 l0 x3_1).f5))) = some r := by rw [if_pos rfl] at H; exact H
          clear H
          have H := H1
          clear H1
          replace H := Option.bind_eq_some_iff.mp H
          obtain ⟨t114, A130, H⟩ := H
          (try dsimp only at H)
          have A13 := Aside0.mk A130
          clear A130
          as_aux_lemma =>
           have H' := Aside0.mk H
           clear H
           have hcz14_0 : wx.cell? ⟨gb109, 0, none⟩ = some (.slice A108_0 ((rd_T26 l0 x3_1).f0).length c108_0) := (blk_cell BK109.out 0).trans rfl
           have hcz14_1 : wx.cell? ⟨gb109, 1, none⟩ = some (.slice A108_1 ((rd_T26 l0 x3_1).f1).length c108_1) := (blk_cell BK109.out 1).trans rfl
           have hcz14_2 : wx.cell? ⟨gb109, 2, none⟩ = some (.int .i64 ((rd_T26 l0 x3_1).f2)) := (blk_cell BK109.out 2).trans rfl
           have hcz14_3 : wx.cell? ⟨gb109, 3, none⟩ = some (.int .i64 ((rd_T26 l0 x3_1).f3)) := (blk_cell BK109.out 3).trans rfl
           have hcz14_4 : wx.cell? ⟨gb109, 4, none⟩ = some (.int .i64 ((rd_T26 l0 x3_1).f4)) := (blk_cell BK109.out 4).trans rfl
           have hcz14_5 : wx.cell? ⟨gb109, 5, none⟩ = some (.int .i64 ((rd_T26 l0 x3_1).f5)) := (blk_cell BK109.out 5).trans rfl
           have hfz14_0 := blk_frozen BK109.out 0
           have hfz14_1 := blk_frozen BK109.out 1
           have hfz14_2 := blk_frozen BK109.out 2
           have hfz14_3 := blk_frozen BK109.out 3
           have hfz14_4 := blk_frozen BK109.out 4
           have hfz14_5 := blk_frozen BK109.out 5
           go_wp2_with (first | ((with_reducible refine gate_callee (f := 18) rfl ?_); refine goesL_ (some 46) rfl rfl Try.func18 (by kernel_rfl) rfl #[.int .i64 ((rd_T26 l0 x3_1).f2), .int .i64 ((rd_T26 l0 x3_1).f4)] rfl (by (try simp only [List.map_toArray, List.map_cons, List.map_nil]); first | done | rfl | (simp only [List.length_drop, List.length_take]; rfl)) ?_; (with_reducible refine (arrasref25_Reps.calls ((rd_T26 l0 x3_1).f2) ((rd_T26 l0 x3_1).f4) true _ A11.out).mono ?_); rintro e w' ⟨rfl, ⟨nd, rfl⟩⟩; refine ⟨_, rfl, ?_⟩) | (go_at_call 19; (with_reducible refine (arrasref0_Num.calls ((rd_T26 l0 x3_1).f5) (wrap64 (((rd_T26 l0 x3_1).f4) - 1)) t114 _ A13.out).mono ?_); rintro e w' ⟨rfl, ⟨nd, rfl⟩⟩))
           go_meet
           case rel => exact ⟨_, (t114), (by first | rfl | (simp; done) | (simp [*]; done)), H', ⟨by have := HK1.out; have := HJ1.out; first | omega | exact Nat.le_refl _⟩, ⟨by (with_reducible repeat (first | refine blk_drewN ?_ _ | refine blk_drew ?_ | refine blk_alloc ?_ _)); exact BK109.out⟩, ⟨by repeat (first | (with_reducible first | exact HB.out | apply below_alloc | apply pw_below_drewN | apply below_drew1 | refine below_set ?_ GE109.out) | exact HB.out)⟩⟩
         ·replace c12 := Bool.eq_false_iff.mpr c12
          subst c12
          have H1 : (arraslaw25_SyncWhoms.j2 kj1 l0 x3_1 t110 t111 t112 1 0 0 false ((rd_T26 l0 x3_1).f0) ((rd_T26 l0 x3_1).f1) ((rd_T26 l0 x3_1).f2) ((rd_T26 l0 x3_1).f3) ((rd_T26 l0 x3_1).f4) ((rd_T26 l0 x3_1).f5)) = some r := by rw [if_neg (show ¬ (false = true) by decide)] at H; exact H
          clear H
          have H := H1
          clear H1
          as_aux_lemma =>
           have H' := Aside0.mk H
           clear H
           have hcz15_0 : wx.cell? ⟨gb109, 0, none⟩ = some (.slice A108_0 ((rd_T26 l0 x3_1).f0).length c108_0) := (blk_cell BK109.out 0).trans rfl
           have hcz15_1 : wx.cell? ⟨gb109, 1, none⟩ = some (.slice A108_1 ((rd_T26 l0 x3_1).f1).length c108_1) := (blk_cell BK109.out 1).trans rfl
           have hcz15_2 : wx.cell? ⟨gb109, 2, none⟩ = some (.int .i64 ((rd_T26 l0 x3_1).f2)) := (blk_cell BK109.out 2).trans rfl
           have hcz15_3 : wx.cell? ⟨gb109, 3, none⟩ = some (.int .i64 ((rd_T26 l0 x3_1).f3)) := (blk_cell BK109.out 3).trans rfl
           have hcz15_4 : wx.cell? ⟨gb109, 4, none⟩ = some (.int .i64 ((rd_T26 l0 x3_1).f4)) := (blk_cell BK109.out 4).trans rfl
           have hcz15_5 : wx.cell? ⟨gb109, 5, none⟩ = some (.int .i64 ((rd_T26 l0 x3_1).f5)) := (blk_cell BK109.out 5).trans rfl
           have hfz15_0 := blk_frozen BK109.out 0
           have hfz15_1 := blk_frozen BK109.out 1
           have hfz15_2 := blk_frozen BK109.out 2
           have hfz15_3 := blk_frozen BK109.out 3
           have hfz15_4 := blk_frozen BK109.out 4
           have hfz15_5 := blk_frozen BK109.out 5
           go_wp2_with (first | ((with_reducible refine gate_callee (f := 18) rfl ?_); refine goesL_ (some 46) rfl rfl Try.func18 (by kernel_rfl) rfl #[.int .i64 ((rd_T26 l0 x3_1).f2), .int .i64 ((rd_T26 l0 x3_1).f4)] rfl (by (try simp only [List.map_toArray, List.map_cons, List.map_nil]); first | done | rfl | (simp only [List.length_drop, List.length_take]; rfl)) ?_; (with_reducible refine (arrasref25_Reps.calls ((rd_T26 l0 x3_1).f2) ((rd_T26 l0 x3_1).f4) false _ A11.out).mono ?_); rintro e w' ⟨rfl, ⟨nd, rfl⟩⟩; refine ⟨_, rfl, ?_⟩))
           go_meet
           case rel => exact ⟨_, (false), (by first | rfl | (simp; done) | (simp [*]; done)), H', ⟨by have := HK1.out; have := HJ1.out; first | omega | exact Nat.le_refl _⟩, ⟨by (with_reducible repeat (first | refine blk_drewN ?_ _ | refine blk_drew ?_ | refine blk_alloc ?_ _)); exact BK109.out⟩, ⟨by repeat (first | (with_reducible first | exact HB.out | apply below_alloc | apply pw_below_drewN | apply below_drew1 | refine below_set ?_ GE109.out) | exact HB.out)⟩⟩
        case rest =>
         clear HC8
         (try clear c1); (try clear p1); (try clear q1); (try clear hx1); (try clear p2); (try clear c3); (try clear c3b0); (try clear c4); (try clear c5); (try clear c5b0); (try clear c6); (try clear c6b0); (try clear p6); (try clear c10); (try clear p10); (try clear q10); (try clear hx10); (try clear c12); (try clear hcz10_0); (try clear hcz10_1); (try clear hcz10_2); (try clear hcz10_3); (try clear hcz10_4); (try clear hcz10_5); (try clear hcz14_0); (try clear hcz14_1); (try clear hcz14_2); (try clear hcz14_3); (try clear hcz14_4); (try clear hcz14_5); (try clear hcz15_0); (try clear hcz15_1); (try clear hcz15_2); (try clear hcz15_3); (try clear hcz15_4); (try clear hcz15_5); (try clear hfz10_0); (try clear hfz10_1); (try clear hfz10_2); (try clear hfz10_3); (try clear hfz10_4); (try clear hfz10_5); (try clear hfz14_0); (try clear hfz14_1); (try clear hfz14_2); (try clear hfz14_3); (try clear hfz14_4); (try clear hfz14_5); (try clear hfz15_0); (try clear hfz15_1); (try clear hfz15_2); (try clear hfz15_3); (try clear hfz15_4); (try clear hfz15_5); (try clear hx108_0); (try clear hx108_1); (try clear hx108_2); (try clear hx108_3); (try clear hx108_4); (try clear hx108_5); (try clear p108); (try clear p2); (try clear q108)
         obtain ⟨kq, x54_7, rfl, HA, HJ7, BK109, HB⟩ := hcut
         cases kq with
         | zero => exact absurd HA.out (by simp [arraslaw25_SyncWhoms.j2])
         | succ kj7 =>
          have H := HA.out
          clear HA
          simp only [arraslaw25_SyncWhoms.j2] at H
          have HC16 := Aside0.mk H
          clear H
          go_upto_if 54 with (fail)
          go_cut [8, 9, 10] (fun v8 v9 v10 wc => ∃ (kq : Nat) (x8_15 : Int) (x9_15 : Int) (x10_15 : Int), v8 = .int .i64 x8_15 ∧ v9 = .int .i64 x9_15 ∧ v10 = .int .i64 x10_15 ∧ Aside0 (arraslaw25_SyncWhoms.j3 kq l0 x3_1 t110 t111 t112 x8_15 x9_15 x10_15 ((rd_T26 l0 x3_1).f0) ((rd_T26 l0 x3_1).f1) ((rd_T26 l0 x3_1).f2) ((rd_T26 l0 x3_1).f3) ((rd_T26 l0 x3_1).f4) ((rd_T26 l0 x3_1).f5) = some r) ∧ Aside0 (kq ≤ kj7) ∧ Aside0 (wc.heap[gb109]? = some (.cells #[(.slice A108_0 ((rd_T26 l0 x3_1).f0).length c108_0), (.slice A108_1 ((rd_T26 l0 x3_1).f1).length c108_1), .int .i64 ((rd_T26 l0 x3_1).f2), .int .i64 ((rd_T26 l0 x3_1).f3), .int .i64 ((rd_T26 l0 x3_1).f4), .int .i64 ((rd_T26 l0 x3_1).f5)] 26 (0, 0))) ∧ Aside0 (Below w.heap.size w wc))
          case first =>
           have H := HC16.out
           clear HC16
           by_cases c17 : x54_7 = true
           ·subst c17
            have H1 : (if ((rd_T26 l0 x3_1).f4) > 1 then ((arrasref25_Whom.f ((rd_T26 l0 x3_1).f5) ((rd_T26 l0 x3_1).f2) ((rd_T26 l0 x3_1).f4)).bind fun bt115 => (arraslaw25_SyncWhoms.j3 kj7 l0 x3_1 t110 t111 t112 0 bt115.1 bt115.2 ((rd_T26 l0 x3_1).f0) ((rd_T26 l0 x3_1).f1) ((rd_T26 l0 x3_1).f2) ((rd_T26 l0 x3_1).f3) ((rd_T26 l0 x3_1).f4) ((rd_T26 l0 x3_1).f5))) else (arraslaw25_SyncWhoms.j3 kj7 l0 x3_1 t110 t111 t112 3 0 0 ((rd_T26 l0 x3_1).f0) ((rd_T26 l0 x3_1).f1) ((rd_T26 l0 x3_1).f2) ((rd_T26 l0 x3_1).f3) ((rd_T26 l0 x3_1).f4) ((rd_T26 l0 x3_1).f5))) = some r := by rw [if_pos rfl] at H; exact H
            clear H
            have H := H1
            clear H1
            by_cases c18 : ((rd_T26 l0 x3_1).f4) > 1
            ·rw [if_pos c18] at H
             have c18b0 : decide (1 < ((rd_T26 l0 x3_1).f4)) = true := decide_eq_true c18
             clear c18
             (first | rw [c18b0] | (simp only [i64_w, i32_w]; rw [c18b0]) | skip)
             replace H := Option.bind_eq_some_iff.mp H
             obtain ⟨⟨t115, t116⟩, A190, H⟩ := H
             (try dsimp only at H)
             have A19 := Aside0.mk A190
             clear A190
             as_aux_lemma =>
              have H' := Aside0.mk H
              clear H
              have hcz20_0 : wc.cell? ⟨gb109, 0, none⟩ = some (.slice A108_0 ((rd_T26 l0 x3_1).f0).length c108_0) := (blk_cell BK109.out 0).trans rfl
              have hcz20_1 : wc.cell? ⟨gb109, 1, none⟩ = some (.slice A108_1 ((rd_T26 l0 x3_1).f1).length c108_1) := (blk_cell BK109.out 1).trans rfl
              have hcz20_2 : wc.cell? ⟨gb109, 2, none⟩ = some (.int .i64 ((rd_T26 l0 x3_1).f2)) := (blk_cell BK109.out 2).trans rfl
              have hcz20_3 : wc.cell? ⟨gb109, 3, none⟩ = some (.int .i64 ((rd_T26 l0 x3_1).f3)) := (blk_cell BK109.out 3).trans rfl
              have hcz20_4 : wc.cell? ⟨gb109, 4, none⟩ = some (.int .i64 ((rd_T26 l0 x3_1).f4)) := (blk_cell BK109.out 4).trans rfl
              have hcz20_5 : wc.cell? ⟨gb109, 5, none⟩ = some (.int .i64 ((rd_T26 l0 x3_1).f5)) := (blk_cell BK109.out 5).trans rfl
              have hfz20_0 := blk_frozen BK109.out 0
              have hfz20_1 := blk_frozen BK109.out 1
              have hfz20_2 := blk_frozen BK109.out 2
              have hfz20_3 := blk_frozen BK109.out 3
              have hfz20_4 := blk_frozen BK109.out 4
              have hfz20_5 := blk_frozen BK109.out 5
              go_wp2_with (first | ((with_reducible refine gate_callee (f := 20) rfl ?_); refine goesL_ (some 65) rfl rfl Try.func20 (by kernel_rfl) rfl #[.int .i64 ((rd_T26 l0 x3_1).f5), .int .i64 ((rd_T26 l0 x3_1).f2), .int .i64 ((rd_T26 l0 x3_1).f4)] rfl (by (try simp only [List.map_toArray, List.map_cons, List.map_nil]); first | done | rfl | (simp only [List.length_drop, List.length_take]; rfl)) ?_; (with_reducible refine (arrasref25_Whom.calls ((rd_T26 l0 x3_1).f5) ((rd_T26 l0 x3_1).f2) ((rd_T26 l0 x3_1).f4) t115 t116 _ A19.out).mono ?_); rintro e w' ⟨rfl, ⟨nd, rfl⟩⟩; refine ⟨_, rfl, ?_⟩))
              go_meet
              case rel => exact ⟨_, (0), (t115), (t116), (by first | rfl | (simp; done) | (simp [*]; done)), (by first | rfl | (simp; done) | (simp [*]; done)), (by first | rfl | (simp; done) | (simp [*]; done)), H', ⟨by have := HK1.out; have := HJ1.out; have := HJ7.out; first | omega | exact Nat.le_refl _⟩, ⟨by (with_reducible repeat (first | refine blk_drewN ?_ _ | refine blk_drew ?_ | refine blk_alloc ?_ _)); exact BK109.out⟩, ⟨by repeat (first | (with_reducible first | exact HB.out | apply below_alloc | apply pw_below_drewN | apply below_drew1 | refine below_set ?_ GE109.out) | exact HB.out)⟩⟩
            ·rw [if_neg c18] at H
             have c18b0 : decide (1 < ((rd_T26 l0 x3_1).f4)) = false := decide_eq_false c18
             clear c18
             (first | rw [c18b0] | (simp only [i64_w, i32_w]; rw [c18b0]) | skip)
             as_aux_lemma =>
              have H' := Aside0.mk H
              clear H
              have hcz21_0 : wc.cell? ⟨gb109, 0, none⟩ = some (.slice A108_0 ((rd_T26 l0 x3_1).f0).length c108_0) := (blk_cell BK109.out 0).trans rfl
              have hcz21_1 : wc.cell? ⟨gb109, 1, none⟩ = some (.slice A108_1 ((rd_T26 l0 x3_1).f1).length c108_1) := (blk_cell BK109.out 1).trans rfl
              have hcz21_2 : wc.cell? ⟨gb109, 2, none⟩ = some (.int .i64 ((rd_T26 l0 x3_1).f2)) := (blk_cell BK109.out 2).trans rfl
              have hcz21_3 : wc.cell? ⟨gb109, 3, none⟩ = some (.int .i64 ((rd_T26 l0 x3_1).f3)) := (blk_cell BK109.out 3).trans rfl
              have hcz21_4 : wc.cell? ⟨gb109, 4, none⟩ = some (.int .i64 ((rd_T26 l0 x3_1).f4)) := (blk_cell BK109.out 4).trans rfl
              have hcz21_5 : wc.cell? ⟨gb109, 5, none⟩ = some (.int .i64 ((rd_T26 l0 x3_1).f5)) := (blk_cell BK109.out 5).trans rfl
              have hfz21_0 := blk_frozen BK109.out 0
              have hfz21_1 := blk_frozen BK109.out 1
              have hfz21_2 := blk_frozen BK109.out 2
              have hfz21_3 := blk_frozen BK109.out 3
              have hfz21_4 := blk_frozen BK109.out 4
              have hfz21_5 := blk_frozen BK109.out 5
              go_wp2
              go_meet
              case rel => exact ⟨_, (3), (0), (0), (by first | rfl | (simp; done) | (simp [*]; done)), (by first | rfl | (simp; done) | (simp [*]; done)), (by first | rfl | (simp; done) | (simp [*]; done)), H', ⟨by have := HK1.out; have := HJ1.out; have := HJ7.out; first | omega | exact Nat.le_refl _⟩, ⟨by (with_reducible repeat (first | refine blk_drewN ?_ _ | refine blk_drew ?_ | refine blk_alloc ?_ _)); exact BK109.out⟩, ⟨by repeat (first | (with_reducible first | exact HB.out | apply below_alloc | apply pw_below_drewN | apply below_drew1 | refine below_set ?_ GE109.out) | exact HB.out)⟩⟩
           ·replace c17 := Bool.eq_false_iff.mpr c17
            subst c17
            have H1 : (arraslaw25_SyncWhoms.j3 kj7 l0 x3_1 t110 t111 t112 1 0 0 ((rd_T26 l0 x3_1).f0) ((rd_T26 l0 x3_1).f1) ((rd_T26 l0 x3_1).f2) ((rd_T26 l0 x3_1).f3) ((rd_T26 l0 x3_1).f4) ((rd_T26 l0 x3_1).f5)) = some r := by rw [if_neg (show ¬ (false = true) by decide)] at H; exact H
            clear H
            have H := H1
            clear H1
            as_aux_lemma =>
             have H' := Aside0.mk H
             clear H
             go_wp2
             go_meet
             case rel => exact ⟨_, (1), (0), (0), (by first | rfl | (simp; done) | (simp [*]; done)), (by first | rfl | (simp; done) | (simp [*]; done)), (by first | rfl | (simp; done) | (simp [*]; done)), H', ⟨by have := HK1.out; have := HJ1.out; have := HJ7.out; first | omega | exact Nat.le_refl _⟩, ⟨by (with_reducible repeat (first | refine blk_drewN ?_ _ | refine blk_drew ?_ | refine blk_alloc ?_ _)); exact BK109.out⟩, ⟨by repeat (first | (with_reducible first | exact HB.out | apply below_alloc | apply pw_below_drewN | apply below_drew1 | refine below_set ?_ GE109.out) | exact HB.out)⟩⟩
          case rest =>
           clear HC16
           (try clear c1); (try clear p1); (try clear q1); (try clear hx1); (try clear c2); (try clear p2); (try clear c3); (try clear c3b0); (try clear c4); (try clear c5); (try clear c5b0); (try clear c6); (try clear c6b0); (try clear p6); (try clear c10); (try clear p10); (try clear q10); (try clear hx10); (try clear c12); (try clear c17); (try clear c18); (try clear c18b0); (try clear c20); (try clear hcz10_0); (try clear hcz10_1); (try clear hcz10_2); (try clear hcz10_3); (try clear hcz10_4); (try clear hcz10_5); (try clear hcz14_0); (try clear hcz14_1); (try clear hcz14_2); (try clear hcz14_3); (try clear hcz14_4); (try clear hcz14_5); (try clear hcz15_0); (try clear hcz15_1); (try clear hcz15_2); (try clear hcz15_3); (try clear hcz15_4); (try clear hcz15_5); (try clear hcz20_0); (try clear hcz20_1); (try clear hcz20_2); (try clear hcz20_3); (try clear hcz20_4); (try clear hcz20_5); (try clear hcz21_0); (try clear hcz21_1); (try clear hcz21_2); (try clear hcz21_3); (try clear hcz21_4); (try clear hcz21_5); (try clear hfz10_0); (try clear hfz10_1); (try clear hfz10_2); (try clear hfz10_3); (try clear hfz10_4); (try clear hfz10_5); (try clear hfz14_0); (try clear hfz14_1); (try clear hfz14_2); (try clear hfz14_3); (try clear hfz14_4); (try clear hfz14_5); (try clear hfz15_0); (try clear hfz15_1); (try clear hfz15_2); (try clear hfz15_3); (try clear hfz15_4); (try clear hfz15_5); (try clear hfz20_0); (try clear hfz20_1); (try clear hfz20_2); (try clear hfz20_3); (try clear hfz20_4); (try clear hfz20_5); (try clear hfz21_0); (try clear hfz21_1); (try clear hfz21_2); (try clear hfz21_3); (try clear hfz21_4); (try clear hfz21_5); (try clear hx108_0); (try clear hx108_1); (try clear hx108_2); (try clear hx108_3); (try clear hx108_4); (try clear hx108_5); (try clear p1); (try clear p10); (try clear p108); (try clear p2); (try clear p6); (try clear q1); (try clear q10); (try clear q108)
           obtain ⟨kq, x8_15, x9_15, x10_15, rfl, rfl, rfl, HA, HJ15, BK109, HB⟩ := hcut
           cases kq with
           | zero => exact absurd HA.out (by simp [arraslaw25_SyncWhoms.j3])
           | succ kj15 =>
            have H := HA.out
            clear HA
            simp only [arraslaw25_SyncWhoms.j3] at H
            have HC22 := Aside0.mk H
            clear H
            go_upto_region 12 with (fail)
            go_cut [81] (fun v81 wc => ∃ (kq : Nat) (x81_21 : Bool), v81 = .bool x81_21 ∧ Aside0 (arraslaw25_SyncWhoms.j4 kq l0 x3_1 x8_15 x81_21 ((rd_T26 l0 x3_1).f0) ((rd_T26 l0 x3_1).f1) ((rd_T26 l0 x3_1).f2) ((rd_T26 l0 x3_1).f3) ((rd_T26 l0 x3_1).f4) ((rd_T26 l0 x3_1).f5) = some r) ∧ Aside0 (kq ≤ kj15) ∧ Aside0 (wc.heap[gb109]? = some (.cells #[(.slice A108_0 ((rd_T26 l0 x3_1).f0).length c108_0), (.slice A108_1 ((rd_T26 l0 x3_1).f1).length c108_1), .int .i64 ((rd_T26 l0 x3_1).f2), .int .i64 ((rd_T26 l0 x3_1).f3), .int .i64 ((rd_T26 l0 x3_1).f4), .int .i64 ((rd_T26 l0 x3_1).f5)] 26 (0, 0))) ∧ Aside0 (Below w.heap.size w wc))
            case first =>
             have H := HC22.out
             clear HC22
             replace H := Option.bind_eq_some_iff.mp H
             obtain ⟨t117, A230, H⟩ := H
             (try dsimp only at H)
             have A23 := Aside0.mk A230
             clear A230
             by_cases c24 : t117 = x8_15
             ·rw [if_pos c24] at H
              have c24b0 : (t117 == x8_15) = true := beq_iff_eq.mpr c24
              have c24b1 : (t117 != x8_15) = false := bne_eq_false_iff_eq.mpr c24
              clear c24
              (first | rw [c24b0] | (simp only [i64_w, i32_w]; rw [c24b0]) | skip)
              by_cases c25 : t110 = x9_15
              ·rw [if_pos c25] at H
               have c25b0 : (t110 == x9_15) = true := beq_iff_eq.mpr c25
               have c25b1 : (t110 != x9_15) = false := bne_eq_false_iff_eq.mpr c25
               clear c25
               as_aux_lemma =>
                have H' := Aside0.mk H
                clear H
                go_wp2_with (first | ((with_reducible refine gate_callee (f := 21) rfl ?_); refine goesL_ (some 69) rfl rfl Try.func21 (by kernel_rfl) rfl #[.int .i64 t112] rfl (by (try simp only [List.map_toArray, List.map_cons, List.map_nil]); first | done | rfl | (simp only [List.length_drop, List.length_take]; rfl)) ?_; (with_reducible refine (arraslaw25_num.calls t112 t117 _ A23.out).mono ?_); rintro e w' ⟨rfl, ⟨nd, rfl⟩⟩; refine ⟨_, rfl, ?_⟩))
                go_meet
                case rel => exact ⟨_, ((t111 != x10_15)), (by first | rfl | (simp; done) | (simp [*]; done)), H', ⟨by have := HK1.out; have := HJ1.out; have := HJ7.out; have := HJ15.out; first | omega | exact Nat.le_refl _⟩, ⟨by (with_reducible repeat (first | refine blk_drewN ?_ _ | refine blk_drew ?_ | refine blk_alloc ?_ _)); exact BK109.out⟩, ⟨by repeat (first | (with_reducible first | exact HB.out | apply below_alloc | apply pw_below_drewN | apply below_drew1 | refine below_set ?_ GE109.out) | exact HB.out)⟩⟩
              ·rw [if_neg c25] at H
               have c25b0 : (t110 == x9_15) = false := beq_eq_false_iff_ne.mpr c25
               have c25b1 : (t110 != x9_15) = true := bne_iff_ne.mpr c25
               as_aux_lemma =>
                have H' := Aside0.mk H
                clear H
                go_wp2_with (first | ((with_reducible refine gate_callee (f := 21) rfl ?_); refine goesL_ (some 69) rfl rfl Try.func21 (by kernel_rfl) rfl #[.int .i64 t112] rfl (by (try simp only [List.map_toArray, List.map_cons, List.map_nil]); first | done | rfl | (simp only [List.length_drop, List.length_take]; rfl)) ?_; (with_reducible refine (arraslaw25_num.calls t112 t117 _ A23.out).mono ?_); rintro e w' ⟨rfl, ⟨nd, rfl⟩⟩; refine ⟨_, rfl, ?_⟩))
                go_meet
                case rel => exact ⟨_, (true), (by first | rfl | (simp; done) | (simp [*]; done)), H', ⟨by have := HK1.out; have := HJ1.out; have := HJ7.out; have := HJ15.out; first | omega | exact Nat.le_refl _⟩, ⟨by (with_reducible repeat (first | refine blk_drewN ?_ _ | refine blk_drew ?_ | refine blk_alloc ?_ _)); exact BK109.out⟩, ⟨by repeat (first | (with_reducible first | exact HB.out | apply below_alloc | apply pw_below_drewN | apply below_drew1 | refine below_set ?_ GE109.out) | exact HB.out)⟩⟩
             ·rw [if_neg c24] at H
              have c24b0 : (t117 == x8_15) = false := beq_eq_false_iff_ne.mpr c24
              have c24b1 : (t117 != x8_15) = true := bne_iff_ne.mpr c24
              (first | rw [c24b0] | (simp only [i64_w, i32_w]; rw [c24b0]) | skip)
              as_aux_lemma =>
               have H' := Aside0.mk H
               clear H
               go_wp2_with (first | ((with_reducible refine gate_callee (f := 21) rfl ?_); refine goesL_ (some 69) rfl rfl Try.func21 (by kernel_rfl) rfl #[.int .i64 t112] rfl (by (try simp only [List.map_toArray, List.map_cons, List.map_nil]); first | done | rfl | (simp only [List.length_drop, List.length_take]; rfl)) ?_; (with_reducible refine (arraslaw25_num.calls t112 t117 _ A23.out).mono ?_); rintro e w' ⟨rfl, ⟨nd, rfl⟩⟩; refine ⟨_, rfl, ?_⟩))
               go_meet
               case rel => exact ⟨_, (true), (by first | rfl | (simp; done) | (simp [*]; done)), H', ⟨by have := HK1.out; have := HJ1.out; have := HJ7.out; have := HJ15.out; first | omega | exact Nat.le_refl _⟩, ⟨by (with_reducible repeat (first | refine blk_drewN ?_ _ | refine blk_drew ?_ | refine blk_alloc ?_ _)); exact BK109.out⟩, ⟨by repeat (first | (with_reducible first | exact HB.out | apply below_alloc | apply pw_below_drewN | apply below_drew1 | refine below_set ?_ GE109.out) | exact HB.out)⟩⟩
            case rest =>
             clear HC22
             (try clear c1); (try clear p1); (try clear q1); (try clear hx1); (try clear c2); (try clear p2); (try clear c3); (try clear c3b0); (try clear c4); (try clear c5); (try clear c5b0); (try clear c6); (try clear c6b0); (try clear p6); (try clear c10); (try clear p10); (try clear q10); (try clear hx10); (try clear c12); (try clear c17); (try clear c18); (try clear c18b0); (try clear c20); (try clear c21); (try clear c24); (try clear c24b0); (try clear c24b1); (try clear c25); (try clear c25b0); (try clear c25b1); (try clear hcz10_0); (try clear hcz10_1); (try clear hcz10_2); (try clear hcz10_3); (try clear hcz10_4); (try clear hcz10_5); (try clear hcz14_0); (try clear hcz14_1); (try clear hcz14_2); (try clear hcz14_3); (try clear hcz14_4); (try clear hcz14_5); (try clear hcz15_0); (try clear hcz15_1); (try clear hcz15_2); (try clear hcz15_3); (try clear hcz15_4); (try clear hcz15_5); (try clear hcz20_0); (try clear hcz20_1); (try clear hcz20_2); (try clear hcz20_3); (try clear hcz20_4); (try clear hcz20_5); (try clear hcz21_0); (try clear hcz21_1); (try clear hcz21_2); (try clear hcz21_3); (try clear hcz21_4); (try clear hcz21_5); (try clear hfz10_0); (try clear hfz10_1); (try clear hfz10_2); (try clear hfz10_3); (try clear hfz10_4); (try clear hfz10_5); (try clear hfz14_0); (try clear hfz14_1); (try clear hfz14_2); (try clear hfz14_3); (try clear hfz14_4); (try clear hfz14_5); (try clear hfz15_0); (try clear hfz15_1); (try clear hfz15_2); (try clear hfz15_3); (try clear hfz15_4); (try clear hfz15_5); (try clear hfz20_0); (try clear hfz20_1); (try clear hfz20_2); (try clear hfz20_3); (try clear hfz20_4); (try clear hfz20_5); (try clear hfz21_0); (try clear hfz21_1); (try clear hfz21_2); (try clear hfz21_3); (try clear hfz21_4); (try clear hfz21_5); (try clear hx108_0); (try clear hx108_1); (try clear hx108_2); (try clear hx108_3); (try clear hx108_4); (try clear hx108_5); (try clear p1); (try clear p10); (try clear p108); (try clear p2); (try clear p6); (try clear q1); (try clear q10); (try clear q108)
             obtain ⟨kq, x81_21, rfl, HA, HJ21, BK109, HB⟩ := hcut
             cases kq with
             | zero => exact absurd HA.out (by simp [arraslaw25_SyncWhoms.j4])
             | succ kj21 =>
              have H := HA.out
              clear HA
              simp only [arraslaw25_SyncWhoms.j4] at H
              by_cases c26 : x81_21 = true
              ·subst c26
               have H1 : (some false) = some r := by rw [if_pos rfl] at H; exact H
               clear H
               have H := H1
               clear H1
               as_aux_lemma =>
                obtain rfl := Option.some.inj H
                go_wp2
                go_ret
                exact ⟨by first | rfl | (simp [errW_none, errW_some] <;> rfl) | (simp [*, errW_none, errW_some] <;> rfl), by repeat (first | (with_reducible first | exact HB.out | apply below_alloc | apply pw_below_drewN | apply below_drew1 | refine below_set ?_ GE109.out) | exact HB.out)⟩
              ·replace c26 := Bool.eq_false_iff.mpr c26
               subst c26
               have H1 : (if x8_15 = 0 then (arraslaw25_SyncWhoms.l1 kj21 l0 x3_1 ([] : List Int) ((rd_T26 l0 x3_1).f5) 0 ((rd_T26 l0 x3_1).f0) ((rd_T26 l0 x3_1).f1) ((rd_T26 l0 x3_1).f2) ((rd_T26 l0 x3_1).f3) ((rd_T26 l0 x3_1).f4) ((rd_T26 l0 x3_1).f5)) else (arraslaw25_SyncWhoms.l0 kj21 l0 (wrap64 (x3_1 + 1)))) = some r := by rw [if_neg (show ¬ (false = true) by decide)] at H; exact H
               clear H
               have H := H1
               clear H1
               by_cases c27 : x8_15 = 0
               ·rw [if_pos c27] at H
                have c27b0 : (x8_15 == 0) = true := beq_iff_eq.mpr c27
                have c27b1 : (x8_15 != 0) = false := bne_eq_false_iff_eq.mpr c27
                clear c27
                have H' := Aside0.mk H
                clear H
                have hcz28_0 : wc.cell? ⟨gb109, 0, none⟩ = some (.slice A108_0 ((rd_T26 l0 x3_1).f0).length c108_0) := (blk_cell BK109.out 0).trans rfl
                have hcz28_1 : wc.cell? ⟨gb109, 1, none⟩ = some (.slice A108_1 ((rd_T26 l0 x3_1).f1).length c108_1) := (blk_cell BK109.out 1).trans rfl
                have hcz28_2 : wc.cell? ⟨gb109, 2, none⟩ = some (.int .i64 ((rd_T26 l0 x3_1).f2)) := (blk_cell BK109.out 2).trans rfl
                have hcz28_3 : wc.cell? ⟨gb109, 3, none⟩ = some (.int .i64 ((rd_T26 l0 x3_1).f3)) := (blk_cell BK109.out 3).trans rfl
                have hcz28_4 : wc.cell? ⟨gb109, 4, none⟩ = some (.int .i64 ((rd_T26 l0 x3_1).f4)) := (blk_cell BK109.out 4).trans rfl
                have hcz28_5 : wc.cell? ⟨gb109, 5, none⟩ = some (.int .i64 ((rd_T26 l0 x3_1).f5)) := (blk_cell BK109.out 5).trans rfl
                have hfz28_0 := blk_frozen BK109.out 0
                have hfz28_1 := blk_frozen BK109.out 1
                have hfz28_2 := blk_frozen BK109.out 2
                have hfz28_3 := blk_frozen BK109.out 3
                have hfz28_4 := blk_frozen BK109.out 4
                have hfz28_5 := blk_frozen BK109.out 5
                go_wp2
                go_loopg [11, 12, 13] kj21 (fun kq v11 v12 v13 w' => ∃ (x11_6 : List Int) (x12_6 : Int) (x13_6 : Int), v12 = .int .i64 x12_6 ∧ v13 = .int .i64 x13_6 ∧ Aside0 (arraslaw25_SyncWhoms.l1 kq l0 x3_1 x11_6 x12_6 x13_6 ((rd_T26 l0 x3_1).f0) ((rd_T26 l0 x3_1).f1) ((rd_T26 l0 x3_1).f2) ((rd_T26 l0 x3_1).f3) ((rd_T26 l0 x3_1).f4) ((rd_T26 l0 x3_1).f5) = some r) ∧ Aside0 (kq ≤ kj21) ∧ Aside0 (Kd.R (Kd.int .i64) 3 w' w.heap.size (fun _ => True) v11 x11_6) ∧ Aside0 (w'.heap[gb109]? = some (.cells #[(.slice A108_0 ((rd_T26 l0 x3_1).f0).length c108_0), (.slice A108_1 ((rd_T26 l0 x3_1).f1).length c108_1), .int .i64 ((rd_T26 l0 x3_1).f2), .int .i64 ((rd_T26 l0 x3_1).f3), .int .i64 ((rd_T26 l0 x3_1).f4), .int .i64 ((rd_T26 l0 x3_1).f5)] 26 (0, 0))) ∧ Aside0 (Below w.heap.size w w'))
                case atStart => exact ⟨(([] : List Int)), (((rd_T26 l0 x3_1).f5)), (0), (by first | rfl | (simp; done) | (simp [*]; done)), (by first | rfl | (simp; done) | (simp [*]; done)), H', ⟨Nat.le_refl _⟩, ⟨by first | exact Kd.R_nil _ _ _ _ _ | exact Kd.N_nil _ _ _ _ _ | exact Kd.V_nil _ _ _ _ _ | exact Kd.Q_nil _ _ _ _ _ | exact Kd.S_nil _ _ _ _ _⟩, ⟨by (with_reducible repeat (first | refine blk_drewN ?_ _ | refine blk_drew ?_ | refine blk_alloc ?_ _)); exact BK109.out⟩, ⟨by repeat (first | (with_reducible first | exact HB.out | apply below_alloc | apply pw_below_drewN | apply below_drew1 | refine below_set ?_ GE109.out) | exact HB.out)⟩⟩
                case round =>
                 clear H'
                 (try clear c1); (try clear p1); (try clear q1); (try clear hx1); (try clear c2); (try clear p2); (try clear c3); (try clear c3b0); (try clear c4); (try clear c5); (try clear c5b0); (try clear c6); (try clear c6b0); (try clear p6); (try clear c10); (try clear p10); (try clear q10); (try clear hx10); (try clear c12); (try clear c17); (try clear c18); (try clear c18b0); (try clear c20); (try clear c21); (try clear c24); (try clear c24b0); (try clear c24b1); (try clear c25); (try clear c25b0); (try clear c25b1); (try clear c26); (try clear c27); (try clear c27b0); (try clear c27b1); (try clear hcz10_0); (try clear hcz10_1); (try clear hcz10_2); (try clear hcz10_3); (try clear hcz10_4); (try clear hcz10_5); (try clear hcz14_0); (try clear hcz14_1); (try clear hcz14_2); (try clear hcz14_3); (try clear hcz14_4); (try clear hcz14_5); (try clear hcz15_0); (try clear hcz15_1); (try clear hcz15_2); (try clear hcz15_3); (try clear hcz15_4); (try clear hcz15_5); (try clear hcz20_0); (try clear hcz20_1); (try clear hcz20_2); (try clear hcz20_3); (try clear hcz20_4); (try clear hcz20_5); (try clear hcz21_0); (try clear hcz21_1); (try clear hcz21_2); (try clear hcz21_3); (try clear hcz21_4); (try clear hcz21_5); (try clear hcz28_0); (try clear hcz28_1); (try clear hcz28_2); (try clear hcz28_3); (try clear hcz28_4); (try clear hcz28_5); (try clear hfz10_0); (try clear hfz10_1); (try clear hfz10_2); (try clear hfz10_3); (try clear hfz10_4); (try clear hfz10_5); (try clear hfz14_0); (try clear hfz14_1); (try clear hfz14_2); (try clear hfz14_3); (try clear hfz14_4); (try clear hfz14_5); (try clear hfz15_0); (try clear hfz15_1); (try clear hfz15_2); (try clear hfz15_3); (try clear hfz15_4); (try clear hfz15_5); (try clear hfz20_0); (try clear hfz20_1); (try clear hfz20_2); (try clear hfz20_3); (try clear hfz20_4); (try clear hfz20_5); (try clear hfz21_0); (try clear hfz21_1); (try clear hfz21_2); (try clear hfz21_3); (try clear hfz21_4); (try clear hfz21_5); (try clear hfz28_0); (try clear hfz28_1); (try clear hfz28_2); (try clear hfz28_3); (try clear hfz28_4); (try clear hfz28_5); (try clear hx108_0); (try clear hx108_1); (try clear hx108_2); (try clear hx108_3); (try clear hx108_4); (try clear hx108_5); (try clear p1); (try clear p10); (try clear p108); (try clear p2); (try clear p6); (try clear q1); (try clear q10); (try clear q108)
                 obtain ⟨x11_6, x12_6, x13_6, rfl, rfl, HA, HK6, HO_11, BK109, HB⟩ := hrel
                 cases gk with
                 | zero => exact absurd HA.out (by simp [arraslaw25_SyncWhoms.l1])
                 | succ k6 =>
                  have H := HA.out
                  clear HA
                  simp only [arraslaw25_SyncWhoms.l1] at H
                  by_cases c29 : x13_6 < (wrap64 (((rd_T26 l0 x3_1).f4) - 1))
                  ·rw [if_pos c29] at H
                   have c29b0 : decide (x13_6 < (wrap64 (((rd_T26 l0 x3_1).f4) - 1))) = true := decide_eq_true c29
                   clear c29
                   replace H := Option.bind_eq_some_iff.mp H
                   obtain ⟨⟨t118, t119, t120⟩, A300, H⟩ := H
                   (try dsimp only at H)
                   have A30 := Aside0.mk A300
                   clear A300
                   have HC31 := Aside0.mk H
                   clear H
                   have hcz32_0 : wr.cell? ⟨gb109, 0, none⟩ = some (.slice A108_0 ((rd_T26 l0 x3_1).f0).length c108_0) := (blk_cell BK109.out 0).trans rfl
                   have hcz32_1 : wr.cell? ⟨gb109, 1, none⟩ = some (.slice A108_1 ((rd_T26 l0 x3_1).f1).length c108_1) := (blk_cell BK109.out 1).trans rfl
                   have hcz32_2 : wr.cell? ⟨gb109, 2, none⟩ = some (.int .i64 ((rd_T26 l0 x3_1).f2)) := (blk_cell BK109.out 2).trans rfl
                   have hcz32_3 : wr.cell? ⟨gb109, 3, none⟩ = some (.int .i64 ((rd_T26 l0 x3_1).f3)) := (blk_cell BK109.out 3).trans rfl
                   have hcz32_4 : wr.cell? ⟨gb109, 4, none⟩ = some (.int .i64 ((rd_T26 l0 x3_1).f4)) := (blk_cell BK109.out 4).trans rfl
                   have hcz32_5 : wr.cell? ⟨gb109, 5, none⟩ = some (.int .i64 ((rd_T26 l0 x3_1).f5)) := (blk_cell BK109.out 5).trans rfl
                   have hfz32_0 := blk_frozen BK109.out 0
                   have hfz32_1 := blk_frozen BK109.out 1
                   have hfz32_2 := blk_frozen BK109.out 2
                   have hfz32_3 := blk_frozen BK109.out 3
                   have hfz32_4 := blk_frozen BK109.out 4
                   have hfz32_5 := blk_frozen BK109.out 5
                   go_upto_region 21 with (first | ((with_reducible refine gate_callee (f := 17) rfl ?_); refine goesL_ (some 99) rfl rfl Try.func17 (by kernel_rfl) rfl #[.int .i64 x12_6, .int .i64 ((rd_T26 l0 x3_1).f2), .int .i64 ((rd_T26 l0 x3_1).f4)] rfl (by (try simp only [List.map_toArray, List.map_cons, List.map_nil]); first | done | rfl | (simp only [List.length_drop, List.length_take]; rfl)) ?_; (with_reducible refine (sync_Whom.calls k6 x12_6 ((rd_T26 l0 x3_1).f2) ((rd_T26 l0 x3_1).f4) t118 t119 t120 _ A30.out).mono ?_); rintro e w' ⟨rfl, ⟨nd, rfl⟩⟩; refine ⟨_, rfl, ?_⟩))
                   (try simp only [Act.put, List.setIfInBounds_toArray, List.set_cons_zero, List.set_cons_succ])
                   go_cut [117] (fun v117 wc => ∃ (kq : Nat) (x117_30 : Bool), v117 = .bool x117_30 ∧ Aside0 (arraslaw25_SyncWhoms.j6 kq l0 x3_1 x11_6 x13_6 t118 t119 x117_30 ((rd_T26 l0 x3_1).f0) ((rd_T26 l0 x3_1).f1) ((rd_T26 l0 x3_1).f2) ((rd_T26 l0 x3_1).f3) ((rd_T26 l0 x3_1).f4) ((rd_T26 l0 x3_1).f5) = some r) ∧ Aside0 (kq ≤ k6) ∧ Aside0 (Kd.R (Kd.int .i64) 3 wc w.heap.size (fun _ => True) u11 x11_6) ∧ Aside0 (wc.heap[gb109]? = some (.cells #[(.slice A108_0 ((rd_T26 l0 x3_1).f0).length c108_0), (.slice A108_1 ((rd_T26 l0 x3_1).f1).length c108_1), .int .i64 ((rd_T26 l0 x3_1).f2), .int .i64 ((rd_T26 l0 x3_1).f3), .int .i64 ((rd_T26 l0 x3_1).f4), .int .i64 ((rd_T26 l0 x3_1).f5)] 26 (0, 0))) ∧ Aside0 (Below w.heap.size w wc))
                   case first =>
                    have H := HC31.out
                    clear HC31
                    replace H := Option.bind_eq_some_iff.mp H
                    obtain ⟨t121, A330, H⟩ := H
                    (try dsimp only at H)
                    have A33 := Aside0.mk A330
                    clear A330
                    by_cases c34 : t121 = 0
                    ·rw [if_pos c34] at H
                     have c34b0 : (t121 == 0) = true := beq_iff_eq.mpr c34
                     have c34b1 : (t121 != 0) = false := bne_eq_false_iff_eq.mpr c34
                     clear c34
                     (first | rw [c34b0] | (simp only [i64_w, i32_w]; rw [c34b0]) | skip)
                     by_cases c35 : t118 = ((rd_T26 l0 x3_1).f2)
                     ·rw [if_pos c35] at H
                      have c35b0 : (t118 == ((rd_T26 l0 x3_1).f2)) = true := beq_iff_eq.mpr c35
                      have c35b1 : (t118 != ((rd_T26 l0 x3_1).f2)) = false := bne_eq_false_iff_eq.mpr c35
                      clear c35
                      as_aux_lemma =>
                       have H' := Aside0.mk H
                       clear H
                       go_wp2_with (first | ((with_reducible refine gate_callee (f := 21) rfl ?_); refine goesL_ (some 104) rfl rfl Try.func21 (by kernel_rfl) rfl #[.int .i64 t120] rfl (by (try simp only [List.map_toArray, List.map_cons, List.map_nil]); first | done | rfl | (simp only [List.length_drop, List.length_take]; rfl)) ?_; (with_reducible refine (arraslaw25_num.calls t120 t121 _ A33.out).mono ?_); rintro e w' ⟨rfl, ⟨nd, rfl⟩⟩; refine ⟨_, rfl, ?_⟩; have hcz36_0 : wr.cell? ⟨gb109, 0, none⟩ = some (.slice A108_0 ((rd_T26 l0 x3_1).f0).length c108_0) := (blk_cell BK109.out 0).trans rfl; have hcz36_1 : wr.cell? ⟨gb109, 1, none⟩ = some (.slice A108_1 ((rd_T26 l0 x3_1).f1).length c108_1) := (blk_cell BK109.out 1).trans rfl; have hcz36_2 : wr.cell? ⟨gb109, 2, none⟩ = some (.int .i64 ((rd_T26 l0 x3_1).f2)) := (blk_cell BK109.out 2).trans rfl; have hcz36_3 : wr.cell? ⟨gb109, 3, none⟩ = some (.int .i64 ((rd_T26 l0 x3_1).f3)) := (blk_cell BK109.out 3).trans rfl; have hcz36_4 : wr.cell? ⟨gb109, 4, none⟩ = some (.int .i64 ((rd_T26 l0 x3_1).f4)) := (blk_cell BK109.out 4).trans rfl; have hcz36_5 : wr.cell? ⟨gb109, 5, none⟩ = some (.int .i64 ((rd_T26 l0 x3_1).f5)) := (blk_cell BK109.out 5).trans rfl; have hfz36_0 := blk_frozen BK109.out 0; have hfz36_1 := blk_frozen BK109.out 1; have hfz36_2 := blk_frozen BK109.out 2; have hfz36_3 := blk_frozen BK109.out 3; have hfz36_4 := blk_frozen BK109.out 4; have hfz36_5 := blk_frozen BK109.out 5))
                       go_meet
                       case rel => exact ⟨_, (true), (by first | rfl | (simp; done) | (simp [*]; done)), H', ⟨by have := HK1.out; have := HJ1.out; have := HJ7.out; have := HJ15.out; have := HJ21.out; have := HK6.out; first | omega | exact Nat.le_refl _⟩, ⟨by (with_reducible repeat (first | apply Kd.R_alloc | apply Kd.R_drewN | apply Kd.R_drew)); exact HO_11.out⟩, ⟨by (with_reducible repeat (first | refine blk_drewN ?_ _ | refine blk_drew ?_ | refine blk_alloc ?_ _)); exact BK109.out⟩, ⟨by repeat (first | (with_reducible first | exact HB.out | apply below_alloc | apply pw_below_drewN | apply below_drew1 | refine below_set ?_ GE109.out) | exact HB.out)⟩⟩
                     ·rw [if_neg c35] at H
                      have c35b0 : (t118 == ((rd_T26 l0 x3_1).f2)) = false := beq_eq_false_iff_ne.mpr c35
                      have c35b1 : (t118 != ((rd_T26 l0 x3_1).f2)) = true := bne_iff_ne.mpr c35
                      replace H := Option.bind_eq_some_iff.mp H
                      obtain ⟨t122, A370, H⟩ := H
                      (try dsimp only at H)
                      have A37 := Aside0.mk A370
                      clear A370
                      as_aux_lemma =>
                       have H' := Aside0.mk H
                       clear H
                       go_wp2_with (first | ((with_reducible refine gate_callee (f := 21) rfl ?_); refine goesL_ (some 104) rfl rfl Try.func21 (by kernel_rfl) rfl #[.int .i64 t120] rfl (by (try simp only [List.map_toArray, List.map_cons, List.map_nil]); first | done | rfl | (simp only [List.length_drop, List.length_take]; rfl)) ?_; (with_reducible refine (arraslaw25_num.calls t120 t121 _ A33.out).mono ?_); rintro e w' ⟨rfl, ⟨nd, rfl⟩⟩; refine ⟨_, rfl, ?_⟩; have hcz38_0 : wr.cell? ⟨gb109, 0, none⟩ = some (.slice A108_0 ((rd_T26 l0 x3_1).f0).length c108_0) := (blk_cell BK109.out 0).trans rfl; have hcz38_1 : wr.cell? ⟨gb109, 1, none⟩ = some (.slice A108_1 ((rd_T26 l0 x3_1).f1).length c108_1) := (blk_cell BK109.out 1).trans rfl; have hcz38_2 : wr.cell? ⟨gb109, 2, none⟩ = some (.int .i64 ((rd_T26 l0 x3_1).f2)) := (blk_cell BK109.out 2).trans rfl; have hcz38_3 : wr.cell? ⟨gb109, 3, none⟩ = some (.int .i64 ((rd_T26 l0 x3_1).f3)) := (blk_cell BK109.out 3).trans rfl; have hcz38_4 : wr.cell? ⟨gb109, 4, none⟩ = some (.int .i64 ((rd_T26 l0 x3_1).f4)) := (blk_cell BK109.out 4).trans rfl; have hcz38_5 : wr.cell? ⟨gb109, 5, none⟩ = some (.int .i64 ((rd_T26 l0 x3_1).f5)) := (blk_cell BK109.out 5).trans rfl; have hfz38_0 := blk_frozen BK109.out 0; have hfz38_1 := blk_frozen BK109.out 1; have hfz38_2 := blk_frozen BK109.out 2; have hfz38_3 := blk_frozen BK109.out 3; have hfz38_4 := blk_frozen BK109.out 4; have hfz38_5 := blk_frozen BK109.out 5; obtain ⟨Ao39, co39, eo39⟩ := Kd.R_slice HO_11.out; subst eo39) | (go_at_call 22; (with_reducible refine (arrasref0_In.calls k6 _ _ x11_6 t118 t122 _ ?side1 ?side2 A37.out).mono ?_); (case side1 => repeat (first | exact (Kd.R_reads' HO_11.out).2.2 | with_reducible first | refine Kd.C_alloc ?_ _ | refine Kd.C_drewN ?_ _ | refine Kd.C_drew ?_)); (case side2 => exact (Kd.R_reads' HO_11.out).2.1); rintro e w' ⟨rfl, ⟨nd, rfl⟩⟩))
                       go_meet
                       case rel => exact ⟨_, (decide (t122 ≥ 0)), (by first | rfl | (simp; done) | (simp [*]; done)), H', ⟨by have := HK1.out; have := HJ1.out; have := HJ7.out; have := HJ15.out; have := HJ21.out; have := HK6.out; first | omega | exact Nat.le_refl _⟩, ⟨by (with_reducible repeat (first | apply Kd.R_alloc | apply Kd.R_drewN | apply Kd.R_drew)); exact HO_11.out⟩, ⟨by (with_reducible repeat (first | refine blk_drewN ?_ _ | refine blk_drew ?_ | refine blk_alloc ?_ _)); exact BK109.out⟩, ⟨by repeat (first | (with_reducible first | exact HB.out | apply below_alloc | apply pw_below_drewN | apply below_drew1 | refine below_set ?_ GE109.out) | exact HB.out)⟩⟩
                    ·rw [if_neg c34] at H
                     have c34b0 : (t121 == 0) = false := beq_eq_false_iff_ne.mpr c34
                     have c34b1 : (t121 != 0) = true := bne_iff_ne.mpr c34
                     (first | rw [c34b0] | (simp only [i64_w, i32_w]; rw [c34b0]) | skip)
                     as_aux_lemma =>
                      have H' := Aside0.mk H
                      clear H
                      go_wp2_with (first | ((with_reducible refine gate_callee (f := 21) rfl ?_); refine goesL_ (some 104) rfl rfl Try.func21 (by kernel_rfl) rfl #[.int .i64 t120] rfl (by (try simp only [List.map_toArray, List.map_cons, List.map_nil]); first | done | rfl | (simp only [List.length_drop, List.length_take]; rfl)) ?_; (with_reducible refine (arraslaw25_num.calls t120 t121 _ A33.out).mono ?_); rintro e w' ⟨rfl, ⟨nd, rfl⟩⟩; refine ⟨_, rfl, ?_⟩))
                      go_meet
                      case rel => exact ⟨_, (true), (by first | rfl | (simp; done) | (simp [*]; done)), H', ⟨by have := HK1.out; have := HJ1.out; have := HJ7.out; have := HJ15.out; have := HJ21.out; have := HK6.out; first | omega | exact Nat.le_refl _⟩, ⟨by (with_reducible repeat (first | apply Kd.R_alloc | apply Kd.R_drewN | apply Kd.R_drew)); exact HO_11.out⟩, ⟨by (with_reducible repeat (first | refine blk_drewN ?_ _ | refine blk_drew ?_ | refine blk_alloc ?_ _)); exact BK109.out⟩, ⟨by repeat (first | (with_reducible first | exact HB.out | apply below_alloc | apply pw_below_drewN | apply below_drew1 | refine below_set ?_ GE109.out) | exact HB.out)⟩⟩
                   case rest =>
                    clear HC31
                    (try clear c1); (try clear p1); (try clear q1); (try clear hx1); (try clear c2); (try clear p2); (try clear c3); (try clear c3b0); (try clear c4); (try clear c5); (try clear c5b0); (try clear c6); (try clear c6b0); (try clear p6); (try clear c10); (try clear p10); (try clear q10); (try clear hx10); (try clear c12); (try clear c17); (try clear c18); (try clear c18b0); (try clear c20); (try clear c21); (try clear c24); (try clear c24b0); (try clear c24b1); (try clear c25); (try clear c25b0); (try clear c25b1); (try clear c26); (try clear c27); (try clear c27b0); (try clear c27b1); (try clear c29); (try clear c29b0); (try clear c34); (try clear c34b0); (try clear c34b1); (try clear c35); (try clear c35b0); (try clear c35b1); (try clear hcz10_0); (try clear hcz10_1); (try clear hcz10_2); (try clear hcz10_3); (try clear hcz10_4); (try clear hcz10_5); (try clear hcz14_0); (try clear hcz14_1); (try clear hcz14_2); (try clear hcz14_3); (try clear hcz14_4); (try clear hcz14_5); (try clear hcz15_0); (try clear hcz15_1); (try clear hcz15_2); (try clear hcz15_3); (try clear hcz15_4); (try clear hcz15_5); (try clear hcz20_0); (try clear hcz20_1); (try clear hcz20_2); (try clear hcz20_3); (try clear hcz20_4); (try clear hcz20_5); (try clear hcz21_0); (try clear hcz21_1); (try clear hcz21_2); (try clear hcz21_3); (try clear hcz21_4); (try clear hcz21_5); (try clear hcz28_0); (try clear hcz28_1); (try clear hcz28_2); (try clear hcz28_3); (try clear hcz28_4); (try clear hcz28_5); (try clear hcz32_0); (try clear hcz32_1); (try clear hcz32_2); (try clear hcz32_3); (try clear hcz32_4); (try clear hcz32_5); (try clear hcz36_0); (try clear hcz36_1); (try clear hcz36_2); (try clear hcz36_3); (try clear hcz36_4); (try clear hcz36_5); (try clear hcz38_0); (try clear hcz38_1); (try clear hcz38_2); (try clear hcz38_3); (try clear hcz38_4); (try clear hcz38_5); (try clear hfz10_0); (try clear hfz10_1); (try clear hfz10_2); (try clear hfz10_3); (try clear hfz10_4); (try clear hfz10_5); (try clear hfz14_0); (try clear hfz14_1); (try clear hfz14_2); (try clear hfz14_3); (try clear hfz14_4); (try clear hfz14_5); (try clear hfz15_0); (try clear hfz15_1); (try clear hfz15_2); (try clear hfz15_3); (try clear hfz15_4); (try clear hfz15_5); (try clear hfz20_0); (try clear hfz20_1); (try clear hfz20_2); (try clear hfz20_3); (try clear hfz20_4); (try clear hfz20_5); (try clear hfz21_0); (try clear hfz21_1); (try clear hfz21_2); (try clear hfz21_3); (try clear hfz21_4); (try clear hfz21_5); (try clear hfz28_0); (try clear hfz28_1); (try clear hfz28_2); (try clear hfz28_3); (try clear hfz28_4); (try clear hfz28_5); (try clear hfz32_0); (try clear hfz32_1); (try clear hfz32_2); (try clear hfz32_3); (try clear hfz32_4); (try clear hfz32_5); (try clear hfz36_0); (try clear hfz36_1); (try clear hfz36_2); (try clear hfz36_3); (try clear hfz36_4); (try clear hfz36_5); (try clear hfz38_0); (try clear hfz38_1); (try clear hfz38_2); (try clear hfz38_3); (try clear hfz38_4); (try clear hfz38_5); (try clear hx108_0); (try clear hx108_1); (try clear hx108_2); (try clear hx108_3); (try clear hx108_4); (try clear hx108_5); (try clear p1); (try clear p10); (try clear p108); (try clear p2); (try clear p6); (try clear q1); (try clear q10); (try clear q108)
                    obtain ⟨kq, x117_30, rfl, HA, HJ30, HO_11, BK109, HB⟩ := hcut
                    cases kq with
                    | zero => exact absurd HA.out (by simp [arraslaw25_SyncWhoms.j6])
                    | succ kj30 =>
                     have H := HA.out
                     clear HA
                     simp only [arraslaw25_SyncWhoms.j6] at H
                     by_cases c40 : x117_30 = true
                     ·subst c40
                      have H1 : (some false) = some r := by rw [if_pos rfl] at H; exact H
                      clear H
                      have H := H1
                      clear H1
                      as_aux_lemma =>
                       obtain rfl := Option.some.inj H
                       go_wp2
                       go_ret
                       exact ⟨by first | rfl | (simp [errW_none, errW_some] <;> rfl) | (simp [*, errW_none, errW_some] <;> rfl), by repeat (first | (with_reducible first | exact HB.out | apply below_alloc | apply pw_below_drewN | apply below_drew1 | refine below_set ?_ GE109.out) | exact HB.out)⟩
                     ·replace c40 := Bool.eq_false_iff.mpr c40
                      subst c40
                      have H1 : (if x11_6.length < 17592186044416 then (arraslaw25_SyncWhoms.l1 kj30 l0 x3_1 (x11_6 ++ [t118]) t119 (wrap64 (x13_6 + 1)) ((rd_T26 l0 x3_1).f0) ((rd_T26 l0 x3_1).f1) ((rd_T26 l0 x3_1).f2) ((rd_T26 l0 x3_1).f3) ((rd_T26 l0 x3_1).f4) ((rd_T26 l0 x3_1).f5)) else (none)) = some r := by rw [if_neg (show ¬ (false = true) by decide)] at H; exact H
                      clear H
                      have H := H1
                      clear H1
                      by_cases c41 : x11_6.length < 17592186044416
                      ·rw [if_pos c41] at H
                       have LMc41 := Aside0.mk c41
                       clear c41
                       obtain ⟨y123, hy123⟩ : ∃ y_ : List Int, y_ = (x11_6 ++ [t118]) := ⟨_, rfl⟩
                       replace H : (arraslaw25_SyncWhoms.l1 kj30 l0 x3_1 y123 t119 (wrap64 (x13_6 + 1)) ((rd_T26 l0 x3_1).f0) ((rd_T26 l0 x3_1).f1) ((rd_T26 l0 x3_1).f2) ((rd_T26 l0 x3_1).f3) ((rd_T26 l0 x3_1).f4) ((rd_T26 l0 x3_1).f5)) = some r := by first | (rw [hy123]; with_reducible exact H) | (have H2_ := (Option.bind_some _ _).symm.trans H; rw [hy123]; with_reducible exact H2_) | (have H2_ := (Option.bind_some _ _).symm.trans H; with_reducible exact H2_) | with_reducible exact H | (rw [hy123]; exact H) | exact H
                       have Ny123 := Aside0.mk hy123
                       clear hy123
                       as_aux_lemma =>
                        have H' := Aside0.mk H
                        clear H
                        go_wp2_with (first | ((with_reducible refine gate_builtin (b := .append) (xs := #[.tmp 118, .tmp 120]) rfl ?_); at_builtin; refine Kd.R_append (Kd.int .i64) (w0 := w) w.heap.size rfl (.tmp 118) (.tmp 120) 24 3 (.int .i64 0) 8 rfl Try.underlying24 info3 rfl (by decide) (by omega) u11 x11_6 t118 [.int .i64 t118] (fun _ => True) (fun _ => False) rfl rfl ?aP (fun _ hk => hk.elim) ?aF ?aO ?aB ?aS ?aL ?_; (case aP => exact rfl); (case aB => exact (by repeat (first | (with_reducible first | exact HB.out | apply below_alloc | apply pw_below_drewN | apply below_drew1 | refine below_set ?_ GE109.out) | exact HB.out))); (case aF => exact (fun _ _ => trivial)); (case aO => exact (by (with_reducible repeat (first | apply Kd.R_alloc | apply Kd.R_drewN | apply Kd.R_drew)); exact HO_11.out)); (case aS => exact (below_size (by repeat (first | (with_reducible first | exact HB.out | apply below_alloc | apply pw_below_drewN | apply below_drew1 | refine below_set ?_ GE109.out) | exact HB.out)))); (case aL => have := LMc41.out; omega); intro v124 w42 ho hb hg hat; rw [← Ny123.out] at ho; have n0_ := Aside0.mk (blk_grown (g := gb109) (o := .cells #[.slice A108_0 ((rd_T26 l0 x3_1).f0).length c108_0, .slice A108_1 ((rd_T26 l0 x3_1).f1).length c108_1, .int .i64 ((rd_T26 l0 x3_1).f2), .int .i64 ((rd_T26 l0 x3_1).f3), .int .i64 ((rd_T26 l0 x3_1).f4), .int .i64 ((rd_T26 l0 x3_1).f5)] 26 (0, 0)) (by (with_reducible repeat (first | refine blk_drewN ?_ _ | refine blk_drew ?_ | refine blk_alloc ?_ _)); exact BK109.out) hg (Kd.R_ne HO_11.out BK109.out (by decide))); have n1_ := Aside0.mk (hb); have n2_ := Aside0.mk (ho); clear BK109; clear HB; clear HO_11; have BK109 := n0_; have HB := n1_; have HO125 := n2_; clear n0_ n1_ n2_; clear ho hb hg hat))
                        go_roundg kj30
                        case measure => have := HK1.out; have := HJ1.out; have := HJ7.out; have := HJ15.out; have := HJ21.out; have := HK6.out; have := HJ30.out; omega
                        case rel => exact ⟨(y123), (t119), (wrap64 (x13_6 + 1)), (by first | rfl | (simp; done) | (simp [*]; done)), (by first | rfl | (simp; done) | (simp [*]; done)), H', ⟨by have := HK1.out; have := HJ1.out; have := HJ7.out; have := HJ15.out; have := HJ21.out; have := HK6.out; have := HJ30.out; omega⟩, ⟨by (with_reducible repeat (first | apply Kd.R_alloc | apply Kd.R_drewN | apply Kd.R_drew)); exact HO125.out⟩, ⟨by (with_reducible repeat (first | refine blk_drewN ?_ _ | refine blk_drew ?_ | refine blk_alloc ?_ _)); exact BK109.out⟩, ⟨by repeat (first | (with_reducible first | exact HB.out | apply below_alloc | apply pw_below_drewN | apply below_drew1 | refine below_set ?_ GE109.out) | exact HB.out)⟩⟩
                      ·rw [if_neg c41] at H
                       exact absurd H (by simp)
                  ·rw [if_neg c29] at H
                   have c29b0 : decide (x13_6 < (wrap64 (((rd_T26 l0 x3_1).f4) - 1))) = false := decide_eq_false c29
                   clear c29
                   as_aux_lemma =>
                    have H' := Aside0.mk H
                    clear H
                    have hcz43_0 : wr.cell? ⟨gb109, 0, none⟩ = some (.slice A108_0 ((rd_T26 l0 x3_1).f0).length c108_0) := (blk_cell BK109.out 0).trans rfl
                    have hcz43_1 : wr.cell? ⟨gb109, 1, none⟩ = some (.slice A108_1 ((rd_T26 l0 x3_1).f1).length c108_1) := (blk_cell BK109.out 1).trans rfl
                    have hcz43_2 : wr.cell? ⟨gb109, 2, none⟩ = some (.int .i64 ((rd_T26 l0 x3_1).f2)) := (blk_cell BK109.out 2).trans rfl
                    have hcz43_3 : wr.cell? ⟨gb109, 3, none⟩ = some (.int .i64 ((rd_T26 l0 x3_1).f3)) := (blk_cell BK109.out 3).trans rfl
                    have hcz43_4 : wr.cell? ⟨gb109, 4, none⟩ = some (.int .i64 ((rd_T26 l0 x3_1).f4)) := (blk_cell BK109.out 4).trans rfl
                    have hcz43_5 : wr.cell? ⟨gb109, 5, none⟩ = some (.int .i64 ((rd_T26 l0 x3_1).f5)) := (blk_cell BK109.out 5).trans rfl
                    have hfz43_0 := blk_frozen BK109.out 0
                    have hfz43_1 := blk_frozen BK109.out 1
                    have hfz43_2 := blk_frozen BK109.out 2
                    have hfz43_3 := blk_frozen BK109.out 3
                    have hfz43_4 := blk_frozen BK109.out 4
                    have hfz43_5 := blk_frozen BK109.out 5
                    go_wp2
                    go_roundg k6
                    case measure => have := HK1.out; have := HJ1.out; have := HJ7.out; have := HJ15.out; have := HJ21.out; have := HK6.out; omega
                    case rel => exact ⟨(wrap64 (x3_1 + 1)), (by first | rfl | (simp; done) | (simp [*]; done)), H', ⟨by have := HK1.out; have := HJ1.out; have := HJ7.out; have := HJ15.out; have := HJ21.out; have := HK6.out; omega⟩, ⟨by repeat (first | (with_reducible first | exact HB.out | apply below_alloc | apply pw_below_drewN | apply below_drew1 | refine below_set ?_ GE109.out) | exact HB.out)⟩⟩
               ·rw [if_neg c27] at H
                have c27b0 : (x8_15 == 0) = false := beq_eq_false_iff_ne.mpr c27
                have c27b1 : (x8_15 != 0) = true := bne_iff_ne.mpr c27
                as_aux_lemma =>
                 have H' := Aside0.mk H
                 clear H
                 go_wp2
                 go_roundg kj21
                 case measure => have := HK1.out; have := HJ1.out; have := HJ7.out; have := HJ15.out; have := HJ21.out; omega
                 case rel => exact ⟨(wrap64 (x3_1 + 1)), (by first | rfl | (simp; done) | (simp [*]; done)), H', ⟨by have := HK1.out; have := HJ1.out; have := HJ7.out; have := HJ15.out; have := HJ21.out; omega⟩, ⟨by repeat (first | (with_reducible first | exact HB.out | apply below_alloc | apply pw_below_drewN | apply below_drew1 | refine below_set ?_ GE109.out) | exact HB.out)⟩⟩
       ·rw [if_neg c6] at H
        exact absurd H (by simp)
      ·rw [if_neg c5] at H
       exact absurd H (by simp)
     ·replace c4 := Bool.eq_false_iff.mpr c4
      subst c4
      have H1 : ((arraslaw25_wakes.f kj1).bind fun t107 => (some t107)) = some r := by rw [if_neg (show ¬ (false = true) by decide)] at H; exact H
      clear H
      have H := H1
      clear H1
      replace H := Option.bind_eq_some_iff.mp H
      obtain ⟨t107, A440, H⟩ := H
      replace H : (some t107) = some r := H
      have A44 := Aside0.mk A440
      clear A440
      as_aux_lemma =>
       obtain rfl := Option.some.inj H
       go_wp2_with (first | ((with_reducible refine gate_callee (f := 23) rfl ?_); refine goesL_ (some 123) rfl rfl Try.func23 (by kernel_rfl) rfl #[] rfl (by (try simp only [List.map_toArray, List.map_cons, List.map_nil]); first | done | rfl | (simp only [List.length_drop, List.length_take]; rfl)) ?_; (with_reducible refine (arraslaw25_wakes.calls kj1  t107 _ A44.out).mono ?_); rintro e w' ⟨rfl, ⟨nd, rfl⟩⟩; refine ⟨_, rfl, ?_⟩))
       go_ret
       exact ⟨by first | rfl | (simp [errW_none, errW_some] <;> rfl) | (simp [*, errW_none, errW_some] <;> rfl), by repeat (first | (with_reducible first | exact HB.out | apply below_alloc | apply pw_below_drewN | apply below_drew1) | exact HB.out)⟩

end Go.Proofs.Ytpoohfmddkgndaa.PW
