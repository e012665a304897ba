-- Printed by this session's wip/myprint.py
import Derived.Test.YtpmcojmhkpaoaaaPAx0
import Derived.Test.YtpmcojmhkpaoaaaPAx2
import Derived.Test.YtpmcojmhkpaoaaaPAx3
import Derived.Test.YtpmcojmhkpaoaaaPAx4
import Derived.Test.YtpmcojmhkpaoaaaPAx34
import Derived.Test.YtpmcojmhkpaoaaaPAx35
import Derived.Test.YtpmcojmhkpaoaaaPAx65
import Derived.Test.YtpmcojmhkpaoaaaPAx66
import Derived.Test.YtpmcojmhkpaoaaaPAx67
import Derived.Test.YtpmcojmhkpaoaaaPAx70
import Derived.Test.YtpmcojmhkpaoaaaPAx72
import Derived.Test.YtpmcojmhkpaoaaaPAx73
import Derived.Test.YtpmcojmhkpaoaaaPAx74
import Derived.Test.YtpmcojmhkpaoaaaPAx75
import Derived.Test.YtpmcojmhkpaoaaaPAx76
import Derived.Test.YtpmcojmhkpaoaaaPAx78
import Derived.Test.YtpmcojmhkpaoaaaPAx80
import Derived.Test.YtpmcojmhkpaoaaaPAx81
namespace Go.Proofs.Ytpmcojmhkpaoaaa.PA
open Go.RowKit Go.Proofs.YtpmcojmhkpaoaaaW.PrintWords Go.Proofs.YtpmcojmhkpaoaaaW.PrintLast Go.Proofs.YtpmcojmhkpaoaaaW.PrintMore
attribute [local go_sem] max2_int min2_int max_two min_two max_three min_three max_four min_four   -- for this text's walks alone
set_option linter.unusedVariables false
set_option linter.unusedSimpArgs false

/-! ### arraslaw7_HavePairs: function 15 -/
set_option maxHeartbeats 8000000 in
set_option maxRecDepth 100000 in
theorem arraslaw7_HavePairs.calls (k : Nat) (A0 : Option Addr) (c0 : Nat) (l0 : List (S86)) (r : Bool) (w : World) (hr0 : Kd.C k86 w A0 l0.length l0) (hc0 : l0.length ≤ c0) (h : arraslaw7_HavePairs.f k l0 = some r) :
  Calls Try.prog 15 #[.slice A0 l0.length c0] w fun e w' => e = .returned (.bool r) ∧ Below w.heap.size w w' := by
 have hu86 := Try.underlying86
 have HR0 := Aside0.mk hr0
 have HC0 := Aside0.mk hc0
 clear hr0 hc0
 have HB := Aside0.mk (Below.refl w.heap.size w)
 have H : (arraslaw7_HavePairs.l0 k l0 0) = some r := h
 clear h
 have H' := Aside0.mk H
 clear H
 go_enter Try.func15, Try.ntmps15
 go_wp2
 go_loopg [3] k (fun kq v3 w' => ∃ (x3_1 : Int), v3 = .int .i64 x3_1 ∧ Aside0 (arraslaw7_HavePairs.l0 kq l0 x3_1 = some r) ∧ Aside0 (kq ≤ k) ∧ Aside0 (Below w.heap.size w w'))
 case atStart => exact ⟨(0), (by first | rfl | (simp; done) | (simp [*]; done)), H', ⟨Nat.le_refl _⟩, ⟨by repeat (first | (with_reducible first | exact HB.out | apply below_alloc | apply pw_below_drewN | apply below_drew1) | exact HB.out)⟩⟩
 case round =>
  clear H'
  (try clear c1)
  obtain ⟨x3_1, rfl, HA, HK1, HB⟩ := hrel
  cases gk with
  | zero => exact absurd HA.out (by simp [arraslaw7_HavePairs.l0])
  | succ k1 =>
   have H := HA.out
   clear HA
   simp only [arraslaw7_HavePairs.l0] at H
   have HC2 := Aside0.mk H
   clear H
   go_upto_region 2 with (fail)
   go_cut [26] (fun v26 wc => ∃ (kq : Nat) (x26_1 : Bool), v26 = .bool x26_1 ∧ Aside0 (arraslaw7_HavePairs.j1 kq l0 x3_1 x26_1 = some r) ∧ Aside0 (kq ≤ k1) ∧ Aside0 (Below w.heap.size w wc))
   case first =>
    have H := HC2.out
    clear HC2
    by_cases c3 : x3_1 < (l0.length : Int)
    ·rw [if_pos c3] at H
     have c3b0 : decide (x3_1 < (l0.length : Int)) = true := decide_eq_true c3
     clear c3
     (first | rw [c3b0] | (simp only [i64_w, i32_w]; rw [c3b0]) | skip)
     as_aux_lemma =>
      have H' := Aside0.mk H
      clear H
      go_wp2
      go_meet
      case rel => exact ⟨_, (decide (x3_1 < 15)), (by first | rfl | (simp; done) | (simp [*]; done)), H', ⟨by have := HK1.out; first | omega | exact Nat.le_refl _⟩, ⟨by repeat (first | (with_reducible first | exact HB.out | apply below_alloc | apply pw_below_drewN | apply below_drew1) | exact HB.out)⟩⟩
    ·rw [if_neg c3] at H
     have c3b0 : decide (x3_1 < (l0.length : Int)) = false := decide_eq_false c3
     clear c3
     (first | rw [c3b0] | (simp only [i64_w, i32_w]; rw [c3b0]) | skip)
     as_aux_lemma =>
      have H' := Aside0.mk H
      clear H
      go_wp2
      go_meet
      case rel => exact ⟨_, (false), (by first | rfl | (simp; done) | (simp [*]; done)), H', ⟨by have := HK1.out; first | omega | exact Nat.le_refl _⟩, ⟨by repeat (first | (with_reducible first | exact HB.out | apply below_alloc | apply pw_below_drewN | apply below_drew1) | exact HB.out)⟩⟩
   case rest =>
    clear HC2
    (try clear c1); (try clear p2); (try clear c3); (try clear c3b0)
    obtain ⟨kq, x26_1, rfl, HA, HJ1, HB⟩ := hcut
    cases kq with
    | zero => exact absurd HA.out (by simp [arraslaw7_HavePairs.j1])
    | succ kj1 =>
     have H := HA.out
     clear HA
     simp only [arraslaw7_HavePairs.j1] at H
     by_cases c4 : x26_1 = true
     ·subst c4
      have H1 : (if 0 ≤ x3_1 then (if x3_1 < (l0.length : Int) then ((arraslaw7_heavy.f ((rd_T86 l0 x3_1).f0) ((rd_T86 l0 x3_1).f1) ((rd_T86 l0 x3_1).f2)).bind fun t776 => (if t776 = true then (some true) else ((arrasref0_CopyNumbers.f kj1 ((rd_T86 l0 x3_1).f0)).bind fun t777 => ((arrasref0_CopyNumbers.f kj1 ((rd_T86 l0 x3_1).f1)).bind fun t780 => ((have_Covers.f kj1 t777 t780).bind fun bt783 => ((have_Join.f kj1 t777 t780).bind fun bt785 => ((have_Lacks.f kj1 t777 t780).bind fun bt789 => ((have_Count.f kj1 t777).bind fun bt793 => ((arrasref6_Vector.f kj1 ((rd_T86 l0 x3_1).f0)).bind fun t795 => (arraslaw7_HavePairs.l1 kj1 l0 x3_1 t777 t780 bt783.1 bt783.2 bt785.1 bt785.2 bt789.1 bt789.2 bt793.1 bt793.2 t795 0 0 ((rd_T86 l0 x3_1).f0) ((rd_T86 l0 x3_1).f1) ((rd_T86 l0 x3_1).f2))))))))))) else (none)) else (none)) = some r := by rw [if_pos rfl] at H; exact H
      clear H
      have H := H1
      clear H1
      by_cases c5 : 0 ≤ x3_1
      ·rw [if_pos c5] at H
       have c5b0 : decide (0 ≤ x3_1) = true := decide_eq_true c5
       clear c5
       by_cases c6 : x3_1 < (l0.length : Int)
       ·rw [if_pos c6] at H
        have c6b0 : decide (x3_1 < (l0.length : Int)) = true := decide_eq_true c6
        clear c6
        replace H := Option.bind_eq_some_iff.mp H
        obtain ⟨t776, A70, H⟩ := H
        (try dsimp only at H)
        have A7 := Aside0.mk A70
        clear A70
        by_cases c8 : t776 = true
        ·subst c8
         have H1 : (some true) = some r := by rw [if_pos rfl] at H; exact H
         clear H
         have H := H1
         clear H1
         as_aux_lemma =>
          obtain rfl := Option.some.inj H
          have p774 : 0 ≤ (x3_1 : Int) := of_decide_eq_true (by first | (with_reducible assumption) | assumption)
          have q774 : x3_1 < (l0.length : Int) := of_decide_eq_true (by first | (with_reducible assumption) | assumption)
          obtain ⟨ad774, A774_0, c774_0, A774_1, c774_1, A774_2, c774_2, e774, hx774_0, hx774_1, hx774_2, hl774_0, hi774_0, hl774_1, hi774_1, hl774_2, hi774_2⟩ := at_T86 HR0.out x3_1 p774 q774
          cases e774
          replace hx774_0 := (HB.out.cell (World.block_lt_of_cell? w _ hx774_0)).trans hx774_0
          replace hx774_1 := (HB.out.cell (World.block_lt_of_cell? w _ hx774_1)).trans hx774_1
          replace hx774_2 := (HB.out.cell (World.block_lt_of_cell? w _ hx774_2)).trans hx774_2
          have HR774_0 := Aside0.mk hi774_0
          have HC774_0 := Aside0.mk hl774_0
          clear hi774_0 hl774_0
          have HR774_1 := Aside0.mk hi774_1
          have HC774_1 := Aside0.mk hl774_1
          clear hi774_1 hl774_1
          have HR774_2 := Aside0.mk hi774_2
          have HC774_2 := Aside0.mk hl774_2
          clear hi774_2 hl774_2
          replace p774 := eq_true p774
          replace q774 := eq_true q774
          go_wp2_with (first | ((with_reducible refine gate_dst (N := 4) rfl ?_); (try (refine gate_guard (by rfl) ?_; dsimp only)); refine box_event ?hg (N := 4) ?hd (cs := #[.slice none 0 0, .slice none 0 0, .slice none 0 0]) (t := 86) ?hr ?_; (case hd => rfl); (case hg => rfl); (case hr => first | (go_simp; done) | (go_simp; rfl)); intro gb775 hg w9 hbox hb; have n0_ := Aside0.mk (below_step (by repeat (first | (with_reducible first | exact HB.out | apply below_alloc | apply pw_below_drewN | apply below_drew1) | exact HB.out)) hb); have n1_ := Aside0.mk (hbox); have n2_ := Aside0.mk ((by rw [hg]; exact (below_size (by repeat (first | (with_reducible first | exact HB.out | apply below_alloc | apply pw_below_drewN | apply below_drew1) | exact HB.out))) : w.heap.size ≤ gb775)); have n3_ := Aside0.mk ((by rw [hg]; exact (below_size (by repeat (first | (with_reducible first | exact HB.out | apply below_alloc | apply pw_below_drewN | apply below_drew1) | exact HB.out))) : w.heap.size ≤ gb775)); clear HB; have HB := n0_; have BK775 := n1_; have GW775 := n2_; have GE775 := n3_; clear n0_ n1_ n2_ n3_; clear hb hbox hg; have hcz10_0 : w9.cell? ⟨gb775, 0, none⟩ = some (.slice none 0 0) := (blk_cell BK775.out 0).trans rfl; have hcz10_1 : w9.cell? ⟨gb775, 1, none⟩ = some (.slice none 0 0) := (blk_cell BK775.out 1).trans rfl; have hcz10_2 : w9.cell? ⟨gb775, 2, none⟩ = some (.slice none 0 0) := (blk_cell BK775.out 2).trans rfl; have hfz10_0 := blk_frozen BK775.out 0; have hfz10_1 := blk_frozen BK775.out 1; have hfz10_2 := blk_frozen BK775.out 2) | ((with_reducible refine gate_callee (f := 56) rfl ?_); refine goesL_ (some 34) rfl rfl Try.func56 (by kernel_rfl) rfl #[.agg #[.slice A774_0 ((rd_T86 l0 x3_1).f0).length c774_0, .slice A774_1 ((rd_T86 l0 x3_1).f1).length c774_1, .slice A774_2 ((rd_T86 l0 x3_1).f2).length c774_2]] rfl (by (try simp only [List.map_toArray, List.map_cons, List.map_nil]); first | done | rfl | (simp only [List.length_drop, List.length_take]; rfl)) ?_; (with_reducible refine (arraslaw7_heavy.calls _ _ ((rd_T86 l0 x3_1).f0) _ _ ((rd_T86 l0 x3_1).f1) _ _ ((rd_T86 l0 x3_1).f2) true _ ?side1 ?side2 ?side3 ?side4 ?side5 ?side6 A7.out).mono ?_); (case side1 => exact Kd.C_below HR774_0.out (by repeat (first | (with_reducible first | exact HB.out | apply below_alloc | apply pw_below_drewN | apply below_drew1 | refine below_set ?_ GE775.out) | exact HB.out))); (case side2 => exact HC774_0.out); (case side3 => exact Kd.C_below HR774_1.out (by repeat (first | (with_reducible first | exact HB.out | apply below_alloc | apply pw_below_drewN | apply below_drew1 | refine below_set ?_ GE775.out) | exact HB.out))); (case side4 => exact HC774_1.out); (case side5 => exact Kd.C_below HR774_2.out (by repeat (first | (with_reducible first | exact HB.out | apply below_alloc | apply pw_below_drewN | apply below_drew1 | refine below_set ?_ GE775.out) | exact HB.out))); (case side6 => exact HC774_2.out); rintro e w11 ⟨rfl, hb⟩; refine ⟨_, rfl, ?_⟩; have n0_ := Aside0.mk (blk_below (g := gb775) (o := .cells #[.slice A774_0 ((rd_T86 l0 x3_1).f0).length c774_0, .slice A774_1 ((rd_T86 l0 x3_1).f1).length c774_1, .slice A774_2 ((rd_T86 l0 x3_1).f2).length c774_2] 86 (0, 0)) (by (with_reducible repeat (first | refine blk_drewN ?_ _ | refine blk_drew ?_ | refine blk_alloc ?_ _)); refine blk_put (cs := #[.slice A774_0 ((rd_T86 l0 x3_1).f0).length c774_0, .slice A774_1 ((rd_T86 l0 x3_1).f1).length c774_1, .slice none 0 0]) ?_ 2 _ rfl; (with_reducible repeat (first | refine blk_drewN ?_ _ | refine blk_drew ?_ | refine blk_alloc ?_ _)); refine blk_put (cs := #[.slice A774_0 ((rd_T86 l0 x3_1).f0).length c774_0, .slice none 0 0, .slice none 0 0]) ?_ 1 _ rfl; (with_reducible repeat (first | refine blk_drewN ?_ _ | refine blk_drew ?_ | refine blk_alloc ?_ _)); refine blk_put (cs := #[.slice none 0 0, .slice none 0 0, .slice none 0 0]) ?_ 0 _ rfl; (with_reducible repeat (first | refine blk_drewN ?_ _ | refine blk_drew ?_ | refine blk_alloc ?_ _)); exact BK775.out) hb); have n1_ := Aside0.mk (below_step (by repeat (first | (with_reducible first | exact HB.out | apply below_alloc | apply pw_below_drewN | apply below_drew1 | refine below_set ?_ GE775.out) | exact HB.out)) hb); clear BK775; clear HB; have BK775 := n0_; have HB := n1_; clear n0_ n1_; (try clear hb); (try clear hb2); (try clear hk); (try clear hi)))
          go_ret
          exact ⟨by first | rfl | (simp [errW_none, errW_some] <;> rfl) | (simp [*, errW_none, errW_some] <;> rfl), by repeat (first | (with_reducible first | exact HB.out | apply below_alloc | apply pw_below_drewN | apply below_drew1 | refine below_set ?_ GE775.out) | exact HB.out)⟩
        ·replace c8 := Bool.eq_false_iff.mpr c8
         subst c8
         have H1 : ((arrasref0_CopyNumbers.f kj1 ((rd_T86 l0 x3_1).f0)).bind fun t777 => ((arrasref0_CopyNumbers.f kj1 ((rd_T86 l0 x3_1).f1)).bind fun t780 => ((have_Covers.f kj1 t777 t780).bind fun bt783 => ((have_Join.f kj1 t777 t780).bind fun bt785 => ((have_Lacks.f kj1 t777 t780).bind fun bt789 => ((have_Count.f kj1 t777).bind fun bt793 => ((arrasref6_Vector.f kj1 ((rd_T86 l0 x3_1).f0)).bind fun t795 => (arraslaw7_HavePairs.l1 kj1 l0 x3_1 t777 t780 bt783.1 bt783.2 bt785.1 bt785.2 bt789.1 bt789.2 bt793.1 bt793.2 t795 0 0 ((rd_T86 l0 x3_1).f0) ((rd_T86 l0 x3_1).f1) ((rd_T86 l0 x3_1).f2))))))))) = some r := by rw [if_neg (show ¬ (false = true) by decide)] at H; exact H
         clear H
         have H := H1
         clear H1
         replace H := Option.bind_eq_some_iff.mp H
         obtain ⟨t777, A120, H⟩ := H
         (try dsimp only at H)
         have A12 := Aside0.mk A120
         clear A120
         replace H := Option.bind_eq_some_iff.mp H
         obtain ⟨t780, A130, H⟩ := H
         (try dsimp only at H)
         have A13 := Aside0.mk A130
         clear A130
         replace H := Option.bind_eq_some_iff.mp H
         obtain ⟨⟨t783, t784⟩, A140, H⟩ := H
         (try dsimp only at H)
         have A14 := Aside0.mk A140
         clear A140
         replace H := Option.bind_eq_some_iff.mp H
         obtain ⟨⟨t785, t786⟩, A150, H⟩ := H
         (try dsimp only at H)
         have A15 := Aside0.mk A150
         clear A150
         replace H := Option.bind_eq_some_iff.mp H
         obtain ⟨⟨t789, t790⟩, A160, H⟩ := H
         (try dsimp only at H)
         have A16 := Aside0.mk A160
         clear A160
         replace H := Option.bind_eq_some_iff.mp H
         obtain ⟨⟨t793, t794⟩, A170, H⟩ := H
         (try dsimp only at H)
         have A17 := Aside0.mk A170
         clear A170
         replace H := Option.bind_eq_some_iff.mp H
         obtain ⟨t795, A180, H⟩ := H
         (try dsimp only at H)
         have A18 := Aside0.mk A180
         clear A180
         have HC19 := Aside0.mk H
         clear H
         have p774 : 0 ≤ (x3_1 : Int) := of_decide_eq_true (by first | (with_reducible assumption) | assumption)
         have q774 : x3_1 < (l0.length : Int) := of_decide_eq_true (by first | (with_reducible assumption) | assumption)
         obtain ⟨ad774, A774_0, c774_0, A774_1, c774_1, A774_2, c774_2, e774, hx774_0, hx774_1, hx774_2, hl774_0, hi774_0, hl774_1, hi774_1, hl774_2, hi774_2⟩ := at_T86 HR0.out x3_1 p774 q774
         cases e774
         replace hx774_0 := (HB.out.cell (World.block_lt_of_cell? w _ hx774_0)).trans hx774_0
         replace hx774_1 := (HB.out.cell (World.block_lt_of_cell? w _ hx774_1)).trans hx774_1
         replace hx774_2 := (HB.out.cell (World.block_lt_of_cell? w _ hx774_2)).trans hx774_2
         have HR774_0 := Aside0.mk hi774_0
         have HC774_0 := Aside0.mk hl774_0
         clear hi774_0 hl774_0
         have HR774_1 := Aside0.mk hi774_1
         have HC774_1 := Aside0.mk hl774_1
         clear hi774_1 hl774_1
         have HR774_2 := Aside0.mk hi774_2
         have HC774_2 := Aside0.mk hl774_2
         clear hi774_2 hl774_2
         replace p774 := eq_true p774
         replace q774 := eq_true q774
         try go_wp2_with (first | ((with_reducible refine gate_dst (N := 4) rfl ?_); (try (refine gate_guard (by rfl) ?_; dsimp only)); refine box_event ?hg (N := 4) ?hd (cs := #[.slice none 0 0, .slice none 0 0, .slice none 0 0]) (t := 86) ?hr ?_; (case hd => rfl); (case hg => rfl); (case hr => first | (go_simp; done) | (go_simp; rfl)); intro gb775 hg w20 hbox hb; have n0_ := Aside0.mk (below_step (by repeat (first | (with_reducible first | exact HB.out | apply below_alloc | apply pw_below_drewN | apply below_drew1) | exact HB.out)) hb); have n1_ := Aside0.mk (hbox); have n2_ := Aside0.mk ((by rw [hg]; exact (below_size (by repeat (first | (with_reducible first | exact HB.out | apply below_alloc | apply pw_below_drewN | apply below_drew1) | exact HB.out))) : w.heap.size ≤ gb775)); have n3_ := Aside0.mk ((by rw [hg]; exact (below_size (by repeat (first | (with_reducible first | exact HB.out | apply below_alloc | apply pw_below_drewN | apply below_drew1) | exact HB.out))) : w.heap.size ≤ gb775)); clear HB; have HB := n0_; have BK775 := n1_; have GW775 := n2_; have GE775 := n3_; clear n0_ n1_ n2_ n3_; clear hb hbox hg; have hcz21_0 : w20.cell? ⟨gb775, 0, none⟩ = some (.slice none 0 0) := (blk_cell BK775.out 0).trans rfl; have hcz21_1 : w20.cell? ⟨gb775, 1, none⟩ = some (.slice none 0 0) := (blk_cell BK775.out 1).trans rfl; have hcz21_2 : w20.cell? ⟨gb775, 2, none⟩ = some (.slice none 0 0) := (blk_cell BK775.out 2).trans rfl; have hfz21_0 := blk_frozen BK775.out 0; have hfz21_1 := blk_frozen BK775.out 1; have hfz21_2 := blk_frozen BK775.out 2) | ((with_reducible refine gate_callee (f := 56) rfl ?_); refine goesL_ (some 34) rfl rfl Try.func56 (by kernel_rfl) rfl #[.agg #[.slice A774_0 ((rd_T86 l0 x3_1).f0).length c774_0, .slice A774_1 ((rd_T86 l0 x3_1).f1).length c774_1, .slice A774_2 ((rd_T86 l0 x3_1).f2).length c774_2]] rfl (by (try simp only [List.map_toArray, List.map_cons, List.map_nil]); first | done | rfl | (simp only [List.length_drop, List.length_take]; rfl)) ?_; (with_reducible refine (arraslaw7_heavy.calls _ _ ((rd_T86 l0 x3_1).f0) _ _ ((rd_T86 l0 x3_1).f1) _ _ ((rd_T86 l0 x3_1).f2) false _ ?side1 ?side2 ?side3 ?side4 ?side5 ?side6 A7.out).mono ?_); (case side1 => exact Kd.C_below HR774_0.out (by repeat (first | (with_reducible first | exact HB.out | apply below_alloc | apply pw_below_drewN | apply below_drew1 | refine below_set ?_ GE775.out) | exact HB.out))); (case side2 => exact HC774_0.out); (case side3 => exact Kd.C_below HR774_1.out (by repeat (first | (with_reducible first | exact HB.out | apply below_alloc | apply pw_below_drewN | apply below_drew1 | refine below_set ?_ GE775.out) | exact HB.out))); (case side4 => exact HC774_1.out); (case side5 => exact Kd.C_below HR774_2.out (by repeat (first | (with_reducible first | exact HB.out | apply below_alloc | apply pw_below_drewN | apply below_drew1 | refine below_set ?_ GE775.out) | exact HB.out))); (case side6 => exact HC774_2.out); rintro e w22 ⟨rfl, hb⟩; refine ⟨_, rfl, ?_⟩; have n0_ := Aside0.mk (blk_below (g := gb775) (o := .cells #[.slice A774_0 ((rd_T86 l0 x3_1).f0).length c774_0, .slice A774_1 ((rd_T86 l0 x3_1).f1).length c774_1, .slice A774_2 ((rd_T86 l0 x3_1).f2).length c774_2] 86 (0, 0)) (by (with_reducible repeat (first | refine blk_drewN ?_ _ | refine blk_drew ?_ | refine blk_alloc ?_ _)); refine blk_put (cs := #[.slice A774_0 ((rd_T86 l0 x3_1).f0).length c774_0, .slice A774_1 ((rd_T86 l0 x3_1).f1).length c774_1, .slice none 0 0]) ?_ 2 _ rfl; (with_reducible repeat (first | refine blk_drewN ?_ _ | refine blk_drew ?_ | refine blk_alloc ?_ _)); refine blk_put (cs := #[.slice A774_0 ((rd_T86 l0 x3_1).f0).length c774_0, .slice none 0 0, .slice none 0 0]) ?_ 1 _ rfl; (with_reducible repeat (first | refine blk_drewN ?_ _ | refine blk_drew ?_ | refine blk_alloc ?_ _)); refine blk_put (cs := #[.slice none 0 0, .slice none 0 0, .slice none 0 0]) ?_ 0 _ rfl; (with_reducible repeat (first | refine blk_drewN ?_ _ | refine blk_drew ?_ | refine blk_alloc ?_ _)); exact BK775.out) hb); have n1_ := Aside0.mk (below_step (by repeat (first | (with_reducible first | exact HB.out | apply below_alloc | apply pw_below_drewN | apply below_drew1 | refine below_set ?_ GE775.out) | exact HB.out)) hb); clear BK775; clear HB; have BK775 := n0_; have HB := n1_; clear n0_ n1_; (try clear hb); (try clear hb2); (try clear hk); (try clear hi)))
         have n0_ := Aside0.mk (blk_drew BK775.out)
         have n1_ := Aside0.mk (below_drew1 HB.out)
         clear BK775
         clear HB
         have BK775 := n0_
         have HB := n1_
         clear n0_ n1_
         refine start_ (n := 8) (S := fun w' => w'.cell? ⟨gb775, 0, none⟩ = some (.slice A774_0 ((rd_T86 l0 x3_1).f0).length c774_0) ∧ w'.cell? ⟨gb775, 1, none⟩ = some (.slice A774_1 ((rd_T86 l0 x3_1).f1).length c774_1) ∧ w'.cell? ⟨gb775, 2, none⟩ = some (.slice A774_2 ((rd_T86 l0 x3_1).f2).length c774_2)) (ds := []) #[false, false, false, false, false, false, false, false] (by kernel_rfl) rfl rfl ⟨(blk_cell BK775.out 0).trans rfl, (blk_cell BK775.out 1).trans rfl, (blk_cell BK775.out 2).trans rfl⟩ (fun hHeld => ?_); refine with_tabW arraslaw7_HavePairs.tab7 arraslaw7_HavePairs.bits7 (fun HT_ HW_ => ?_)
         generalize w22.drew = w23 at BK775 HB hHeld ⊢
         refine pure_ (i := 0) (N := some 35) (v := ?_) (a' := ?_) #[true, false, false, false, false, false, false, false] rfl rfl (any_of HT_.out (by kernel_rfl)) (fun _ _ _ h => h) (Or.inl ⟨by rfl, ?_⟩) ?_ ?_
         rotate_left
         ·intro w'
          go_simp
          with_reducible rfl
         rotate_left
         ·simp only [Act.put, List.setIfInBounds_toArray, List.set_cons_zero, List.set_cons_succ, i64_w, i32_w]
          rfl
         refine pure_ (i := 3) (N := some 38) (v := ?_) (a' := ?_) #[true, false, false, true, false, false, false, false] rfl rfl (any_of HT_.out (by kernel_rfl)) (fun _ _ _ h => h) (Or.inl ⟨by rfl, ?_⟩) ?_ ?_
         rotate_left
         ·intro w'
          go_simp
          with_reducible rfl
         rotate_left
         ·simp only [Act.put, List.setIfInBounds_toArray, List.set_cons_zero, List.set_cons_succ, i64_w, i32_w]
          rfl
         refine take_ (i := 1) (N := some 36) (v := ?_) (a' := ?_) #[true, true, false, true, false, false, false, false] rfl rfl (take_ofW HT_.out HW_.out (by kernel_rfl)) (fun _ _ _ h => h) (Or.inl ⟨by rfl, ?_⟩) hHeld ?_ ?_
         rotate_left
         ·rintro w' ⟨s0, s1, s2⟩
          go_simp
          with_reducible rfl
         rotate_left
         ·simp only [Act.put, List.setIfInBounds_toArray, List.set_cons_zero, List.set_cons_succ, i64_w, i32_w]
          rfl
         refine take_ (i := 4) (N := some 39) (v := ?_) (a' := ?_) #[true, true, false, true, true, false, false, false] rfl rfl (take_ofW HT_.out HW_.out (by kernel_rfl)) (fun _ _ _ h => h) (Or.inl ⟨by rfl, ?_⟩) hHeld ?_ ?_
         rotate_left
         ·rintro w' ⟨s0, s1, s2⟩
          go_simp
          with_reducible rfl
         rotate_left
         ·simp only [Act.put, List.setIfInBounds_toArray, List.set_cons_zero, List.set_cons_succ, i64_w, i32_w]
          rfl
         refine one_ (i := 2) (N := some 37) #[true, true, true, true, true, false, false, false] rfl rfl (one_of HT_.out (by kernel_rfl)) (by decide) (fun K hK => ?_)
         refine goes_ Try.func62 (by kernel_rfl) rfl #[.slice A774_0 ((rd_T86 l0 x3_1).f0).length c774_0] (by rfl) rfl rfl (by (try simp only [List.map_toArray, List.map_cons, List.map_nil]); first | done | rfl | (simp only [List.length_drop, List.length_take]; rfl)) ?_
         with_reducible refine (arrasref0_CopyNumbers.calls kj1 _ _ ((rd_T86 l0 x3_1).f0) t777 _ ?side1 ?side2 A12.out).mono ?_
         (case side1 => repeat (first | exact (Kd.C_below HR774_0.out HB.out) | with_reducible first | refine Kd.C_alloc ?_ _ | refine Kd.C_drewN ?_ _ | refine Kd.C_drew ?_))
         (case side2 => exact HC774_0.out)
         rintro e w24 ⟨v778, rfl, ho0, hb⟩
         refine ⟨_, rfl, ?_⟩
         have n0_ := Aside0.mk (Kd.R_lower ho0 (below_size (by repeat (first | (with_reducible first | exact HB.out | apply below_alloc | apply pw_below_drewN | apply below_drew1 | refine below_set ?_ GE775.out) | exact HB.out))))
         have n1_ := Aside0.mk (blk_below (g := gb775) (o := .cells #[.slice A774_0 ((rd_T86 l0 x3_1).f0).length c774_0, .slice A774_1 ((rd_T86 l0 x3_1).f1).length c774_1, .slice A774_2 ((rd_T86 l0 x3_1).f2).length c774_2] 86 (0, 0)) (by (with_reducible repeat (first | refine blk_drewN ?_ _ | refine blk_drew ?_ | refine blk_alloc ?_ _)); exact BK775.out) hb)
         have n2_ := Aside0.mk (below_step (by repeat (first | (with_reducible first | exact HB.out | apply below_alloc | apply pw_below_drewN | apply below_drew1 | refine below_set ?_ GE775.out) | exact HB.out)) hb)
         clear BK775
         clear HB
         have HO779 := n0_
         have BK775 := n1_
         have HB := n2_
         clear n0_ n1_ n2_
         (try clear hb)
         (try clear hb2)
         (try clear hk)
         (try clear hi)
         (try clear ho0)
         refine hK.out _ _ ⟨(blk_cell BK775.out 0).trans rfl, (blk_cell BK775.out 1).trans rfl, (blk_cell BK775.out 2).trans rfl⟩ (fun hHeld => ?_)
         clear hK K
         refine norm_ (a' := ?_) ?_ ?_
         rotate_left
         ·show Act.put _ (some 37) _ = _
          simp only [Act.put, List.setIfInBounds_toArray, List.set_cons_zero, List.set_cons_succ, i64_w, i32_w]
          rfl
         refine one_ (i := 5) (N := some 40) #[true, true, true, true, true, true, false, false] rfl rfl (one_of HT_.out (by kernel_rfl)) (by decide) (fun K hK => ?_)
         refine goes_ Try.func62 (by kernel_rfl) rfl #[.slice A774_1 ((rd_T86 l0 x3_1).f1).length c774_1] (by rfl) rfl rfl (by (try simp only [List.map_toArray, List.map_cons, List.map_nil]); first | done | rfl | (simp only [List.length_drop, List.length_take]; rfl)) ?_
         with_reducible refine (arrasref0_CopyNumbers.calls kj1 _ _ ((rd_T86 l0 x3_1).f1) t780 _ ?side1 ?side2 A13.out).mono ?_
         (case side1 => repeat (first | exact (Kd.C_below HR774_1.out HB.out) | with_reducible first | refine Kd.C_alloc ?_ _ | refine Kd.C_drewN ?_ _ | refine Kd.C_drew ?_))
         (case side2 => exact HC774_1.out)
         rintro e w25 ⟨v781, rfl, ho0, hb⟩
         refine ⟨_, rfl, ?_⟩
         have n0_ := Aside0.mk (Kd.R_elder' (by (with_reducible repeat (first | apply Kd.R_alloc | apply Kd.R_drewN | apply Kd.R_drew)); exact HO779.out) (Kd.R_base ho0) hb)
         have n1_ := Aside0.mk (Kd.R_lower (Kd.R_new' ho0 (Kd.R_lt (by (with_reducible repeat (first | apply Kd.R_alloc | apply Kd.R_drewN | apply Kd.R_drew)); exact HO779.out))) (below_size (by repeat (first | (with_reducible first | exact HB.out | apply below_alloc | apply pw_below_drewN | apply below_drew1 | refine below_set ?_ GE775.out) | exact HB.out))))
         have n2_ := Aside0.mk (blk_below (g := gb775) (o := .cells #[.slice A774_0 ((rd_T86 l0 x3_1).f0).length c774_0, .slice A774_1 ((rd_T86 l0 x3_1).f1).length c774_1, .slice A774_2 ((rd_T86 l0 x3_1).f2).length c774_2] 86 (0, 0)) (by (with_reducible repeat (first | refine blk_drewN ?_ _ | refine blk_drew ?_ | refine blk_alloc ?_ _)); exact BK775.out) hb)
         have n3_ := Aside0.mk (below_step (by repeat (first | (with_reducible first | exact HB.out | apply below_alloc | apply pw_below_drewN | apply below_drew1 | refine below_set ?_ GE775.out) | exact HB.out)) hb)
         clear HO779
         clear BK775
         clear HB
         have HO779 := n0_
         have HO782 := n1_
         have BK775 := n2_
         have HB := n3_
         clear n0_ n1_ n2_ n3_
         (try clear hb)
         (try clear hb2)
         (try clear hk)
         (try clear hi)
         (try clear ho0)
         refine hK.out _ _ ⟨(blk_cell BK775.out 0).trans rfl, (blk_cell BK775.out 1).trans rfl, (blk_cell BK775.out 2).trans rfl⟩ (fun hHeld => ?_)
         clear hK K
         refine norm_ (a' := ?_) ?_ ?_
         rotate_left
         ·show Act.put _ (some 40) _ = _
          simp only [Act.put, List.setIfInBounds_toArray, List.set_cons_zero, List.set_cons_succ, i64_w, i32_w]
          rfl
         refine pure_ (i := 6) (N := some 5) (v := ?_) (a' := ?_) #[true, true, true, true, true, true, true, false] rfl rfl (any_of HT_.out (by kernel_rfl)) (fun _ _ _ h => h) (Or.inl ⟨by rfl, ?_⟩) ?_ ?_
         rotate_left
         ·intro w'
          go_simp
          with_reducible rfl
         rotate_left
         ·simp only [Act.put, List.setIfInBounds_toArray, List.set_cons_zero, List.set_cons_succ, i64_w, i32_w]
          rfl
         refine pure_ (i := 7) (N := some 6) (v := ?_) (a' := ?_) #[true, true, true, true, true, true, true, true] rfl rfl (any_of HT_.out (by kernel_rfl)) (fun _ _ _ h => h) (Or.inl ⟨by rfl, ?_⟩) ?_ ?_
         rotate_left
         ·intro w'
          go_simp
          with_reducible rfl
         rotate_left
         ·simp only [Act.put, List.setIfInBounds_toArray, List.set_cons_zero, List.set_cons_succ, i64_w, i32_w]
          rfl
         refine done_ (done_of HT_.out (by kernel_rfl)) ?_
         obtain ⟨Ao26, co26, eo26⟩ := Kd.R_slice HO779.out
         subst eo26
         obtain ⟨Ao27, co27, eo27⟩ := Kd.R_slice HO782.out
         subst eo27
         go_upto_block 2 with (first | ((with_reducible refine gate_callee (f := 59) rfl ?_); refine goesL_ (some 44) rfl rfl Try.func59 (by kernel_rfl) rfl #[.slice Ao26 t777.length co26, .slice Ao27 t780.length co27] rfl (by (try simp only [List.map_toArray, List.map_cons, List.map_nil]); first | done | rfl | (simp only [List.length_drop, List.length_take]; rfl)) ?_; (with_reducible refine (have_Covers.calls kj1 _ _ t777 _ _ t780 t783 t784 _ ?side1 ?side2 ?side3 ?side4 A14.out).mono ?_); (case side1 => repeat (first | exact (Kd.R_reads' HO779.out).2.2 | with_reducible first | refine Kd.C_alloc ?_ _ | refine Kd.C_drewN ?_ _ | refine Kd.C_drew ?_)); (case side2 => exact (Kd.R_reads' HO779.out).2.1); (case side3 => repeat (first | exact (Kd.R_reads' HO782.out).2.2 | with_reducible first | refine Kd.C_alloc ?_ _ | refine Kd.C_drewN ?_ _ | refine Kd.C_drew ?_)); (case side4 => exact (Kd.R_reads' HO782.out).2.1); rintro e w' ⟨rfl, ⟨nd, rfl⟩⟩; refine ⟨_, rfl, ?_⟩) | ((with_reducible refine gate_callee (f := 58) rfl ?_); refine goesL_ (some 50) rfl rfl Try.func58 (by kernel_rfl) rfl #[.slice Ao26 t777.length co26, .slice Ao27 t780.length co27] rfl (by (try simp only [List.map_toArray, List.map_cons, List.map_nil]); first | done | rfl | (simp only [List.length_drop, List.length_take]; rfl)) ?_; (with_reducible refine (have_Join.calls kj1 _ _ t777 _ _ t780 t785 t786 _ ?side1 ?side2 ?side3 ?side4 A15.out).mono ?_); (case side1 => repeat (first | exact (Kd.R_reads' HO779.out).2.2 | with_reducible first | refine Kd.C_alloc ?_ _ | refine Kd.C_drewN ?_ _ | refine Kd.C_drew ?_)); (case side2 => exact (Kd.R_reads' HO779.out).2.1); (case side3 => repeat (first | exact (Kd.R_reads' HO782.out).2.2 | with_reducible first | refine Kd.C_alloc ?_ _ | refine Kd.C_drewN ?_ _ | refine Kd.C_drew ?_)); (case side4 => exact (Kd.R_reads' HO782.out).2.1); rintro e w28 ⟨v787, rfl, ho0, hb⟩; refine ⟨_, rfl, ?_⟩; have n0_ := Aside0.mk (Kd.R_elder' (by (with_reducible repeat (first | apply Kd.R_alloc | apply Kd.R_drewN | apply Kd.R_drew)); exact HO779.out) (Kd.R_base ho0) hb); have n1_ := Aside0.mk (Kd.R_elder' (by (with_reducible repeat (first | apply Kd.R_alloc | apply Kd.R_drewN | apply Kd.R_drew)); exact HO782.out) (Kd.R_base ho0) hb); have n2_ := Aside0.mk (Kd.R_lower (Kd.R_new' (Kd.R_new' ho0 (Kd.R_lt (by (with_reducible repeat (first | apply Kd.R_alloc | apply Kd.R_drewN | apply Kd.R_drew)); exact HO779.out))) (Kd.R_lt (by (with_reducible repeat (first | apply Kd.R_alloc | apply Kd.R_drewN | apply Kd.R_drew)); exact HO782.out))) (below_size (by repeat (first | (with_reducible first | exact HB.out | apply below_alloc | apply pw_below_drewN | apply below_drew1 | refine below_set ?_ GE775.out) | exact HB.out)))); have n3_ := Aside0.mk (blk_below (g := gb775) (o := .cells #[.slice A774_0 ((rd_T86 l0 x3_1).f0).length c774_0, .slice A774_1 ((rd_T86 l0 x3_1).f1).length c774_1, .slice A774_2 ((rd_T86 l0 x3_1).f2).length c774_2] 86 (0, 0)) (by (with_reducible repeat (first | refine blk_drewN ?_ _ | refine blk_drew ?_ | refine blk_alloc ?_ _)); exact BK775.out) hb); have n4_ := Aside0.mk (below_step (by repeat (first | (with_reducible first | exact HB.out | apply below_alloc | apply pw_below_drewN | apply below_drew1 | refine below_set ?_ GE775.out) | exact HB.out)) hb); clear HO779; clear HO782; clear BK775; clear HB; have HO779 := n0_; have HO782 := n1_; have HO788 := n2_; have BK775 := n3_; have HB := n4_; clear n0_ n1_ n2_ n3_ n4_; (try clear hb); (try clear hb2); (try clear hk); (try clear hi); (try clear ho0)) | ((with_reducible refine gate_callee (f := 60) rfl ?_); refine goesL_ (some 56) rfl rfl Try.func60 (by kernel_rfl) rfl #[.slice Ao26 t777.length co26, .slice Ao27 t780.length co27] rfl (by (try simp only [List.map_toArray, List.map_cons, List.map_nil]); first | done | rfl | (simp only [List.length_drop, List.length_take]; rfl)) ?_; (with_reducible refine (have_Lacks.calls kj1 _ _ t777 _ _ t780 t789 t790 _ ?side1 ?side2 ?side3 ?side4 A16.out).mono ?_); (case side1 => repeat (first | exact (Kd.R_reads' HO779.out).2.2 | with_reducible first | refine Kd.C_alloc ?_ _ | refine Kd.C_drewN ?_ _ | refine Kd.C_drew ?_)); (case side2 => exact (Kd.R_reads' HO779.out).2.1); (case side3 => repeat (first | exact (Kd.R_reads' HO782.out).2.2 | with_reducible first | refine Kd.C_alloc ?_ _ | refine Kd.C_drewN ?_ _ | refine Kd.C_drew ?_)); (case side4 => exact (Kd.R_reads' HO782.out).2.1); rintro e w29 ⟨v791, rfl, ho0, hb⟩; refine ⟨_, rfl, ?_⟩; have n0_ := Aside0.mk (Kd.R_elder' (by (with_reducible repeat (first | apply Kd.R_alloc | apply Kd.R_drewN | apply Kd.R_drew)); exact HO779.out) (Kd.R_base ho0) hb); have n1_ := Aside0.mk (Kd.R_elder' (by (with_reducible repeat (first | apply Kd.R_alloc | apply Kd.R_drewN | apply Kd.R_drew)); exact HO782.out) (Kd.R_base ho0) hb); have n2_ := Aside0.mk (Kd.R_elder' (by (with_reducible repeat (first | apply Kd.R_alloc | apply Kd.R_drewN | apply Kd.R_drew)); exact HO788.out) (Kd.R_base ho0) hb); have n3_ := Aside0.mk (Kd.R_lower (Kd.R_new' (Kd.R_new' (Kd.R_new' ho0 (Kd.R_lt (by (with_reducible repeat (first | apply Kd.R_alloc | apply Kd.R_drewN | apply Kd.R_drew)); exact HO779.out))) (Kd.R_lt (by (with_reducible repeat (first | apply Kd.R_alloc | apply Kd.R_drewN | apply Kd.R_drew)); exact HO782.out))) (Kd.R_lt (by (with_reducible repeat (first | apply Kd.R_alloc | apply Kd.R_drewN | apply Kd.R_drew)); exact HO788.out))) (below_size (by repeat (first | (with_reducible first | exact HB.out | apply below_alloc | apply pw_below_drewN | apply below_drew1 | refine below_set ?_ GE775.out) | exact HB.out)))); have n4_ := Aside0.mk (blk_below (g := gb775) (o := .cells #[.slice A774_0 ((rd_T86 l0 x3_1).f0).length c774_0, .slice A774_1 ((rd_T86 l0 x3_1).f1).length c774_1, .slice A774_2 ((rd_T86 l0 x3_1).f2).length c774_2] 86 (0, 0)) (by (with_reducible repeat (first | refine blk_drewN ?_ _ | refine blk_drew ?_ | refine blk_alloc ?_ _)); exact BK775.out) hb); have n5_ := Aside0.mk (below_step (by repeat (first | (with_reducible first | exact HB.out | apply below_alloc | apply pw_below_drewN | apply below_drew1 | refine below_set ?_ GE775.out) | exact HB.out)) hb); clear HO779; clear HO782; clear HO788; clear BK775; clear HB; have HO779 := n0_; have HO782 := n1_; have HO788 := n2_; have HO792 := n3_; have BK775 := n4_; have HB := n5_; clear n0_ n1_ n2_ n3_ n4_ n5_; (try clear hb); (try clear hb2); (try clear hk); (try clear hi); (try clear ho0)) | ((with_reducible refine gate_callee (f := 64) rfl ?_); refine goesL_ (some 61) rfl rfl Try.func64 (by kernel_rfl) rfl #[.slice Ao26 t777.length co26] rfl (by (try simp only [List.map_toArray, List.map_cons, List.map_nil]); first | done | rfl | (simp only [List.length_drop, List.length_take]; rfl)) ?_; (with_reducible refine (have_Count.calls kj1 _ _ t777 t793 t794 _ ?side1 ?side2 A17.out).mono ?_); (case side1 => repeat (first | exact (Kd.R_reads' HO779.out).2.2 | with_reducible first | refine Kd.C_alloc ?_ _ | refine Kd.C_drewN ?_ _ | refine Kd.C_drew ?_)); (case side2 => exact (Kd.R_reads' HO779.out).2.1); rintro e w' ⟨rfl, ⟨nd, rfl⟩⟩; refine ⟨_, rfl, ?_⟩; have hcz30_0 : w29.cell? ⟨gb775, 0, none⟩ = some (.slice A774_0 ((rd_T86 l0 x3_1).f0).length c774_0) := (blk_cell BK775.out 0).trans rfl; have hcz30_1 : w29.cell? ⟨gb775, 1, none⟩ = some (.slice A774_1 ((rd_T86 l0 x3_1).f1).length c774_1) := (blk_cell BK775.out 1).trans rfl; have hcz30_2 : w29.cell? ⟨gb775, 2, none⟩ = some (.slice A774_2 ((rd_T86 l0 x3_1).f2).length c774_2) := (blk_cell BK775.out 2).trans rfl; have hfz30_0 := blk_frozen BK775.out 0; have hfz30_1 := blk_frozen BK775.out 1; have hfz30_2 := blk_frozen BK775.out 2) | ((with_reducible refine gate_callee (f := 65) rfl ?_); refine goesL_ (some 66) rfl rfl Try.func65 (by kernel_rfl) rfl #[.slice A774_0 ((rd_T86 l0 x3_1).f0).length c774_0] rfl (by (try simp only [List.map_toArray, List.map_cons, List.map_nil]); first | done | rfl | (simp only [List.length_drop, List.length_take]; rfl)) ?_; (with_reducible refine (arrasref6_Vector.calls kj1 _ _ ((rd_T86 l0 x3_1).f0) t795 _ ?side1 ?side2 A18.out).mono ?_); (case side1 => repeat (first | exact (Kd.C_below HR774_0.out (by repeat (first | (with_reducible first | exact HB.out | apply below_alloc | apply pw_below_drewN | apply below_drew1 | refine below_set ?_ GE775.out) | exact HB.out))) | with_reducible first | refine Kd.C_alloc ?_ _ | refine Kd.C_drewN ?_ _ | refine Kd.C_drew ?_)); (case side2 => exact HC774_0.out); rintro e w' ⟨rfl, ⟨nd, rfl⟩⟩; refine ⟨_, rfl, ?_⟩))
         (try (rw [drewN_self w29]; generalize hq_ : World.drewN w29 _ = w29; have n0_ : Aside0 (Kd.R (Kd.int .i64) 3 w29 w.heap.size (fun k_ => some k_ ≠ (.slice Ao27 t780.length co27 : Value).ownBlock ∧ some k_ ≠ (v787 : Value).ownBlock ∧ some k_ ≠ (v791 : Value).ownBlock) (.slice Ao26 t777.length co26) t777) := ⟨by rw [← hq_]; exact (by (with_reducible repeat (first | apply Kd.R_alloc | apply Kd.R_drewN | apply Kd.R_drew)); exact Kd.R_mono HO779.out (fun _ hk => (by first | exact ⟨hk.1.1.2, ⟨hk.1.2, hk.2⟩⟩ | (simp only [ne_eq] at hk ⊢; simp only [hk, not_false_eq_true, and_self]))))⟩; have n1_ : Aside0 (Kd.R (Kd.int .i64) 3 w29 w.heap.size (fun k_ => some k_ ≠ (.slice Ao26 t777.length co26 : Value).ownBlock ∧ some k_ ≠ (v787 : Value).ownBlock ∧ some k_ ≠ (v791 : Value).ownBlock) (.slice Ao27 t780.length co27) t780) := ⟨by rw [← hq_]; exact (by (with_reducible repeat (first | apply Kd.R_alloc | apply Kd.R_drewN | apply Kd.R_drew)); exact Kd.R_mono HO782.out (fun _ hk => (by first | exact ⟨hk.1.1.2, ⟨hk.1.2, hk.2⟩⟩ | (simp only [ne_eq] at hk ⊢; simp only [hk, not_false_eq_true, and_self]))))⟩; have n2_ : Aside0 (Kd.R (Kd.int .i64) 3 w29 w.heap.size (fun k_ => some k_ ≠ (.slice Ao26 t777.length co26 : Value).ownBlock ∧ some k_ ≠ (.slice Ao27 t780.length co27 : Value).ownBlock ∧ some k_ ≠ (v791 : Value).ownBlock) v787 t785) := ⟨by rw [← hq_]; exact (by (with_reducible repeat (first | apply Kd.R_alloc | apply Kd.R_drewN | apply Kd.R_drew)); exact Kd.R_mono HO788.out (fun _ hk => (by first | exact ⟨hk.1.1.2, ⟨hk.1.2, hk.2⟩⟩ | (simp only [ne_eq] at hk ⊢; simp only [hk, not_false_eq_true, and_self]))))⟩; have n3_ : Aside0 (Kd.R (Kd.int .i64) 3 w29 w.heap.size (fun k_ => some k_ ≠ (.slice Ao26 t777.length co26 : Value).ownBlock ∧ some k_ ≠ (.slice Ao27 t780.length co27 : Value).ownBlock ∧ some k_ ≠ (v787 : Value).ownBlock) v791 t789) := ⟨by rw [← hq_]; exact (by (with_reducible repeat (first | apply Kd.R_alloc | apply Kd.R_drewN | apply Kd.R_drew)); exact Kd.R_mono HO792.out (fun _ hk => (by first | exact ⟨hk.1.1.2, ⟨hk.1.2, hk.2⟩⟩ | (simp only [ne_eq] at hk ⊢; simp only [hk, not_false_eq_true, and_self]))))⟩; have n4_ : Aside0 (w29.heap[gb775]? = some (.cells #[.slice A774_0 ((rd_T86 l0 x3_1).f0).length c774_0, .slice A774_1 ((rd_T86 l0 x3_1).f1).length c774_1, .slice A774_2 ((rd_T86 l0 x3_1).f2).length c774_2] 86 (0, 0))) := ⟨by rw [← hq_]; exact (by (with_reducible repeat (first | refine blk_drewN ?_ _ | refine blk_drew ?_ | refine blk_alloc ?_ _)); exact BK775.out)⟩; have n5_ : Aside0 (Below w.heap.size w w29) := ⟨by rw [← hq_]; exact (by repeat (first | (with_reducible first | exact HB.out | apply below_alloc | apply pw_below_drewN | apply below_drew1 | refine below_set ?_ GE775.out) | exact HB.out))⟩; clear HO779 HO782 HO788 HO792 BK775 HB hq_; have HO779 := n0_; have HO782 := n1_; have HO788 := n2_; have HO792 := n3_; have BK775 := n4_; have HB := n5_; clear n0_ n1_ n2_ n3_ n4_ n5_))
         (try simp only [Act.put, List.setIfInBounds_toArray, List.set_cons_zero, List.set_cons_succ])
         go_cut [16] (fun v16 wc => ∃ (kq : Nat) (x16_18 : Int), v16 = .int .i64 x16_18 ∧ Aside0 (arraslaw7_HavePairs.j3 kq l0 x3_1 t777 t780 t783 t784 t785 t786 t789 t790 t793 t794 t795 x16_18 ((rd_T86 l0 x3_1).f0) ((rd_T86 l0 x3_1).f1) ((rd_T86 l0 x3_1).f2) = some r) ∧ Aside0 (kq ≤ kj1) ∧ Aside0 (Kd.R (Kd.int .i64) 3 wc w.heap.size (fun k_ => some k_ ≠ ((.slice Ao27 t780.length co27) : Value).ownBlock ∧ some k_ ≠ (v787 : Value).ownBlock ∧ some k_ ≠ (v791 : Value).ownBlock) (.slice Ao26 t777.length co26) t777) ∧ Aside0 (Kd.R (Kd.int .i64) 3 wc w.heap.size (fun k_ => some k_ ≠ ((.slice Ao26 t777.length co26) : Value).ownBlock ∧ some k_ ≠ (v787 : Value).ownBlock ∧ some k_ ≠ (v791 : Value).ownBlock) (.slice Ao27 t780.length co27) t780) ∧ Aside0 (Kd.R (Kd.int .i64) 3 wc w.heap.size (fun k_ => some k_ ≠ ((.slice Ao26 t777.length co26) : Value).ownBlock ∧ some k_ ≠ ((.slice Ao27 t780.length co27) : Value).ownBlock ∧ some k_ ≠ (v791 : Value).ownBlock) v787 t785) ∧ Aside0 (Kd.R (Kd.int .i64) 3 wc w.heap.size (fun k_ => some k_ ≠ ((.slice Ao26 t777.length co26) : Value).ownBlock ∧ some k_ ≠ ((.slice Ao27 t780.length co27) : Value).ownBlock ∧ some k_ ≠ (v787 : Value).ownBlock) v791 t789) ∧ Aside0 (wc.heap[gb775]? = some (.cells #[(.slice A774_0 ((rd_T86 l0 x3_1).f0).length c774_0), (.slice A774_1 ((rd_T86 l0 x3_1).f1).length c774_1), (.slice A774_2 ((rd_T86 l0 x3_1).f2).length c774_2)] 86 (0, 0))) ∧ Aside0 (Below w.heap.size w wc))
         case first =>
          have H := HC19.out
          clear HC19
          have H' := Aside0.mk H
          clear H
          go_wp2
          go_loopg [16, 17] kj1 (fun kq v16 v17 w' => ∃ (x16_3 : Int) (x17_3 : Int), v16 = .int .i64 x16_3 ∧ v17 = .int .i64 x17_3 ∧ Aside0 (arraslaw7_HavePairs.l1 kq l0 x3_1 t777 t780 t783 t784 t785 t786 t789 t790 t793 t794 t795 x16_3 x17_3 ((rd_T86 l0 x3_1).f0) ((rd_T86 l0 x3_1).f1) ((rd_T86 l0 x3_1).f2) = some r) ∧ Aside0 (kq ≤ kj1) ∧ Aside0 (Kd.R (Kd.int .i64) 3 w' w.heap.size (fun k_ => some k_ ≠ ((.slice Ao27 t780.length co27) : Value).ownBlock ∧ some k_ ≠ (v787 : Value).ownBlock ∧ some k_ ≠ (v791 : Value).ownBlock) (.slice Ao26 t777.length co26) t777) ∧ Aside0 (Kd.R (Kd.int .i64) 3 w' w.heap.size (fun k_ => some k_ ≠ ((.slice Ao26 t777.length co26) : Value).ownBlock ∧ some k_ ≠ (v787 : Value).ownBlock ∧ some k_ ≠ (v791 : Value).ownBlock) (.slice Ao27 t780.length co27) t780) ∧ Aside0 (Kd.R (Kd.int .i64) 3 w' w.heap.size (fun k_ => some k_ ≠ ((.slice Ao26 t777.length co26) : Value).ownBlock ∧ some k_ ≠ ((.slice Ao27 t780.length co27) : Value).ownBlock ∧ some k_ ≠ (v791 : Value).ownBlock) v787 t785) ∧ Aside0 (Kd.R (Kd.int .i64) 3 w' w.heap.size (fun k_ => some k_ ≠ ((.slice Ao26 t777.length co26) : Value).ownBlock ∧ some k_ ≠ ((.slice Ao27 t780.length co27) : Value).ownBlock ∧ some k_ ≠ (v787 : Value).ownBlock) v791 t789) ∧ Aside0 (w'.heap[gb775]? = some (.cells #[(.slice A774_0 ((rd_T86 l0 x3_1).f0).length c774_0), (.slice A774_1 ((rd_T86 l0 x3_1).f1).length c774_1), (.slice A774_2 ((rd_T86 l0 x3_1).f2).length c774_2)] 86 (0, 0))) ∧ Aside0 (Below w.heap.size w w'))
          case atStart => exact ⟨(0), (0), (by first | rfl | (simp; done) | (simp [*]; done)), (by first | rfl | (simp; done) | (simp [*]; done)), H', ⟨Nat.le_refl _⟩, ⟨by (with_reducible repeat (first | apply Kd.R_alloc | apply Kd.R_drewN | apply Kd.R_drew)); exact Kd.R_mono HO779.out (fun _ hk => (by first | exact ⟨hk.1.1.2, ⟨hk.1.2, hk.2⟩⟩ | (simp only [ne_eq] at hk ⊢; simp only [hk, not_false_eq_true, and_self])))⟩, ⟨by (with_reducible repeat (first | apply Kd.R_alloc | apply Kd.R_drewN | apply Kd.R_drew)); exact Kd.R_mono HO782.out (fun _ hk => (by first | exact ⟨hk.1.1.2, ⟨hk.1.2, hk.2⟩⟩ | (simp only [ne_eq] at hk ⊢; simp only [hk, not_false_eq_true, and_self])))⟩, ⟨by (with_reducible repeat (first | apply Kd.R_alloc | apply Kd.R_drewN | apply Kd.R_drew)); exact Kd.R_mono HO788.out (fun _ hk => (by first | exact ⟨hk.1.1.2, ⟨hk.1.2, hk.2⟩⟩ | (simp only [ne_eq] at hk ⊢; simp only [hk, not_false_eq_true, and_self])))⟩, ⟨by (with_reducible repeat (first | apply Kd.R_alloc | apply Kd.R_drewN | apply Kd.R_drew)); exact Kd.R_mono HO792.out (fun _ hk => (by first | exact ⟨hk.1.1.2, ⟨hk.1.2, hk.2⟩⟩ | (simp only [ne_eq] at hk ⊢; simp only [hk, not_false_eq_true, and_self])))⟩, ⟨by (with_reducible repeat (first | refine blk_drewN ?_ _ | refine blk_drew ?_ | refine blk_alloc ?_ _)); exact BK775.out⟩, ⟨by repeat (first | (with_reducible first | exact HB.out | apply below_alloc | apply pw_below_drewN | apply below_drew1 | refine below_set ?_ GE775.out) | exact HB.out)⟩⟩
          case round =>
           clear H'
           (try clear c1); (try clear p2); (try clear c3); (try clear c3b0); (try clear c4); (try clear c5); (try clear c5b0); (try clear c6); (try clear c6b0); (try clear c7); (try clear p7); (try clear q7); (try clear hx7); (try clear c8); (try clear c15); (try clear hcz10_0); (try clear hcz10_1); (try clear hcz10_2); (try clear hcz21_0); (try clear hcz21_1); (try clear hcz21_2); (try clear hcz30_0); (try clear hcz30_1); (try clear hcz30_2); (try clear hfz10_0); (try clear hfz10_1); (try clear hfz10_2); (try clear hfz21_0); (try clear hfz21_1); (try clear hfz21_2); (try clear hfz30_0); (try clear hfz30_1); (try clear hfz30_2); (try clear hx774_0); (try clear hx774_1); (try clear hx774_2); (try clear p2); (try clear p774); (try clear q774)
           obtain ⟨x16_3, x17_3, rfl, rfl, HA, HK3, HO_5, HO_6, HO_9, HO_11, BK775, HB⟩ := hrel
           cases gk with
           | zero => exact absurd HA.out (by simp [arraslaw7_HavePairs.l1])
           | succ k3 =>
            have H := HA.out
            clear HA
            simp only [arraslaw7_HavePairs.l1] at H
            by_cases c31 : x17_3 < (((rd_T86 l0 x3_1).f0).length : Int)
            ·rw [if_pos c31] at H
             have c31b0 : decide (x17_3 < (((rd_T86 l0 x3_1).f0).length : Int)) = true := decide_eq_true c31
             clear c31
             (first | rw [c31b0] | (simp only [i64_w, i32_w]; rw [c31b0]) | skip)
             by_cases c32 : t795 = true
             ·subst c32
              have H1 : (if 0 ≤ x17_3 then (arraslaw7_HavePairs.l1 k3 l0 x3_1 t777 t780 t783 t784 t785 t786 t789 t790 t793 t794 true (wrap64 (x16_3 + (rd ((rd_T86 l0 x3_1).f0) x17_3))) (wrap64 (x17_3 + 1)) ((rd_T86 l0 x3_1).f0) ((rd_T86 l0 x3_1).f1) ((rd_T86 l0 x3_1).f2)) else (none)) = some r := by rw [if_pos rfl] at H; exact H
              clear H
              have H := H1
              clear H1
              by_cases c33 : 0 ≤ x17_3
              ·rw [if_pos c33] at H
               have c33b0 : decide (0 ≤ x17_3) = true := decide_eq_true c33
               clear c33
               as_aux_lemma =>
                have H' := Aside0.mk H
                clear H
                have hcz34_0 : wr.cell? ⟨gb775, 0, none⟩ = some (.slice A774_0 ((rd_T86 l0 x3_1).f0).length c774_0) := (blk_cell BK775.out 0).trans rfl
                have hcz34_1 : wr.cell? ⟨gb775, 1, none⟩ = some (.slice A774_1 ((rd_T86 l0 x3_1).f1).length c774_1) := (blk_cell BK775.out 1).trans rfl
                have hcz34_2 : wr.cell? ⟨gb775, 2, none⟩ = some (.slice A774_2 ((rd_T86 l0 x3_1).f2).length c774_2) := (blk_cell BK775.out 2).trans rfl
                have hfz34_0 := blk_frozen BK775.out 0
                have hfz34_1 := blk_frozen BK775.out 1
                have hfz34_2 := blk_frozen BK775.out 2
                have p796 : 0 ≤ (x17_3 : Int) := of_decide_eq_true (by first | (with_reducible assumption) | assumption)
                have q796 : x17_3 < (((rd_T86 l0 x3_1).f0).length : Int) := of_decide_eq_true (by first | (with_reducible assumption) | assumption)
                obtain ⟨ad796, e796, hx796_0⟩ := Kd.at_int HR774_0.out x17_3 p796 q796
                cases e796
                replace hx796_0 := (HB.out.cell (World.block_lt_of_cell? w _ hx796_0)).trans hx796_0
                replace p796 := eq_true p796
                replace q796 := eq_true q796
                go_wp2
                go_roundg k3
                case measure => have := HK1.out; have := HJ1.out; have := HK3.out; omega
                case rel => exact ⟨(wrap64 (x16_3 + (rd ((rd_T86 l0 x3_1).f0) x17_3))), (wrap64 (x17_3 + 1)), (by first | rfl | (simp; done) | (simp [*]; done)), (by first | rfl | (simp; done) | (simp [*]; done)), H', ⟨by have := HK1.out; have := HJ1.out; have := HK3.out; omega⟩, ⟨by (with_reducible repeat (first | apply Kd.R_alloc | apply Kd.R_drewN | apply Kd.R_drew)); first | exact HO_5.out | exact Kd.R_mono HO_5.out (fun k_ h_ => by first | exact ⟨h_.2.1, h_.2.2, h_.1⟩ | exact ⟨h_.2.2, h_.1, h_.2.1⟩ | exact ⟨h_.1, h_.2.2, h_.2.1⟩ | exact ⟨h_.2.1, h_.1, h_.2.2⟩ | exact ⟨h_.2.2, h_.2.1, h_.1⟩)⟩, ⟨by (with_reducible repeat (first | apply Kd.R_alloc | apply Kd.R_drewN | apply Kd.R_drew)); first | exact HO_6.out | exact Kd.R_mono HO_6.out (fun k_ h_ => by first | exact ⟨h_.2.1, h_.2.2, h_.1⟩ | exact ⟨h_.2.2, h_.1, h_.2.1⟩ | exact ⟨h_.1, h_.2.2, h_.2.1⟩ | exact ⟨h_.2.1, h_.1, h_.2.2⟩ | exact ⟨h_.2.2, h_.2.1, h_.1⟩)⟩, ⟨by (with_reducible repeat (first | apply Kd.R_alloc | apply Kd.R_drewN | apply Kd.R_drew)); first | exact HO_9.out | exact Kd.R_mono HO_9.out (fun k_ h_ => by first | exact ⟨h_.2.1, h_.2.2, h_.1⟩ | exact ⟨h_.2.2, h_.1, h_.2.1⟩ | exact ⟨h_.1, h_.2.2, h_.2.1⟩ | exact ⟨h_.2.1, h_.1, h_.2.2⟩ | exact ⟨h_.2.2, h_.2.1, h_.1⟩)⟩, ⟨by (with_reducible repeat (first | apply Kd.R_alloc | apply Kd.R_drewN | apply Kd.R_drew)); first | exact HO_11.out | exact Kd.R_mono HO_11.out (fun k_ h_ => by first | exact ⟨h_.2.1, h_.2.2, h_.1⟩ | exact ⟨h_.2.2, h_.1, h_.2.1⟩ | exact ⟨h_.1, h_.2.2, h_.2.1⟩ | exact ⟨h_.2.1, h_.1, h_.2.2⟩ | exact ⟨h_.2.2, h_.2.1, h_.1⟩)⟩, ⟨by (with_reducible repeat (first | refine blk_drewN ?_ _ | refine blk_drew ?_ | refine blk_alloc ?_ _)); exact BK775.out⟩, ⟨by repeat (first | (with_reducible first | exact HB.out | apply below_alloc | apply pw_below_drewN | apply below_drew1 | refine below_set ?_ GE775.out) | exact HB.out)⟩⟩
              ·rw [if_neg c33] at H
               exact absurd H (by simp)
             ·replace c32 := Bool.eq_false_iff.mpr c32
              subst c32
              have H1 : (arraslaw7_HavePairs.j3 k3 l0 x3_1 t777 t780 t783 t784 t785 t786 t789 t790 t793 t794 false x16_3 ((rd_T86 l0 x3_1).f0) ((rd_T86 l0 x3_1).f1) ((rd_T86 l0 x3_1).f2)) = some r := by rw [if_neg (show ¬ (false = true) by decide)] at H; exact H
              clear H
              have H := H1
              clear H1
              as_aux_lemma =>
               have H' := Aside0.mk H
               clear H
               have hcz35_0 : wr.cell? ⟨gb775, 0, none⟩ = some (.slice A774_0 ((rd_T86 l0 x3_1).f0).length c774_0) := (blk_cell BK775.out 0).trans rfl
               have hcz35_1 : wr.cell? ⟨gb775, 1, none⟩ = some (.slice A774_1 ((rd_T86 l0 x3_1).f1).length c774_1) := (blk_cell BK775.out 1).trans rfl
               have hcz35_2 : wr.cell? ⟨gb775, 2, none⟩ = some (.slice A774_2 ((rd_T86 l0 x3_1).f2).length c774_2) := (blk_cell BK775.out 2).trans rfl
               have hfz35_0 := blk_frozen BK775.out 0
               have hfz35_1 := blk_frozen BK775.out 1
               have hfz35_2 := blk_frozen BK775.out 2
               go_wp2
               go_meet
               case rel => exact ⟨_, (x16_3), (by first | rfl | (simp; done) | (simp [*]; done)), H', ⟨by have := HK1.out; have := HJ1.out; have := HK3.out; first | omega | exact Nat.le_refl _⟩, ⟨by (with_reducible repeat (first | apply Kd.R_alloc | apply Kd.R_drewN | apply Kd.R_drew)); first | exact HO_5.out | exact Kd.R_mono HO_5.out (fun k_ h_ => by first | exact ⟨h_.2.1, h_.2.2, h_.1⟩ | exact ⟨h_.2.2, h_.1, h_.2.1⟩ | exact ⟨h_.1, h_.2.2, h_.2.1⟩ | exact ⟨h_.2.1, h_.1, h_.2.2⟩ | exact ⟨h_.2.2, h_.2.1, h_.1⟩)⟩, ⟨by (with_reducible repeat (first | apply Kd.R_alloc | apply Kd.R_drewN | apply Kd.R_drew)); first | exact HO_6.out | exact Kd.R_mono HO_6.out (fun k_ h_ => by first | exact ⟨h_.2.1, h_.2.2, h_.1⟩ | exact ⟨h_.2.2, h_.1, h_.2.1⟩ | exact ⟨h_.1, h_.2.2, h_.2.1⟩ | exact ⟨h_.2.1, h_.1, h_.2.2⟩ | exact ⟨h_.2.2, h_.2.1, h_.1⟩)⟩, ⟨by (with_reducible repeat (first | apply Kd.R_alloc | apply Kd.R_drewN | apply Kd.R_drew)); first | exact HO_9.out | exact Kd.R_mono HO_9.out (fun k_ h_ => by first | exact ⟨h_.2.1, h_.2.2, h_.1⟩ | exact ⟨h_.2.2, h_.1, h_.2.1⟩ | exact ⟨h_.1, h_.2.2, h_.2.1⟩ | exact ⟨h_.2.1, h_.1, h_.2.2⟩ | exact ⟨h_.2.2, h_.2.1, h_.1⟩)⟩, ⟨by (with_reducible repeat (first | apply Kd.R_alloc | apply Kd.R_drewN | apply Kd.R_drew)); first | exact HO_11.out | exact Kd.R_mono HO_11.out (fun k_ h_ => by first | exact ⟨h_.2.1, h_.2.2, h_.1⟩ | exact ⟨h_.2.2, h_.1, h_.2.1⟩ | exact ⟨h_.1, h_.2.2, h_.2.1⟩ | exact ⟨h_.2.1, h_.1, h_.2.2⟩ | exact ⟨h_.2.2, h_.2.1, h_.1⟩)⟩, ⟨by (with_reducible repeat (first | refine blk_drewN ?_ _ | refine blk_drew ?_ | refine blk_alloc ?_ _)); exact BK775.out⟩, ⟨by repeat (first | (with_reducible first | exact HB.out | apply below_alloc | apply pw_below_drewN | apply below_drew1 | refine below_set ?_ GE775.out) | exact HB.out)⟩⟩
            ·rw [if_neg c31] at H
             have c31b0 : decide (x17_3 < (((rd_T86 l0 x3_1).f0).length : Int)) = false := decide_eq_false c31
             clear c31
             (first | rw [c31b0] | (simp only [i64_w, i32_w]; rw [c31b0]) | skip)
             as_aux_lemma =>
              have H' := Aside0.mk H
              clear H
              have hcz36_0 : wr.cell? ⟨gb775, 0, none⟩ = some (.slice A774_0 ((rd_T86 l0 x3_1).f0).length c774_0) := (blk_cell BK775.out 0).trans rfl
              have hcz36_1 : wr.cell? ⟨gb775, 1, none⟩ = some (.slice A774_1 ((rd_T86 l0 x3_1).f1).length c774_1) := (blk_cell BK775.out 1).trans rfl
              have hcz36_2 : wr.cell? ⟨gb775, 2, none⟩ = some (.slice A774_2 ((rd_T86 l0 x3_1).f2).length c774_2) := (blk_cell BK775.out 2).trans rfl
              have hfz36_0 := blk_frozen BK775.out 0
              have hfz36_1 := blk_frozen BK775.out 1
              have hfz36_2 := blk_frozen BK775.out 2
              go_wp2
              go_meet
              case rel => exact ⟨_, (x16_3), (by first | rfl | (simp; done) | (simp [*]; done)), H', ⟨by have := HK1.out; have := HJ1.out; have := HK3.out; first | omega | exact Nat.le_refl _⟩, ⟨by (with_reducible repeat (first | apply Kd.R_alloc | apply Kd.R_drewN | apply Kd.R_drew)); first | exact HO_5.out | exact Kd.R_mono HO_5.out (fun k_ h_ => by first | exact ⟨h_.2.1, h_.2.2, h_.1⟩ | exact ⟨h_.2.2, h_.1, h_.2.1⟩ | exact ⟨h_.1, h_.2.2, h_.2.1⟩ | exact ⟨h_.2.1, h_.1, h_.2.2⟩ | exact ⟨h_.2.2, h_.2.1, h_.1⟩)⟩, ⟨by (with_reducible repeat (first | apply Kd.R_alloc | apply Kd.R_drewN | apply Kd.R_drew)); first | exact HO_6.out | exact Kd.R_mono HO_6.out (fun k_ h_ => by first | exact ⟨h_.2.1, h_.2.2, h_.1⟩ | exact ⟨h_.2.2, h_.1, h_.2.1⟩ | exact ⟨h_.1, h_.2.2, h_.2.1⟩ | exact ⟨h_.2.1, h_.1, h_.2.2⟩ | exact ⟨h_.2.2, h_.2.1, h_.1⟩)⟩, ⟨by (with_reducible repeat (first | apply Kd.R_alloc | apply Kd.R_drewN | apply Kd.R_drew)); first | exact HO_9.out | exact Kd.R_mono HO_9.out (fun k_ h_ => by first | exact ⟨h_.2.1, h_.2.2, h_.1⟩ | exact ⟨h_.2.2, h_.1, h_.2.1⟩ | exact ⟨h_.1, h_.2.2, h_.2.1⟩ | exact ⟨h_.2.1, h_.1, h_.2.2⟩ | exact ⟨h_.2.2, h_.2.1, h_.1⟩)⟩, ⟨by (with_reducible repeat (first | apply Kd.R_alloc | apply Kd.R_drewN | apply Kd.R_drew)); first | exact HO_11.out | exact Kd.R_mono HO_11.out (fun k_ h_ => by first | exact ⟨h_.2.1, h_.2.2, h_.1⟩ | exact ⟨h_.2.2, h_.1, h_.2.1⟩ | exact ⟨h_.1, h_.2.2, h_.2.1⟩ | exact ⟨h_.2.1, h_.1, h_.2.2⟩ | exact ⟨h_.2.2, h_.2.1, h_.1⟩)⟩, ⟨by (with_reducible repeat (first | refine blk_drewN ?_ _ | refine blk_drew ?_ | refine blk_alloc ?_ _)); exact BK775.out⟩, ⟨by repeat (first | (with_reducible first | exact HB.out | apply below_alloc | apply pw_below_drewN | apply below_drew1 | refine below_set ?_ GE775.out) | exact HB.out)⟩⟩
         case rest =>
          clear HC19
          (try clear c1); (try clear p2); (try clear c3); (try clear c3b0); (try clear c4); (try clear c5); (try clear c5b0); (try clear c6); (try clear c6b0); (try clear p6); (try clear c7); (try clear p7); (try clear q7); (try clear hx7); (try clear c8); (try clear c15); (try clear c31); (try clear c31b0); (try clear c32); (try clear c33); (try clear c33b0); (try clear hcz10_0); (try clear hcz10_1); (try clear hcz10_2); (try clear hcz21_0); (try clear hcz21_1); (try clear hcz21_2); (try clear hcz30_0); (try clear hcz30_1); (try clear hcz30_2); (try clear hcz34_0); (try clear hcz34_1); (try clear hcz34_2); (try clear hcz35_0); (try clear hcz35_1); (try clear hcz35_2); (try clear hcz36_0); (try clear hcz36_1); (try clear hcz36_2); (try clear hfz10_0); (try clear hfz10_1); (try clear hfz10_2); (try clear hfz21_0); (try clear hfz21_1); (try clear hfz21_2); (try clear hfz30_0); (try clear hfz30_1); (try clear hfz30_2); (try clear hfz34_0); (try clear hfz34_1); (try clear hfz34_2); (try clear hfz35_0); (try clear hfz35_1); (try clear hfz35_2); (try clear hfz36_0); (try clear hfz36_1); (try clear hfz36_2); (try clear hx774_0); (try clear hx774_1); (try clear hx774_2); (try clear hx796_0); (try clear p2); (try clear p7); (try clear p774); (try clear p796); (try clear q7); (try clear q774); (try clear q796)
          obtain ⟨kq, x16_18, rfl, HA, HJ18, HO_5, HO_6, HO_9, HO_11, BK775, HB⟩ := hcut
          cases kq with
          | zero => exact absurd HA.out (by simp [arraslaw7_HavePairs.j3])
          | succ kj18 =>
           have H := HA.out
           clear HA
           simp only [arraslaw7_HavePairs.j3] at H
           have HC37 := Aside0.mk H
           clear H
           go_upto_region 18 with (fail)
           go_cut [110] (fun v110 wc => ∃ (kq : Nat) (x110_36 : Bool), v110 = .bool x110_36 ∧ Aside0 (arraslaw7_HavePairs.j4 kq l0 x3_1 t777 t780 t783 t784 t785 t786 t789 t790 x110_36 ((rd_T86 l0 x3_1).f0) ((rd_T86 l0 x3_1).f1) ((rd_T86 l0 x3_1).f2) = some r) ∧ Aside0 (kq ≤ kj18) ∧ Aside0 (Kd.R (Kd.int .i64) 3 wc w.heap.size (fun k_ => some k_ ≠ ((.slice Ao27 t780.length co27) : Value).ownBlock ∧ some k_ ≠ (v787 : Value).ownBlock ∧ some k_ ≠ (v791 : Value).ownBlock) (.slice Ao26 t777.length co26) t777) ∧ Aside0 (Kd.R (Kd.int .i64) 3 wc w.heap.size (fun k_ => some k_ ≠ ((.slice Ao26 t777.length co26) : Value).ownBlock ∧ some k_ ≠ (v787 : Value).ownBlock ∧ some k_ ≠ (v791 : Value).ownBlock) (.slice Ao27 t780.length co27) t780) ∧ Aside0 (Kd.R (Kd.int .i64) 3 wc w.heap.size (fun k_ => some k_ ≠ ((.slice Ao26 t777.length co26) : Value).ownBlock ∧ some k_ ≠ ((.slice Ao27 t780.length co27) : Value).ownBlock ∧ some k_ ≠ (v791 : Value).ownBlock) v787 t785) ∧ Aside0 (Kd.R (Kd.int .i64) 3 wc w.heap.size (fun k_ => some k_ ≠ ((.slice Ao26 t777.length co26) : Value).ownBlock ∧ some k_ ≠ ((.slice Ao27 t780.length co27) : Value).ownBlock ∧ some k_ ≠ (v787 : Value).ownBlock) v791 t789) ∧ Aside0 (wc.heap[gb775]? = some (.cells #[(.slice A774_0 ((rd_T86 l0 x3_1).f0).length c774_0), (.slice A774_1 ((rd_T86 l0 x3_1).f1).length c774_1), (.slice A774_2 ((rd_T86 l0 x3_1).f2).length c774_2)] 86 (0, 0))) ∧ Aside0 (Below w.heap.size w wc))
           case first =>
            have H := HC37.out
            clear HC37
            replace H := Option.bind_eq_some_iff.mp H
            obtain ⟨t797, A380, H⟩ := H
            (try dsimp only at H)
            have A38 := Aside0.mk A380
            clear A380
            replace H := Option.bind_eq_some_iff.mp H
            obtain ⟨t798, A390, H⟩ := H
            (try dsimp only at H)
            have A39 := Aside0.mk A390
            clear A390
            by_cases c40 : ((t798 == 0) != t795) = true
            ·rw [if_pos c40] at H
             have c40b0 : ((t798 == 0) != t795) = true := c40
             (try (have c40b1 : decide ((t798 == 0) = t795) = false := by simpa using c40))
             (try (have c40b2 : ((t798 == 0) == t795) = false := by simpa using c40))
             (try (have c40b3 : ¬ ((t798 == 0) = t795) := by simpa using c40))
             clear c40
             (first | rw [c40b0] | (simp only [i64_w, i32_w]; rw [c40b0]) | skip)
             as_aux_lemma =>
              have H' := Aside0.mk H
              clear H
              go_wp2_with (first | ((with_reducible refine gate_callee (f := 66) rfl ?_); refine goesL_ (some 85) rfl rfl Try.func66 (by kernel_rfl) rfl #[.slice Ao26 t777.length co26] rfl (by (try simp only [List.map_toArray, List.map_cons, List.map_nil]); first | done | rfl | (simp only [List.length_drop, List.length_take]; rfl)) ?_; (with_reducible refine (have_Check.calls kj18 _ _ t777 t797 _ ?side1 ?side2 A38.out).mono ?_); (case side1 => repeat (first | exact (Kd.R_reads' HO_5.out).2.2 | with_reducible first | refine Kd.C_alloc ?_ _ | refine Kd.C_drewN ?_ _ | refine Kd.C_drew ?_)); (case side2 => exact (Kd.R_reads' HO_5.out).2.1); rintro e w' ⟨rfl, ⟨nd, rfl⟩⟩; refine ⟨_, rfl, ?_⟩) | ((with_reducible refine gate_callee (f := 61) rfl ?_); refine goesL_ (some 86) rfl rfl Try.func61 (by kernel_rfl) rfl #[.int .i64 t797] rfl (by (try simp only [List.map_toArray, List.map_cons, List.map_nil]); first | done | rfl | (simp only [List.length_drop, List.length_take]; rfl)) ?_; (with_reducible refine (arraslaw7_num.calls t797 t798 _ A39.out).mono ?_); rintro e w' ⟨rfl, ⟨nd, rfl⟩⟩; refine ⟨_, rfl, ?_⟩))
              go_meet
              case rel => exact ⟨_, (true), (by first | rfl | (simp; done) | (simp [*]; done)), H', ⟨by have := HK1.out; have := HJ1.out; have := HJ18.out; first | omega | exact Nat.le_refl _⟩, ⟨by (with_reducible repeat (first | apply Kd.R_alloc | apply Kd.R_drewN | apply Kd.R_drew)); first | exact HO_5.out | exact Kd.R_mono HO_5.out (fun k_ h_ => by first | exact ⟨h_.2.1, h_.2.2, h_.1⟩ | exact ⟨h_.2.2, h_.1, h_.2.1⟩ | exact ⟨h_.1, h_.2.2, h_.2.1⟩ | exact ⟨h_.2.1, h_.1, h_.2.2⟩ | exact ⟨h_.2.2, h_.2.1, h_.1⟩)⟩, ⟨by (with_reducible repeat (first | apply Kd.R_alloc | apply Kd.R_drewN | apply Kd.R_drew)); first | exact HO_6.out | exact Kd.R_mono HO_6.out (fun k_ h_ => by first | exact ⟨h_.2.1, h_.2.2, h_.1⟩ | exact ⟨h_.2.2, h_.1, h_.2.1⟩ | exact ⟨h_.1, h_.2.2, h_.2.1⟩ | exact ⟨h_.2.1, h_.1, h_.2.2⟩ | exact ⟨h_.2.2, h_.2.1, h_.1⟩)⟩, ⟨by (with_reducible repeat (first | apply Kd.R_alloc | apply Kd.R_drewN | apply Kd.R_drew)); first | exact HO_9.out | exact Kd.R_mono HO_9.out (fun k_ h_ => by first | exact ⟨h_.2.1, h_.2.2, h_.1⟩ | exact ⟨h_.2.2, h_.1, h_.2.1⟩ | exact ⟨h_.1, h_.2.2, h_.2.1⟩ | exact ⟨h_.2.1, h_.1, h_.2.2⟩ | exact ⟨h_.2.2, h_.2.1, h_.1⟩)⟩, ⟨by (with_reducible repeat (first | apply Kd.R_alloc | apply Kd.R_drewN | apply Kd.R_drew)); first | exact HO_11.out | exact Kd.R_mono HO_11.out (fun k_ h_ => by first | exact ⟨h_.2.1, h_.2.2, h_.1⟩ | exact ⟨h_.2.2, h_.1, h_.2.1⟩ | exact ⟨h_.1, h_.2.2, h_.2.1⟩ | exact ⟨h_.2.1, h_.1, h_.2.2⟩ | exact ⟨h_.2.2, h_.2.1, h_.1⟩)⟩, ⟨by (with_reducible repeat (first | refine blk_drewN ?_ _ | refine blk_drew ?_ | refine blk_alloc ?_ _)); exact BK775.out⟩, ⟨by repeat (first | (with_reducible first | exact HB.out | apply below_alloc | apply pw_below_drewN | apply below_drew1 | refine below_set ?_ GE775.out) | exact HB.out)⟩⟩
            ·rw [if_neg c40] at H
             have c40b0 : ((t798 == 0) != t795) = false := by simpa using c40
             (try (have c40b1 : decide ((t798 == 0) = t795) = true := by simpa using c40))
             (try (have c40b2 : ((t798 == 0) == t795) = true := by simpa using c40))
             clear c40
             (first | rw [c40b0] | (simp only [i64_w, i32_w]; rw [c40b0]) | skip)
             replace H := Option.bind_eq_some_iff.mp H
             obtain ⟨t799, A410, H⟩ := H
             (try dsimp only at H)
             have A41 := Aside0.mk A410
             clear A410
             by_cases c42 : ((t799 == 0) != t795) = true
             ·rw [if_pos c42] at H
              have c42b0 : ((t799 == 0) != t795) = true := c42
              (try (have c42b1 : decide ((t799 == 0) = t795) = false := by simpa using c42))
              (try (have c42b2 : ((t799 == 0) == t795) = false := by simpa using c42))
              (try (have c42b3 : ¬ ((t799 == 0) = t795) := by simpa using c42))
              clear c42
              as_aux_lemma =>
               have H' := Aside0.mk H
               clear H
               go_wp2_with (first | ((with_reducible refine gate_callee (f := 66) rfl ?_); refine goesL_ (some 85) rfl rfl Try.func66 (by kernel_rfl) rfl #[.slice Ao26 t777.length co26] rfl (by (try simp only [List.map_toArray, List.map_cons, List.map_nil]); first | done | rfl | (simp only [List.length_drop, List.length_take]; rfl)) ?_; (with_reducible refine (have_Check.calls kj18 _ _ t777 t797 _ ?side1 ?side2 A38.out).mono ?_); (case side1 => repeat (first | exact (Kd.R_reads' HO_5.out).2.2 | with_reducible first | refine Kd.C_alloc ?_ _ | refine Kd.C_drewN ?_ _ | refine Kd.C_drew ?_)); (case side2 => exact (Kd.R_reads' HO_5.out).2.1); rintro e w' ⟨rfl, ⟨nd, rfl⟩⟩; refine ⟨_, rfl, ?_⟩) | ((with_reducible refine gate_callee (f := 61) rfl ?_); refine goesL_ (some 86) rfl rfl Try.func61 (by kernel_rfl) rfl #[.int .i64 t797] rfl (by (try simp only [List.map_toArray, List.map_cons, List.map_nil]); first | done | rfl | (simp only [List.length_drop, List.length_take]; rfl)) ?_; (with_reducible refine (arraslaw7_num.calls t797 t798 _ A39.out).mono ?_); rintro e w' ⟨rfl, ⟨nd, rfl⟩⟩; refine ⟨_, rfl, ?_⟩) | (go_at_call 61; (with_reducible refine (arraslaw7_num.calls t794 t799 _ A41.out).mono ?_); rintro e w' ⟨rfl, ⟨nd, rfl⟩⟩))
               go_meet
               case rel => exact ⟨_, (true), (by first | rfl | (simp; done) | (simp [*]; done)), H', ⟨by have := HK1.out; have := HJ1.out; have := HJ18.out; first | omega | exact Nat.le_refl _⟩, ⟨by (with_reducible repeat (first | apply Kd.R_alloc | apply Kd.R_drewN | apply Kd.R_drew)); first | exact HO_5.out | exact Kd.R_mono HO_5.out (fun k_ h_ => by first | exact ⟨h_.2.1, h_.2.2, h_.1⟩ | exact ⟨h_.2.2, h_.1, h_.2.1⟩ | exact ⟨h_.1, h_.2.2, h_.2.1⟩ | exact ⟨h_.2.1, h_.1, h_.2.2⟩ | exact ⟨h_.2.2, h_.2.1, h_.1⟩)⟩, ⟨by (with_reducible repeat (first | apply Kd.R_alloc | apply Kd.R_drewN | apply Kd.R_drew)); first | exact HO_6.out | exact Kd.R_mono HO_6.out (fun k_ h_ => by first | exact ⟨h_.2.1, h_.2.2, h_.1⟩ | exact ⟨h_.2.2, h_.1, h_.2.1⟩ | exact ⟨h_.1, h_.2.2, h_.2.1⟩ | exact ⟨h_.2.1, h_.1, h_.2.2⟩ | exact ⟨h_.2.2, h_.2.1, h_.1⟩)⟩, ⟨by (with_reducible repeat (first | apply Kd.R_alloc | apply Kd.R_drewN | apply Kd.R_drew)); first | exact HO_9.out | exact Kd.R_mono HO_9.out (fun k_ h_ => by first | exact ⟨h_.2.1, h_.2.2, h_.1⟩ | exact ⟨h_.2.2, h_.1, h_.2.1⟩ | exact ⟨h_.1, h_.2.2, h_.2.1⟩ | exact ⟨h_.2.1, h_.1, h_.2.2⟩ | exact ⟨h_.2.2, h_.2.1, h_.1⟩)⟩, ⟨by (with_reducible repeat (first | apply Kd.R_alloc | apply Kd.R_drewN | apply Kd.R_drew)); first | exact HO_11.out | exact Kd.R_mono HO_11.out (fun k_ h_ => by first | exact ⟨h_.2.1, h_.2.2, h_.1⟩ | exact ⟨h_.2.2, h_.1, h_.2.1⟩ | exact ⟨h_.1, h_.2.2, h_.2.1⟩ | exact ⟨h_.2.1, h_.1, h_.2.2⟩ | exact ⟨h_.2.2, h_.2.1, h_.1⟩)⟩, ⟨by (with_reducible repeat (first | refine blk_drewN ?_ _ | refine blk_drew ?_ | refine blk_alloc ?_ _)); exact BK775.out⟩, ⟨by repeat (first | (with_reducible first | exact HB.out | apply below_alloc | apply pw_below_drewN | apply below_drew1 | refine below_set ?_ GE775.out) | exact HB.out)⟩⟩
             ·rw [if_neg c42] at H
              have c42b0 : ((t799 == 0) != t795) = false := by simpa using c42
              (try (have c42b1 : decide ((t799 == 0) = t795) = true := by simpa using c42))
              (try (have c42b2 : ((t799 == 0) == t795) = true := by simpa using c42))
              clear c42
              by_cases c43 : t793 = x16_18
              ·rw [if_pos c43] at H
               have c43b0 : (t793 == x16_18) = true := beq_iff_eq.mpr c43
               have c43b1 : (t793 != x16_18) = false := bne_eq_false_iff_eq.mpr c43
               clear c43
               by_cases c44 : t795 = true
               ·subst c44
                have H1 : (arraslaw7_HavePairs.j4 kj18 l0 x3_1 t777 t780 t783 t784 t785 t786 t789 t790 false ((rd_T86 l0 x3_1).f0) ((rd_T86 l0 x3_1).f1) ((rd_T86 l0 x3_1).f2)) = some r := by rw [if_pos rfl] at H; exact H
                clear H
                have H := H1
                clear H1
                as_aux_lemma =>
                 have H' := Aside0.mk H
                 clear H
                 go_wp2_with (first | ((with_reducible refine gate_callee (f := 66) rfl ?_); refine goesL_ (some 85) rfl rfl Try.func66 (by kernel_rfl) rfl #[.slice Ao26 t777.length co26] rfl (by (try simp only [List.map_toArray, List.map_cons, List.map_nil]); first | done | rfl | (simp only [List.length_drop, List.length_take]; rfl)) ?_; (with_reducible refine (have_Check.calls kj18 _ _ t777 t797 _ ?side1 ?side2 A38.out).mono ?_); (case side1 => repeat (first | exact (Kd.R_reads' HO_5.out).2.2 | with_reducible first | refine Kd.C_alloc ?_ _ | refine Kd.C_drewN ?_ _ | refine Kd.C_drew ?_)); (case side2 => exact (Kd.R_reads' HO_5.out).2.1); rintro e w' ⟨rfl, ⟨nd, rfl⟩⟩; refine ⟨_, rfl, ?_⟩) | ((with_reducible refine gate_callee (f := 61) rfl ?_); refine goesL_ (some 86) rfl rfl Try.func61 (by kernel_rfl) rfl #[.int .i64 t797] rfl (by (try simp only [List.map_toArray, List.map_cons, List.map_nil]); first | done | rfl | (simp only [List.length_drop, List.length_take]; rfl)) ?_; (with_reducible refine (arraslaw7_num.calls t797 t798 _ A39.out).mono ?_); rintro e w' ⟨rfl, ⟨nd, rfl⟩⟩; refine ⟨_, rfl, ?_⟩) | (go_at_call 61; (with_reducible refine (arraslaw7_num.calls t794 t799 _ A41.out).mono ?_); rintro e w' ⟨rfl, ⟨nd, rfl⟩⟩))
                 go_meet
                 case rel => exact ⟨_, (false), (by first | rfl | (simp; done) | (simp [*]; done)), H', ⟨by have := HK1.out; have := HJ1.out; have := HJ18.out; first | omega | exact Nat.le_refl _⟩, ⟨by (with_reducible repeat (first | apply Kd.R_alloc | apply Kd.R_drewN | apply Kd.R_drew)); first | exact HO_5.out | exact Kd.R_mono HO_5.out (fun k_ h_ => by first | exact ⟨h_.2.1, h_.2.2, h_.1⟩ | exact ⟨h_.2.2, h_.1, h_.2.1⟩ | exact ⟨h_.1, h_.2.2, h_.2.1⟩ | exact ⟨h_.2.1, h_.1, h_.2.2⟩ | exact ⟨h_.2.2, h_.2.1, h_.1⟩)⟩, ⟨by (with_reducible repeat (first | apply Kd.R_alloc | apply Kd.R_drewN | apply Kd.R_drew)); first | exact HO_6.out | exact Kd.R_mono HO_6.out (fun k_ h_ => by first | exact ⟨h_.2.1, h_.2.2, h_.1⟩ | exact ⟨h_.2.2, h_.1, h_.2.1⟩ | exact ⟨h_.1, h_.2.2, h_.2.1⟩ | exact ⟨h_.2.1, h_.1, h_.2.2⟩ | exact ⟨h_.2.2, h_.2.1, h_.1⟩)⟩, ⟨by (with_reducible repeat (first | apply Kd.R_alloc | apply Kd.R_drewN | apply Kd.R_drew)); first | exact HO_9.out | exact Kd.R_mono HO_9.out (fun k_ h_ => by first | exact ⟨h_.2.1, h_.2.2, h_.1⟩ | exact ⟨h_.2.2, h_.1, h_.2.1⟩ | exact ⟨h_.1, h_.2.2, h_.2.1⟩ | exact ⟨h_.2.1, h_.1, h_.2.2⟩ | exact ⟨h_.2.2, h_.2.1, h_.1⟩)⟩, ⟨by (with_reducible repeat (first | apply Kd.R_alloc | apply Kd.R_drewN | apply Kd.R_drew)); first | exact HO_11.out | exact Kd.R_mono HO_11.out (fun k_ h_ => by first | exact ⟨h_.2.1, h_.2.2, h_.1⟩ | exact ⟨h_.2.2, h_.1, h_.2.1⟩ | exact ⟨h_.1, h_.2.2, h_.2.1⟩ | exact ⟨h_.2.1, h_.1, h_.2.2⟩ | exact ⟨h_.2.2, h_.2.1, h_.1⟩)⟩, ⟨by (with_reducible repeat (first | refine blk_drewN ?_ _ | refine blk_drew ?_ | refine blk_alloc ?_ _)); exact BK775.out⟩, ⟨by repeat (first | (with_reducible first | exact HB.out | apply below_alloc | apply pw_below_drewN | apply below_drew1 | refine below_set ?_ GE775.out) | exact HB.out)⟩⟩
               ·replace c44 := Bool.eq_false_iff.mpr c44
                subst c44
                have H1 : ((arraslaw7_num.f t794).bind fun t800 => (arraslaw7_HavePairs.j4 kj18 l0 x3_1 t777 t780 t783 t784 t785 t786 t789 t790 (t800 != 1) ((rd_T86 l0 x3_1).f0) ((rd_T86 l0 x3_1).f1) ((rd_T86 l0 x3_1).f2))) = some r := by rw [if_neg (show ¬ (false = true) by decide)] at H; exact H
                clear H
                have H := H1
                clear H1
                replace H := Option.bind_eq_some_iff.mp H
                obtain ⟨t800, A450, H⟩ := H
                (try dsimp only at H)
                have A45 := Aside0.mk A450
                clear A450
                have D46 := Aside0.mk (Option.some.inj (A45.out.symm.trans A41.out) : t800 = t799)
                as_aux_lemma =>
                 have H' := Aside0.mk H
                 clear H
                 go_wp2_with (first | ((with_reducible refine gate_callee (f := 66) rfl ?_); refine goesL_ (some 85) rfl rfl Try.func66 (by kernel_rfl) rfl #[.slice Ao26 t777.length co26] rfl (by (try simp only [List.map_toArray, List.map_cons, List.map_nil]); first | done | rfl | (simp only [List.length_drop, List.length_take]; rfl)) ?_; (with_reducible refine (have_Check.calls kj18 _ _ t777 t797 _ ?side1 ?side2 A38.out).mono ?_); (case side1 => repeat (first | exact (Kd.R_reads' HO_5.out).2.2 | with_reducible first | refine Kd.C_alloc ?_ _ | refine Kd.C_drewN ?_ _ | refine Kd.C_drew ?_)); (case side2 => exact (Kd.R_reads' HO_5.out).2.1); rintro e w' ⟨rfl, ⟨nd, rfl⟩⟩; refine ⟨_, rfl, ?_⟩) | ((with_reducible refine gate_callee (f := 61) rfl ?_); refine goesL_ (some 86) rfl rfl Try.func61 (by kernel_rfl) rfl #[.int .i64 t797] rfl (by (try simp only [List.map_toArray, List.map_cons, List.map_nil]); first | done | rfl | (simp only [List.length_drop, List.length_take]; rfl)) ?_; (with_reducible refine (arraslaw7_num.calls t797 t798 _ A39.out).mono ?_); rintro e w' ⟨rfl, ⟨nd, rfl⟩⟩; refine ⟨_, rfl, ?_⟩) | (go_at_call 61; (with_reducible refine (arraslaw7_num.calls t794 t799 _ A41.out).mono ?_); rintro e w' ⟨rfl, ⟨nd, rfl⟩⟩) | (go_at_call 61; (with_reducible refine (arraslaw7_num.calls t794 t800 _ A45.out).mono ?_); rintro e w' ⟨rfl, ⟨nd, rfl⟩⟩))
                 go_meet
                 case rel => exact ⟨_, ((t800 != 1)), (by first | rfl | (simp; done) | (simp [*]; done) | (simp only [D46.out] <;> (first | rfl | simp))), H', ⟨by have := HK1.out; have := HJ1.out; have := HJ18.out; first | omega | exact Nat.le_refl _⟩, ⟨by (with_reducible repeat (first | apply Kd.R_alloc | apply Kd.R_drewN | apply Kd.R_drew)); first | exact HO_5.out | exact Kd.R_mono HO_5.out (fun k_ h_ => by first | exact ⟨h_.2.1, h_.2.2, h_.1⟩ | exact ⟨h_.2.2, h_.1, h_.2.1⟩ | exact ⟨h_.1, h_.2.2, h_.2.1⟩ | exact ⟨h_.2.1, h_.1, h_.2.2⟩ | exact ⟨h_.2.2, h_.2.1, h_.1⟩)⟩, ⟨by (with_reducible repeat (first | apply Kd.R_alloc | apply Kd.R_drewN | apply Kd.R_drew)); first | exact HO_6.out | exact Kd.R_mono HO_6.out (fun k_ h_ => by first | exact ⟨h_.2.1, h_.2.2, h_.1⟩ | exact ⟨h_.2.2, h_.1, h_.2.1⟩ | exact ⟨h_.1, h_.2.2, h_.2.1⟩ | exact ⟨h_.2.1, h_.1, h_.2.2⟩ | exact ⟨h_.2.2, h_.2.1, h_.1⟩)⟩, ⟨by (with_reducible repeat (first | apply Kd.R_alloc | apply Kd.R_drewN | apply Kd.R_drew)); first | exact HO_9.out | exact Kd.R_mono HO_9.out (fun k_ h_ => by first | exact ⟨h_.2.1, h_.2.2, h_.1⟩ | exact ⟨h_.2.2, h_.1, h_.2.1⟩ | exact ⟨h_.1, h_.2.2, h_.2.1⟩ | exact ⟨h_.2.1, h_.1, h_.2.2⟩ | exact ⟨h_.2.2, h_.2.1, h_.1⟩)⟩, ⟨by (with_reducible repeat (first | apply Kd.R_alloc | apply Kd.R_drewN | apply Kd.R_drew)); first | exact HO_11.out | exact Kd.R_mono HO_11.out (fun k_ h_ => by first | exact ⟨h_.2.1, h_.2.2, h_.1⟩ | exact ⟨h_.2.2, h_.1, h_.2.1⟩ | exact ⟨h_.1, h_.2.2, h_.2.1⟩ | exact ⟨h_.2.1, h_.1, h_.2.2⟩ | exact ⟨h_.2.2, h_.2.1, h_.1⟩)⟩, ⟨by (with_reducible repeat (first | refine blk_drewN ?_ _ | refine blk_drew ?_ | refine blk_alloc ?_ _)); exact BK775.out⟩, ⟨by repeat (first | (with_reducible first | exact HB.out | apply below_alloc | apply pw_below_drewN | apply below_drew1 | refine below_set ?_ GE775.out) | exact HB.out)⟩⟩
              ·rw [if_neg c43] at H
               have c43b0 : (t793 == x16_18) = false := beq_eq_false_iff_ne.mpr c43
               have c43b1 : (t793 != x16_18) = true := bne_iff_ne.mpr c43
               as_aux_lemma =>
                have H' := Aside0.mk H
                clear H
                go_wp2_with (first | ((with_reducible refine gate_callee (f := 66) rfl ?_); refine goesL_ (some 85) rfl rfl Try.func66 (by kernel_rfl) rfl #[.slice Ao26 t777.length co26] rfl (by (try simp only [List.map_toArray, List.map_cons, List.map_nil]); first | done | rfl | (simp only [List.length_drop, List.length_take]; rfl)) ?_; (with_reducible refine (have_Check.calls kj18 _ _ t777 t797 _ ?side1 ?side2 A38.out).mono ?_); (case side1 => repeat (first | exact (Kd.R_reads' HO_5.out).2.2 | with_reducible first | refine Kd.C_alloc ?_ _ | refine Kd.C_drewN ?_ _ | refine Kd.C_drew ?_)); (case side2 => exact (Kd.R_reads' HO_5.out).2.1); rintro e w' ⟨rfl, ⟨nd, rfl⟩⟩; refine ⟨_, rfl, ?_⟩) | ((with_reducible refine gate_callee (f := 61) rfl ?_); refine goesL_ (some 86) rfl rfl Try.func61 (by kernel_rfl) rfl #[.int .i64 t797] rfl (by (try simp only [List.map_toArray, List.map_cons, List.map_nil]); first | done | rfl | (simp only [List.length_drop, List.length_take]; rfl)) ?_; (with_reducible refine (arraslaw7_num.calls t797 t798 _ A39.out).mono ?_); rintro e w' ⟨rfl, ⟨nd, rfl⟩⟩; refine ⟨_, rfl, ?_⟩) | (go_at_call 61; (with_reducible refine (arraslaw7_num.calls t794 t799 _ A41.out).mono ?_); rintro e w' ⟨rfl, ⟨nd, rfl⟩⟩))
                go_meet
                case rel => exact ⟨_, (true), (by first | rfl | (simp; done) | (simp [*]; done)), H', ⟨by have := HK1.out; have := HJ1.out; have := HJ18.out; first | omega | exact Nat.le_refl _⟩, ⟨by (with_reducible repeat (first | apply Kd.R_alloc | apply Kd.R_drewN | apply Kd.R_drew)); first | exact HO_5.out | exact Kd.R_mono HO_5.out (fun k_ h_ => by first | exact ⟨h_.2.1, h_.2.2, h_.1⟩ | exact ⟨h_.2.2, h_.1, h_.2.1⟩ | exact ⟨h_.1, h_.2.2, h_.2.1⟩ | exact ⟨h_.2.1, h_.1, h_.2.2⟩ | exact ⟨h_.2.2, h_.2.1, h_.1⟩)⟩, ⟨by (with_reducible repeat (first | apply Kd.R_alloc | apply Kd.R_drewN | apply Kd.R_drew)); first | exact HO_6.out | exact Kd.R_mono HO_6.out (fun k_ h_ => by first | exact ⟨h_.2.1, h_.2.2, h_.1⟩ | exact ⟨h_.2.2, h_.1, h_.2.1⟩ | exact ⟨h_.1, h_.2.2, h_.2.1⟩ | exact ⟨h_.2.1, h_.1, h_.2.2⟩ | exact ⟨h_.2.2, h_.2.1, h_.1⟩)⟩, ⟨by (with_reducible repeat (first | apply Kd.R_alloc | apply Kd.R_drewN | apply Kd.R_drew)); first | exact HO_9.out | exact Kd.R_mono HO_9.out (fun k_ h_ => by first | exact ⟨h_.2.1, h_.2.2, h_.1⟩ | exact ⟨h_.2.2, h_.1, h_.2.1⟩ | exact ⟨h_.1, h_.2.2, h_.2.1⟩ | exact ⟨h_.2.1, h_.1, h_.2.2⟩ | exact ⟨h_.2.2, h_.2.1, h_.1⟩)⟩, ⟨by (with_reducible repeat (first | apply Kd.R_alloc | apply Kd.R_drewN | apply Kd.R_drew)); first | exact HO_11.out | exact Kd.R_mono HO_11.out (fun k_ h_ => by first | exact ⟨h_.2.1, h_.2.2, h_.1⟩ | exact ⟨h_.2.2, h_.1, h_.2.1⟩ | exact ⟨h_.1, h_.2.2, h_.2.1⟩ | exact ⟨h_.2.1, h_.1, h_.2.2⟩ | exact ⟨h_.2.2, h_.2.1, h_.1⟩)⟩, ⟨by (with_reducible repeat (first | refine blk_drewN ?_ _ | refine blk_drew ?_ | refine blk_alloc ?_ _)); exact BK775.out⟩, ⟨by repeat (first | (with_reducible first | exact HB.out | apply below_alloc | apply pw_below_drewN | apply below_drew1 | refine below_set ?_ GE775.out) | exact HB.out)⟩⟩
           case rest =>
            clear HC37
            (try clear c1); (try clear p2); (try clear c3); (try clear c3b0); (try clear c4); (try clear c5); (try clear c5b0); (try clear c6); (try clear c6b0); (try clear p6); (try clear c7); (try clear p7); (try clear q7); (try clear hx7); (try clear c8); (try clear c15); (try clear c31); (try clear c31b0); (try clear c32); (try clear c33); (try clear c33b0); (try clear c40); (try clear c40b0); (try clear c40b1); (try clear c40b2); (try clear c42); (try clear c42b0); (try clear c42b1); (try clear c42b2); (try clear c43); (try clear c43b0); (try clear c43b1); (try clear c44); (try clear hcz10_0); (try clear hcz10_1); (try clear hcz10_2); (try clear hcz21_0); (try clear hcz21_1); (try clear hcz21_2); (try clear hcz30_0); (try clear hcz30_1); (try clear hcz30_2); (try clear hcz34_0); (try clear hcz34_1); (try clear hcz34_2); (try clear hcz35_0); (try clear hcz35_1); (try clear hcz35_2); (try clear hcz36_0); (try clear hcz36_1); (try clear hcz36_2); (try clear hfz10_0); (try clear hfz10_1); (try clear hfz10_2); (try clear hfz21_0); (try clear hfz21_1); (try clear hfz21_2); (try clear hfz30_0); (try clear hfz30_1); (try clear hfz30_2); (try clear hfz34_0); (try clear hfz34_1); (try clear hfz34_2); (try clear hfz35_0); (try clear hfz35_1); (try clear hfz35_2); (try clear hfz36_0); (try clear hfz36_1); (try clear hfz36_2); (try clear hx774_0); (try clear hx774_1); (try clear hx774_2); (try clear hx796_0); (try clear p2); (try clear p6); (try clear p7); (try clear p774); (try clear p796); (try clear q7); (try clear q774); (try clear q796)
            obtain ⟨kq, x110_36, rfl, HA, HJ36, HO_5, HO_6, HO_9, HO_11, BK775, HB⟩ := hcut
            cases kq with
            | zero => exact absurd HA.out (by simp [arraslaw7_HavePairs.j4])
            | succ kj36 =>
             have H := HA.out
             clear HA
             simp only [arraslaw7_HavePairs.j4] at H
             by_cases c47 : x110_36 = true
             ·subst c47
              have H1 : (some false) = some r := by rw [if_pos rfl] at H; exact H
              clear H
              have H := H1
              clear H1
              as_aux_lemma =>
               obtain rfl := Option.some.inj H
               go_wp2
               go_ret
               exact ⟨by first | rfl | (simp [errW_none, errW_some] <;> rfl) | (simp [*, errW_none, errW_some] <;> rfl), by repeat (first | (with_reducible first | exact HB.out | apply below_alloc | apply pw_below_drewN | apply below_drew1 | refine below_set ?_ GE775.out) | exact HB.out)⟩
             ·replace c47 := Bool.eq_false_iff.mpr c47
              subst c47
              have H1 : ((arrasref6_Pair.f kj36 ((rd_T86 l0 x3_1).f0) ((rd_T86 l0 x3_1).f1)).bind fun t801 => (if t801 = true then ((arraslaw7_num.f t784).bind fun t805 => (if t805 = 0 then ((arraslaw7_num.f t786).bind fun t806 => (if t806 = 0 then ((arraslaw7_num.f t790).bind fun t807 => (if t807 = 0 then ((arrasref6_Covers.f kj36 ((rd_T86 l0 x3_1).f0) ((rd_T86 l0 x3_1).f1)).bind fun t808 => (if (t783 != t808) = true then (arraslaw7_HavePairs.j6 kj36 l0 x3_1 t777 t780 t785 t789 true ((rd_T86 l0 x3_1).f0) ((rd_T86 l0 x3_1).f1) ((rd_T86 l0 x3_1).f2)) else (if (t785.length : Int) = (((rd_T86 l0 x3_1).f0).length : Int) then (arraslaw7_HavePairs.j6 kj36 l0 x3_1 t777 t780 t785 t789 ((t789.length : Int) != (((rd_T86 l0 x3_1).f0).length : Int)) ((rd_T86 l0 x3_1).f0) ((rd_T86 l0 x3_1).f1) ((rd_T86 l0 x3_1).f2)) else (arraslaw7_HavePairs.j6 kj36 l0 x3_1 t777 t780 t785 t789 true ((rd_T86 l0 x3_1).f0) ((rd_T86 l0 x3_1).f1) ((rd_T86 l0 x3_1).f2))))) else (arraslaw7_HavePairs.j6 kj36 l0 x3_1 t777 t780 t785 t789 true ((rd_T86 l0 x3_1).f0) ((rd_T86 l0 x3_1).f1) ((rd_T86 l0 x3_1).f2)))) else (arraslaw7_HavePairs.j6 kj36 l0 x3_1 t777 t780 t785 t789 true ((rd_T86 l0 x3_1).f0) ((rd_T86 l0 x3_1).f1) ((rd_T86 l0 x3_1).f2)))) else (arraslaw7_HavePairs.j6 kj36 l0 x3_1 t777 t780 t785 t789 true ((rd_T86 l0 x3_1).f0) ((rd_T86 l0 x3_1).f1) ((rd_T86 l0 x3_1).f2)))) else ((arraslaw7_num.f t784).bind fun t802 => (if t802 = 1 then ((arraslaw7_num.f t786).bind fun t803 => (if t803 = 1 then ((arraslaw7_num.f t790).bind fun t804 => (if t804 = 1 then (if t783 = true then (arraslaw7_HavePairs.j5 kj36 l0 x3_1 true) else (arraslaw7_HavePairs.j5 kj36 l0 x3_1 (decide ((wrap64 ((t785.length : Int) + (t789.length : Int))) > 0)))) else (arraslaw7_HavePairs.j5 kj36 l0 x3_1 true))) else (arraslaw7_HavePairs.j5 kj36 l0 x3_1 true))) else (arraslaw7_HavePairs.j5 kj36 l0 x3_1 true))))) = some r := by rw [if_neg (show ¬ (false = true) by decide)] at H; exact H
              clear H
              have H := H1
              clear H1
              replace H := Option.bind_eq_some_iff.mp H
              obtain ⟨t801, A480, H⟩ := H
              (try dsimp only at H)
              have A48 := Aside0.mk A480
              clear A480
              by_cases c49 : t801 = true
              ·subst c49
               have H1 : ((arraslaw7_num.f t784).bind fun t805 => (if t805 = 0 then ((arraslaw7_num.f t786).bind fun t806 => (if t806 = 0 then ((arraslaw7_num.f t790).bind fun t807 => (if t807 = 0 then ((arrasref6_Covers.f kj36 ((rd_T86 l0 x3_1).f0) ((rd_T86 l0 x3_1).f1)).bind fun t808 => (if (t783 != t808) = true then (arraslaw7_HavePairs.j6 kj36 l0 x3_1 t777 t780 t785 t789 true ((rd_T86 l0 x3_1).f0) ((rd_T86 l0 x3_1).f1) ((rd_T86 l0 x3_1).f2)) else (if (t785.length : Int) = (((rd_T86 l0 x3_1).f0).length : Int) then (arraslaw7_HavePairs.j6 kj36 l0 x3_1 t777 t780 t785 t789 ((t789.length : Int) != (((rd_T86 l0 x3_1).f0).length : Int)) ((rd_T86 l0 x3_1).f0) ((rd_T86 l0 x3_1).f1) ((rd_T86 l0 x3_1).f2)) else (arraslaw7_HavePairs.j6 kj36 l0 x3_1 t777 t780 t785 t789 true ((rd_T86 l0 x3_1).f0) ((rd_T86 l0 x3_1).f1) ((rd_T86 l0 x3_1).f2))))) else (arraslaw7_HavePairs.j6 kj36 l0 x3_1 t777 t780 t785 t789 true ((rd_T86 l0 x3_1).f0) ((rd_T86 l0 x3_1).f1) ((rd_T86 l0 x3_1).f2)))) else (arraslaw7_HavePairs.j6 kj36 l0 x3_1 t777 t780 t785 t789 true ((rd_T86 l0 x3_1).f0) ((rd_T86 l0 x3_1).f1) ((rd_T86 l0 x3_1).f2)))) else (arraslaw7_HavePairs.j6 kj36 l0 x3_1 t777 t780 t785 t789 true ((rd_T86 l0 x3_1).f0) ((rd_T86 l0 x3_1).f1) ((rd_T86 l0 x3_1).f2)))) = some r := by rw [if_pos rfl] at H; exact H
               clear H
               have H := H1
               clear H1
               have HC50 := Aside0.mk H
               clear H
               have hcz51_0 : wc.cell? ⟨gb775, 0, none⟩ = some (.slice A774_0 ((rd_T86 l0 x3_1).f0).length c774_0) := (blk_cell BK775.out 0).trans rfl
               have hcz51_1 : wc.cell? ⟨gb775, 1, none⟩ = some (.slice A774_1 ((rd_T86 l0 x3_1).f1).length c774_1) := (blk_cell BK775.out 1).trans rfl
               have hcz51_2 : wc.cell? ⟨gb775, 2, none⟩ = some (.slice A774_2 ((rd_T86 l0 x3_1).f2).length c774_2) := (blk_cell BK775.out 2).trans rfl
               have hfz51_0 := blk_frozen BK775.out 0
               have hfz51_1 := blk_frozen BK775.out 1
               have hfz51_2 := blk_frozen BK775.out 2
               go_upto_region 23 with (first | ((with_reducible refine gate_callee (f := 57) rfl ?_); refine goesL_ (some 115) rfl rfl Try.func57 (by kernel_rfl) rfl #[.slice A774_0 ((rd_T86 l0 x3_1).f0).length c774_0, .slice A774_1 ((rd_T86 l0 x3_1).f1).length c774_1] rfl (by (try simp only [List.map_toArray, List.map_cons, List.map_nil]); first | done | rfl | (simp only [List.length_drop, List.length_take]; rfl)) ?_; (with_reducible refine (arrasref6_Pair.calls kj36 _ _ ((rd_T86 l0 x3_1).f0) _ _ ((rd_T86 l0 x3_1).f1) true _ ?side1 ?side2 ?side3 ?side4 A48.out).mono ?_); (case side1 => repeat (first | exact (Kd.C_below HR774_0.out HB.out) | with_reducible first | refine Kd.C_alloc ?_ _ | refine Kd.C_drewN ?_ _ | refine Kd.C_drew ?_)); (case side2 => exact HC774_0.out); (case side3 => repeat (first | exact (Kd.C_below HR774_1.out HB.out) | with_reducible first | refine Kd.C_alloc ?_ _ | refine Kd.C_drewN ?_ _ | refine Kd.C_drew ?_)); (case side4 => exact HC774_1.out); rintro e w' ⟨rfl, ⟨nd, rfl⟩⟩; refine ⟨_, rfl, ?_⟩))
               (try (rw [drewN_self wc]; generalize hq_ : World.drewN wc _ = wc; have n0_ : Aside0 (Kd.R (Kd.int .i64) 3 wc w.heap.size (fun k_ => some k_ ≠ (.slice Ao26 t777.length co26 : Value).ownBlock ∧ some k_ ≠ (.slice Ao27 t780.length co27 : Value).ownBlock ∧ some k_ ≠ (v787 : Value).ownBlock) v791 t789) := ⟨by rw [← hq_]; exact (by (with_reducible repeat (first | apply Kd.R_alloc | apply Kd.R_drewN | apply Kd.R_drew)); exact HO_11.out)⟩; have n1_ : Aside0 (Kd.R (Kd.int .i64) 3 wc w.heap.size (fun k_ => some k_ ≠ (v791 : Value).ownBlock ∧ some k_ ≠ (.slice Ao27 t780.length co27 : Value).ownBlock ∧ some k_ ≠ (v787 : Value).ownBlock) (.slice Ao26 t777.length co26) t777) := ⟨by rw [← hq_]; exact (by (with_reducible repeat (first | apply Kd.R_alloc | apply Kd.R_drewN | apply Kd.R_drew)); exact Kd.R_mono HO_5.out (fun _ hk => (by first | exact ⟨hk.2.2, ⟨hk.1, hk.2.1⟩⟩ | (simp only [ne_eq] at hk ⊢; simp only [hk, not_false_eq_true, and_self]))))⟩; have n2_ : Aside0 (Kd.R (Kd.int .i64) 3 wc w.heap.size (fun k_ => some k_ ≠ (v791 : Value).ownBlock ∧ some k_ ≠ (.slice Ao26 t777.length co26 : Value).ownBlock ∧ some k_ ≠ (v787 : Value).ownBlock) (.slice Ao27 t780.length co27) t780) := ⟨by rw [← hq_]; exact (by (with_reducible repeat (first | apply Kd.R_alloc | apply Kd.R_drewN | apply Kd.R_drew)); exact Kd.R_mono HO_6.out (fun _ hk => (by first | exact ⟨hk.2.2, ⟨hk.1, hk.2.1⟩⟩ | (simp only [ne_eq] at hk ⊢; simp only [hk, not_false_eq_true, and_self]))))⟩; have n3_ : Aside0 (Kd.R (Kd.int .i64) 3 wc w.heap.size (fun k_ => some k_ ≠ (v791 : Value).ownBlock ∧ some k_ ≠ (.slice Ao26 t777.length co26 : Value).ownBlock ∧ some k_ ≠ (.slice Ao27 t780.length co27 : Value).ownBlock) v787 t785) := ⟨by rw [← hq_]; exact (by (with_reducible repeat (first | apply Kd.R_alloc | apply Kd.R_drewN | apply Kd.R_drew)); exact Kd.R_mono HO_9.out (fun _ hk => (by first | exact ⟨hk.2.2, ⟨hk.1, hk.2.1⟩⟩ | (simp only [ne_eq] at hk ⊢; simp only [hk, not_false_eq_true, and_self]))))⟩; have n4_ : Aside0 (wc.heap[gb775]? = some (.cells #[.slice A774_0 ((rd_T86 l0 x3_1).f0).length c774_0, .slice A774_1 ((rd_T86 l0 x3_1).f1).length c774_1, .slice A774_2 ((rd_T86 l0 x3_1).f2).length c774_2] 86 (0, 0))) := ⟨by rw [← hq_]; exact (by (with_reducible repeat (first | refine blk_drewN ?_ _ | refine blk_drew ?_ | refine blk_alloc ?_ _)); exact BK775.out)⟩; have n5_ : Aside0 (Below w.heap.size w wc) := ⟨by rw [← hq_]; exact (by repeat (first | (with_reducible first | exact HB.out | apply below_alloc | apply pw_below_drewN | apply below_drew1 | refine below_set ?_ GE775.out) | exact HB.out))⟩; clear HO_11 HO_5 HO_6 HO_9 BK775 HB hq_; have HO_11 := n0_; have HO_5 := n1_; have HO_6 := n2_; have HO_9 := n3_; have BK775 := n4_; have HB := n5_; clear n0_ n1_ n2_ n3_ n4_ n5_))
               (try simp only [Act.put, List.setIfInBounds_toArray, List.set_cons_zero, List.set_cons_succ])
               go_cut [178] (fun v178 wc => ∃ (kq : Nat) (x178_49 : Bool), v178 = .bool x178_49 ∧ Aside0 (arraslaw7_HavePairs.j6 kq l0 x3_1 t777 t780 t785 t789 x178_49 ((rd_T86 l0 x3_1).f0) ((rd_T86 l0 x3_1).f1) ((rd_T86 l0 x3_1).f2) = some r) ∧ Aside0 (kq ≤ kj36) ∧ Aside0 (Kd.R (Kd.int .i64) 3 wc w.heap.size (fun k_ => some k_ ≠ ((.slice Ao27 t780.length co27) : Value).ownBlock ∧ some k_ ≠ (v787 : Value).ownBlock ∧ some k_ ≠ (v791 : Value).ownBlock) (.slice Ao26 t777.length co26) t777) ∧ Aside0 (Kd.R (Kd.int .i64) 3 wc w.heap.size (fun k_ => some k_ ≠ ((.slice Ao26 t777.length co26) : Value).ownBlock ∧ some k_ ≠ (v787 : Value).ownBlock ∧ some k_ ≠ (v791 : Value).ownBlock) (.slice Ao27 t780.length co27) t780) ∧ Aside0 (Kd.R (Kd.int .i64) 3 wc w.heap.size (fun k_ => some k_ ≠ ((.slice Ao26 t777.length co26) : Value).ownBlock ∧ some k_ ≠ ((.slice Ao27 t780.length co27) : Value).ownBlock ∧ some k_ ≠ (v791 : Value).ownBlock) v787 t785) ∧ Aside0 (Kd.R (Kd.int .i64) 3 wc w.heap.size (fun k_ => some k_ ≠ ((.slice Ao26 t777.length co26) : Value).ownBlock ∧ some k_ ≠ ((.slice Ao27 t780.length co27) : Value).ownBlock ∧ some k_ ≠ (v787 : Value).ownBlock) v791 t789) ∧ Aside0 (wc.heap[gb775]? = some (.cells #[(.slice A774_0 ((rd_T86 l0 x3_1).f0).length c774_0), (.slice A774_1 ((rd_T86 l0 x3_1).f1).length c774_1), (.slice A774_2 ((rd_T86 l0 x3_1).f2).length c774_2)] 86 (0, 0))) ∧ Aside0 (Below w.heap.size w wc))
               case first =>
                have H := HC50.out
                clear HC50
                replace H := Option.bind_eq_some_iff.mp H
                obtain ⟨t805, A520, H⟩ := H
                (try dsimp only at H)
                have A52 := Aside0.mk A520
                clear A520
                by_cases c53 : t805 = 0
                ·rw [if_pos c53] at H
                 have c53b0 : (t805 == 0) = true := beq_iff_eq.mpr c53
                 have c53b1 : (t805 != 0) = false := bne_eq_false_iff_eq.mpr c53
                 clear c53
                 (first | rw [c53b0] | (simp only [i64_w, i32_w]; rw [c53b0]) | skip)
                 replace H := Option.bind_eq_some_iff.mp H
                 obtain ⟨t806, A540, H⟩ := H
                 (try dsimp only at H)
                 have A54 := Aside0.mk A540
                 clear A540
                 by_cases c55 : t806 = 0
                 ·rw [if_pos c55] at H
                  have c55b0 : (t806 == 0) = true := beq_iff_eq.mpr c55
                  have c55b1 : (t806 != 0) = false := bne_eq_false_iff_eq.mpr c55
                  clear c55
                  replace H := Option.bind_eq_some_iff.mp H
                  obtain ⟨t807, A560, H⟩ := H
                  (try dsimp only at H)
                  have A56 := Aside0.mk A560
                  clear A560
                  by_cases c57 : t807 = 0
                  ·rw [if_pos c57] at H
                   have c57b0 : (t807 == 0) = true := beq_iff_eq.mpr c57
                   have c57b1 : (t807 != 0) = false := bne_eq_false_iff_eq.mpr c57
                   clear c57
                   replace H := Option.bind_eq_some_iff.mp H
                   obtain ⟨t808, A580, H⟩ := H
                   (try dsimp only at H)
                   have A58 := Aside0.mk A580
                   clear A580
                   by_cases c59 : (t783 != t808) = true
                   ·rw [if_pos c59] at H
                    have c59b0 : (t783 != t808) = true := c59
                    (try (have c59b1 : decide (t783 = t808) = false := by simpa using c59))
                    (try (have c59b2 : (t783 == t808) = false := by simpa using c59))
                    (try (have c59b3 : ¬ (t783 = t808) := by simpa using c59))
                    clear c59
                    as_aux_lemma =>
                     have H' := Aside0.mk H
                     clear H
                     go_wp2_with (first | ((with_reducible refine gate_callee (f := 61) rfl ?_); refine goesL_ (some 142) rfl rfl Try.func61 (by kernel_rfl) rfl #[.int .i64 t784] rfl (by (try simp only [List.map_toArray, List.map_cons, List.map_nil]); first | done | rfl | (simp only [List.length_drop, List.length_take]; rfl)) ?_; (with_reducible refine (arraslaw7_num.calls t784 t805 _ A52.out).mono ?_); rintro e w' ⟨rfl, ⟨nd, rfl⟩⟩; refine ⟨_, rfl, ?_⟩) | (go_at_call 61; (with_reducible refine (arraslaw7_num.calls t786 t806 _ A54.out).mono ?_); rintro e w' ⟨rfl, ⟨nd, rfl⟩⟩) | (go_at_call 61; (with_reducible refine (arraslaw7_num.calls t790 t807 _ A56.out).mono ?_); rintro e w' ⟨rfl, ⟨nd, rfl⟩⟩; have hcz60_0 : wc.cell? ⟨gb775, 0, none⟩ = some (.slice A774_0 ((rd_T86 l0 x3_1).f0).length c774_0) := (blk_cell BK775.out 0).trans rfl; have hcz60_1 : wc.cell? ⟨gb775, 1, none⟩ = some (.slice A774_1 ((rd_T86 l0 x3_1).f1).length c774_1) := (blk_cell BK775.out 1).trans rfl; have hcz60_2 : wc.cell? ⟨gb775, 2, none⟩ = some (.slice A774_2 ((rd_T86 l0 x3_1).f2).length c774_2) := (blk_cell BK775.out 2).trans rfl; have hfz60_0 := blk_frozen BK775.out 0; have hfz60_1 := blk_frozen BK775.out 1; have hfz60_2 := blk_frozen BK775.out 2) | (go_at_call 67; (with_reducible refine (arrasref6_Covers.calls kj36 _ _ ((rd_T86 l0 x3_1).f0) _ _ ((rd_T86 l0 x3_1).f1) t808 _ ?side1 ?side2 ?side3 ?side4 A58.out).mono ?_); (case side1 => repeat (first | exact (Kd.C_below HR774_0.out (by repeat (first | (with_reducible first | exact HB.out | apply below_alloc | apply pw_below_drewN | apply below_drew1 | refine below_set ?_ GE775.out) | exact HB.out))) | with_reducible first | refine Kd.C_alloc ?_ _ | refine Kd.C_drewN ?_ _ | refine Kd.C_drew ?_)); (case side2 => exact HC774_0.out); (case side3 => repeat (first | exact (Kd.C_below HR774_1.out (by repeat (first | (with_reducible first | exact HB.out | apply below_alloc | apply pw_below_drewN | apply below_drew1 | refine below_set ?_ GE775.out) | exact HB.out))) | with_reducible first | refine Kd.C_alloc ?_ _ | refine Kd.C_drewN ?_ _ | refine Kd.C_drew ?_)); (case side4 => exact HC774_1.out); rintro e w' ⟨rfl, ⟨nd, rfl⟩⟩))
                     go_meet
                     case rel => exact ⟨_, (true), (by first | rfl | (simp; done) | (simp [*]; done)), H', ⟨by have := HK1.out; have := HJ1.out; have := HJ18.out; have := HJ36.out; first | omega | exact Nat.le_refl _⟩, ⟨by (with_reducible repeat (first | apply Kd.R_alloc | apply Kd.R_drewN | apply Kd.R_drew)); first | exact HO_5.out | exact Kd.R_mono HO_5.out (fun k_ h_ => by first | exact ⟨h_.2.1, h_.2.2, h_.1⟩ | exact ⟨h_.2.2, h_.1, h_.2.1⟩ | exact ⟨h_.1, h_.2.2, h_.2.1⟩ | exact ⟨h_.2.1, h_.1, h_.2.2⟩ | exact ⟨h_.2.2, h_.2.1, h_.1⟩)⟩, ⟨by (with_reducible repeat (first | apply Kd.R_alloc | apply Kd.R_drewN | apply Kd.R_drew)); first | exact HO_6.out | exact Kd.R_mono HO_6.out (fun k_ h_ => by first | exact ⟨h_.2.1, h_.2.2, h_.1⟩ | exact ⟨h_.2.2, h_.1, h_.2.1⟩ | exact ⟨h_.1, h_.2.2, h_.2.1⟩ | exact ⟨h_.2.1, h_.1, h_.2.2⟩ | exact ⟨h_.2.2, h_.2.1, h_.1⟩)⟩, ⟨by (with_reducible repeat (first | apply Kd.R_alloc | apply Kd.R_drewN | apply Kd.R_drew)); first | exact HO_9.out | exact Kd.R_mono HO_9.out (fun k_ h_ => by first | exact ⟨h_.2.1, h_.2.2, h_.1⟩ | exact ⟨h_.2.2, h_.1, h_.2.1⟩ | exact ⟨h_.1, h_.2.2, h_.2.1⟩ | exact ⟨h_.2.1, h_.1, h_.2.2⟩ | exact ⟨h_.2.2, h_.2.1, h_.1⟩)⟩, ⟨by (with_reducible repeat (first | apply Kd.R_alloc | apply Kd.R_drewN | apply Kd.R_drew)); first | exact HO_11.out | exact Kd.R_mono HO_11.out (fun k_ h_ => by first | exact ⟨h_.2.1, h_.2.2, h_.1⟩ | exact ⟨h_.2.2, h_.1, h_.2.1⟩ | exact ⟨h_.1, h_.2.2, h_.2.1⟩ | exact ⟨h_.2.1, h_.1, h_.2.2⟩ | exact ⟨h_.2.2, h_.2.1, h_.1⟩)⟩, ⟨by (with_reducible repeat (first | refine blk_drewN ?_ _ | refine blk_drew ?_ | refine blk_alloc ?_ _)); exact BK775.out⟩, ⟨by repeat (first | (with_reducible first | exact HB.out | apply below_alloc | apply pw_below_drewN | apply below_drew1 | refine below_set ?_ GE775.out) | exact HB.out)⟩⟩
                   ·rw [if_neg c59] at H
                    have c59b0 : (t783 != t808) = false := by simpa using c59
                    (try (have c59b1 : decide (t783 = t808) = true := by simpa using c59))
                    (try (have c59b2 : (t783 == t808) = true := by simpa using c59))
                    clear c59
                    by_cases c61 : (t785.length : Int) = (((rd_T86 l0 x3_1).f0).length : Int)
                    ·rw [if_pos c61] at H
                     have c61b0 : ((t785.length : Int) == (((rd_T86 l0 x3_1).f0).length : Int)) = true := beq_iff_eq.mpr c61
                     have c61b1 : ((t785.length : Int) != (((rd_T86 l0 x3_1).f0).length : Int)) = false := bne_eq_false_iff_eq.mpr c61
                     have c61b2 : (t785.length == ((rd_T86 l0 x3_1).f0).length) = true := by first | simpa using c61 | (simp at c61 ⊢; omega)
                     clear c61
                     as_aux_lemma =>
                      have H' := Aside0.mk H
                      clear H
                      go_wp2_with (first | ((with_reducible refine gate_callee (f := 61) rfl ?_); refine goesL_ (some 142) rfl rfl Try.func61 (by kernel_rfl) rfl #[.int .i64 t784] rfl (by (try simp only [List.map_toArray, List.map_cons, List.map_nil]); first | done | rfl | (simp only [List.length_drop, List.length_take]; rfl)) ?_; (with_reducible refine (arraslaw7_num.calls t784 t805 _ A52.out).mono ?_); rintro e w' ⟨rfl, ⟨nd, rfl⟩⟩; refine ⟨_, rfl, ?_⟩) | (go_at_call 61; (with_reducible refine (arraslaw7_num.calls t786 t806 _ A54.out).mono ?_); rintro e w' ⟨rfl, ⟨nd, rfl⟩⟩) | (go_at_call 61; (with_reducible refine (arraslaw7_num.calls t790 t807 _ A56.out).mono ?_); rintro e w' ⟨rfl, ⟨nd, rfl⟩⟩; have hcz62_0 : wc.cell? ⟨gb775, 0, none⟩ = some (.slice A774_0 ((rd_T86 l0 x3_1).f0).length c774_0) := (blk_cell BK775.out 0).trans rfl; have hcz62_1 : wc.cell? ⟨gb775, 1, none⟩ = some (.slice A774_1 ((rd_T86 l0 x3_1).f1).length c774_1) := (blk_cell BK775.out 1).trans rfl; have hcz62_2 : wc.cell? ⟨gb775, 2, none⟩ = some (.slice A774_2 ((rd_T86 l0 x3_1).f2).length c774_2) := (blk_cell BK775.out 2).trans rfl; have hfz62_0 := blk_frozen BK775.out 0; have hfz62_1 := blk_frozen BK775.out 1; have hfz62_2 := blk_frozen BK775.out 2) | (go_at_call 67; (with_reducible refine (arrasref6_Covers.calls kj36 _ _ ((rd_T86 l0 x3_1).f0) _ _ ((rd_T86 l0 x3_1).f1) t808 _ ?side1 ?side2 ?side3 ?side4 A58.out).mono ?_); (case side1 => repeat (first | exact (Kd.C_below HR774_0.out (by repeat (first | (with_reducible first | exact HB.out | apply below_alloc | apply pw_below_drewN | apply below_drew1 | refine below_set ?_ GE775.out) | exact HB.out))) | with_reducible first | refine Kd.C_alloc ?_ _ | refine Kd.C_drewN ?_ _ | refine Kd.C_drew ?_)); (case side2 => exact HC774_0.out); (case side3 => repeat (first | exact (Kd.C_below HR774_1.out (by repeat (first | (with_reducible first | exact HB.out | apply below_alloc | apply pw_below_drewN | apply below_drew1 | refine below_set ?_ GE775.out) | exact HB.out))) | with_reducible first | refine Kd.C_alloc ?_ _ | refine Kd.C_drewN ?_ _ | refine Kd.C_drew ?_)); (case side4 => exact HC774_1.out); rintro e w' ⟨rfl, ⟨nd, rfl⟩⟩; obtain ⟨Ao63, co63, eo63⟩ := Kd.R_slice HO_9.out; subst eo63; obtain ⟨Ao64, co64, eo64⟩ := Kd.R_slice HO_11.out; subst eo64))
                      go_meet
                      case rel => exact ⟨_, (((t789.length : Int) != (((rd_T86 l0 x3_1).f0).length : Int))), (by first | rfl | (simp; done) | (simp [*]; done)), H', ⟨by have := HK1.out; have := HJ1.out; have := HJ18.out; have := HJ36.out; first | omega | exact Nat.le_refl _⟩, ⟨by (with_reducible repeat (first | apply Kd.R_alloc | apply Kd.R_drewN | apply Kd.R_drew)); first | exact HO_5.out | exact Kd.R_mono HO_5.out (fun k_ h_ => by first | exact ⟨h_.2.1, h_.2.2, h_.1⟩ | exact ⟨h_.2.2, h_.1, h_.2.1⟩ | exact ⟨h_.1, h_.2.2, h_.2.1⟩ | exact ⟨h_.2.1, h_.1, h_.2.2⟩ | exact ⟨h_.2.2, h_.2.1, h_.1⟩)⟩, ⟨by (with_reducible repeat (first | apply Kd.R_alloc | apply Kd.R_drewN | apply Kd.R_drew)); first | exact HO_6.out | exact Kd.R_mono HO_6.out (fun k_ h_ => by first | exact ⟨h_.2.1, h_.2.2, h_.1⟩ | exact ⟨h_.2.2, h_.1, h_.2.1⟩ | exact ⟨h_.1, h_.2.2, h_.2.1⟩ | exact ⟨h_.2.1, h_.1, h_.2.2⟩ | exact ⟨h_.2.2, h_.2.1, h_.1⟩)⟩, ⟨by (with_reducible repeat (first | apply Kd.R_alloc | apply Kd.R_drewN | apply Kd.R_drew)); first | exact HO_9.out | exact Kd.R_mono HO_9.out (fun k_ h_ => by first | exact ⟨h_.2.1, h_.2.2, h_.1⟩ | exact ⟨h_.2.2, h_.1, h_.2.1⟩ | exact ⟨h_.1, h_.2.2, h_.2.1⟩ | exact ⟨h_.2.1, h_.1, h_.2.2⟩ | exact ⟨h_.2.2, h_.2.1, h_.1⟩)⟩, ⟨by (with_reducible repeat (first | apply Kd.R_alloc | apply Kd.R_drewN | apply Kd.R_drew)); first | exact HO_11.out | exact Kd.R_mono HO_11.out (fun k_ h_ => by first | exact ⟨h_.2.1, h_.2.2, h_.1⟩ | exact ⟨h_.2.2, h_.1, h_.2.1⟩ | exact ⟨h_.1, h_.2.2, h_.2.1⟩ | exact ⟨h_.2.1, h_.1, h_.2.2⟩ | exact ⟨h_.2.2, h_.2.1, h_.1⟩)⟩, ⟨by (with_reducible repeat (first | refine blk_drewN ?_ _ | refine blk_drew ?_ | refine blk_alloc ?_ _)); exact BK775.out⟩, ⟨by repeat (first | (with_reducible first | exact HB.out | apply below_alloc | apply pw_below_drewN | apply below_drew1 | refine below_set ?_ GE775.out) | exact HB.out)⟩⟩
                    ·rw [if_neg c61] at H
                     have c61b0 : ((t785.length : Int) == (((rd_T86 l0 x3_1).f0).length : Int)) = false := beq_eq_false_iff_ne.mpr c61
                     have c61b1 : ((t785.length : Int) != (((rd_T86 l0 x3_1).f0).length : Int)) = true := bne_iff_ne.mpr c61
                     have c61b2 : (t785.length == ((rd_T86 l0 x3_1).f0).length) = false := by first | simpa using c61 | (simp at c61 ⊢; omega)
                     as_aux_lemma =>
                      have H' := Aside0.mk H
                      clear H
                      go_wp2_with (first | ((with_reducible refine gate_callee (f := 61) rfl ?_); refine goesL_ (some 142) rfl rfl Try.func61 (by kernel_rfl) rfl #[.int .i64 t784] rfl (by (try simp only [List.map_toArray, List.map_cons, List.map_nil]); first | done | rfl | (simp only [List.length_drop, List.length_take]; rfl)) ?_; (with_reducible refine (arraslaw7_num.calls t784 t805 _ A52.out).mono ?_); rintro e w' ⟨rfl, ⟨nd, rfl⟩⟩; refine ⟨_, rfl, ?_⟩) | (go_at_call 61; (with_reducible refine (arraslaw7_num.calls t786 t806 _ A54.out).mono ?_); rintro e w' ⟨rfl, ⟨nd, rfl⟩⟩) | (go_at_call 61; (with_reducible refine (arraslaw7_num.calls t790 t807 _ A56.out).mono ?_); rintro e w' ⟨rfl, ⟨nd, rfl⟩⟩; have hcz65_0 : wc.cell? ⟨gb775, 0, none⟩ = some (.slice A774_0 ((rd_T86 l0 x3_1).f0).length c774_0) := (blk_cell BK775.out 0).trans rfl; have hcz65_1 : wc.cell? ⟨gb775, 1, none⟩ = some (.slice A774_1 ((rd_T86 l0 x3_1).f1).length c774_1) := (blk_cell BK775.out 1).trans rfl; have hcz65_2 : wc.cell? ⟨gb775, 2, none⟩ = some (.slice A774_2 ((rd_T86 l0 x3_1).f2).length c774_2) := (blk_cell BK775.out 2).trans rfl; have hfz65_0 := blk_frozen BK775.out 0; have hfz65_1 := blk_frozen BK775.out 1; have hfz65_2 := blk_frozen BK775.out 2) | (go_at_call 67; (with_reducible refine (arrasref6_Covers.calls kj36 _ _ ((rd_T86 l0 x3_1).f0) _ _ ((rd_T86 l0 x3_1).f1) t808 _ ?side1 ?side2 ?side3 ?side4 A58.out).mono ?_); (case side1 => repeat (first | exact (Kd.C_below HR774_0.out (by repeat (first | (with_reducible first | exact HB.out | apply below_alloc | apply pw_below_drewN | apply below_drew1 | refine below_set ?_ GE775.out) | exact HB.out))) | with_reducible first | refine Kd.C_alloc ?_ _ | refine Kd.C_drewN ?_ _ | refine Kd.C_drew ?_)); (case side2 => exact HC774_0.out); (case side3 => repeat (first | exact (Kd.C_below HR774_1.out (by repeat (first | (with_reducible first | exact HB.out | apply below_alloc | apply pw_below_drewN | apply below_drew1 | refine below_set ?_ GE775.out) | exact HB.out))) | with_reducible first | refine Kd.C_alloc ?_ _ | refine Kd.C_drewN ?_ _ | refine Kd.C_drew ?_)); (case side4 => exact HC774_1.out); rintro e w' ⟨rfl, ⟨nd, rfl⟩⟩; obtain ⟨Ao66, co66, eo66⟩ := Kd.R_slice HO_9.out; subst eo66))
                      go_meet
                      case rel => exact ⟨_, (true), (by first | rfl | (simp; done) | (simp [*]; done)), H', ⟨by have := HK1.out; have := HJ1.out; have := HJ18.out; have := HJ36.out; first | omega | exact Nat.le_refl _⟩, ⟨by (with_reducible repeat (first | apply Kd.R_alloc | apply Kd.R_drewN | apply Kd.R_drew)); first | exact HO_5.out | exact Kd.R_mono HO_5.out (fun k_ h_ => by first | exact ⟨h_.2.1, h_.2.2, h_.1⟩ | exact ⟨h_.2.2, h_.1, h_.2.1⟩ | exact ⟨h_.1, h_.2.2, h_.2.1⟩ | exact ⟨h_.2.1, h_.1, h_.2.2⟩ | exact ⟨h_.2.2, h_.2.1, h_.1⟩)⟩, ⟨by (with_reducible repeat (first | apply Kd.R_alloc | apply Kd.R_drewN | apply Kd.R_drew)); first | exact HO_6.out | exact Kd.R_mono HO_6.out (fun k_ h_ => by first | exact ⟨h_.2.1, h_.2.2, h_.1⟩ | exact ⟨h_.2.2, h_.1, h_.2.1⟩ | exact ⟨h_.1, h_.2.2, h_.2.1⟩ | exact ⟨h_.2.1, h_.1, h_.2.2⟩ | exact ⟨h_.2.2, h_.2.1, h_.1⟩)⟩, ⟨by (with_reducible repeat (first | apply Kd.R_alloc | apply Kd.R_drewN | apply Kd.R_drew)); first | exact HO_9.out | exact Kd.R_mono HO_9.out (fun k_ h_ => by first | exact ⟨h_.2.1, h_.2.2, h_.1⟩ | exact ⟨h_.2.2, h_.1, h_.2.1⟩ | exact ⟨h_.1, h_.2.2, h_.2.1⟩ | exact ⟨h_.2.1, h_.1, h_.2.2⟩ | exact ⟨h_.2.2, h_.2.1, h_.1⟩)⟩, ⟨by (with_reducible repeat (first | apply Kd.R_alloc | apply Kd.R_drewN | apply Kd.R_drew)); first | exact HO_11.out | exact Kd.R_mono HO_11.out (fun k_ h_ => by first | exact ⟨h_.2.1, h_.2.2, h_.1⟩ | exact ⟨h_.2.2, h_.1, h_.2.1⟩ | exact ⟨h_.1, h_.2.2, h_.2.1⟩ | exact ⟨h_.2.1, h_.1, h_.2.2⟩ | exact ⟨h_.2.2, h_.2.1, h_.1⟩)⟩, ⟨by (with_reducible repeat (first | refine blk_drewN ?_ _ | refine blk_drew ?_ | refine blk_alloc ?_ _)); exact BK775.out⟩, ⟨by repeat (first | (with_reducible first | exact HB.out | apply below_alloc | apply pw_below_drewN | apply below_drew1 | refine below_set ?_ GE775.out) | exact HB.out)⟩⟩
                  ·rw [if_neg c57] at H
                   have c57b0 : (t807 == 0) = false := beq_eq_false_iff_ne.mpr c57
                   have c57b1 : (t807 != 0) = true := bne_iff_ne.mpr c57
                   as_aux_lemma =>
                    have H' := Aside0.mk H
                    clear H
                    go_wp2_with (first | ((with_reducible refine gate_callee (f := 61) rfl ?_); refine goesL_ (some 142) rfl rfl Try.func61 (by kernel_rfl) rfl #[.int .i64 t784] rfl (by (try simp only [List.map_toArray, List.map_cons, List.map_nil]); first | done | rfl | (simp only [List.length_drop, List.length_take]; rfl)) ?_; (with_reducible refine (arraslaw7_num.calls t784 t805 _ A52.out).mono ?_); rintro e w' ⟨rfl, ⟨nd, rfl⟩⟩; refine ⟨_, rfl, ?_⟩) | (go_at_call 61; (with_reducible refine (arraslaw7_num.calls t786 t806 _ A54.out).mono ?_); rintro e w' ⟨rfl, ⟨nd, rfl⟩⟩) | (go_at_call 61; (with_reducible refine (arraslaw7_num.calls t790 t807 _ A56.out).mono ?_); rintro e w' ⟨rfl, ⟨nd, rfl⟩⟩))
                    go_meet
                    case rel => exact ⟨_, (true), (by first | rfl | (simp; done) | (simp [*]; done)), H', ⟨by have := HK1.out; have := HJ1.out; have := HJ18.out; have := HJ36.out; first | omega | exact Nat.le_refl _⟩, ⟨by (with_reducible repeat (first | apply Kd.R_alloc | apply Kd.R_drewN | apply Kd.R_drew)); first | exact HO_5.out | exact Kd.R_mono HO_5.out (fun k_ h_ => by first | exact ⟨h_.2.1, h_.2.2, h_.1⟩ | exact ⟨h_.2.2, h_.1, h_.2.1⟩ | exact ⟨h_.1, h_.2.2, h_.2.1⟩ | exact ⟨h_.2.1, h_.1, h_.2.2⟩ | exact ⟨h_.2.2, h_.2.1, h_.1⟩)⟩, ⟨by (with_reducible repeat (first | apply Kd.R_alloc | apply Kd.R_drewN | apply Kd.R_drew)); first | exact HO_6.out | exact Kd.R_mono HO_6.out (fun k_ h_ => by first | exact ⟨h_.2.1, h_.2.2, h_.1⟩ | exact ⟨h_.2.2, h_.1, h_.2.1⟩ | exact ⟨h_.1, h_.2.2, h_.2.1⟩ | exact ⟨h_.2.1, h_.1, h_.2.2⟩ | exact ⟨h_.2.2, h_.2.1, h_.1⟩)⟩, ⟨by (with_reducible repeat (first | apply Kd.R_alloc | apply Kd.R_drewN | apply Kd.R_drew)); first | exact HO_9.out | exact Kd.R_mono HO_9.out (fun k_ h_ => by first | exact ⟨h_.2.1, h_.2.2, h_.1⟩ | exact ⟨h_.2.2, h_.1, h_.2.1⟩ | exact ⟨h_.1, h_.2.2, h_.2.1⟩ | exact ⟨h_.2.1, h_.1, h_.2.2⟩ | exact ⟨h_.2.2, h_.2.1, h_.1⟩)⟩, ⟨by (with_reducible repeat (first | apply Kd.R_alloc | apply Kd.R_drewN | apply Kd.R_drew)); first | exact HO_11.out | exact Kd.R_mono HO_11.out (fun k_ h_ => by first | exact ⟨h_.2.1, h_.2.2, h_.1⟩ | exact ⟨h_.2.2, h_.1, h_.2.1⟩ | exact ⟨h_.1, h_.2.2, h_.2.1⟩ | exact ⟨h_.2.1, h_.1, h_.2.2⟩ | exact ⟨h_.2.2, h_.2.1, h_.1⟩)⟩, ⟨by (with_reducible repeat (first | refine blk_drewN ?_ _ | refine blk_drew ?_ | refine blk_alloc ?_ _)); exact BK775.out⟩, ⟨by repeat (first | (with_reducible first | exact HB.out | apply below_alloc | apply pw_below_drewN | apply below_drew1 | refine below_set ?_ GE775.out) | exact HB.out)⟩⟩
                 ·rw [if_neg c55] at H
                  have c55b0 : (t806 == 0) = false := beq_eq_false_iff_ne.mpr c55
                  have c55b1 : (t806 != 0) = true := bne_iff_ne.mpr c55
                  as_aux_lemma =>
                   have H' := Aside0.mk H
                   clear H
                   go_wp2_with (first | ((with_reducible refine gate_callee (f := 61) rfl ?_); refine goesL_ (some 142) rfl rfl Try.func61 (by kernel_rfl) rfl #[.int .i64 t784] rfl (by (try simp only [List.map_toArray, List.map_cons, List.map_nil]); first | done | rfl | (simp only [List.length_drop, List.length_take]; rfl)) ?_; (with_reducible refine (arraslaw7_num.calls t784 t805 _ A52.out).mono ?_); rintro e w' ⟨rfl, ⟨nd, rfl⟩⟩; refine ⟨_, rfl, ?_⟩) | (go_at_call 61; (with_reducible refine (arraslaw7_num.calls t786 t806 _ A54.out).mono ?_); rintro e w' ⟨rfl, ⟨nd, rfl⟩⟩))
                   go_meet
                   case rel => exact ⟨_, (true), (by first | rfl | (simp; done) | (simp [*]; done)), H', ⟨by have := HK1.out; have := HJ1.out; have := HJ18.out; have := HJ36.out; first | omega | exact Nat.le_refl _⟩, ⟨by (with_reducible repeat (first | apply Kd.R_alloc | apply Kd.R_drewN | apply Kd.R_drew)); first | exact HO_5.out | exact Kd.R_mono HO_5.out (fun k_ h_ => by first | exact ⟨h_.2.1, h_.2.2, h_.1⟩ | exact ⟨h_.2.2, h_.1, h_.2.1⟩ | exact ⟨h_.1, h_.2.2, h_.2.1⟩ | exact ⟨h_.2.1, h_.1, h_.2.2⟩ | exact ⟨h_.2.2, h_.2.1, h_.1⟩)⟩, ⟨by (with_reducible repeat (first | apply Kd.R_alloc | apply Kd.R_drewN | apply Kd.R_drew)); first | exact HO_6.out | exact Kd.R_mono HO_6.out (fun k_ h_ => by first | exact ⟨h_.2.1, h_.2.2, h_.1⟩ | exact ⟨h_.2.2, h_.1, h_.2.1⟩ | exact ⟨h_.1, h_.2.2, h_.2.1⟩ | exact ⟨h_.2.1, h_.1, h_.2.2⟩ | exact ⟨h_.2.2, h_.2.1, h_.1⟩)⟩, ⟨by (with_reducible repeat (first | apply Kd.R_alloc | apply Kd.R_drewN | apply Kd.R_drew)); first | exact HO_9.out | exact Kd.R_mono HO_9.out (fun k_ h_ => by first | exact ⟨h_.2.1, h_.2.2, h_.1⟩ | exact ⟨h_.2.2, h_.1, h_.2.1⟩ | exact ⟨h_.1, h_.2.2, h_.2.1⟩ | exact ⟨h_.2.1, h_.1, h_.2.2⟩ | exact ⟨h_.2.2, h_.2.1, h_.1⟩)⟩, ⟨by (with_reducible repeat (first | apply Kd.R_alloc | apply Kd.R_drewN | apply Kd.R_drew)); first | exact HO_11.out | exact Kd.R_mono HO_11.out (fun k_ h_ => by first | exact ⟨h_.2.1, h_.2.2, h_.1⟩ | exact ⟨h_.2.2, h_.1, h_.2.1⟩ | exact ⟨h_.1, h_.2.2, h_.2.1⟩ | exact ⟨h_.2.1, h_.1, h_.2.2⟩ | exact ⟨h_.2.2, h_.2.1, h_.1⟩)⟩, ⟨by (with_reducible repeat (first | refine blk_drewN ?_ _ | refine blk_drew ?_ | refine blk_alloc ?_ _)); exact BK775.out⟩, ⟨by repeat (first | (with_reducible first | exact HB.out | apply below_alloc | apply pw_below_drewN | apply below_drew1 | refine below_set ?_ GE775.out) | exact HB.out)⟩⟩
                ·rw [if_neg c53] at H
                 have c53b0 : (t805 == 0) = false := beq_eq_false_iff_ne.mpr c53
                 have c53b1 : (t805 != 0) = true := bne_iff_ne.mpr c53
                 (first | rw [c53b0] | (simp only [i64_w, i32_w]; rw [c53b0]) | skip)
                 as_aux_lemma =>
                  have H' := Aside0.mk H
                  clear H
                  go_wp2_with (first | ((with_reducible refine gate_callee (f := 61) rfl ?_); refine goesL_ (some 142) rfl rfl Try.func61 (by kernel_rfl) rfl #[.int .i64 t784] rfl (by (try simp only [List.map_toArray, List.map_cons, List.map_nil]); first | done | rfl | (simp only [List.length_drop, List.length_take]; rfl)) ?_; (with_reducible refine (arraslaw7_num.calls t784 t805 _ A52.out).mono ?_); rintro e w' ⟨rfl, ⟨nd, rfl⟩⟩; refine ⟨_, rfl, ?_⟩))
                  go_meet
                  case rel => exact ⟨_, (true), (by first | rfl | (simp; done) | (simp [*]; done)), H', ⟨by have := HK1.out; have := HJ1.out; have := HJ18.out; have := HJ36.out; first | omega | exact Nat.le_refl _⟩, ⟨by (with_reducible repeat (first | apply Kd.R_alloc | apply Kd.R_drewN | apply Kd.R_drew)); first | exact HO_5.out | exact Kd.R_mono HO_5.out (fun k_ h_ => by first | exact ⟨h_.2.1, h_.2.2, h_.1⟩ | exact ⟨h_.2.2, h_.1, h_.2.1⟩ | exact ⟨h_.1, h_.2.2, h_.2.1⟩ | exact ⟨h_.2.1, h_.1, h_.2.2⟩ | exact ⟨h_.2.2, h_.2.1, h_.1⟩)⟩, ⟨by (with_reducible repeat (first | apply Kd.R_alloc | apply Kd.R_drewN | apply Kd.R_drew)); first | exact HO_6.out | exact Kd.R_mono HO_6.out (fun k_ h_ => by first | exact ⟨h_.2.1, h_.2.2, h_.1⟩ | exact ⟨h_.2.2, h_.1, h_.2.1⟩ | exact ⟨h_.1, h_.2.2, h_.2.1⟩ | exact ⟨h_.2.1, h_.1, h_.2.2⟩ | exact ⟨h_.2.2, h_.2.1, h_.1⟩)⟩, ⟨by (with_reducible repeat (first | apply Kd.R_alloc | apply Kd.R_drewN | apply Kd.R_drew)); first | exact HO_9.out | exact Kd.R_mono HO_9.out (fun k_ h_ => by first | exact ⟨h_.2.1, h_.2.2, h_.1⟩ | exact ⟨h_.2.2, h_.1, h_.2.1⟩ | exact ⟨h_.1, h_.2.2, h_.2.1⟩ | exact ⟨h_.2.1, h_.1, h_.2.2⟩ | exact ⟨h_.2.2, h_.2.1, h_.1⟩)⟩, ⟨by (with_reducible repeat (first | apply Kd.R_alloc | apply Kd.R_drewN | apply Kd.R_drew)); first | exact HO_11.out | exact Kd.R_mono HO_11.out (fun k_ h_ => by first | exact ⟨h_.2.1, h_.2.2, h_.1⟩ | exact ⟨h_.2.2, h_.1, h_.2.1⟩ | exact ⟨h_.1, h_.2.2, h_.2.1⟩ | exact ⟨h_.2.1, h_.1, h_.2.2⟩ | exact ⟨h_.2.2, h_.2.1, h_.1⟩)⟩, ⟨by (with_reducible repeat (first | refine blk_drewN ?_ _ | refine blk_drew ?_ | refine blk_alloc ?_ _)); exact BK775.out⟩, ⟨by repeat (first | (with_reducible first | exact HB.out | apply below_alloc | apply pw_below_drewN | apply below_drew1 | refine below_set ?_ GE775.out) | exact HB.out)⟩⟩
               case rest =>
                clear HC50
                (try clear c1); (try clear p2); (try clear c3); (try clear c3b0); (try clear c4); (try clear c5); (try clear c5b0); (try clear c6); (try clear c6b0); (try clear p6); (try clear c7); (try clear p7); (try clear q7); (try clear hx7); (try clear c8); (try clear c15); (try clear c31); (try clear c31b0); (try clear c32); (try clear c33); (try clear c33b0); (try clear c40); (try clear c40b0); (try clear c40b1); (try clear c40b2); (try clear c42); (try clear c42b0); (try clear c42b1); (try clear c42b2); (try clear c43); (try clear c43b0); (try clear c43b1); (try clear c44); (try clear c47); (try clear c49); (try clear c53); (try clear c53b0); (try clear c53b1); (try clear c55); (try clear c55b0); (try clear c55b1); (try clear c57); (try clear c57b0); (try clear c57b1); (try clear c58); (try clear c59); (try clear c59b0); (try clear c59b1); (try clear c59b2); (try clear c60); (try clear c61); (try clear c61b0); (try clear c61b1); (try clear c61b2); (try clear c64); (try clear p64); (try clear c65); (try clear c66); (try clear hcz10_0); (try clear hcz10_1); (try clear hcz10_2); (try clear hcz21_0); (try clear hcz21_1); (try clear hcz21_2); (try clear hcz30_0); (try clear hcz30_1); (try clear hcz30_2); (try clear hcz34_0); (try clear hcz34_1); (try clear hcz34_2); (try clear hcz35_0); (try clear hcz35_1); (try clear hcz35_2); (try clear hcz36_0); (try clear hcz36_1); (try clear hcz36_2); (try clear hcz51_0); (try clear hcz51_1); (try clear hcz51_2); (try clear hcz60_0); (try clear hcz60_1); (try clear hcz60_2); (try clear hcz62_0); (try clear hcz62_1); (try clear hcz62_2); (try clear hcz65_0); (try clear hcz65_1); (try clear hcz65_2); (try clear hfz10_0); (try clear hfz10_1); (try clear hfz10_2); (try clear hfz21_0); (try clear hfz21_1); (try clear hfz21_2); (try clear hfz30_0); (try clear hfz30_1); (try clear hfz30_2); (try clear hfz34_0); (try clear hfz34_1); (try clear hfz34_2); (try clear hfz35_0); (try clear hfz35_1); (try clear hfz35_2); (try clear hfz36_0); (try clear hfz36_1); (try clear hfz36_2); (try clear hfz51_0); (try clear hfz51_1); (try clear hfz51_2); (try clear hfz60_0); (try clear hfz60_1); (try clear hfz60_2); (try clear hfz62_0); (try clear hfz62_1); (try clear hfz62_2); (try clear hfz65_0); (try clear hfz65_1); (try clear hfz65_2); (try clear hx774_0); (try clear hx774_1); (try clear hx774_2); (try clear hx796_0); (try clear p2); (try clear p6); (try clear p7); (try clear p774); (try clear p796); (try clear q7); (try clear q774); (try clear q796)
                obtain ⟨kq, x178_49, rfl, HA, HJ49, HO_5, HO_6, HO_9, HO_11, BK775, HB⟩ := hcut
                cases kq with
                | zero => exact absurd HA.out (by simp [arraslaw7_HavePairs.j6])
                | succ kj49 =>
                 have H := HA.out
                 clear HA
                 simp only [arraslaw7_HavePairs.j6] at H
                 by_cases c67 : x178_49 = true
                 ·subst c67
                  have H1 : (some false) = some r := by rw [if_pos rfl] at H; exact H
                  clear H
                  have H := H1
                  clear H1
                  as_aux_lemma =>
                   obtain rfl := Option.some.inj H
                   go_wp2
                   go_ret
                   exact ⟨by first | rfl | (simp [errW_none, errW_some] <;> rfl) | (simp [*, errW_none, errW_some] <;> rfl), by repeat (first | (with_reducible first | exact HB.out | apply below_alloc | apply pw_below_drewN | apply below_drew1 | refine below_set ?_ GE775.out) | exact HB.out)⟩
                 ·replace c67 := Bool.eq_false_iff.mpr c67
                  subst c67
                  have H1 : (arraslaw7_HavePairs.l2 kj49 l0 x3_1 t777 t780 t785 t789 0 ((rd_T86 l0 x3_1).f0) ((rd_T86 l0 x3_1).f1) ((rd_T86 l0 x3_1).f2)) = some r := by rw [if_neg (show ¬ (false = true) by decide)] at H; exact H
                  clear H
                  have H := H1
                  clear H1
                  have H' := Aside0.mk H
                  clear H
                  go_wp2
                  go_loopg [18] kj49 (fun kq v18 w' => ∃ (x18_6 : Int), v18 = .int .i64 x18_6 ∧ Aside0 (arraslaw7_HavePairs.l2 kq l0 x3_1 t777 t780 t785 t789 x18_6 ((rd_T86 l0 x3_1).f0) ((rd_T86 l0 x3_1).f1) ((rd_T86 l0 x3_1).f2) = some r) ∧ Aside0 (kq ≤ kj49) ∧ Aside0 (Kd.R (Kd.int .i64) 3 w' w.heap.size (fun k_ => some k_ ≠ ((.slice Ao27 t780.length co27) : Value).ownBlock ∧ some k_ ≠ (v787 : Value).ownBlock ∧ some k_ ≠ (v791 : Value).ownBlock) (.slice Ao26 t777.length co26) t777) ∧ Aside0 (Kd.R (Kd.int .i64) 3 w' w.heap.size (fun k_ => some k_ ≠ ((.slice Ao26 t777.length co26) : Value).ownBlock ∧ some k_ ≠ (v787 : Value).ownBlock ∧ some k_ ≠ (v791 : Value).ownBlock) (.slice Ao27 t780.length co27) t780) ∧ Aside0 (Kd.R (Kd.int .i64) 3 w' w.heap.size (fun k_ => some k_ ≠ ((.slice Ao26 t777.length co26) : Value).ownBlock ∧ some k_ ≠ ((.slice Ao27 t780.length co27) : Value).ownBlock ∧ some k_ ≠ (v791 : Value).ownBlock) v787 t785) ∧ Aside0 (Kd.R (Kd.int .i64) 3 w' w.heap.size (fun k_ => some k_ ≠ ((.slice Ao26 t777.length co26) : Value).ownBlock ∧ some k_ ≠ ((.slice Ao27 t780.length co27) : Value).ownBlock ∧ some k_ ≠ (v787 : Value).ownBlock) v791 t789) ∧ Aside0 (w'.heap[gb775]? = some (.cells #[(.slice A774_0 ((rd_T86 l0 x3_1).f0).length c774_0), (.slice A774_1 ((rd_T86 l0 x3_1).f1).length c774_1), (.slice A774_2 ((rd_T86 l0 x3_1).f2).length c774_2)] 86 (0, 0))) ∧ Aside0 (Below w.heap.size w w'))
                  case atStart => exact ⟨(0), (by first | rfl | (simp; done) | (simp [*]; done)), H', ⟨Nat.le_refl _⟩, ⟨by (with_reducible repeat (first | apply Kd.R_alloc | apply Kd.R_drewN | apply Kd.R_drew)); exact HO_5.out⟩, ⟨by (with_reducible repeat (first | apply Kd.R_alloc | apply Kd.R_drewN | apply Kd.R_drew)); exact HO_6.out⟩, ⟨by (with_reducible repeat (first | apply Kd.R_alloc | apply Kd.R_drewN | apply Kd.R_drew)); exact HO_9.out⟩, ⟨by (with_reducible repeat (first | apply Kd.R_alloc | apply Kd.R_drewN | apply Kd.R_drew)); exact HO_11.out⟩, ⟨by (with_reducible repeat (first | refine blk_drewN ?_ _ | refine blk_drew ?_ | refine blk_alloc ?_ _)); exact BK775.out⟩, ⟨by repeat (first | (with_reducible first | exact HB.out | apply below_alloc | apply pw_below_drewN | apply below_drew1 | refine below_set ?_ GE775.out) | exact HB.out)⟩⟩
                  case round =>
                   clear H'
                   (try clear c1); (try clear p2); (try clear c3); (try clear c3b0); (try clear c4); (try clear c5); (try clear c5b0); (try clear c6); (try clear c6b0); (try clear p6); (try clear c7); (try clear p7); (try clear q7); (try clear hx7); (try clear c8); (try clear c15); (try clear c31); (try clear c31b0); (try clear c32); (try clear c33); (try clear c33b0); (try clear c40); (try clear c40b0); (try clear c40b1); (try clear c40b2); (try clear c42); (try clear c42b0); (try clear c42b1); (try clear c42b2); (try clear c43); (try clear c43b0); (try clear c43b1); (try clear c44); (try clear c47); (try clear c49); (try clear c53); (try clear c53b0); (try clear c53b1); (try clear c55); (try clear c55b0); (try clear c55b1); (try clear c57); (try clear c57b0); (try clear c57b1); (try clear c58); (try clear c59); (try clear c59b0); (try clear c59b1); (try clear c59b2); (try clear c60); (try clear c61); (try clear c61b0); (try clear c61b1); (try clear c61b2); (try clear c64); (try clear p64); (try clear c65); (try clear c66); (try clear c67); (try clear hcz10_0); (try clear hcz10_1); (try clear hcz10_2); (try clear hcz21_0); (try clear hcz21_1); (try clear hcz21_2); (try clear hcz30_0); (try clear hcz30_1); (try clear hcz30_2); (try clear hcz34_0); (try clear hcz34_1); (try clear hcz34_2); (try clear hcz35_0); (try clear hcz35_1); (try clear hcz35_2); (try clear hcz36_0); (try clear hcz36_1); (try clear hcz36_2); (try clear hcz51_0); (try clear hcz51_1); (try clear hcz51_2); (try clear hcz60_0); (try clear hcz60_1); (try clear hcz60_2); (try clear hcz62_0); (try clear hcz62_1); (try clear hcz62_2); (try clear hcz65_0); (try clear hcz65_1); (try clear hcz65_2); (try clear hfz10_0); (try clear hfz10_1); (try clear hfz10_2); (try clear hfz21_0); (try clear hfz21_1); (try clear hfz21_2); (try clear hfz30_0); (try clear hfz30_1); (try clear hfz30_2); (try clear hfz34_0); (try clear hfz34_1); (try clear hfz34_2); (try clear hfz35_0); (try clear hfz35_1); (try clear hfz35_2); (try clear hfz36_0); (try clear hfz36_1); (try clear hfz36_2); (try clear hfz51_0); (try clear hfz51_1); (try clear hfz51_2); (try clear hfz60_0); (try clear hfz60_1); (try clear hfz60_2); (try clear hfz62_0); (try clear hfz62_1); (try clear hfz62_2); (try clear hfz65_0); (try clear hfz65_1); (try clear hfz65_2); (try clear hx774_0); (try clear hx774_1); (try clear hx774_2); (try clear hx796_0); (try clear p2); (try clear p6); (try clear p64); (try clear p7); (try clear p774); (try clear p796); (try clear q7); (try clear q774); (try clear q796)
                   obtain ⟨x18_6, rfl, HA, HK6, HO_5, HO_6, HO_9, HO_11, BK775, HB⟩ := hrel
                   cases gk with
                   | zero => exact absurd HA.out (by simp [arraslaw7_HavePairs.l2])
                   | succ k6 =>
                    have H := HA.out
                    clear HA
                    simp only [arraslaw7_HavePairs.l2] at H
                    by_cases c68 : x18_6 < (t785.length : Int)
                    ·rw [if_pos c68] at H
                     have c68b0 : decide (x18_6 < (t785.length : Int)) = true := decide_eq_true c68
                     clear c68
                     by_cases c69 : 0 ≤ x18_6
                     ·rw [if_pos c69] at H
                      have c69b0 : decide (0 ≤ x18_6) = true := decide_eq_true c69
                      clear c69
                      by_cases c70 : x18_6 < (((rd_T86 l0 x3_1).f0).length : Int)
                      ·rw [if_pos c70] at H
                       have c70b0 : decide (x18_6 < (((rd_T86 l0 x3_1).f0).length : Int)) = true := decide_eq_true c70
                       clear c70
                       by_cases c71 : x18_6 < (((rd_T86 l0 x3_1).f1).length : Int)
                       ·rw [if_pos c71] at H
                        have c71b0 : decide (x18_6 < (((rd_T86 l0 x3_1).f1).length : Int)) = true := decide_eq_true c71
                        clear c71
                        obtain ⟨ji72, hji72⟩ : ∃ j_ : Int, (mx (rd ((rd_T86 l0 x3_1).f0) x18_6) (rd ((rd_T86 l0 x3_1).f1) x18_6)) = j_ := ⟨_, rfl⟩
                        replace H : (if (rd t785 x18_6) = (ji72) then (if x18_6 < (t789.length : Int) then (if (rd t789 x18_6) = (mx 0 (wrap64 ((rd ((rd_T86 l0 x3_1).f1) x18_6) - (rd ((rd_T86 l0 x3_1).f0) x18_6)))) then (arraslaw7_HavePairs.l2 k6 l0 x3_1 t777 t780 t785 t789 (wrap64 (x18_6 + 1)) ((rd_T86 l0 x3_1).f0) ((rd_T86 l0 x3_1).f1) ((rd_T86 l0 x3_1).f2)) else (some false)) else (none)) else (some false)) = some r := by first | (rw [hji72] at H; exact H) | (simp only [hji72] at H ⊢; exact H)
                        have hji72_ : (if (rd ((rd_T86 l0 x3_1).f0) x18_6) < (rd ((rd_T86 l0 x3_1).f1) x18_6) then (rd ((rd_T86 l0 x3_1).f1) x18_6) else (rd ((rd_T86 l0 x3_1).f0) x18_6)) = ji72 := hji72
                        by_cases c73 : (rd t785 x18_6) = (ji72)
                        ·rw [if_pos c73] at H
                         have c73b0 : ((rd t785 x18_6) == (ji72)) = true := beq_iff_eq.mpr c73
                         have c73b1 : ((rd t785 x18_6) != (ji72)) = false := bne_eq_false_iff_eq.mpr c73
                         clear c73
                         by_cases c74 : x18_6 < (t789.length : Int)
                         ·rw [if_pos c74] at H
                          have c74b0 : decide (x18_6 < (t789.length : Int)) = true := decide_eq_true c74
                          clear c74
                          obtain ⟨ji75, hji75⟩ : ∃ j_ : Int, (mx 0 (wrap64 ((rd ((rd_T86 l0 x3_1).f1) x18_6) - (rd ((rd_T86 l0 x3_1).f0) x18_6)))) = j_ := ⟨_, rfl⟩
                          replace H : (if (rd t789 x18_6) = (ji75) then (arraslaw7_HavePairs.l2 k6 l0 x3_1 t777 t780 t785 t789 (wrap64 (x18_6 + 1)) ((rd_T86 l0 x3_1).f0) ((rd_T86 l0 x3_1).f1) ((rd_T86 l0 x3_1).f2)) else (some false)) = some r := by first | (rw [hji75] at H; exact H) | (simp only [hji75] at H ⊢; exact H)
                          have hji75_ : (if 0 < (wrap64 ((rd ((rd_T86 l0 x3_1).f1) x18_6) - (rd ((rd_T86 l0 x3_1).f0) x18_6))) then (wrap64 ((rd ((rd_T86 l0 x3_1).f1) x18_6) - (rd ((rd_T86 l0 x3_1).f0) x18_6))) else 0) = ji75 := hji75
                          by_cases c76 : (rd t789 x18_6) = (ji75)
                          ·rw [if_pos c76] at H
                           have c76b0 : ((rd t789 x18_6) == (ji75)) = true := beq_iff_eq.mpr c76
                           have c76b1 : ((rd t789 x18_6) != (ji75)) = false := bne_eq_false_iff_eq.mpr c76
                           clear c76
                           as_aux_lemma =>
                            have H' := Aside0.mk H
                            clear H
                            obtain ⟨Ao77, co77, eo77⟩ := Kd.R_slice HO_9.out
                            subst eo77
                            try go_wp2
                            have n0_ := Aside0.mk (Kd.R_drew HO_5.out)
                            have n1_ := Aside0.mk (Kd.R_drew HO_6.out)
                            have n2_ := Aside0.mk (Kd.R_drew HO_9.out)
                            have n3_ := Aside0.mk (Kd.R_drew HO_11.out)
                            have n4_ := Aside0.mk (blk_drew BK775.out)
                            have n5_ := Aside0.mk (below_drew1 HB.out)
                            clear HO_5
                            clear HO_6
                            clear HO_9
                            clear HO_11
                            clear BK775
                            clear HB
                            have HO_5 := n0_
                            have HO_6 := n1_
                            have HO_9 := n2_
                            have HO_11 := n3_
                            have BK775 := n4_
                            have HB := n5_
                            clear n0_ n1_ n2_ n3_ n4_ n5_
                            have p809 : 0 ≤ (x18_6 : Int) := of_decide_eq_true (by first | (with_reducible assumption) | assumption)
                            have q809 : x18_6 < (t785.length : Int) := of_decide_eq_true (by first | (with_reducible assumption) | assumption)
                            obtain ⟨ad809, e809, hx809_0⟩ := Kd.at_int (Kd.R_reads' HO_9.out).2.2 x18_6 p809 q809
                            cases e809
                            replace p809 := eq_true p809
                            replace q809 := eq_true q809
                            have p810 : 0 ≤ (x18_6 : Int) := of_decide_eq_true (by first | (with_reducible assumption) | assumption)
                            have q810 : x18_6 < (((rd_T86 l0 x3_1).f0).length : Int) := of_decide_eq_true (by first | (with_reducible assumption) | assumption)
                            obtain ⟨ad810, e810, hx810_0⟩ := Kd.at_int HR774_0.out x18_6 p810 q810
                            have hw810_0 := hx810_0
                            cases e810
                            replace hx810_0 := (HB.out.cell (World.block_lt_of_cell? w _ hx810_0)).trans hx810_0
                            replace p810 := eq_true p810
                            replace q810 := eq_true q810
                            have p811 : 0 ≤ (x18_6 : Int) := of_decide_eq_true (by first | (with_reducible assumption) | assumption)
                            have q811 : x18_6 < (((rd_T86 l0 x3_1).f1).length : Int) := of_decide_eq_true (by first | (with_reducible assumption) | assumption)
                            obtain ⟨ad811, e811, hx811_0⟩ := Kd.at_int HR774_1.out x18_6 p811 q811
                            have hw811_0 := hx811_0
                            cases e811
                            replace hx811_0 := (HB.out.cell (World.block_lt_of_cell? w _ hx811_0)).trans hx811_0
                            replace p811 := eq_true p811
                            replace q811 := eq_true q811
                            obtain ⟨Ao79, co79, eo79⟩ := Kd.R_slice HO_11.out
                            (first | subst eo79 | (injection eo79 with f1_ f2_ f3_; have f4_ := f1_.symm; have f5_ := f3_.symm; clear f1_ f2_ f3_; subst f4_; subst f5_))
                            have p812 : 0 ≤ (x18_6 : Int) := of_decide_eq_true (by first | (with_reducible assumption) | assumption)
                            have q812 : x18_6 < (t789.length : Int) := of_decide_eq_true (by first | (with_reducible assumption) | assumption)
                            obtain ⟨ad812, e812, hx812_0⟩ := Kd.at_int (Kd.R_reads' HO_11.out).2.2 x18_6 p812 q812
                            cases e812
                            replace p812 := eq_true p812
                            replace q812 := eq_true q812
                            have p813 : 0 ≤ (x18_6 : Int) := of_decide_eq_true (by first | (with_reducible assumption) | assumption)
                            have q813 : x18_6 < (((rd_T86 l0 x3_1).f1).length : Int) := of_decide_eq_true (by first | (with_reducible assumption) | assumption)
                            obtain ⟨ad813, e813, hx813_0⟩ := Kd.at_int HR774_1.out x18_6 p813 q813
                            have hw813_0 := hx813_0
                            obtain rfl : ad811 = ad813 := (by injection e813)
                            replace hx813_0 := (HB.out.cell (World.block_lt_of_cell? w _ hx813_0)).trans hx813_0
                            replace p813 := eq_true p813
                            replace q813 := eq_true q813
                            have p814 : 0 ≤ (x18_6 : Int) := of_decide_eq_true (by first | (with_reducible assumption) | assumption)
                            have q814 : x18_6 < (((rd_T86 l0 x3_1).f0).length : Int) := of_decide_eq_true (by first | (with_reducible assumption) | assumption)
                            obtain ⟨ad814, e814, hx814_0⟩ := Kd.at_int HR774_0.out x18_6 p814 q814
                            have hw814_0 := hx814_0
                            obtain rfl : ad810 = ad814 := (by injection e814)
                            replace hx814_0 := (HB.out.cell (World.block_lt_of_cell? w _ hx814_0)).trans hx814_0
                            replace p814 := eq_true p814
                            replace q814 := eq_true q814
                            refine start_ (n := 35) (S := fun w' => w'.cell? ⟨gb775, 0, none⟩ = some (.slice (some ad810) ((rd_T86 l0 x3_1).f0).length c774_0) ∧ w'.cell? ⟨gb775, 1, none⟩ = some (.slice (some ad811) ((rd_T86 l0 x3_1).f1).length c774_1) ∧ w'.cell? ⟨gb775, 2, none⟩ = some (.slice A774_2 ((rd_T86 l0 x3_1).f2).length c774_2) ∧ w'.cell? (ad809.add (x18_6).toNat) = some (.int .i64 (rd t785 x18_6)) ∧ w'.cell? (ad810.add (x18_6).toNat) = some (.int .i64 (rd ((rd_T86 l0 x3_1).f0) x18_6)) ∧ w'.cell? (ad811.add (x18_6).toNat) = some (.int .i64 (rd ((rd_T86 l0 x3_1).f1) x18_6)) ∧ w'.cell? (ad812.add (x18_6).toNat) = some (.int .i64 (rd t789 x18_6)) ∧ w'.cell? (ad811.add (x18_6).toNat) = some (.int .i64 (rd ((rd_T86 l0 x3_1).f1) x18_6)) ∧ w'.cell? (ad810.add (x18_6).toNat) = some (.int .i64 (rd ((rd_T86 l0 x3_1).f0) x18_6))) (ds := []) #[false, false, false, false, false, false, false, false, false, false, false, false, false, false, false, false, false, false, false, false, false, false, false, false, false, false, false, false, false, false, false, false, false, false, false] (by kernel_rfl) rfl rfl ⟨(blk_cell BK775.out 0).trans rfl, (blk_cell BK775.out 1).trans rfl, (blk_cell BK775.out 2).trans rfl, hx809_0, ((HB.out.cell (World.block_lt_of_cell? w _ hw810_0)).trans hw810_0), ((HB.out.cell (World.block_lt_of_cell? w _ hw811_0)).trans hw811_0), hx812_0, ((HB.out.cell (World.block_lt_of_cell? w _ hw813_0)).trans hw813_0), ((HB.out.cell (World.block_lt_of_cell? w _ hw814_0)).trans hw814_0)⟩ (fun hHeld => ?_); refine with_tabW arraslaw7_HavePairs.tab28 arraslaw7_HavePairs.bits28 (fun HT_ HW_ => ?_)
                            generalize wr.drew = w78 at HO_5 HO_6 HO_9 HO_11 BK775 HB hx809_0 hx810_0 hx811_0 hx812_0 hx813_0 hx814_0 hHeld ⊢
                            refine pure_ (i := 0) (N := some 185) (v := ?_) (a' := ?_) #[true, false, false, false, false, false, false, false, false, false, false, false, false, false, false, false, false, false, false, false, false, false, false, false, false, false, false, false, false, false, false, false, false, false, false] rfl rfl (any_of HT_.out (by kernel_rfl)) (fun _ _ _ h => h) (Or.inl ⟨by rfl, ?_⟩) ?_ ?_
                            rotate_left
                            ·intro w'
                             go_simp
                             with_reducible rfl
                            rotate_left
                            ·simp only [Act.put, List.setIfInBounds_toArray, List.set_cons_zero, List.set_cons_succ, i64_w, i32_w]
                             rfl
                            refine pure_ (i := 1) (N := some 186) (v := ?_) (a' := ?_) #[true, true, false, false, false, false, false, false, false, false, false, false, false, false, false, false, false, false, false, false, false, false, false, false, false, false, false, false, false, false, false, false, false, false, false] rfl rfl (any_of HT_.out (by kernel_rfl)) (fun _ _ _ h => h) (Or.inl ⟨by rfl, ?_⟩) ?_ ?_
                            rotate_left
                            ·intro w'
                             go_simp
                             with_reducible rfl
                            rotate_left
                            ·simp only [Act.put, List.setIfInBounds_toArray, List.set_cons_zero, List.set_cons_succ, i64_w, i32_w]
                             rfl
                            refine pure_ (i := 2) (N := some 187) (v := ?_) (a' := ?_) #[true, true, true, false, false, false, false, false, false, false, false, false, false, false, false, false, false, false, false, false, false, false, false, false, false, false, false, false, false, false, false, false, false, false, false] rfl rfl (any_of HT_.out (by kernel_rfl)) (fun _ _ _ h => h) (Or.inl ⟨by rfl, ?_⟩) ?_ ?_
                            rotate_left
                            ·intro w'
                             go_simp
                             with_reducible rfl
                            rotate_left
                            ·simp only [Act.put, List.setIfInBounds_toArray, List.set_cons_zero, List.set_cons_succ, i64_w, i32_w]
                             rfl
                            refine pure_ (i := 4) (N := some 189) (v := ?_) (a' := ?_) #[true, true, true, false, true, false, false, false, false, false, false, false, false, false, false, false, false, false, false, false, false, false, false, false, false, false, false, false, false, false, false, false, false, false, false] rfl rfl (any_of HT_.out (by kernel_rfl)) (fun _ _ _ h => h) (Or.inl ⟨by rfl, ?_⟩) ?_ ?_
                            rotate_left
                            ·intro w'
                             go_simp
                             with_reducible rfl
                            rotate_left
                            ·simp only [Act.put, List.setIfInBounds_toArray, List.set_cons_zero, List.set_cons_succ, i64_w, i32_w]
                             rfl
                            refine pure_ (i := 6) (N := some 191) (v := ?_) (a' := ?_) #[true, true, true, false, true, false, true, false, false, false, false, false, false, false, false, false, false, false, false, false, false, false, false, false, false, false, false, false, false, false, false, false, false, false, false] rfl rfl (any_of HT_.out (by kernel_rfl)) (fun _ _ _ h => h) (Or.inl ⟨by rfl, ?_⟩) ?_ ?_
                            rotate_left
                            ·intro w'
                             go_simp
                             with_reducible rfl
                            rotate_left
                            ·simp only [Act.put, List.setIfInBounds_toArray, List.set_cons_zero, List.set_cons_succ, i64_w, i32_w]
                             rfl
                            refine pure_ (i := 9) (N := some 194) (v := ?_) (a' := ?_) #[true, true, true, false, true, false, true, false, false, true, false, false, false, false, false, false, false, false, false, false, false, false, false, false, false, false, false, false, false, false, false, false, false, false, false] rfl rfl (any_of HT_.out (by kernel_rfl)) (fun _ _ _ h => h) (Or.inl ⟨by rfl, ?_⟩) ?_ ?_
                            rotate_left
                            ·intro w'
                             go_simp
                             with_reducible rfl
                            rotate_left
                            ·simp only [Act.put, List.setIfInBounds_toArray, List.set_cons_zero, List.set_cons_succ, i64_w, i32_w]
                             rfl
                            refine pure_ (i := 11) (N := some 196) (v := ?_) (a' := ?_) #[true, true, true, false, true, false, true, false, false, true, false, true, false, false, false, false, false, false, false, false, false, false, false, false, false, false, false, false, false, false, false, false, false, false, false] rfl rfl (any_of HT_.out (by kernel_rfl)) (fun _ _ _ h => h) (Or.inl ⟨by rfl, ?_⟩) ?_ ?_
                            rotate_left
                            ·intro w'
                             go_simp
                             with_reducible rfl
                            rotate_left
                            ·simp only [Act.put, List.setIfInBounds_toArray, List.set_cons_zero, List.set_cons_succ, i64_w, i32_w]
                             rfl
                            refine take_ (i := 3) (N := some 188) (v := ?_) (a' := ?_) #[true, true, true, true, true, false, true, false, false, true, false, true, false, false, false, false, false, false, false, false, false, false, false, false, false, false, false, false, false, false, false, false, false, false, false] rfl rfl (take_ofW HT_.out HW_.out (by kernel_rfl)) (fun _ _ _ h => h) (Or.inl ⟨by rfl, ?_⟩) hHeld ?_ ?_
                            rotate_left
                            ·rintro w' ⟨s0, s1, s2, s3, s4, s5, s6, s7, s8⟩
                             go_simp
                             with_reducible rfl
                            rotate_left
                            ·simp only [Act.put, List.setIfInBounds_toArray, List.set_cons_zero, List.set_cons_succ, i64_w, i32_w]
                             rfl
                            refine take_ (i := 5) (N := some 190) (v := ?_) (a' := ?_) #[true, true, true, true, true, true, true, false, false, true, false, true, false, false, false, false, false, false, false, false, false, false, false, false, false, false, false, false, false, false, false, false, false, false, false] rfl rfl (take_ofW HT_.out HW_.out (by kernel_rfl)) (fun _ _ _ h => h) (Or.inl ⟨by rfl, ?_⟩) hHeld ?_ ?_
                            rotate_left
                            ·rintro w' ⟨s0, s1, s2, s3, s4, s5, s6, s7, s8⟩
                             go_simp
                             with_reducible rfl
                            rotate_left
                            ·simp only [Act.put, List.setIfInBounds_toArray, List.set_cons_zero, List.set_cons_succ, i64_w, i32_w]
                             rfl
                            refine pure_ (i := 7) (N := some 192) (v := ?_) (a' := ?_) #[true, true, true, true, true, true, true, true, false, true, false, true, false, false, false, false, false, false, false, false, false, false, false, false, false, false, false, false, false, false, false, false, false, false, false] rfl rfl (any_of HT_.out (by kernel_rfl)) (fun _ _ _ h => h) (Or.inl ⟨by rfl, ?_⟩) ?_ ?_
                            rotate_left
                            ·intro w'
                             go_simp
                             with_reducible rfl
                            rotate_left
                            ·simp only [Act.put, List.setIfInBounds_toArray, List.set_cons_zero, List.set_cons_succ, i64_w, i32_w]
                             rfl
                            refine take_ (i := 8) (N := some 193) (v := ?_) (a' := ?_) #[true, true, true, true, true, true, true, true, true, true, false, true, false, false, false, false, false, false, false, false, false, false, false, false, false, false, false, false, false, false, false, false, false, false, false] rfl rfl (take_ofW HT_.out HW_.out (by kernel_rfl)) (fun _ _ _ h => h) (Or.inl ⟨by rfl, ?_⟩) hHeld ?_ ?_
                            rotate_left
                            ·rintro w' ⟨s0, s1, s2, s3, s4, s5, s6, s7, s8⟩
                             go_simp
                             with_reducible rfl
                            rotate_left
                            ·simp only [Act.put, List.setIfInBounds_toArray, List.set_cons_zero, List.set_cons_succ, i64_w, i32_w]
                             rfl
                            refine take_ (i := 10) (N := some 195) (v := ?_) (a' := ?_) #[true, true, true, true, true, true, true, true, true, true, true, true, false, false, false, false, false, false, false, false, false, false, false, false, false, false, false, false, false, false, false, false, false, false, false] rfl rfl (take_ofW HT_.out HW_.out (by kernel_rfl)) (fun _ _ _ h => h) (Or.inl ⟨by rfl, ?_⟩) hHeld ?_ ?_
                            rotate_left
                            ·rintro w' ⟨s0, s1, s2, s3, s4, s5, s6, s7, s8⟩
                             go_simp
                             with_reducible rfl
                            rotate_left
                            ·simp only [Act.put, List.setIfInBounds_toArray, List.set_cons_zero, List.set_cons_succ, i64_w, i32_w]
                             rfl
                            refine pure_ (i := 12) (N := some 197) (v := ?_) (a' := ?_) #[true, true, true, true, true, true, true, true, true, true, true, true, true, false, false, false, false, false, false, false, false, false, false, false, false, false, false, false, false, false, false, false, false, false, false] rfl rfl (any_of HT_.out (by kernel_rfl)) (fun _ _ _ h => h) (Or.inl ⟨by rfl, ?_⟩) ?_ ?_
                            rotate_left
                            ·intro w'
                             go_simp
                             with_reducible rfl
                            rotate_left
                            ·simp only [Act.put, List.setIfInBounds_toArray, List.set_cons_zero, List.set_cons_succ, i64_w, i32_w]
                             rfl
                            refine take_ (i := 13) (N := some 198) (v := ?_) (a' := ?_) #[true, true, true, true, true, true, true, true, true, true, true, true, true, true, false, false, false, false, false, false, false, false, false, false, false, false, false, false, false, false, false, false, false, false, false] rfl rfl (take_ofW HT_.out HW_.out (by kernel_rfl)) (fun _ _ _ h => h) (Or.inl ⟨by rfl, ?_⟩) hHeld ?_ ?_
                            rotate_left
                            ·rintro w' ⟨s0, s1, s2, s3, s4, s5, s6, s7, s8⟩
                             go_simp
                             with_reducible rfl
                            rotate_left
                            ·simp only [Act.put, List.setIfInBounds_toArray, List.set_cons_zero, List.set_cons_succ, i64_w, i32_w]
                             rfl
                            refine pure_ (i := 14) (N := some 199) (v := ?_) (a' := ?_) #[true, true, true, true, true, true, true, true, true, true, true, true, true, true, true, false, false, false, false, false, false, false, false, false, false, false, false, false, false, false, false, false, false, false, false] rfl rfl (any_of HT_.out (by kernel_rfl)) (fun _ _ _ h => h) (Or.inl ⟨by rfl, ?_⟩) ?_ ?_
                            rotate_left
                            ·intro w'
                             go_simp
                             with_reducible rfl
                            rotate_left
                            ·simp only [Act.put, List.setIfInBounds_toArray, List.set_cons_zero, List.set_cons_succ, i64_w, i32_w]
                             rfl
                            refine pure_ (i := 15) (N := some 200) (v := ?_) (a' := ?_) #[true, true, true, true, true, true, true, true, true, true, true, true, true, true, true, true, false, false, false, false, false, false, false, false, false, false, false, false, false, false, false, false, false, false, false] rfl rfl (any_of HT_.out (by kernel_rfl)) (fun _ _ _ h => h) (Or.inl ⟨by rfl, ?_⟩) ?_ ?_
                            rotate_left
                            ·intro w'
                             go_simp
                             with_reducible rfl
                            rotate_left
                            ·simp only [Act.put, List.setIfInBounds_toArray, List.set_cons_zero, List.set_cons_succ, i64_w, i32_w]
                             rfl
                            refine pure_ (i := 16) (N := some 201) (v := ?_) (a' := ?_) #[true, true, true, true, true, true, true, true, true, true, true, true, true, true, true, true, true, false, false, false, false, false, false, false, false, false, false, false, false, false, false, false, false, false, false] rfl rfl (any_of HT_.out (by kernel_rfl)) (fun _ _ _ h => h) (Or.inl ⟨by rfl, ?_⟩) ?_ ?_
                            rotate_left
                            ·intro w'
                             go_simp
                             with_reducible rfl
                            rotate_left
                            ·simp only [Act.put, List.setIfInBounds_toArray, List.set_cons_zero, List.set_cons_succ, i64_w, i32_w]
                             rfl
                            refine pure_ (i := 17) (N := some 202) (v := ?_) (a' := ?_) #[true, true, true, true, true, true, true, true, true, true, true, true, true, true, true, true, true, true, false, false, false, false, false, false, false, false, false, false, false, false, false, false, false, false, false] rfl rfl (any_of HT_.out (by kernel_rfl)) (fun _ _ _ h => h) (Or.inl ⟨by rfl, ?_⟩) ?_ ?_
                            rotate_left
                            ·intro w'
                             go_simp
                             with_reducible rfl
                            rotate_left
                            ·simp only [Act.put, List.setIfInBounds_toArray, List.set_cons_zero, List.set_cons_succ, i64_w, i32_w]
                             rfl
                            refine pure_ (i := 18) (N := some 203) (v := ?_) (a' := ?_) #[true, true, true, true, true, true, true, true, true, true, true, true, true, true, true, true, true, true, true, false, false, false, false, false, false, false, false, false, false, false, false, false, false, false, false] rfl rfl (any_of HT_.out (by kernel_rfl)) (fun _ _ _ h => h) (Or.inl ⟨by rfl, ?_⟩) ?_ ?_
                            rotate_left
                            ·intro w'
                             go_simp
                             with_reducible rfl
                            rotate_left
                            ·simp only [Act.put, List.setIfInBounds_toArray, List.set_cons_zero, List.set_cons_succ, i64_w, i32_w]
                             rfl
                            refine pure_ (i := 19) (N := some 204) (v := ?_) (a' := ?_) #[true, true, true, true, true, true, true, true, true, true, true, true, true, true, true, true, true, true, true, true, false, false, false, false, false, false, false, false, false, false, false, false, false, false, false] rfl rfl (any_of HT_.out (by kernel_rfl)) (fun _ _ _ h => h) (Or.inl ⟨by rfl, ?_⟩) ?_ ?_
                            rotate_left
                            ·intro w'
                             go_simp
                             with_reducible rfl
                            rotate_left
                            ·simp only [Act.put, List.setIfInBounds_toArray, List.set_cons_zero, List.set_cons_succ, i64_w, i32_w]
                             rfl
                            refine pure_ (i := 21) (N := some 206) (v := ?_) (a' := ?_) #[true, true, true, true, true, true, true, true, true, true, true, true, true, true, true, true, true, true, true, true, false, true, false, false, false, false, false, false, false, false, false, false, false, false, false] rfl rfl (any_of HT_.out (by kernel_rfl)) (fun _ _ _ h => h) (Or.inl ⟨by rfl, ?_⟩) ?_ ?_
                            rotate_left
                            ·intro w'
                             go_simp
                             with_reducible rfl
                            rotate_left
                            ·simp only [Act.put, List.setIfInBounds_toArray, List.set_cons_zero, List.set_cons_succ, i64_w, i32_w]
                             rfl
                            refine pure_ (i := 23) (N := some 208) (v := ?_) (a' := ?_) #[true, true, true, true, true, true, true, true, true, true, true, true, true, true, true, true, true, true, true, true, false, true, false, true, false, false, false, false, false, false, false, false, false, false, false] rfl rfl (any_of HT_.out (by kernel_rfl)) (fun _ _ _ h => h) (Or.inl ⟨by rfl, ?_⟩) ?_ ?_
                            rotate_left
                            ·intro w'
                             go_simp
                             with_reducible rfl
                            rotate_left
                            ·simp only [Act.put, List.setIfInBounds_toArray, List.set_cons_zero, List.set_cons_succ, i64_w, i32_w]
                             rfl
                            refine pure_ (i := 26) (N := some 211) (v := ?_) (a' := ?_) #[true, true, true, true, true, true, true, true, true, true, true, true, true, true, true, true, true, true, true, true, false, true, false, true, false, false, true, false, false, false, false, false, false, false, false] rfl rfl (any_of HT_.out (by kernel_rfl)) (fun _ _ _ h => h) (Or.inl ⟨by rfl, ?_⟩) ?_ ?_
                            rotate_left
                            ·intro w'
                             go_simp
                             with_reducible rfl
                            rotate_left
                            ·simp only [Act.put, List.setIfInBounds_toArray, List.set_cons_zero, List.set_cons_succ, i64_w, i32_w]
                             rfl
                            refine pure_ (i := 28) (N := some 213) (v := ?_) (a' := ?_) #[true, true, true, true, true, true, true, true, true, true, true, true, true, true, true, true, true, true, true, true, false, true, false, true, false, false, true, false, true, false, false, false, false, false, false] rfl rfl (any_of HT_.out (by kernel_rfl)) (fun _ _ _ h => h) (Or.inl ⟨by rfl, ?_⟩) ?_ ?_
                            rotate_left
                            ·intro w'
                             go_simp
                             with_reducible rfl
                            rotate_left
                            ·simp only [Act.put, List.setIfInBounds_toArray, List.set_cons_zero, List.set_cons_succ, i64_w, i32_w]
                             rfl
                            refine take_ (i := 20) (N := some 205) (v := ?_) (a' := ?_) #[true, true, true, true, true, true, true, true, true, true, true, true, true, true, true, true, true, true, true, true, true, true, false, true, false, false, true, false, true, false, false, false, false, false, false] rfl rfl (take_ofW HT_.out HW_.out (by kernel_rfl)) (fun _ _ _ h => h) (Or.inl ⟨by rfl, ?_⟩) hHeld ?_ ?_
                            rotate_left
                            ·rintro w' ⟨s0, s1, s2, s3, s4, s5, s6, s7, s8⟩
                             go_simp
                             with_reducible rfl
                            rotate_left
                            ·simp only [Act.put, List.setIfInBounds_toArray, List.set_cons_zero, List.set_cons_succ, i64_w, i32_w]
                             rfl
                            refine take_ (i := 22) (N := some 207) (v := ?_) (a' := ?_) #[true, true, true, true, true, true, true, true, true, true, true, true, true, true, true, true, true, true, true, true, true, true, true, true, false, false, true, false, true, false, false, false, false, false, false] rfl rfl (take_ofW HT_.out HW_.out (by kernel_rfl)) (fun _ _ _ h => h) (Or.inl ⟨by rfl, ?_⟩) hHeld ?_ ?_
                            rotate_left
                            ·rintro w' ⟨s0, s1, s2, s3, s4, s5, s6, s7, s8⟩
                             go_simp
                             with_reducible rfl
                            rotate_left
                            ·simp only [Act.put, List.setIfInBounds_toArray, List.set_cons_zero, List.set_cons_succ, i64_w, i32_w]
                             rfl
                            refine pure_ (i := 24) (N := some 209) (v := ?_) (a' := ?_) #[true, true, true, true, true, true, true, true, true, true, true, true, true, true, true, true, true, true, true, true, true, true, true, true, true, false, true, false, true, false, false, false, false, false, false] rfl rfl (any_of HT_.out (by kernel_rfl)) (fun _ _ _ h => h) (Or.inl ⟨by rfl, ?_⟩) ?_ ?_
                            rotate_left
                            ·intro w'
                             go_simp
                             with_reducible rfl
                            rotate_left
                            ·simp only [Act.put, List.setIfInBounds_toArray, List.set_cons_zero, List.set_cons_succ, i64_w, i32_w]
                             rfl
                            refine take_ (i := 25) (N := some 210) (v := ?_) (a' := ?_) #[true, true, true, true, true, true, true, true, true, true, true, true, true, true, true, true, true, true, true, true, true, true, true, true, true, true, true, false, true, false, false, false, false, false, false] rfl rfl (take_ofW HT_.out HW_.out (by kernel_rfl)) (fun _ _ _ h => h) (Or.inl ⟨by rfl, ?_⟩) hHeld ?_ ?_
                            rotate_left
                            ·rintro w' ⟨s0, s1, s2, s3, s4, s5, s6, s7, s8⟩
                             go_simp
                             with_reducible rfl
                            rotate_left
                            ·simp only [Act.put, List.setIfInBounds_toArray, List.set_cons_zero, List.set_cons_succ, i64_w, i32_w]
                             rfl
                            refine take_ (i := 27) (N := some 212) (v := ?_) (a' := ?_) #[true, true, true, true, true, true, true, true, true, true, true, true, true, true, true, true, true, true, true, true, true, true, true, true, true, true, true, true, true, false, false, false, false, false, false] rfl rfl (take_ofW HT_.out HW_.out (by kernel_rfl)) (fun _ _ _ h => h) (Or.inl ⟨by rfl, ?_⟩) hHeld ?_ ?_
                            rotate_left
                            ·rintro w' ⟨s0, s1, s2, s3, s4, s5, s6, s7, s8⟩
                             go_simp
                             with_reducible rfl
                            rotate_left
                            ·simp only [Act.put, List.setIfInBounds_toArray, List.set_cons_zero, List.set_cons_succ, i64_w, i32_w]
                             rfl
                            refine pure_ (i := 29) (N := some 214) (v := ?_) (a' := ?_) #[true, true, true, true, true, true, true, true, true, true, true, true, true, true, true, true, true, true, true, true, true, true, true, true, true, true, true, true, true, true, false, false, false, false, false] rfl rfl (any_of HT_.out (by kernel_rfl)) (fun _ _ _ h => h) (Or.inl ⟨by rfl, ?_⟩) ?_ ?_
                            rotate_left
                            ·intro w'
                             go_simp
                             with_reducible rfl
                            rotate_left
                            ·simp only [Act.put, List.setIfInBounds_toArray, List.set_cons_zero, List.set_cons_succ, i64_w, i32_w]
                             rfl
                            refine take_ (i := 30) (N := some 215) (v := ?_) (a' := ?_) #[true, true, true, true, true, true, true, true, true, true, true, true, true, true, true, true, true, true, true, true, true, true, true, true, true, true, true, true, true, true, true, false, false, false, false] rfl rfl (take_ofW HT_.out HW_.out (by kernel_rfl)) (fun _ _ _ h => h) (Or.inl ⟨by rfl, ?_⟩) hHeld ?_ ?_
                            rotate_left
                            ·rintro w' ⟨s0, s1, s2, s3, s4, s5, s6, s7, s8⟩
                             go_simp
                             with_reducible rfl
                            rotate_left
                            ·simp only [Act.put, List.setIfInBounds_toArray, List.set_cons_zero, List.set_cons_succ, i64_w, i32_w]
                             rfl
                            refine pure_ (i := 31) (N := some 216) (v := ?_) (a' := ?_) #[true, true, true, true, true, true, true, true, true, true, true, true, true, true, true, true, true, true, true, true, true, true, true, true, true, true, true, true, true, true, true, true, false, false, false] rfl rfl (any_of HT_.out (by kernel_rfl)) (fun _ _ _ h => h) (Or.inl ⟨by rfl, ?_⟩) ?_ ?_
                            rotate_left
                            ·intro w'
                             go_simp
                             with_reducible rfl
                            rotate_left
                            ·simp only [Act.put, List.setIfInBounds_toArray, List.set_cons_zero, List.set_cons_succ, i64_w, i32_w]
                             rfl
                            refine pure_ (i := 32) (N := some 217) (v := ?_) (a' := ?_) #[true, true, true, true, true, true, true, true, true, true, true, true, true, true, true, true, true, true, true, true, true, true, true, true, true, true, true, true, true, true, true, true, true, false, false] rfl rfl (any_of HT_.out (by kernel_rfl)) (fun _ _ _ h => h) (Or.inl ⟨by rfl, ?_⟩) ?_ ?_
                            rotate_left
                            ·intro w'
                             go_simp
                             with_reducible rfl
                            rotate_left
                            ·simp only [Act.put, List.setIfInBounds_toArray, List.set_cons_zero, List.set_cons_succ, i64_w, i32_w]
                             rfl
                            refine pure_ (i := 33) (N := some 218) (v := ?_) (a' := ?_) #[true, true, true, true, true, true, true, true, true, true, true, true, true, true, true, true, true, true, true, true, true, true, true, true, true, true, true, true, true, true, true, true, true, true, false] rfl rfl (any_of HT_.out (by kernel_rfl)) (fun _ _ _ h => h) (Or.inl ⟨by rfl, ?_⟩) ?_ ?_
                            rotate_left
                            ·intro w'
                             go_simp
                             with_reducible rfl
                            rotate_left
                            ·simp only [Act.put, List.setIfInBounds_toArray, List.set_cons_zero, List.set_cons_succ, i64_w, i32_w]
                             rfl
                            refine pure_ (i := 34) (N := some 219) (v := ?_) (a' := ?_) #[true, true, true, true, true, true, true, true, true, true, true, true, true, true, true, true, true, true, true, true, true, true, true, true, true, true, true, true, true, true, true, true, true, true, true] rfl rfl (any_of HT_.out (by kernel_rfl)) (fun _ _ _ h => h) (Or.inl ⟨by rfl, ?_⟩) ?_ ?_
                            rotate_left
                            ·intro w'
                             go_simp
                             with_reducible rfl
                            rotate_left
                            ·simp only [Act.put, List.setIfInBounds_toArray, List.set_cons_zero, List.set_cons_succ, i64_w, i32_w]
                             rfl
                            refine done_ (done_of HT_.out (by kernel_rfl)) ?_
                            try go_wp2
                            go_roundg k6
                            case measure => have := HK1.out; have := HJ1.out; have := HJ18.out; have := HJ36.out; have := HJ49.out; have := HK6.out; omega
                            case rel => exact ⟨(wrap64 (x18_6 + 1)), (by first | rfl | (simp; done) | (simp [*]; done)), H', ⟨by have := HK1.out; have := HJ1.out; have := HJ18.out; have := HJ36.out; have := HJ49.out; have := HK6.out; omega⟩, ⟨by (with_reducible repeat (first | apply Kd.R_alloc | apply Kd.R_drewN | apply Kd.R_drew)); first | exact HO_5.out | exact Kd.R_mono HO_5.out (fun k_ h_ => by first | exact ⟨h_.2.1, h_.2.2, h_.1⟩ | exact ⟨h_.2.2, h_.1, h_.2.1⟩ | exact ⟨h_.1, h_.2.2, h_.2.1⟩ | exact ⟨h_.2.1, h_.1, h_.2.2⟩ | exact ⟨h_.2.2, h_.2.1, h_.1⟩)⟩, ⟨by (with_reducible repeat (first | apply Kd.R_alloc | apply Kd.R_drewN | apply Kd.R_drew)); first | exact HO_6.out | exact Kd.R_mono HO_6.out (fun k_ h_ => by first | exact ⟨h_.2.1, h_.2.2, h_.1⟩ | exact ⟨h_.2.2, h_.1, h_.2.1⟩ | exact ⟨h_.1, h_.2.2, h_.2.1⟩ | exact ⟨h_.2.1, h_.1, h_.2.2⟩ | exact ⟨h_.2.2, h_.2.1, h_.1⟩)⟩, ⟨by (with_reducible repeat (first | apply Kd.R_alloc | apply Kd.R_drewN | apply Kd.R_drew)); first | exact HO_9.out | exact Kd.R_mono HO_9.out (fun k_ h_ => by first | exact ⟨h_.2.1, h_.2.2, h_.1⟩ | exact ⟨h_.2.2, h_.1, h_.2.1⟩ | exact ⟨h_.1, h_.2.2, h_.2.1⟩ | exact ⟨h_.2.1, h_.1, h_.2.2⟩ | exact ⟨h_.2.2, h_.2.1, h_.1⟩)⟩, ⟨by (with_reducible repeat (first | apply Kd.R_alloc | apply Kd.R_drewN | apply Kd.R_drew)); first | exact HO_11.out | exact Kd.R_mono HO_11.out (fun k_ h_ => by first | exact ⟨h_.2.1, h_.2.2, h_.1⟩ | exact ⟨h_.2.2, h_.1, h_.2.1⟩ | exact ⟨h_.1, h_.2.2, h_.2.1⟩ | exact ⟨h_.2.1, h_.1, h_.2.2⟩ | exact ⟨h_.2.2, h_.2.1, h_.1⟩)⟩, ⟨by (with_reducible repeat (first | refine blk_drewN ?_ _ | refine blk_drew ?_ | refine blk_alloc ?_ _)); exact BK775.out⟩, ⟨by repeat (first | (with_reducible first | exact HB.out | apply below_alloc | apply pw_below_drewN | apply below_drew1 | refine below_set ?_ GE775.out) | exact HB.out)⟩⟩
                          ·rw [if_neg c76] at H
                           have c76b0 : ((rd t789 x18_6) == (ji75)) = false := beq_eq_false_iff_ne.mpr c76
                           have c76b1 : ((rd t789 x18_6) != (ji75)) = true := bne_iff_ne.mpr c76
                           as_aux_lemma =>
                            obtain rfl := Option.some.inj H
                            obtain ⟨Ao80, co80, eo80⟩ := Kd.R_slice HO_9.out
                            subst eo80
                            try go_wp2
                            have n0_ := Aside0.mk (Kd.R_drew HO_5.out)
                            have n1_ := Aside0.mk (Kd.R_drew HO_6.out)
                            have n2_ := Aside0.mk (Kd.R_drew HO_9.out)
                            have n3_ := Aside0.mk (Kd.R_drew HO_11.out)
                            have n4_ := Aside0.mk (blk_drew BK775.out)
                            have n5_ := Aside0.mk (below_drew1 HB.out)
                            clear HO_5
                            clear HO_6
                            clear HO_9
                            clear HO_11
                            clear BK775
                            clear HB
                            have HO_5 := n0_
                            have HO_6 := n1_
                            have HO_9 := n2_
                            have HO_11 := n3_
                            have BK775 := n4_
                            have HB := n5_
                            clear n0_ n1_ n2_ n3_ n4_ n5_
                            have p809 : 0 ≤ (x18_6 : Int) := of_decide_eq_true (by first | (with_reducible assumption) | assumption)
                            have q809 : x18_6 < (t785.length : Int) := of_decide_eq_true (by first | (with_reducible assumption) | assumption)
                            obtain ⟨ad809, e809, hx809_0⟩ := Kd.at_int (Kd.R_reads' HO_9.out).2.2 x18_6 p809 q809
                            cases e809
                            replace p809 := eq_true p809
                            replace q809 := eq_true q809
                            have p810 : 0 ≤ (x18_6 : Int) := of_decide_eq_true (by first | (with_reducible assumption) | assumption)
                            have q810 : x18_6 < (((rd_T86 l0 x3_1).f0).length : Int) := of_decide_eq_true (by first | (with_reducible assumption) | assumption)
                            obtain ⟨ad810, e810, hx810_0⟩ := Kd.at_int HR774_0.out x18_6 p810 q810
                            have hw810_0 := hx810_0
                            cases e810
                            replace hx810_0 := (HB.out.cell (World.block_lt_of_cell? w _ hx810_0)).trans hx810_0
                            replace p810 := eq_true p810
                            replace q810 := eq_true q810
                            have p811 : 0 ≤ (x18_6 : Int) := of_decide_eq_true (by first | (with_reducible assumption) | assumption)
                            have q811 : x18_6 < (((rd_T86 l0 x3_1).f1).length : Int) := of_decide_eq_true (by first | (with_reducible assumption) | assumption)
                            obtain ⟨ad811, e811, hx811_0⟩ := Kd.at_int HR774_1.out x18_6 p811 q811
                            have hw811_0 := hx811_0
                            cases e811
                            replace hx811_0 := (HB.out.cell (World.block_lt_of_cell? w _ hx811_0)).trans hx811_0
                            replace p811 := eq_true p811
                            replace q811 := eq_true q811
                            obtain ⟨Ao82, co82, eo82⟩ := Kd.R_slice HO_11.out
                            (first | subst eo82 | (injection eo82 with f1_ f2_ f3_; have f4_ := f1_.symm; have f5_ := f3_.symm; clear f1_ f2_ f3_; subst f4_; subst f5_))
                            have p812 : 0 ≤ (x18_6 : Int) := of_decide_eq_true (by first | (with_reducible assumption) | assumption)
                            have q812 : x18_6 < (t789.length : Int) := of_decide_eq_true (by first | (with_reducible assumption) | assumption)
                            obtain ⟨ad812, e812, hx812_0⟩ := Kd.at_int (Kd.R_reads' HO_11.out).2.2 x18_6 p812 q812
                            cases e812
                            replace p812 := eq_true p812
                            replace q812 := eq_true q812
                            have p813 : 0 ≤ (x18_6 : Int) := of_decide_eq_true (by first | (with_reducible assumption) | assumption)
                            have q813 : x18_6 < (((rd_T86 l0 x3_1).f1).length : Int) := of_decide_eq_true (by first | (with_reducible assumption) | assumption)
                            obtain ⟨ad813, e813, hx813_0⟩ := Kd.at_int HR774_1.out x18_6 p813 q813
                            have hw813_0 := hx813_0
                            obtain rfl : ad811 = ad813 := (by injection e813)
                            replace hx813_0 := (HB.out.cell (World.block_lt_of_cell? w _ hx813_0)).trans hx813_0
                            replace p813 := eq_true p813
                            replace q813 := eq_true q813
                            have p814 : 0 ≤ (x18_6 : Int) := of_decide_eq_true (by first | (with_reducible assumption) | assumption)
                            have q814 : x18_6 < (((rd_T86 l0 x3_1).f0).length : Int) := of_decide_eq_true (by first | (with_reducible assumption) | assumption)
                            obtain ⟨ad814, e814, hx814_0⟩ := Kd.at_int HR774_0.out x18_6 p814 q814
                            have hw814_0 := hx814_0
                            obtain rfl : ad810 = ad814 := (by injection e814)
                            replace hx814_0 := (HB.out.cell (World.block_lt_of_cell? w _ hx814_0)).trans hx814_0
                            replace p814 := eq_true p814
                            replace q814 := eq_true q814
                            refine start_ (n := 35) (S := fun w' => w'.cell? ⟨gb775, 0, none⟩ = some (.slice (some ad810) ((rd_T86 l0 x3_1).f0).length c774_0) ∧ w'.cell? ⟨gb775, 1, none⟩ = some (.slice (some ad811) ((rd_T86 l0 x3_1).f1).length c774_1) ∧ w'.cell? ⟨gb775, 2, none⟩ = some (.slice A774_2 ((rd_T86 l0 x3_1).f2).length c774_2) ∧ w'.cell? (ad809.add (x18_6).toNat) = some (.int .i64 (rd t785 x18_6)) ∧ w'.cell? (ad810.add (x18_6).toNat) = some (.int .i64 (rd ((rd_T86 l0 x3_1).f0) x18_6)) ∧ w'.cell? (ad811.add (x18_6).toNat) = some (.int .i64 (rd ((rd_T86 l0 x3_1).f1) x18_6)) ∧ w'.cell? (ad812.add (x18_6).toNat) = some (.int .i64 (rd t789 x18_6)) ∧ w'.cell? (ad811.add (x18_6).toNat) = some (.int .i64 (rd ((rd_T86 l0 x3_1).f1) x18_6)) ∧ w'.cell? (ad810.add (x18_6).toNat) = some (.int .i64 (rd ((rd_T86 l0 x3_1).f0) x18_6))) (ds := []) #[false, false, false, false, false, false, false, false, false, false, false, false, false, false, false, false, false, false, false, false, false, false, false, false, false, false, false, false, false, false, false, false, false, false, false] (by kernel_rfl) rfl rfl ⟨(blk_cell BK775.out 0).trans rfl, (blk_cell BK775.out 1).trans rfl, (blk_cell BK775.out 2).trans rfl, hx809_0, ((HB.out.cell (World.block_lt_of_cell? w _ hw810_0)).trans hw810_0), ((HB.out.cell (World.block_lt_of_cell? w _ hw811_0)).trans hw811_0), hx812_0, ((HB.out.cell (World.block_lt_of_cell? w _ hw813_0)).trans hw813_0), ((HB.out.cell (World.block_lt_of_cell? w _ hw814_0)).trans hw814_0)⟩ (fun hHeld => ?_); refine with_tabW arraslaw7_HavePairs.tab28 arraslaw7_HavePairs.bits28 (fun HT_ HW_ => ?_)
                            generalize wr.drew = w81 at HO_5 HO_6 HO_9 HO_11 BK775 HB hx809_0 hx810_0 hx811_0 hx812_0 hx813_0 hx814_0 hHeld ⊢
                            refine pure_ (i := 0) (N := some 185) (v := ?_) (a' := ?_) #[true, false, false, false, false, false, false, false, false, false, false, false, false, false, false, false, false, false, false, false, false, false, false, false, false, false, false, false, false, false, false, false, false, false, false] rfl rfl (any_of HT_.out (by kernel_rfl)) (fun _ _ _ h => h) (Or.inl ⟨by rfl, ?_⟩) ?_ ?_
                            rotate_left
                            ·intro w'
                             go_simp
                             with_reducible rfl
                            rotate_left
                            ·simp only [Act.put, List.setIfInBounds_toArray, List.set_cons_zero, List.set_cons_succ, i64_w, i32_w]
                             rfl
                            refine pure_ (i := 1) (N := some 186) (v := ?_) (a' := ?_) #[true, true, false, false, false, false, false, false, false, false, false, false, false, false, false, false, false, false, false, false, false, false, false, false, false, false, false, false, false, false, false, false, false, false, false] rfl rfl (any_of HT_.out (by kernel_rfl)) (fun _ _ _ h => h) (Or.inl ⟨by rfl, ?_⟩) ?_ ?_
                            rotate_left
                            ·intro w'
                             go_simp
                             with_reducible rfl
                            rotate_left
                            ·simp only [Act.put, List.setIfInBounds_toArray, List.set_cons_zero, List.set_cons_succ, i64_w, i32_w]
                             rfl
                            refine pure_ (i := 2) (N := some 187) (v := ?_) (a' := ?_) #[true, true, true, false, false, false, false, false, false, false, false, false, false, false, false, false, false, false, false, false, false, false, false, false, false, false, false, false, false, false, false, false, false, false, false] rfl rfl (any_of HT_.out (by kernel_rfl)) (fun _ _ _ h => h) (Or.inl ⟨by rfl, ?_⟩) ?_ ?_
                            rotate_left
                            ·intro w'
                             go_simp
                             with_reducible rfl
                            rotate_left
                            ·simp only [Act.put, List.setIfInBounds_toArray, List.set_cons_zero, List.set_cons_succ, i64_w, i32_w]
                             rfl
                            refine pure_ (i := 4) (N := some 189) (v := ?_) (a' := ?_) #[true, true, true, false, true, false, false, false, false, false, false, false, false, false, false, false, false, false, false, false, false, false, false, false, false, false, false, false, false, false, false, false, false, false, false] rfl rfl (any_of HT_.out (by kernel_rfl)) (fun _ _ _ h => h) (Or.inl ⟨by rfl, ?_⟩) ?_ ?_
                            rotate_left
                            ·intro w'
                             go_simp
                             with_reducible rfl
                            rotate_left
                            ·simp only [Act.put, List.setIfInBounds_toArray, List.set_cons_zero, List.set_cons_succ, i64_w, i32_w]
                             rfl
                            refine pure_ (i := 6) (N := some 191) (v := ?_) (a' := ?_) #[true, true, true, false, true, false, true, false, false, false, false, false, false, false, false, false, false, false, false, false, false, false, false, false, false, false, false, false, false, false, false, false, false, false, false] rfl rfl (any_of HT_.out (by kernel_rfl)) (fun _ _ _ h => h) (Or.inl ⟨by rfl, ?_⟩) ?_ ?_
                            rotate_left
                            ·intro w'
                             go_simp
                             with_reducible rfl
                            rotate_left
                            ·simp only [Act.put, List.setIfInBounds_toArray, List.set_cons_zero, List.set_cons_succ, i64_w, i32_w]
                             rfl
                            refine pure_ (i := 9) (N := some 194) (v := ?_) (a' := ?_) #[true, true, true, false, true, false, true, false, false, true, false, false, false, false, false, false, false, false, false, false, false, false, false, false, false, false, false, false, false, false, false, false, false, false, false] rfl rfl (any_of HT_.out (by kernel_rfl)) (fun _ _ _ h => h) (Or.inl ⟨by rfl, ?_⟩) ?_ ?_
                            rotate_left
                            ·intro w'
                             go_simp
                             with_reducible rfl
                            rotate_left
                            ·simp only [Act.put, List.setIfInBounds_toArray, List.set_cons_zero, List.set_cons_succ, i64_w, i32_w]
                             rfl
                            refine pure_ (i := 11) (N := some 196) (v := ?_) (a' := ?_) #[true, true, true, false, true, false, true, false, false, true, false, true, false, false, false, false, false, false, false, false, false, false, false, false, false, false, false, false, false, false, false, false, false, false, false] rfl rfl (any_of HT_.out (by kernel_rfl)) (fun _ _ _ h => h) (Or.inl ⟨by rfl, ?_⟩) ?_ ?_
                            rotate_left
                            ·intro w'
                             go_simp
                             with_reducible rfl
                            rotate_left
                            ·simp only [Act.put, List.setIfInBounds_toArray, List.set_cons_zero, List.set_cons_succ, i64_w, i32_w]
                             rfl
                            refine take_ (i := 3) (N := some 188) (v := ?_) (a' := ?_) #[true, true, true, true, true, false, true, false, false, true, false, true, false, false, false, false, false, false, false, false, false, false, false, false, false, false, false, false, false, false, false, false, false, false, false] rfl rfl (take_ofW HT_.out HW_.out (by kernel_rfl)) (fun _ _ _ h => h) (Or.inl ⟨by rfl, ?_⟩) hHeld ?_ ?_
                            rotate_left
                            ·rintro w' ⟨s0, s1, s2, s3, s4, s5, s6, s7, s8⟩
                             go_simp
                             with_reducible rfl
                            rotate_left
                            ·simp only [Act.put, List.setIfInBounds_toArray, List.set_cons_zero, List.set_cons_succ, i64_w, i32_w]
                             rfl
                            refine take_ (i := 5) (N := some 190) (v := ?_) (a' := ?_) #[true, true, true, true, true, true, true, false, false, true, false, true, false, false, false, false, false, false, false, false, false, false, false, false, false, false, false, false, false, false, false, false, false, false, false] rfl rfl (take_ofW HT_.out HW_.out (by kernel_rfl)) (fun _ _ _ h => h) (Or.inl ⟨by rfl, ?_⟩) hHeld ?_ ?_
                            rotate_left
                            ·rintro w' ⟨s0, s1, s2, s3, s4, s5, s6, s7, s8⟩
                             go_simp
                             with_reducible rfl
                            rotate_left
                            ·simp only [Act.put, List.setIfInBounds_toArray, List.set_cons_zero, List.set_cons_succ, i64_w, i32_w]
                             rfl
                            refine pure_ (i := 7) (N := some 192) (v := ?_) (a' := ?_) #[true, true, true, true, true, true, true, true, false, true, false, true, false, false, false, false, false, false, false, false, false, false, false, false, false, false, false, false, false, false, false, false, false, false, false] rfl rfl (any_of HT_.out (by kernel_rfl)) (fun _ _ _ h => h) (Or.inl ⟨by rfl, ?_⟩) ?_ ?_
                            rotate_left
                            ·intro w'
                             go_simp
                             with_reducible rfl
                            rotate_left
                            ·simp only [Act.put, List.setIfInBounds_toArray, List.set_cons_zero, List.set_cons_succ, i64_w, i32_w]
                             rfl
                            refine take_ (i := 8) (N := some 193) (v := ?_) (a' := ?_) #[true, true, true, true, true, true, true, true, true, true, false, true, false, false, false, false, false, false, false, false, false, false, false, false, false, false, false, false, false, false, false, false, false, false, false] rfl rfl (take_ofW HT_.out HW_.out (by kernel_rfl)) (fun _ _ _ h => h) (Or.inl ⟨by rfl, ?_⟩) hHeld ?_ ?_
                            rotate_left
                            ·rintro w' ⟨s0, s1, s2, s3, s4, s5, s6, s7, s8⟩
                             go_simp
                             with_reducible rfl
                            rotate_left
                            ·simp only [Act.put, List.setIfInBounds_toArray, List.set_cons_zero, List.set_cons_succ, i64_w, i32_w]
                             rfl
                            refine take_ (i := 10) (N := some 195) (v := ?_) (a' := ?_) #[true, true, true, true, true, true, true, true, true, true, true, true, false, false, false, false, false, false, false, false, false, false, false, false, false, false, false, false, false, false, false, false, false, false, false] rfl rfl (take_ofW HT_.out HW_.out (by kernel_rfl)) (fun _ _ _ h => h) (Or.inl ⟨by rfl, ?_⟩) hHeld ?_ ?_
                            rotate_left
                            ·rintro w' ⟨s0, s1, s2, s3, s4, s5, s6, s7, s8⟩
                             go_simp
                             with_reducible rfl
                            rotate_left
                            ·simp only [Act.put, List.setIfInBounds_toArray, List.set_cons_zero, List.set_cons_succ, i64_w, i32_w]
                             rfl
                            refine pure_ (i := 12) (N := some 197) (v := ?_) (a' := ?_) #[true, true, true, true, true, true, true, true, true, true, true, true, true, false, false, false, false, false, false, false, false, false, false, false, false, false, false, false, false, false, false, false, false, false, false] rfl rfl (any_of HT_.out (by kernel_rfl)) (fun _ _ _ h => h) (Or.inl ⟨by rfl, ?_⟩) ?_ ?_
                            rotate_left
                            ·intro w'
                             go_simp
                             with_reducible rfl
                            rotate_left
                            ·simp only [Act.put, List.setIfInBounds_toArray, List.set_cons_zero, List.set_cons_succ, i64_w, i32_w]
                             rfl
                            refine take_ (i := 13) (N := some 198) (v := ?_) (a' := ?_) #[true, true, true, true, true, true, true, true, true, true, true, true, true, true, false, false, false, false, false, false, false, false, false, false, false, false, false, false, false, false, false, false, false, false, false] rfl rfl (take_ofW HT_.out HW_.out (by kernel_rfl)) (fun _ _ _ h => h) (Or.inl ⟨by rfl, ?_⟩) hHeld ?_ ?_
                            rotate_left
                            ·rintro w' ⟨s0, s1, s2, s3, s4, s5, s6, s7, s8⟩
                             go_simp
                             with_reducible rfl
                            rotate_left
                            ·simp only [Act.put, List.setIfInBounds_toArray, List.set_cons_zero, List.set_cons_succ, i64_w, i32_w]
                             rfl
                            refine pure_ (i := 14) (N := some 199) (v := ?_) (a' := ?_) #[true, true, true, true, true, true, true, true, true, true, true, true, true, true, true, false, false, false, false, false, false, false, false, false, false, false, false, false, false, false, false, false, false, false, false] rfl rfl (any_of HT_.out (by kernel_rfl)) (fun _ _ _ h => h) (Or.inl ⟨by rfl, ?_⟩) ?_ ?_
                            rotate_left
                            ·intro w'
                             go_simp
                             with_reducible rfl
                            rotate_left
                            ·simp only [Act.put, List.setIfInBounds_toArray, List.set_cons_zero, List.set_cons_succ, i64_w, i32_w]
                             rfl
                            refine pure_ (i := 15) (N := some 200) (v := ?_) (a' := ?_) #[true, true, true, true, true, true, true, true, true, true, true, true, true, true, true, true, false, false, false, false, false, false, false, false, false, false, false, false, false, false, false, false, false, false, false] rfl rfl (any_of HT_.out (by kernel_rfl)) (fun _ _ _ h => h) (Or.inl ⟨by rfl, ?_⟩) ?_ ?_
                            rotate_left
                            ·intro w'
                             go_simp
                             with_reducible rfl
                            rotate_left
                            ·simp only [Act.put, List.setIfInBounds_toArray, List.set_cons_zero, List.set_cons_succ, i64_w, i32_w]
                             rfl
                            refine pure_ (i := 16) (N := some 201) (v := ?_) (a' := ?_) #[true, true, true, true, true, true, true, true, true, true, true, true, true, true, true, true, true, false, false, false, false, false, false, false, false, false, false, false, false, false, false, false, false, false, false] rfl rfl (any_of HT_.out (by kernel_rfl)) (fun _ _ _ h => h) (Or.inl ⟨by rfl, ?_⟩) ?_ ?_
                            rotate_left
                            ·intro w'
                             go_simp
                             with_reducible rfl
                            rotate_left
                            ·simp only [Act.put, List.setIfInBounds_toArray, List.set_cons_zero, List.set_cons_succ, i64_w, i32_w]
                             rfl
                            refine pure_ (i := 17) (N := some 202) (v := ?_) (a' := ?_) #[true, true, true, true, true, true, true, true, true, true, true, true, true, true, true, true, true, true, false, false, false, false, false, false, false, false, false, false, false, false, false, false, false, false, false] rfl rfl (any_of HT_.out (by kernel_rfl)) (fun _ _ _ h => h) (Or.inl ⟨by rfl, ?_⟩) ?_ ?_
                            rotate_left
                            ·intro w'
                             go_simp
                             with_reducible rfl
                            rotate_left
                            ·simp only [Act.put, List.setIfInBounds_toArray, List.set_cons_zero, List.set_cons_succ, i64_w, i32_w]
                             rfl
                            refine pure_ (i := 18) (N := some 203) (v := ?_) (a' := ?_) #[true, true, true, true, true, true, true, true, true, true, true, true, true, true, true, true, true, true, true, false, false, false, false, false, false, false, false, false, false, false, false, false, false, false, false] rfl rfl (any_of HT_.out (by kernel_rfl)) (fun _ _ _ h => h) (Or.inl ⟨by rfl, ?_⟩) ?_ ?_
                            rotate_left
                            ·intro w'
                             go_simp
                             with_reducible rfl
                            rotate_left
                            ·simp only [Act.put, List.setIfInBounds_toArray, List.set_cons_zero, List.set_cons_succ, i64_w, i32_w]
                             rfl
                            refine pure_ (i := 19) (N := some 204) (v := ?_) (a' := ?_) #[true, true, true, true, true, true, true, true, true, true, true, true, true, true, true, true, true, true, true, true, false, false, false, false, false, false, false, false, false, false, false, false, false, false, false] rfl rfl (any_of HT_.out (by kernel_rfl)) (fun _ _ _ h => h) (Or.inl ⟨by rfl, ?_⟩) ?_ ?_
                            rotate_left
                            ·intro w'
                             go_simp
                             with_reducible rfl
                            rotate_left
                            ·simp only [Act.put, List.setIfInBounds_toArray, List.set_cons_zero, List.set_cons_succ, i64_w, i32_w]
                             rfl
                            refine pure_ (i := 21) (N := some 206) (v := ?_) (a' := ?_) #[true, true, true, true, true, true, true, true, true, true, true, true, true, true, true, true, true, true, true, true, false, true, false, false, false, false, false, false, false, false, false, false, false, false, false] rfl rfl (any_of HT_.out (by kernel_rfl)) (fun _ _ _ h => h) (Or.inl ⟨by rfl, ?_⟩) ?_ ?_
                            rotate_left
                            ·intro w'
                             go_simp
                             with_reducible rfl
                            rotate_left
                            ·simp only [Act.put, List.setIfInBounds_toArray, List.set_cons_zero, List.set_cons_succ, i64_w, i32_w]
                             rfl
                            refine pure_ (i := 23) (N := some 208) (v := ?_) (a' := ?_) #[true, true, true, true, true, true, true, true, true, true, true, true, true, true, true, true, true, true, true, true, false, true, false, true, false, false, false, false, false, false, false, false, false, false, false] rfl rfl (any_of HT_.out (by kernel_rfl)) (fun _ _ _ h => h) (Or.inl ⟨by rfl, ?_⟩) ?_ ?_
                            rotate_left
                            ·intro w'
                             go_simp
                             with_reducible rfl
                            rotate_left
                            ·simp only [Act.put, List.setIfInBounds_toArray, List.set_cons_zero, List.set_cons_succ, i64_w, i32_w]
                             rfl
                            refine pure_ (i := 26) (N := some 211) (v := ?_) (a' := ?_) #[true, true, true, true, true, true, true, true, true, true, true, true, true, true, true, true, true, true, true, true, false, true, false, true, false, false, true, false, false, false, false, false, false, false, false] rfl rfl (any_of HT_.out (by kernel_rfl)) (fun _ _ _ h => h) (Or.inl ⟨by rfl, ?_⟩) ?_ ?_
                            rotate_left
                            ·intro w'
                             go_simp
                             with_reducible rfl
                            rotate_left
                            ·simp only [Act.put, List.setIfInBounds_toArray, List.set_cons_zero, List.set_cons_succ, i64_w, i32_w]
                             rfl
                            refine pure_ (i := 28) (N := some 213) (v := ?_) (a' := ?_) #[true, true, true, true, true, true, true, true, true, true, true, true, true, true, true, true, true, true, true, true, false, true, false, true, false, false, true, false, true, false, false, false, false, false, false] rfl rfl (any_of HT_.out (by kernel_rfl)) (fun _ _ _ h => h) (Or.inl ⟨by rfl, ?_⟩) ?_ ?_
                            rotate_left
                            ·intro w'
                             go_simp
                             with_reducible rfl
                            rotate_left
                            ·simp only [Act.put, List.setIfInBounds_toArray, List.set_cons_zero, List.set_cons_succ, i64_w, i32_w]
                             rfl
                            refine take_ (i := 20) (N := some 205) (v := ?_) (a' := ?_) #[true, true, true, true, true, true, true, true, true, true, true, true, true, true, true, true, true, true, true, true, true, true, false, true, false, false, true, false, true, false, false, false, false, false, false] rfl rfl (take_ofW HT_.out HW_.out (by kernel_rfl)) (fun _ _ _ h => h) (Or.inl ⟨by rfl, ?_⟩) hHeld ?_ ?_
                            rotate_left
                            ·rintro w' ⟨s0, s1, s2, s3, s4, s5, s6, s7, s8⟩
                             go_simp
                             with_reducible rfl
                            rotate_left
                            ·simp only [Act.put, List.setIfInBounds_toArray, List.set_cons_zero, List.set_cons_succ, i64_w, i32_w]
                             rfl
                            refine take_ (i := 22) (N := some 207) (v := ?_) (a' := ?_) #[true, true, true, true, true, true, true, true, true, true, true, true, true, true, true, true, true, true, true, true, true, true, true, true, false, false, true, false, true, false, false, false, false, false, false] rfl rfl (take_ofW HT_.out HW_.out (by kernel_rfl)) (fun _ _ _ h => h) (Or.inl ⟨by rfl, ?_⟩) hHeld ?_ ?_
                            rotate_left
                            ·rintro w' ⟨s0, s1, s2, s3, s4, s5, s6, s7, s8⟩
                             go_simp
                             with_reducible rfl
                            rotate_left
                            ·simp only [Act.put, List.setIfInBounds_toArray, List.set_cons_zero, List.set_cons_succ, i64_w, i32_w]
                             rfl
                            refine pure_ (i := 24) (N := some 209) (v := ?_) (a' := ?_) #[true, true, true, true, true, true, true, true, true, true, true, true, true, true, true, true, true, true, true, true, true, true, true, true, true, false, true, false, true, false, false, false, false, false, false] rfl rfl (any_of HT_.out (by kernel_rfl)) (fun _ _ _ h => h) (Or.inl ⟨by rfl, ?_⟩) ?_ ?_
                            rotate_left
                            ·intro w'
                             go_simp
                             with_reducible rfl
                            rotate_left
                            ·simp only [Act.put, List.setIfInBounds_toArray, List.set_cons_zero, List.set_cons_succ, i64_w, i32_w]
                             rfl
                            refine take_ (i := 25) (N := some 210) (v := ?_) (a' := ?_) #[true, true, true, true, true, true, true, true, true, true, true, true, true, true, true, true, true, true, true, true, true, true, true, true, true, true, true, false, true, false, false, false, false, false, false] rfl rfl (take_ofW HT_.out HW_.out (by kernel_rfl)) (fun _ _ _ h => h) (Or.inl ⟨by rfl, ?_⟩) hHeld ?_ ?_
                            rotate_left
                            ·rintro w' ⟨s0, s1, s2, s3, s4, s5, s6, s7, s8⟩
                             go_simp
                             with_reducible rfl
                            rotate_left
                            ·simp only [Act.put, List.setIfInBounds_toArray, List.set_cons_zero, List.set_cons_succ, i64_w, i32_w]
                             rfl
                            refine take_ (i := 27) (N := some 212) (v := ?_) (a' := ?_) #[true, true, true, true, true, true, true, true, true, true, true, true, true, true, true, true, true, true, true, true, true, true, true, true, true, true, true, true, true, false, false, false, false, false, false] rfl rfl (take_ofW HT_.out HW_.out (by kernel_rfl)) (fun _ _ _ h => h) (Or.inl ⟨by rfl, ?_⟩) hHeld ?_ ?_
                            rotate_left
                            ·rintro w' ⟨s0, s1, s2, s3, s4, s5, s6, s7, s8⟩
                             go_simp
                             with_reducible rfl
                            rotate_left
                            ·simp only [Act.put, List.setIfInBounds_toArray, List.set_cons_zero, List.set_cons_succ, i64_w, i32_w]
                             rfl
                            refine pure_ (i := 29) (N := some 214) (v := ?_) (a' := ?_) #[true, true, true, true, true, true, true, true, true, true, true, true, true, true, true, true, true, true, true, true, true, true, true, true, true, true, true, true, true, true, false, false, false, false, false] rfl rfl (any_of HT_.out (by kernel_rfl)) (fun _ _ _ h => h) (Or.inl ⟨by rfl, ?_⟩) ?_ ?_
                            rotate_left
                            ·intro w'
                             go_simp
                             with_reducible rfl
                            rotate_left
                            ·simp only [Act.put, List.setIfInBounds_toArray, List.set_cons_zero, List.set_cons_succ, i64_w, i32_w]
                             rfl
                            refine take_ (i := 30) (N := some 215) (v := ?_) (a' := ?_) #[true, true, true, true, true, true, true, true, true, true, true, true, true, true, true, true, true, true, true, true, true, true, true, true, true, true, true, true, true, true, true, false, false, false, false] rfl rfl (take_ofW HT_.out HW_.out (by kernel_rfl)) (fun _ _ _ h => h) (Or.inl ⟨by rfl, ?_⟩) hHeld ?_ ?_
                            rotate_left
                            ·rintro w' ⟨s0, s1, s2, s3, s4, s5, s6, s7, s8⟩
                             go_simp
                             with_reducible rfl
                            rotate_left
                            ·simp only [Act.put, List.setIfInBounds_toArray, List.set_cons_zero, List.set_cons_succ, i64_w, i32_w]
                             rfl
                            refine pure_ (i := 31) (N := some 216) (v := ?_) (a' := ?_) #[true, true, true, true, true, true, true, true, true, true, true, true, true, true, true, true, true, true, true, true, true, true, true, true, true, true, true, true, true, true, true, true, false, false, false] rfl rfl (any_of HT_.out (by kernel_rfl)) (fun _ _ _ h => h) (Or.inl ⟨by rfl, ?_⟩) ?_ ?_
                            rotate_left
                            ·intro w'
                             go_simp
                             with_reducible rfl
                            rotate_left
                            ·simp only [Act.put, List.setIfInBounds_toArray, List.set_cons_zero, List.set_cons_succ, i64_w, i32_w]
                             rfl
                            refine pure_ (i := 32) (N := some 217) (v := ?_) (a' := ?_) #[true, true, true, true, true, true, true, true, true, true, true, true, true, true, true, true, true, true, true, true, true, true, true, true, true, true, true, true, true, true, true, true, true, false, false] rfl rfl (any_of HT_.out (by kernel_rfl)) (fun _ _ _ h => h) (Or.inl ⟨by rfl, ?_⟩) ?_ ?_
                            rotate_left
                            ·intro w'
                             go_simp
                             with_reducible rfl
                            rotate_left
                            ·simp only [Act.put, List.setIfInBounds_toArray, List.set_cons_zero, List.set_cons_succ, i64_w, i32_w]
                             rfl
                            refine pure_ (i := 33) (N := some 218) (v := ?_) (a' := ?_) #[true, true, true, true, true, true, true, true, true, true, true, true, true, true, true, true, true, true, true, true, true, true, true, true, true, true, true, true, true, true, true, true, true, true, false] rfl rfl (any_of HT_.out (by kernel_rfl)) (fun _ _ _ h => h) (Or.inl ⟨by rfl, ?_⟩) ?_ ?_
                            rotate_left
                            ·intro w'
                             go_simp
                             with_reducible rfl
                            rotate_left
                            ·simp only [Act.put, List.setIfInBounds_toArray, List.set_cons_zero, List.set_cons_succ, i64_w, i32_w]
                             rfl
                            refine pure_ (i := 34) (N := some 219) (v := ?_) (a' := ?_) #[true, true, true, true, true, true, true, true, true, true, true, true, true, true, true, true, true, true, true, true, true, true, true, true, true, true, true, true, true, true, true, true, true, true, true] rfl rfl (any_of HT_.out (by kernel_rfl)) (fun _ _ _ h => h) (Or.inl ⟨by rfl, ?_⟩) ?_ ?_
                            rotate_left
                            ·intro w'
                             go_simp
                             with_reducible rfl
                            rotate_left
                            ·simp only [Act.put, List.setIfInBounds_toArray, List.set_cons_zero, List.set_cons_succ, i64_w, i32_w]
                             rfl
                            refine done_ (done_of HT_.out (by kernel_rfl)) ?_
                            try go_wp2
                            go_ret
                            exact ⟨by first | rfl | (simp [errW_none, errW_some] <;> rfl) | (simp only [← hji72, ← hji75]; first | rfl | (simp [errW_none, errW_some] <;> rfl)) | (simp [*, errW_none, errW_some] <;> rfl), by repeat (first | (with_reducible first | exact HB.out | apply below_alloc | apply pw_below_drewN | apply below_drew1 | refine below_set ?_ GE775.out) | exact HB.out)⟩
                         ·rw [if_neg c74] at H
                          exact absurd H (by simp)
                        ·rw [if_neg c73] at H
                         have c73b0 : ((rd t785 x18_6) == (ji72)) = false := beq_eq_false_iff_ne.mpr c73
                         have c73b1 : ((rd t785 x18_6) != (ji72)) = true := bne_iff_ne.mpr c73
                         as_aux_lemma =>
                          obtain rfl := Option.some.inj H
                          obtain ⟨Ao83, co83, eo83⟩ := Kd.R_slice HO_9.out
                          subst eo83
                          try go_wp2
                          have n0_ := Aside0.mk (Kd.R_drew HO_5.out)
                          have n1_ := Aside0.mk (Kd.R_drew HO_6.out)
                          have n2_ := Aside0.mk (Kd.R_drew HO_9.out)
                          have n3_ := Aside0.mk (Kd.R_drew HO_11.out)
                          have n4_ := Aside0.mk (blk_drew BK775.out)
                          have n5_ := Aside0.mk (below_drew1 HB.out)
                          clear HO_5
                          clear HO_6
                          clear HO_9
                          clear HO_11
                          clear BK775
                          clear HB
                          have HO_5 := n0_
                          have HO_6 := n1_
                          have HO_9 := n2_
                          have HO_11 := n3_
                          have BK775 := n4_
                          have HB := n5_
                          clear n0_ n1_ n2_ n3_ n4_ n5_
                          have p809 : 0 ≤ (x18_6 : Int) := of_decide_eq_true (by first | (with_reducible assumption) | assumption)
                          have q809 : x18_6 < (t785.length : Int) := of_decide_eq_true (by first | (with_reducible assumption) | assumption)
                          obtain ⟨ad809, e809, hx809_0⟩ := Kd.at_int (Kd.R_reads' HO_9.out).2.2 x18_6 p809 q809
                          cases e809
                          replace p809 := eq_true p809
                          replace q809 := eq_true q809
                          have p810 : 0 ≤ (x18_6 : Int) := of_decide_eq_true (by first | (with_reducible assumption) | assumption)
                          have q810 : x18_6 < (((rd_T86 l0 x3_1).f0).length : Int) := of_decide_eq_true (by first | (with_reducible assumption) | assumption)
                          obtain ⟨ad810, e810, hx810_0⟩ := Kd.at_int HR774_0.out x18_6 p810 q810
                          have hw810_0 := hx810_0
                          cases e810
                          replace hx810_0 := (HB.out.cell (World.block_lt_of_cell? w _ hx810_0)).trans hx810_0
                          replace p810 := eq_true p810
                          replace q810 := eq_true q810
                          have p811 : 0 ≤ (x18_6 : Int) := of_decide_eq_true (by first | (with_reducible assumption) | assumption)
                          have q811 : x18_6 < (((rd_T86 l0 x3_1).f1).length : Int) := of_decide_eq_true (by first | (with_reducible assumption) | assumption)
                          obtain ⟨ad811, e811, hx811_0⟩ := Kd.at_int HR774_1.out x18_6 p811 q811
                          have hw811_0 := hx811_0
                          cases e811
                          replace hx811_0 := (HB.out.cell (World.block_lt_of_cell? w _ hx811_0)).trans hx811_0
                          replace p811 := eq_true p811
                          replace q811 := eq_true q811
                          refine start_ (n := 35) (S := fun w' => w'.cell? ⟨gb775, 0, none⟩ = some (.slice (some ad810) ((rd_T86 l0 x3_1).f0).length c774_0) ∧ w'.cell? ⟨gb775, 1, none⟩ = some (.slice (some ad811) ((rd_T86 l0 x3_1).f1).length c774_1) ∧ w'.cell? ⟨gb775, 2, none⟩ = some (.slice A774_2 ((rd_T86 l0 x3_1).f2).length c774_2) ∧ w'.cell? (ad809.add (x18_6).toNat) = some (.int .i64 (rd t785 x18_6)) ∧ w'.cell? (ad810.add (x18_6).toNat) = some (.int .i64 (rd ((rd_T86 l0 x3_1).f0) x18_6)) ∧ w'.cell? (ad811.add (x18_6).toNat) = some (.int .i64 (rd ((rd_T86 l0 x3_1).f1) x18_6))) (ds := []) #[false, false, false, false, false, false, false, false, false, false, false, false, false, false, false, false, false, false, false, false, false, false, false, false, false, false, false, false, false, false, false, false, false, false, false] (by kernel_rfl) rfl rfl ⟨(blk_cell BK775.out 0).trans rfl, (blk_cell BK775.out 1).trans rfl, (blk_cell BK775.out 2).trans rfl, hx809_0, ((HB.out.cell (World.block_lt_of_cell? w _ hw810_0)).trans hw810_0), ((HB.out.cell (World.block_lt_of_cell? w _ hw811_0)).trans hw811_0)⟩ (fun hHeld => ?_); refine with_tabW arraslaw7_HavePairs.tab28 arraslaw7_HavePairs.bits28 (fun HT_ HW_ => ?_)
                          generalize wr.drew = w84 at HO_5 HO_6 HO_9 HO_11 BK775 HB hx809_0 hx810_0 hx811_0 hHeld ⊢
                          refine pure_ (i := 0) (N := some 185) (v := ?_) (a' := ?_) #[true, false, false, false, false, false, false, false, false, false, false, false, false, false, false, false, false, false, false, false, false, false, false, false, false, false, false, false, false, false, false, false, false, false, false] rfl rfl (any_of HT_.out (by kernel_rfl)) (fun _ _ _ h => h) (Or.inl ⟨by rfl, ?_⟩) ?_ ?_
                          rotate_left
                          ·intro w'
                           go_simp
                           with_reducible rfl
                          rotate_left
                          ·simp only [Act.put, List.setIfInBounds_toArray, List.set_cons_zero, List.set_cons_succ, i64_w, i32_w]
                           rfl
                          refine pure_ (i := 1) (N := some 186) (v := ?_) (a' := ?_) #[true, true, false, false, false, false, false, false, false, false, false, false, false, false, false, false, false, false, false, false, false, false, false, false, false, false, false, false, false, false, false, false, false, false, false] rfl rfl (any_of HT_.out (by kernel_rfl)) (fun _ _ _ h => h) (Or.inl ⟨by rfl, ?_⟩) ?_ ?_
                          rotate_left
                          ·intro w'
                           go_simp
                           with_reducible rfl
                          rotate_left
                          ·simp only [Act.put, List.setIfInBounds_toArray, List.set_cons_zero, List.set_cons_succ, i64_w, i32_w]
                           rfl
                          refine pure_ (i := 2) (N := some 187) (v := ?_) (a' := ?_) #[true, true, true, false, false, false, false, false, false, false, false, false, false, false, false, false, false, false, false, false, false, false, false, false, false, false, false, false, false, false, false, false, false, false, false] rfl rfl (any_of HT_.out (by kernel_rfl)) (fun _ _ _ h => h) (Or.inl ⟨by rfl, ?_⟩) ?_ ?_
                          rotate_left
                          ·intro w'
                           go_simp
                           with_reducible rfl
                          rotate_left
                          ·simp only [Act.put, List.setIfInBounds_toArray, List.set_cons_zero, List.set_cons_succ, i64_w, i32_w]
                           rfl
                          refine pure_ (i := 4) (N := some 189) (v := ?_) (a' := ?_) #[true, true, true, false, true, false, false, false, false, false, false, false, false, false, false, false, false, false, false, false, false, false, false, false, false, false, false, false, false, false, false, false, false, false, false] rfl rfl (any_of HT_.out (by kernel_rfl)) (fun _ _ _ h => h) (Or.inl ⟨by rfl, ?_⟩) ?_ ?_
                          rotate_left
                          ·intro w'
                           go_simp
                           with_reducible rfl
                          rotate_left
                          ·simp only [Act.put, List.setIfInBounds_toArray, List.set_cons_zero, List.set_cons_succ, i64_w, i32_w]
                           rfl
                          refine pure_ (i := 6) (N := some 191) (v := ?_) (a' := ?_) #[true, true, true, false, true, false, true, false, false, false, false, false, false, false, false, false, false, false, false, false, false, false, false, false, false, false, false, false, false, false, false, false, false, false, false] rfl rfl (any_of HT_.out (by kernel_rfl)) (fun _ _ _ h => h) (Or.inl ⟨by rfl, ?_⟩) ?_ ?_
                          rotate_left
                          ·intro w'
                           go_simp
                           with_reducible rfl
                          rotate_left
                          ·simp only [Act.put, List.setIfInBounds_toArray, List.set_cons_zero, List.set_cons_succ, i64_w, i32_w]
                           rfl
                          refine pure_ (i := 9) (N := some 194) (v := ?_) (a' := ?_) #[true, true, true, false, true, false, true, false, false, true, false, false, false, false, false, false, false, false, false, false, false, false, false, false, false, false, false, false, false, false, false, false, false, false, false] rfl rfl (any_of HT_.out (by kernel_rfl)) (fun _ _ _ h => h) (Or.inl ⟨by rfl, ?_⟩) ?_ ?_
                          rotate_left
                          ·intro w'
                           go_simp
                           with_reducible rfl
                          rotate_left
                          ·simp only [Act.put, List.setIfInBounds_toArray, List.set_cons_zero, List.set_cons_succ, i64_w, i32_w]
                           rfl
                          refine pure_ (i := 11) (N := some 196) (v := ?_) (a' := ?_) #[true, true, true, false, true, false, true, false, false, true, false, true, false, false, false, false, false, false, false, false, false, false, false, false, false, false, false, false, false, false, false, false, false, false, false] rfl rfl (any_of HT_.out (by kernel_rfl)) (fun _ _ _ h => h) (Or.inl ⟨by rfl, ?_⟩) ?_ ?_
                          rotate_left
                          ·intro w'
                           go_simp
                           with_reducible rfl
                          rotate_left
                          ·simp only [Act.put, List.setIfInBounds_toArray, List.set_cons_zero, List.set_cons_succ, i64_w, i32_w]
                           rfl
                          refine take_ (i := 3) (N := some 188) (v := ?_) (a' := ?_) #[true, true, true, true, true, false, true, false, false, true, false, true, false, false, false, false, false, false, false, false, false, false, false, false, false, false, false, false, false, false, false, false, false, false, false] rfl rfl (take_ofW HT_.out HW_.out (by kernel_rfl)) (fun _ _ _ h => h) (Or.inl ⟨by rfl, ?_⟩) hHeld ?_ ?_
                          rotate_left
                          ·rintro w' ⟨s0, s1, s2, s3, s4, s5⟩
                           go_simp
                           with_reducible rfl
                          rotate_left
                          ·simp only [Act.put, List.setIfInBounds_toArray, List.set_cons_zero, List.set_cons_succ, i64_w, i32_w]
                           rfl
                          refine take_ (i := 5) (N := some 190) (v := ?_) (a' := ?_) #[true, true, true, true, true, true, true, false, false, true, false, true, false, false, false, false, false, false, false, false, false, false, false, false, false, false, false, false, false, false, false, false, false, false, false] rfl rfl (take_ofW HT_.out HW_.out (by kernel_rfl)) (fun _ _ _ h => h) (Or.inl ⟨by rfl, ?_⟩) hHeld ?_ ?_
                          rotate_left
                          ·rintro w' ⟨s0, s1, s2, s3, s4, s5⟩
                           go_simp
                           with_reducible rfl
                          rotate_left
                          ·simp only [Act.put, List.setIfInBounds_toArray, List.set_cons_zero, List.set_cons_succ, i64_w, i32_w]
                           rfl
                          refine pure_ (i := 7) (N := some 192) (v := ?_) (a' := ?_) #[true, true, true, true, true, true, true, true, false, true, false, true, false, false, false, false, false, false, false, false, false, false, false, false, false, false, false, false, false, false, false, false, false, false, false] rfl rfl (any_of HT_.out (by kernel_rfl)) (fun _ _ _ h => h) (Or.inl ⟨by rfl, ?_⟩) ?_ ?_
                          rotate_left
                          ·intro w'
                           go_simp
                           with_reducible rfl
                          rotate_left
                          ·simp only [Act.put, List.setIfInBounds_toArray, List.set_cons_zero, List.set_cons_succ, i64_w, i32_w]
                           rfl
                          refine take_ (i := 8) (N := some 193) (v := ?_) (a' := ?_) #[true, true, true, true, true, true, true, true, true, true, false, true, false, false, false, false, false, false, false, false, false, false, false, false, false, false, false, false, false, false, false, false, false, false, false] rfl rfl (take_ofW HT_.out HW_.out (by kernel_rfl)) (fun _ _ _ h => h) (Or.inl ⟨by rfl, ?_⟩) hHeld ?_ ?_
                          rotate_left
                          ·rintro w' ⟨s0, s1, s2, s3, s4, s5⟩
                           go_simp
                           with_reducible rfl
                          rotate_left
                          ·simp only [Act.put, List.setIfInBounds_toArray, List.set_cons_zero, List.set_cons_succ, i64_w, i32_w]
                           rfl
                          refine take_ (i := 10) (N := some 195) (v := ?_) (a' := ?_) #[true, true, true, true, true, true, true, true, true, true, true, true, false, false, false, false, false, false, false, false, false, false, false, false, false, false, false, false, false, false, false, false, false, false, false] rfl rfl (take_ofW HT_.out HW_.out (by kernel_rfl)) (fun _ _ _ h => h) (Or.inl ⟨by rfl, ?_⟩) hHeld ?_ ?_
                          rotate_left
                          ·rintro w' ⟨s0, s1, s2, s3, s4, s5⟩
                           go_simp
                           with_reducible rfl
                          rotate_left
                          ·simp only [Act.put, List.setIfInBounds_toArray, List.set_cons_zero, List.set_cons_succ, i64_w, i32_w]
                           rfl
                          refine pure_ (i := 12) (N := some 197) (v := ?_) (a' := ?_) #[true, true, true, true, true, true, true, true, true, true, true, true, true, false, false, false, false, false, false, false, false, false, false, false, false, false, false, false, false, false, false, false, false, false, false] rfl rfl (any_of HT_.out (by kernel_rfl)) (fun _ _ _ h => h) (Or.inl ⟨by rfl, ?_⟩) ?_ ?_
                          rotate_left
                          ·intro w'
                           go_simp
                           with_reducible rfl
                          rotate_left
                          ·simp only [Act.put, List.setIfInBounds_toArray, List.set_cons_zero, List.set_cons_succ, i64_w, i32_w]
                           rfl
                          refine take_ (i := 13) (N := some 198) (v := ?_) (a' := ?_) #[true, true, true, true, true, true, true, true, true, true, true, true, true, true, false, false, false, false, false, false, false, false, false, false, false, false, false, false, false, false, false, false, false, false, false] rfl rfl (take_ofW HT_.out HW_.out (by kernel_rfl)) (fun _ _ _ h => h) (Or.inl ⟨by rfl, ?_⟩) hHeld ?_ ?_
                          rotate_left
                          ·rintro w' ⟨s0, s1, s2, s3, s4, s5⟩
                           go_simp
                           with_reducible rfl
                          rotate_left
                          ·simp only [Act.put, List.setIfInBounds_toArray, List.set_cons_zero, List.set_cons_succ, i64_w, i32_w]
                           rfl
                          refine pure_ (i := 14) (N := some 199) (v := ?_) (a' := ?_) #[true, true, true, true, true, true, true, true, true, true, true, true, true, true, true, false, false, false, false, false, false, false, false, false, false, false, false, false, false, false, false, false, false, false, false] rfl rfl (any_of HT_.out (by kernel_rfl)) (fun _ _ _ h => h) (Or.inl ⟨by rfl, ?_⟩) ?_ ?_
                          rotate_left
                          ·intro w'
                           go_simp
                           with_reducible rfl
                          rotate_left
                          ·simp only [Act.put, List.setIfInBounds_toArray, List.set_cons_zero, List.set_cons_succ, i64_w, i32_w]
                           rfl
                          refine pure_ (i := 15) (N := some 200) (v := ?_) (a' := ?_) #[true, true, true, true, true, true, true, true, true, true, true, true, true, true, true, true, false, false, false, false, false, false, false, false, false, false, false, false, false, false, false, false, false, false, false] rfl rfl (any_of HT_.out (by kernel_rfl)) (fun _ _ _ h => h) (Or.inl ⟨by rfl, ?_⟩) ?_ ?_
                          rotate_left
                          ·intro w'
                           go_simp
                           with_reducible rfl
                          rotate_left
                          ·simp only [Act.put, List.setIfInBounds_toArray, List.set_cons_zero, List.set_cons_succ, i64_w, i32_w]
                           rfl
                          refine pure_ (i := 16) (N := some 201) (v := ?_) (a' := ?_) #[true, true, true, true, true, true, true, true, true, true, true, true, true, true, true, true, true, false, false, false, false, false, false, false, false, false, false, false, false, false, false, false, false, false, false] rfl rfl (any_of HT_.out (by kernel_rfl)) (fun _ _ _ h => h) (Or.inl ⟨by rfl, ?_⟩) ?_ ?_
                          rotate_left
                          ·intro w'
                           go_simp
                           with_reducible rfl
                          rotate_left
                          ·simp only [Act.put, List.setIfInBounds_toArray, List.set_cons_zero, List.set_cons_succ, i64_w, i32_w]
                           rfl
                          refine pure_ (i := 17) (N := some 202) (v := undef) (a' := ?_) #[true, true, true, true, true, true, true, true, true, true, true, true, true, true, true, true, true, true, false, false, false, false, false, false, false, false, false, false, false, false, false, false, false, false, false] rfl rfl (any_of HT_.out (by kernel_rfl)) (fun _ _ _ h => h) (Or.inr ⟨by rfl, rfl⟩) ?_ ?_
                          rotate_left
                          ·simp only [Act.put, List.setIfInBounds_toArray, List.set_cons_zero, List.set_cons_succ, i64_w, i32_w]
                           rfl
                          refine pure_ (i := 18) (N := some 203) (v := undef) (a' := ?_) #[true, true, true, true, true, true, true, true, true, true, true, true, true, true, true, true, true, true, true, false, false, false, false, false, false, false, false, false, false, false, false, false, false, false, false] rfl rfl (any_of HT_.out (by kernel_rfl)) (fun _ _ _ h => h) (Or.inr ⟨by rfl, rfl⟩) ?_ ?_
                          rotate_left
                          ·simp only [Act.put, List.setIfInBounds_toArray, List.set_cons_zero, List.set_cons_succ, i64_w, i32_w]
                           rfl
                          refine pure_ (i := 19) (N := some 204) (v := undef) (a' := ?_) #[true, true, true, true, true, true, true, true, true, true, true, true, true, true, true, true, true, true, true, true, false, false, false, false, false, false, false, false, false, false, false, false, false, false, false] rfl rfl (any_of HT_.out (by kernel_rfl)) (fun _ _ _ h => h) (Or.inr ⟨by rfl, rfl⟩) ?_ ?_
                          rotate_left
                          ·simp only [Act.put, List.setIfInBounds_toArray, List.set_cons_zero, List.set_cons_succ, i64_w, i32_w]
                           rfl
                          refine pure_ (i := 20) (N := some 205) (v := undef) (a' := ?_) #[true, true, true, true, true, true, true, true, true, true, true, true, true, true, true, true, true, true, true, true, true, false, false, false, false, false, false, false, false, false, false, false, false, false, false] rfl rfl (any_of HT_.out (by kernel_rfl)) (fun _ _ _ h => h) (Or.inr ⟨by rfl, rfl⟩) ?_ ?_
                          rotate_left
                          ·simp only [Act.put, List.setIfInBounds_toArray, List.set_cons_zero, List.set_cons_succ, i64_w, i32_w]
                           rfl
                          refine pure_ (i := 21) (N := some 206) (v := undef) (a' := ?_) #[true, true, true, true, true, true, true, true, true, true, true, true, true, true, true, true, true, true, true, true, true, true, false, false, false, false, false, false, false, false, false, false, false, false, false] rfl rfl (any_of HT_.out (by kernel_rfl)) (fun _ _ _ h => h) (Or.inr ⟨by rfl, rfl⟩) ?_ ?_
                          rotate_left
                          ·simp only [Act.put, List.setIfInBounds_toArray, List.set_cons_zero, List.set_cons_succ, i64_w, i32_w]
                           rfl
                          refine pure_ (i := 22) (N := some 207) (v := undef) (a' := ?_) #[true, true, true, true, true, true, true, true, true, true, true, true, true, true, true, true, true, true, true, true, true, true, true, false, false, false, false, false, false, false, false, false, false, false, false] rfl rfl (any_of HT_.out (by kernel_rfl)) (fun _ _ _ h => h) (Or.inr ⟨by rfl, rfl⟩) ?_ ?_
                          rotate_left
                          ·simp only [Act.put, List.setIfInBounds_toArray, List.set_cons_zero, List.set_cons_succ, i64_w, i32_w]
                           rfl
                          refine pure_ (i := 23) (N := some 208) (v := undef) (a' := ?_) #[true, true, true, true, true, true, true, true, true, true, true, true, true, true, true, true, true, true, true, true, true, true, true, true, false, false, false, false, false, false, false, false, false, false, false] rfl rfl (any_of HT_.out (by kernel_rfl)) (fun _ _ _ h => h) (Or.inr ⟨by rfl, rfl⟩) ?_ ?_
                          rotate_left
                          ·simp only [Act.put, List.setIfInBounds_toArray, List.set_cons_zero, List.set_cons_succ, i64_w, i32_w]
                           rfl
                          refine pure_ (i := 24) (N := some 209) (v := undef) (a' := ?_) #[true, true, true, true, true, true, true, true, true, true, true, true, true, true, true, true, true, true, true, true, true, true, true, true, true, false, false, false, false, false, false, false, false, false, false] rfl rfl (any_of HT_.out (by kernel_rfl)) (fun _ _ _ h => h) (Or.inr ⟨by rfl, rfl⟩) ?_ ?_
                          rotate_left
                          ·simp only [Act.put, List.setIfInBounds_toArray, List.set_cons_zero, List.set_cons_succ, i64_w, i32_w]
                           rfl
                          refine pure_ (i := 25) (N := some 210) (v := undef) (a' := ?_) #[true, true, true, true, true, true, true, true, true, true, true, true, true, true, true, true, true, true, true, true, true, true, true, true, true, true, false, false, false, false, false, false, false, false, false] rfl rfl (any_of HT_.out (by kernel_rfl)) (fun _ _ _ h => h) (Or.inr ⟨by rfl, rfl⟩) ?_ ?_
                          rotate_left
                          ·simp only [Act.put, List.setIfInBounds_toArray, List.set_cons_zero, List.set_cons_succ, i64_w, i32_w]
                           rfl
                          refine pure_ (i := 26) (N := some 211) (v := undef) (a' := ?_) #[true, true, true, true, true, true, true, true, true, true, true, true, true, true, true, true, true, true, true, true, true, true, true, true, true, true, true, false, false, false, false, false, false, false, false] rfl rfl (any_of HT_.out (by kernel_rfl)) (fun _ _ _ h => h) (Or.inr ⟨by rfl, rfl⟩) ?_ ?_
                          rotate_left
                          ·simp only [Act.put, List.setIfInBounds_toArray, List.set_cons_zero, List.set_cons_succ, i64_w, i32_w]
                           rfl
                          refine pure_ (i := 27) (N := some 212) (v := undef) (a' := ?_) #[true, true, true, true, true, true, true, true, true, true, true, true, true, true, true, true, true, true, true, true, true, true, true, true, true, true, true, true, false, false, false, false, false, false, false] rfl rfl (any_of HT_.out (by kernel_rfl)) (fun _ _ _ h => h) (Or.inr ⟨by rfl, rfl⟩) ?_ ?_
                          rotate_left
                          ·simp only [Act.put, List.setIfInBounds_toArray, List.set_cons_zero, List.set_cons_succ, i64_w, i32_w]
                           rfl
                          refine pure_ (i := 28) (N := some 213) (v := undef) (a' := ?_) #[true, true, true, true, true, true, true, true, true, true, true, true, true, true, true, true, true, true, true, true, true, true, true, true, true, true, true, true, true, false, false, false, false, false, false] rfl rfl (any_of HT_.out (by kernel_rfl)) (fun _ _ _ h => h) (Or.inr ⟨by rfl, rfl⟩) ?_ ?_
                          rotate_left
                          ·simp only [Act.put, List.setIfInBounds_toArray, List.set_cons_zero, List.set_cons_succ, i64_w, i32_w]
                           rfl
                          refine pure_ (i := 29) (N := some 214) (v := undef) (a' := ?_) #[true, true, true, true, true, true, true, true, true, true, true, true, true, true, true, true, true, true, true, true, true, true, true, true, true, true, true, true, true, true, false, false, false, false, false] rfl rfl (any_of HT_.out (by kernel_rfl)) (fun _ _ _ h => h) (Or.inr ⟨by rfl, rfl⟩) ?_ ?_
                          rotate_left
                          ·simp only [Act.put, List.setIfInBounds_toArray, List.set_cons_zero, List.set_cons_succ, i64_w, i32_w]
                           rfl
                          refine pure_ (i := 30) (N := some 215) (v := undef) (a' := ?_) #[true, true, true, true, true, true, true, true, true, true, true, true, true, true, true, true, true, true, true, true, true, true, true, true, true, true, true, true, true, true, true, false, false, false, false] rfl rfl (any_of HT_.out (by kernel_rfl)) (fun _ _ _ h => h) (Or.inr ⟨by rfl, rfl⟩) ?_ ?_
                          rotate_left
                          ·simp only [Act.put, List.setIfInBounds_toArray, List.set_cons_zero, List.set_cons_succ, i64_w, i32_w]
                           rfl
                          refine pure_ (i := 31) (N := some 216) (v := undef) (a' := ?_) #[true, true, true, true, true, true, true, true, true, true, true, true, true, true, true, true, true, true, true, true, true, true, true, true, true, true, true, true, true, true, true, true, false, false, false] rfl rfl (any_of HT_.out (by kernel_rfl)) (fun _ _ _ h => h) (Or.inr ⟨by rfl, rfl⟩) ?_ ?_
                          rotate_left
                          ·simp only [Act.put, List.setIfInBounds_toArray, List.set_cons_zero, List.set_cons_succ, i64_w, i32_w]
                           rfl
                          refine pure_ (i := 32) (N := some 217) (v := undef) (a' := ?_) #[true, true, true, true, true, true, true, true, true, true, true, true, true, true, true, true, true, true, true, true, true, true, true, true, true, true, true, true, true, true, true, true, true, false, false] rfl rfl (any_of HT_.out (by kernel_rfl)) (fun _ _ _ h => h) (Or.inr ⟨by rfl, rfl⟩) ?_ ?_
                          rotate_left
                          ·simp only [Act.put, List.setIfInBounds_toArray, List.set_cons_zero, List.set_cons_succ, i64_w, i32_w]
                           rfl
                          refine pure_ (i := 33) (N := some 218) (v := undef) (a' := ?_) #[true, true, true, true, true, true, true, true, true, true, true, true, true, true, true, true, true, true, true, true, true, true, true, true, true, true, true, true, true, true, true, true, true, true, false] rfl rfl (any_of HT_.out (by kernel_rfl)) (fun _ _ _ h => h) (Or.inr ⟨by rfl, rfl⟩) ?_ ?_
                          rotate_left
                          ·simp only [Act.put, List.setIfInBounds_toArray, List.set_cons_zero, List.set_cons_succ, i64_w, i32_w]
                           rfl
                          refine pure_ (i := 34) (N := some 219) (v := ?_) (a' := ?_) #[true, true, true, true, true, true, true, true, true, true, true, true, true, true, true, true, true, true, true, true, true, true, true, true, true, true, true, true, true, true, true, true, true, true, true] rfl rfl (any_of HT_.out (by kernel_rfl)) (fun _ _ _ h => h) (Or.inl ⟨by rfl, ?_⟩) ?_ ?_
                          rotate_left
                          ·intro w'
                           go_simp
                           with_reducible rfl
                          rotate_left
                          ·simp only [Act.put, List.setIfInBounds_toArray, List.set_cons_zero, List.set_cons_succ, i64_w, i32_w]
                           rfl
                          refine done_ (done_of HT_.out (by kernel_rfl)) ?_
                          try go_wp2
                          go_ret
                          exact ⟨by first | rfl | (simp [errW_none, errW_some] <;> rfl) | (simp only [← hji72]; first | rfl | (simp [errW_none, errW_some] <;> rfl)) | (simp [*, errW_none, errW_some] <;> rfl), by repeat (first | (with_reducible first | exact HB.out | apply below_alloc | apply pw_below_drewN | apply below_drew1 | refine below_set ?_ GE775.out) | exact HB.out)⟩
                       ·rw [if_neg c71] at H
                        exact absurd H (by simp)
                      ·rw [if_neg c70] at H
                       exact absurd H (by simp)
                     ·rw [if_neg c69] at H
                      exact absurd H (by simp)
                    ·rw [if_neg c68] at H
                     have c68b0 : decide (x18_6 < (t785.length : Int)) = false := decide_eq_false c68
                     clear c68
                     replace H := Option.bind_eq_some_iff.mp H
                     obtain ⟨_, A850, H⟩ := H
                     (try dsimp only at H)
                     have A85 := Aside0.mk A850
                     clear A850
                     replace H := Option.bind_eq_some_iff.mp H
                     obtain ⟨_, A860, H⟩ := H
                     (try dsimp only at H)
                     have A86 := Aside0.mk A860
                     clear A860
                     replace H := Option.bind_eq_some_iff.mp H
                     obtain ⟨t815, A870, H⟩ := H
                     (try dsimp only at H)
                     have A87 := Aside0.mk A870
                     clear A870
                     by_cases c88 : t815 = true
                     ·subst c88
                      have H1 : ((arrasref0_EqNumbers.f k6 t780 ((rd_T86 l0 x3_1).f1)).bind fun t816 => (if t816 = true then (arraslaw7_HavePairs.l0 k6 l0 (wrap64 (x3_1 + 1))) else (some false))) = some r := by rw [if_pos rfl] at H; exact H
                      clear H
                      have H := H1
                      clear H1
                      replace H := Option.bind_eq_some_iff.mp H
                      obtain ⟨t816, A890, H⟩ := H
                      replace H : (if t816 = true then (arraslaw7_HavePairs.l0 k6 l0 (wrap64 (x3_1 + 1))) else (some false)) = some r := H
                      have A89 := Aside0.mk A890
                      clear A890
                      by_cases c90 : t816 = true
                      ·subst c90
                       have H1 : (arraslaw7_HavePairs.l0 k6 l0 (wrap64 (x3_1 + 1))) = some r := by rw [if_pos rfl] at H; exact H
                       clear H
                       have H := H1
                       clear H1
                       as_aux_lemma =>
                        have H' := Aside0.mk H
                        clear H
                        obtain ⟨Ao91, co91, eo91⟩ := Kd.R_slice HO_9.out
                        subst eo91
                        go_wp2_with (first | ((with_reducible refine gate_callee (f := 41) rfl ?_); refine goesL_ (some 221) rfl rfl Try.func41 (by kernel_rfl) rfl #[.slice Ao91 t785.length co91] rfl (by (try simp only [List.map_toArray, List.map_cons, List.map_nil]); first | done | rfl | (simp only [List.length_drop, List.length_take]; rfl)) ?_; (with_reducible refine (arraslaw0_Numbers.calls k6 (fun k_ => some k_ = (.slice Ao91 t785.length co91 : Value).ownBlock) (.slice Ao91 t785.length co91) t785  w _ ?side1 ?side2 A85.out).mono ?_); (case side1 => repeat (first | (with_reducible first | exact HB.out | apply below_alloc | apply pw_below_drewN | apply below_drew1 | refine below_set ?_ GE775.out) | exact HB.out)); (case side2 => exact Kd.R_tight rfl HO_9.out); rintro e w92 ⟨rfl, hb, hkp⟩; refine ⟨_, rfl, ?_⟩; have n0_ := Aside0.mk (Kd.R_mono (ok' := fun k_ => some k_ ≠ (.slice Ao27 t780.length co27 : Value).ownBlock ∧ some k_ ≠ (v791 : Value).ownBlock) (Kd.R_keptB (HO_5.out) hkp (fun k_ hk_ hs_ => (hk_.2.1) hs_)) (fun k_ hk_ => ⟨hk_.1.1, hk_.1.2.2⟩)); have n1_ := Aside0.mk (Kd.R_mono (ok' := fun k_ => some k_ ≠ (.slice Ao26 t777.length co26 : Value).ownBlock ∧ some k_ ≠ (v791 : Value).ownBlock) (Kd.R_keptB (HO_6.out) hkp (fun k_ hk_ hs_ => (hk_.2.1) hs_)) (fun k_ hk_ => ⟨hk_.1.1, hk_.1.2.2⟩)); have n2_ := Aside0.mk (Kd.R_mono (ok' := fun k_ => some k_ ≠ (.slice Ao26 t777.length co26 : Value).ownBlock ∧ some k_ ≠ (.slice Ao27 t780.length co27 : Value).ownBlock) (Kd.R_keptB (HO_11.out) hkp (fun k_ hk_ hs_ => (hk_.2.2) hs_)) (fun k_ hk_ => ⟨hk_.1.1, hk_.1.2.1⟩)); have n3_ := Aside0.mk (blk_kept (by (with_reducible repeat (first | refine blk_drewN ?_ _ | refine blk_drew ?_ | refine blk_alloc ?_ _)); exact BK775.out) hkp (fun hs_ => (fun e_ => (Kd.R_ne HO_9.out BK775.out (by decide)) e_) hs_)); have n4_ := Aside0.mk (hb); clear HO_5; clear HO_6; clear HO_11; clear BK775; clear HB; clear HO_9; have HO_5 := n0_; have HO_6 := n1_; have HO_11 := n2_; have BK775 := n3_; have HB := n4_; clear n0_ n1_ n2_ n3_ n4_; (try clear hb); (try clear hkp); obtain ⟨Ao93, co93, eo93⟩ := Kd.R_slice HO_11.out; subst eo93) | ((with_reducible refine gate_callee (f := 41) rfl ?_); refine goesL_ (some 223) rfl rfl Try.func41 (by kernel_rfl) rfl #[.slice Ao93 t789.length co93] rfl (by (try simp only [List.map_toArray, List.map_cons, List.map_nil]); first | done | rfl | (simp only [List.length_drop, List.length_take]; rfl)) ?_; (with_reducible refine (arraslaw0_Numbers.calls k6 (fun k_ => some k_ = (.slice Ao93 t789.length co93 : Value).ownBlock) (.slice Ao93 t789.length co93) t789  w _ ?side1 ?side2 A86.out).mono ?_); (case side1 => repeat (first | (with_reducible first | exact HB.out | apply below_alloc | apply pw_below_drewN | apply below_drew1 | refine below_set ?_ GE775.out) | exact HB.out)); (case side2 => exact Kd.R_tight rfl HO_11.out); rintro e w94 ⟨rfl, hb, hkp⟩; refine ⟨_, rfl, ?_⟩; have n0_ := Aside0.mk (Kd.R_mono (ok' := fun k_ => some k_ ≠ (.slice Ao27 t780.length co27 : Value).ownBlock) (Kd.R_keptB (HO_5.out) hkp (fun k_ hk_ hs_ => (hk_.2) hs_)) (fun k_ hk_ => hk_.1.1)); have n1_ := Aside0.mk (Kd.R_mono (ok' := fun k_ => some k_ ≠ (.slice Ao26 t777.length co26 : Value).ownBlock) (Kd.R_keptB (HO_6.out) hkp (fun k_ hk_ hs_ => (hk_.2) hs_)) (fun k_ hk_ => hk_.1.1)); have n2_ := Aside0.mk (blk_kept (by (with_reducible repeat (first | refine blk_drewN ?_ _ | refine blk_drew ?_ | refine blk_alloc ?_ _)); exact BK775.out) hkp (fun hs_ => (fun e_ => (Kd.R_ne HO_11.out BK775.out (by decide)) e_) hs_)); have n3_ := Aside0.mk (hb); clear HO_5; clear HO_6; clear BK775; clear HB; clear HO_11; have HO_5 := n0_; have HO_6 := n1_; have BK775 := n2_; have HB := n3_; clear n0_ n1_ n2_ n3_; (try clear hb); (try clear hkp); have hcz95_0 : w94.cell? ⟨gb775, 0, none⟩ = some (.slice A774_0 ((rd_T86 l0 x3_1).f0).length c774_0) := (blk_cell BK775.out 0).trans rfl; have hcz95_1 : w94.cell? ⟨gb775, 1, none⟩ = some (.slice A774_1 ((rd_T86 l0 x3_1).f1).length c774_1) := (blk_cell BK775.out 1).trans rfl; have hcz95_2 : w94.cell? ⟨gb775, 2, none⟩ = some (.slice A774_2 ((rd_T86 l0 x3_1).f2).length c774_2) := (blk_cell BK775.out 2).trans rfl; have hfz95_0 := blk_frozen BK775.out 0; have hfz95_1 := blk_frozen BK775.out 1; have hfz95_2 := blk_frozen BK775.out 2) | ((with_reducible refine gate_callee (f := 40) rfl ?_); refine goesL_ (some 227) rfl rfl Try.func40 (by kernel_rfl) rfl #[.slice Ao26 t777.length co26, .slice A774_0 ((rd_T86 l0 x3_1).f0).length c774_0] rfl (by (try simp only [List.map_toArray, List.map_cons, List.map_nil]); first | done | rfl | (simp only [List.length_drop, List.length_take]; rfl)) ?_; (with_reducible refine (arrasref0_EqNumbers.calls k6 _ _ t777 _ _ ((rd_T86 l0 x3_1).f0) true _ ?side1 ?side2 ?side3 ?side4 A87.out).mono ?_); (case side1 => repeat (first | exact (Kd.R_reads' HO_5.out).2.2 | with_reducible first | refine Kd.C_alloc ?_ _ | refine Kd.C_drewN ?_ _ | refine Kd.C_drew ?_)); (case side2 => exact (Kd.R_reads' HO_5.out).2.1); (case side3 => repeat (first | exact (Kd.C_below HR774_0.out HB.out) | with_reducible first | refine Kd.C_alloc ?_ _ | refine Kd.C_drewN ?_ _ | refine Kd.C_drew ?_)); (case side4 => exact HC774_0.out); rintro e w' ⟨rfl, ⟨nd, rfl⟩⟩; refine ⟨_, rfl, ?_⟩) | (go_at_call 40; (with_reducible refine (arrasref0_EqNumbers.calls k6 _ _ t780 _ _ ((rd_T86 l0 x3_1).f1) true _ ?side1 ?side2 ?side3 ?side4 A89.out).mono ?_); (case side1 => repeat (first | exact (Kd.R_reads' HO_6.out).2.2 | with_reducible first | refine Kd.C_alloc ?_ _ | refine Kd.C_drewN ?_ _ | refine Kd.C_drew ?_)); (case side2 => exact (Kd.R_reads' HO_6.out).2.1); (case side3 => repeat (first | exact (Kd.C_below HR774_1.out (by repeat (first | (with_reducible first | exact HB.out | apply below_alloc | apply pw_below_drewN | apply below_drew1 | refine below_set ?_ GE775.out) | exact HB.out))) | with_reducible first | refine Kd.C_alloc ?_ _ | refine Kd.C_drewN ?_ _ | refine Kd.C_drew ?_)); (case side4 => exact HC774_1.out); rintro e w' ⟨rfl, ⟨nd, rfl⟩⟩))
                        go_roundg k6
                        case measure => have := HK1.out; have := HJ1.out; have := HJ18.out; have := HJ36.out; have := HJ49.out; have := HK6.out; omega
                        case rel => exact ⟨(wrap64 (x3_1 + 1)), (by first | rfl | (simp; done) | (simp [*]; done)), H', ⟨by have := HK1.out; have := HJ1.out; have := HJ18.out; have := HJ36.out; have := HJ49.out; have := HK6.out; omega⟩, ⟨by repeat (first | (with_reducible first | exact HB.out | apply below_alloc | apply pw_below_drewN | apply below_drew1 | refine below_set ?_ GE775.out) | exact HB.out)⟩⟩
                      ·replace c90 := Bool.eq_false_iff.mpr c90
                       subst c90
                       have H1 : (some false) = some r := by rw [if_neg (show ¬ (false = true) by decide)] at H; exact H
                       clear H
                       have H := H1
                       clear H1
                       as_aux_lemma =>
                        obtain rfl := Option.some.inj H
                        obtain ⟨Ao96, co96, eo96⟩ := Kd.R_slice HO_9.out
                        subst eo96
                        go_wp2_with (first | ((with_reducible refine gate_callee (f := 41) rfl ?_); refine goesL_ (some 221) rfl rfl Try.func41 (by kernel_rfl) rfl #[.slice Ao96 t785.length co96] rfl (by (try simp only [List.map_toArray, List.map_cons, List.map_nil]); first | done | rfl | (simp only [List.length_drop, List.length_take]; rfl)) ?_; (with_reducible refine (arraslaw0_Numbers.calls k6 (fun k_ => some k_ = (.slice Ao96 t785.length co96 : Value).ownBlock) (.slice Ao96 t785.length co96) t785  w _ ?side1 ?side2 A85.out).mono ?_); (case side1 => repeat (first | (with_reducible first | exact HB.out | apply below_alloc | apply pw_below_drewN | apply below_drew1 | refine below_set ?_ GE775.out) | exact HB.out)); (case side2 => exact Kd.R_tight rfl HO_9.out); rintro e w97 ⟨rfl, hb, hkp⟩; refine ⟨_, rfl, ?_⟩; have n0_ := Aside0.mk (Kd.R_mono (ok' := fun k_ => some k_ ≠ (.slice Ao27 t780.length co27 : Value).ownBlock ∧ some k_ ≠ (v791 : Value).ownBlock) (Kd.R_keptB (HO_5.out) hkp (fun k_ hk_ hs_ => (hk_.2.1) hs_)) (fun k_ hk_ => ⟨hk_.1.1, hk_.1.2.2⟩)); have n1_ := Aside0.mk (Kd.R_mono (ok' := fun k_ => some k_ ≠ (.slice Ao26 t777.length co26 : Value).ownBlock ∧ some k_ ≠ (v791 : Value).ownBlock) (Kd.R_keptB (HO_6.out) hkp (fun k_ hk_ hs_ => (hk_.2.1) hs_)) (fun k_ hk_ => ⟨hk_.1.1, hk_.1.2.2⟩)); have n2_ := Aside0.mk (Kd.R_mono (ok' := fun k_ => some k_ ≠ (.slice Ao26 t777.length co26 : Value).ownBlock ∧ some k_ ≠ (.slice Ao27 t780.length co27 : Value).ownBlock) (Kd.R_keptB (HO_11.out) hkp (fun k_ hk_ hs_ => (hk_.2.2) hs_)) (fun k_ hk_ => ⟨hk_.1.1, hk_.1.2.1⟩)); have n3_ := Aside0.mk (blk_kept (by (with_reducible repeat (first | refine blk_drewN ?_ _ | refine blk_drew ?_ | refine blk_alloc ?_ _)); exact BK775.out) hkp (fun hs_ => (fun e_ => (Kd.R_ne HO_9.out BK775.out (by decide)) e_) hs_)); have n4_ := Aside0.mk (hb); clear HO_5; clear HO_6; clear HO_11; clear BK775; clear HB; clear HO_9; have HO_5 := n0_; have HO_6 := n1_; have HO_11 := n2_; have BK775 := n3_; have HB := n4_; clear n0_ n1_ n2_ n3_ n4_; (try clear hb); (try clear hkp); obtain ⟨Ao98, co98, eo98⟩ := Kd.R_slice HO_11.out; subst eo98) | ((with_reducible refine gate_callee (f := 41) rfl ?_); refine goesL_ (some 223) rfl rfl Try.func41 (by kernel_rfl) rfl #[.slice Ao98 t789.length co98] rfl (by (try simp only [List.map_toArray, List.map_cons, List.map_nil]); first | done | rfl | (simp only [List.length_drop, List.length_take]; rfl)) ?_; (with_reducible refine (arraslaw0_Numbers.calls k6 (fun k_ => some k_ = (.slice Ao98 t789.length co98 : Value).ownBlock) (.slice Ao98 t789.length co98) t789  w _ ?side1 ?side2 A86.out).mono ?_); (case side1 => repeat (first | (with_reducible first | exact HB.out | apply below_alloc | apply pw_below_drewN | apply below_drew1 | refine below_set ?_ GE775.out) | exact HB.out)); (case side2 => exact Kd.R_tight rfl HO_11.out); rintro e w99 ⟨rfl, hb, hkp⟩; refine ⟨_, rfl, ?_⟩; have n0_ := Aside0.mk (Kd.R_mono (ok' := fun k_ => some k_ ≠ (.slice Ao27 t780.length co27 : Value).ownBlock) (Kd.R_keptB (HO_5.out) hkp (fun k_ hk_ hs_ => (hk_.2) hs_)) (fun k_ hk_ => hk_.1.1)); have n1_ := Aside0.mk (Kd.R_mono (ok' := fun k_ => some k_ ≠ (.slice Ao26 t777.length co26 : Value).ownBlock) (Kd.R_keptB (HO_6.out) hkp (fun k_ hk_ hs_ => (hk_.2) hs_)) (fun k_ hk_ => hk_.1.1)); have n2_ := Aside0.mk (blk_kept (by (with_reducible repeat (first | refine blk_drewN ?_ _ | refine blk_drew ?_ | refine blk_alloc ?_ _)); exact BK775.out) hkp (fun hs_ => (fun e_ => (Kd.R_ne HO_11.out BK775.out (by decide)) e_) hs_)); have n3_ := Aside0.mk (hb); clear HO_5; clear HO_6; clear BK775; clear HB; clear HO_11; have HO_5 := n0_; have HO_6 := n1_; have BK775 := n2_; have HB := n3_; clear n0_ n1_ n2_ n3_; (try clear hb); (try clear hkp); have hcz100_0 : w99.cell? ⟨gb775, 0, none⟩ = some (.slice A774_0 ((rd_T86 l0 x3_1).f0).length c774_0) := (blk_cell BK775.out 0).trans rfl; have hcz100_1 : w99.cell? ⟨gb775, 1, none⟩ = some (.slice A774_1 ((rd_T86 l0 x3_1).f1).length c774_1) := (blk_cell BK775.out 1).trans rfl; have hcz100_2 : w99.cell? ⟨gb775, 2, none⟩ = some (.slice A774_2 ((rd_T86 l0 x3_1).f2).length c774_2) := (blk_cell BK775.out 2).trans rfl; have hfz100_0 := blk_frozen BK775.out 0; have hfz100_1 := blk_frozen BK775.out 1; have hfz100_2 := blk_frozen BK775.out 2) | ((with_reducible refine gate_callee (f := 40) rfl ?_); refine goesL_ (some 227) rfl rfl Try.func40 (by kernel_rfl) rfl #[.slice Ao26 t777.length co26, .slice A774_0 ((rd_T86 l0 x3_1).f0).length c774_0] rfl (by (try simp only [List.map_toArray, List.map_cons, List.map_nil]); first | done | rfl | (simp only [List.length_drop, List.length_take]; rfl)) ?_; (with_reducible refine (arrasref0_EqNumbers.calls k6 _ _ t777 _ _ ((rd_T86 l0 x3_1).f0) true _ ?side1 ?side2 ?side3 ?side4 A87.out).mono ?_); (case side1 => repeat (first | exact (Kd.R_reads' HO_5.out).2.2 | with_reducible first | refine Kd.C_alloc ?_ _ | refine Kd.C_drewN ?_ _ | refine Kd.C_drew ?_)); (case side2 => exact (Kd.R_reads' HO_5.out).2.1); (case side3 => repeat (first | exact (Kd.C_below HR774_0.out HB.out) | with_reducible first | refine Kd.C_alloc ?_ _ | refine Kd.C_drewN ?_ _ | refine Kd.C_drew ?_)); (case side4 => exact HC774_0.out); rintro e w' ⟨rfl, ⟨nd, rfl⟩⟩; refine ⟨_, rfl, ?_⟩) | (go_at_call 40; (with_reducible refine (arrasref0_EqNumbers.calls k6 _ _ t780 _ _ ((rd_T86 l0 x3_1).f1) false _ ?side1 ?side2 ?side3 ?side4 A89.out).mono ?_); (case side1 => repeat (first | exact (Kd.R_reads' HO_6.out).2.2 | with_reducible first | refine Kd.C_alloc ?_ _ | refine Kd.C_drewN ?_ _ | refine Kd.C_drew ?_)); (case side2 => exact (Kd.R_reads' HO_6.out).2.1); (case side3 => repeat (first | exact (Kd.C_below HR774_1.out (by repeat (first | (with_reducible first | exact HB.out | apply below_alloc | apply pw_below_drewN | apply below_drew1 | refine below_set ?_ GE775.out) | exact HB.out))) | with_reducible first | refine Kd.C_alloc ?_ _ | refine Kd.C_drewN ?_ _ | refine Kd.C_drew ?_)); (case side4 => exact HC774_1.out); rintro e w' ⟨rfl, ⟨nd, rfl⟩⟩))
                        go_ret
                        exact ⟨by first | rfl | (simp [errW_none, errW_some] <;> rfl) | (simp [*, errW_none, errW_some] <;> rfl), by repeat (first | (with_reducible first | exact HB.out | apply below_alloc | apply pw_below_drewN | apply below_drew1 | refine below_set ?_ GE775.out) | exact HB.out)⟩
                     ·replace c88 := Bool.eq_false_iff.mpr c88
                      subst c88
                      have H1 : (some false) = some r := by rw [if_neg (show ¬ (false = true) by decide)] at H; exact H
                      clear H
                      have H := H1
                      clear H1
                      as_aux_lemma =>
                       obtain rfl := Option.some.inj H
                       obtain ⟨Ao101, co101, eo101⟩ := Kd.R_slice HO_9.out
                       subst eo101
                       go_wp2_with (first | ((with_reducible refine gate_callee (f := 41) rfl ?_); refine goesL_ (some 221) rfl rfl Try.func41 (by kernel_rfl) rfl #[.slice Ao101 t785.length co101] rfl (by (try simp only [List.map_toArray, List.map_cons, List.map_nil]); first | done | rfl | (simp only [List.length_drop, List.length_take]; rfl)) ?_; (with_reducible refine (arraslaw0_Numbers.calls k6 (fun k_ => some k_ = (.slice Ao101 t785.length co101 : Value).ownBlock) (.slice Ao101 t785.length co101) t785  w _ ?side1 ?side2 A85.out).mono ?_); (case side1 => repeat (first | (with_reducible first | exact HB.out | apply below_alloc | apply pw_below_drewN | apply below_drew1 | refine below_set ?_ GE775.out) | exact HB.out)); (case side2 => exact Kd.R_tight rfl HO_9.out); rintro e w102 ⟨rfl, hb, hkp⟩; refine ⟨_, rfl, ?_⟩; have n0_ := Aside0.mk (Kd.R_mono (ok' := fun k_ => some k_ ≠ (.slice Ao27 t780.length co27 : Value).ownBlock ∧ some k_ ≠ (v791 : Value).ownBlock) (Kd.R_keptB (HO_5.out) hkp (fun k_ hk_ hs_ => (hk_.2.1) hs_)) (fun k_ hk_ => ⟨hk_.1.1, hk_.1.2.2⟩)); have n1_ := Aside0.mk (Kd.R_mono (ok' := fun k_ => some k_ ≠ (.slice Ao26 t777.length co26 : Value).ownBlock ∧ some k_ ≠ (v791 : Value).ownBlock) (Kd.R_keptB (HO_6.out) hkp (fun k_ hk_ hs_ => (hk_.2.1) hs_)) (fun k_ hk_ => ⟨hk_.1.1, hk_.1.2.2⟩)); have n2_ := Aside0.mk (Kd.R_mono (ok' := fun k_ => some k_ ≠ (.slice Ao26 t777.length co26 : Value).ownBlock ∧ some k_ ≠ (.slice Ao27 t780.length co27 : Value).ownBlock) (Kd.R_keptB (HO_11.out) hkp (fun k_ hk_ hs_ => (hk_.2.2) hs_)) (fun k_ hk_ => ⟨hk_.1.1, hk_.1.2.1⟩)); have n3_ := Aside0.mk (blk_kept (by (with_reducible repeat (first | refine blk_drewN ?_ _ | refine blk_drew ?_ | refine blk_alloc ?_ _)); exact BK775.out) hkp (fun hs_ => (fun e_ => (Kd.R_ne HO_9.out BK775.out (by decide)) e_) hs_)); have n4_ := Aside0.mk (hb); clear HO_5; clear HO_6; clear HO_11; clear BK775; clear HB; clear HO_9; have HO_5 := n0_; have HO_6 := n1_; have HO_11 := n2_; have BK775 := n3_; have HB := n4_; clear n0_ n1_ n2_ n3_ n4_; (try clear hb); (try clear hkp); obtain ⟨Ao103, co103, eo103⟩ := Kd.R_slice HO_11.out; subst eo103) | ((with_reducible refine gate_callee (f := 41) rfl ?_); refine goesL_ (some 223) rfl rfl Try.func41 (by kernel_rfl) rfl #[.slice Ao103 t789.length co103] rfl (by (try simp only [List.map_toArray, List.map_cons, List.map_nil]); first | done | rfl | (simp only [List.length_drop, List.length_take]; rfl)) ?_; (with_reducible refine (arraslaw0_Numbers.calls k6 (fun k_ => some k_ = (.slice Ao103 t789.length co103 : Value).ownBlock) (.slice Ao103 t789.length co103) t789  w _ ?side1 ?side2 A86.out).mono ?_); (case side1 => repeat (first | (with_reducible first | exact HB.out | apply below_alloc | apply pw_below_drewN | apply below_drew1 | refine below_set ?_ GE775.out) | exact HB.out)); (case side2 => exact Kd.R_tight rfl HO_11.out); rintro e w104 ⟨rfl, hb, hkp⟩; refine ⟨_, rfl, ?_⟩; have n0_ := Aside0.mk (Kd.R_mono (ok' := fun k_ => some k_ ≠ (.slice Ao27 t780.length co27 : Value).ownBlock) (Kd.R_keptB (HO_5.out) hkp (fun k_ hk_ hs_ => (hk_.2) hs_)) (fun k_ hk_ => hk_.1.1)); have n1_ := Aside0.mk (Kd.R_mono (ok' := fun k_ => some k_ ≠ (.slice Ao26 t777.length co26 : Value).ownBlock) (Kd.R_keptB (HO_6.out) hkp (fun k_ hk_ hs_ => (hk_.2) hs_)) (fun k_ hk_ => hk_.1.1)); have n2_ := Aside0.mk (blk_kept (by (with_reducible repeat (first | refine blk_drewN ?_ _ | refine blk_drew ?_ | refine blk_alloc ?_ _)); exact BK775.out) hkp (fun hs_ => (fun e_ => (Kd.R_ne HO_11.out BK775.out (by decide)) e_) hs_)); have n3_ := Aside0.mk (hb); clear HO_5; clear HO_6; clear BK775; clear HB; clear HO_11; have HO_5 := n0_; have HO_6 := n1_; have BK775 := n2_; have HB := n3_; clear n0_ n1_ n2_ n3_; (try clear hb); (try clear hkp); have hcz105_0 : w104.cell? ⟨gb775, 0, none⟩ = some (.slice A774_0 ((rd_T86 l0 x3_1).f0).length c774_0) := (blk_cell BK775.out 0).trans rfl; have hcz105_1 : w104.cell? ⟨gb775, 1, none⟩ = some (.slice A774_1 ((rd_T86 l0 x3_1).f1).length c774_1) := (blk_cell BK775.out 1).trans rfl; have hcz105_2 : w104.cell? ⟨gb775, 2, none⟩ = some (.slice A774_2 ((rd_T86 l0 x3_1).f2).length c774_2) := (blk_cell BK775.out 2).trans rfl; have hfz105_0 := blk_frozen BK775.out 0; have hfz105_1 := blk_frozen BK775.out 1; have hfz105_2 := blk_frozen BK775.out 2) | ((with_reducible refine gate_callee (f := 40) rfl ?_); refine goesL_ (some 227) rfl rfl Try.func40 (by kernel_rfl) rfl #[.slice Ao26 t777.length co26, .slice A774_0 ((rd_T86 l0 x3_1).f0).length c774_0] rfl (by (try simp only [List.map_toArray, List.map_cons, List.map_nil]); first | done | rfl | (simp only [List.length_drop, List.length_take]; rfl)) ?_; (with_reducible refine (arrasref0_EqNumbers.calls k6 _ _ t777 _ _ ((rd_T86 l0 x3_1).f0) false _ ?side1 ?side2 ?side3 ?side4 A87.out).mono ?_); (case side1 => repeat (first | exact (Kd.R_reads' HO_5.out).2.2 | with_reducible first | refine Kd.C_alloc ?_ _ | refine Kd.C_drewN ?_ _ | refine Kd.C_drew ?_)); (case side2 => exact (Kd.R_reads' HO_5.out).2.1); (case side3 => repeat (first | exact (Kd.C_below HR774_0.out HB.out) | with_reducible first | refine Kd.C_alloc ?_ _ | refine Kd.C_drewN ?_ _ | refine Kd.C_drew ?_)); (case side4 => exact HC774_0.out); rintro e w' ⟨rfl, ⟨nd, rfl⟩⟩; refine ⟨_, rfl, ?_⟩))
                       go_ret
                       exact ⟨by first | rfl | (simp [errW_none, errW_some] <;> rfl) | (simp [*, errW_none, errW_some] <;> rfl), by repeat (first | (with_reducible first | exact HB.out | apply below_alloc | apply pw_below_drewN | apply below_drew1 | refine below_set ?_ GE775.out) | exact HB.out)⟩
              ·replace c49 := Bool.eq_false_iff.mpr c49
               subst c49
               have H1 : ((arraslaw7_num.f t784).bind fun t802 => (if t802 = 1 then ((arraslaw7_num.f t786).bind fun t803 => (if t803 = 1 then ((arraslaw7_num.f t790).bind fun t804 => (if t804 = 1 then (if t783 = true then (arraslaw7_HavePairs.j5 kj36 l0 x3_1 true) else (arraslaw7_HavePairs.j5 kj36 l0 x3_1 (decide ((wrap64 ((t785.length : Int) + (t789.length : Int))) > 0)))) else (arraslaw7_HavePairs.j5 kj36 l0 x3_1 true))) else (arraslaw7_HavePairs.j5 kj36 l0 x3_1 true))) else (arraslaw7_HavePairs.j5 kj36 l0 x3_1 true))) = some r := by rw [if_neg (show ¬ (false = true) by decide)] at H; exact H
               clear H
               have H := H1
               clear H1
               have HC106 := Aside0.mk H
               clear H
               have hcz107_0 : wc.cell? ⟨gb775, 0, none⟩ = some (.slice A774_0 ((rd_T86 l0 x3_1).f0).length c774_0) := (blk_cell BK775.out 0).trans rfl
               have hcz107_1 : wc.cell? ⟨gb775, 1, none⟩ = some (.slice A774_1 ((rd_T86 l0 x3_1).f1).length c774_1) := (blk_cell BK775.out 1).trans rfl
               have hcz107_2 : wc.cell? ⟨gb775, 2, none⟩ = some (.slice A774_2 ((rd_T86 l0 x3_1).f2).length c774_2) := (blk_cell BK775.out 2).trans rfl
               have hfz107_0 := blk_frozen BK775.out 0
               have hfz107_1 := blk_frozen BK775.out 1
               have hfz107_2 := blk_frozen BK775.out 2
               go_upto_region 21 with (first | ((with_reducible refine gate_callee (f := 57) rfl ?_); refine goesL_ (some 115) rfl rfl Try.func57 (by kernel_rfl) rfl #[.slice A774_0 ((rd_T86 l0 x3_1).f0).length c774_0, .slice A774_1 ((rd_T86 l0 x3_1).f1).length c774_1] rfl (by (try simp only [List.map_toArray, List.map_cons, List.map_nil]); first | done | rfl | (simp only [List.length_drop, List.length_take]; rfl)) ?_; (with_reducible refine (arrasref6_Pair.calls kj36 _ _ ((rd_T86 l0 x3_1).f0) _ _ ((rd_T86 l0 x3_1).f1) false _ ?side1 ?side2 ?side3 ?side4 A48.out).mono ?_); (case side1 => repeat (first | exact (Kd.C_below HR774_0.out HB.out) | with_reducible first | refine Kd.C_alloc ?_ _ | refine Kd.C_drewN ?_ _ | refine Kd.C_drew ?_)); (case side2 => exact HC774_0.out); (case side3 => repeat (first | exact (Kd.C_below HR774_1.out HB.out) | with_reducible first | refine Kd.C_alloc ?_ _ | refine Kd.C_drewN ?_ _ | refine Kd.C_drew ?_)); (case side4 => exact HC774_1.out); rintro e w' ⟨rfl, ⟨nd, rfl⟩⟩; refine ⟨_, rfl, ?_⟩))
               (try (rw [drewN_self wc]; generalize hq_ : World.drewN wc _ = wc; have n0_ : Aside0 (Kd.R (Kd.int .i64) 3 wc w.heap.size (fun k_ => some k_ ≠ (.slice Ao26 t777.length co26 : Value).ownBlock ∧ some k_ ≠ (.slice Ao27 t780.length co27 : Value).ownBlock ∧ some k_ ≠ (v787 : Value).ownBlock) v791 t789) := ⟨by rw [← hq_]; exact (by (with_reducible repeat (first | apply Kd.R_alloc | apply Kd.R_drewN | apply Kd.R_drew)); exact HO_11.out)⟩; have n1_ : Aside0 (Kd.R (Kd.int .i64) 3 wc w.heap.size (fun k_ => some k_ ≠ (v791 : Value).ownBlock ∧ some k_ ≠ (.slice Ao27 t780.length co27 : Value).ownBlock ∧ some k_ ≠ (v787 : Value).ownBlock) (.slice Ao26 t777.length co26) t777) := ⟨by rw [← hq_]; exact (by (with_reducible repeat (first | apply Kd.R_alloc | apply Kd.R_drewN | apply Kd.R_drew)); exact Kd.R_mono HO_5.out (fun _ hk => (by first | exact ⟨hk.2.2, ⟨hk.1, hk.2.1⟩⟩ | (simp only [ne_eq] at hk ⊢; simp only [hk, not_false_eq_true, and_self]))))⟩; have n2_ : Aside0 (Kd.R (Kd.int .i64) 3 wc w.heap.size (fun k_ => some k_ ≠ (v791 : Value).ownBlock ∧ some k_ ≠ (.slice Ao26 t777.length co26 : Value).ownBlock ∧ some k_ ≠ (v787 : Value).ownBlock) (.slice Ao27 t780.length co27) t780) := ⟨by rw [← hq_]; exact (by (with_reducible repeat (first | apply Kd.R_alloc | apply Kd.R_drewN | apply Kd.R_drew)); exact Kd.R_mono HO_6.out (fun _ hk => (by first | exact ⟨hk.2.2, ⟨hk.1, hk.2.1⟩⟩ | (simp only [ne_eq] at hk ⊢; simp only [hk, not_false_eq_true, and_self]))))⟩; have n3_ : Aside0 (Kd.R (Kd.int .i64) 3 wc w.heap.size (fun k_ => some k_ ≠ (v791 : Value).ownBlock ∧ some k_ ≠ (.slice Ao26 t777.length co26 : Value).ownBlock ∧ some k_ ≠ (.slice Ao27 t780.length co27 : Value).ownBlock) v787 t785) := ⟨by rw [← hq_]; exact (by (with_reducible repeat (first | apply Kd.R_alloc | apply Kd.R_drewN | apply Kd.R_drew)); exact Kd.R_mono HO_9.out (fun _ hk => (by first | exact ⟨hk.2.2, ⟨hk.1, hk.2.1⟩⟩ | (simp only [ne_eq] at hk ⊢; simp only [hk, not_false_eq_true, and_self]))))⟩; have n4_ : Aside0 (wc.heap[gb775]? = some (.cells #[.slice A774_0 ((rd_T86 l0 x3_1).f0).length c774_0, .slice A774_1 ((rd_T86 l0 x3_1).f1).length c774_1, .slice A774_2 ((rd_T86 l0 x3_1).f2).length c774_2] 86 (0, 0))) := ⟨by rw [← hq_]; exact (by (with_reducible repeat (first | refine blk_drewN ?_ _ | refine blk_drew ?_ | refine blk_alloc ?_ _)); exact BK775.out)⟩; have n5_ : Aside0 (Below w.heap.size w wc) := ⟨by rw [← hq_]; exact (by repeat (first | (with_reducible first | exact HB.out | apply below_alloc | apply pw_below_drewN | apply below_drew1 | refine below_set ?_ GE775.out) | exact HB.out))⟩; clear HO_11 HO_5 HO_6 HO_9 BK775 HB hq_; have HO_11 := n0_; have HO_5 := n1_; have HO_6 := n2_; have HO_9 := n3_; have BK775 := n4_; have HB := n5_; clear n0_ n1_ n2_ n3_ n4_ n5_))
               (try simp only [Act.put, List.setIfInBounds_toArray, List.set_cons_zero, List.set_cons_succ])
               go_cut [140] (fun v140 wc => ∃ (kq : Nat) (x140_105 : Bool), v140 = .bool x140_105 ∧ Aside0 (arraslaw7_HavePairs.j5 kq l0 x3_1 x140_105 = some r) ∧ Aside0 (kq ≤ kj36) ∧ Aside0 (wc.heap[gb775]? = some (.cells #[(.slice A774_0 ((rd_T86 l0 x3_1).f0).length c774_0), (.slice A774_1 ((rd_T86 l0 x3_1).f1).length c774_1), (.slice A774_2 ((rd_T86 l0 x3_1).f2).length c774_2)] 86 (0, 0))) ∧ Aside0 (Below w.heap.size w wc))
               case first =>
                have H := HC106.out
                clear HC106
                replace H := Option.bind_eq_some_iff.mp H
                obtain ⟨t802, A1080, H⟩ := H
                (try dsimp only at H)
                have A108 := Aside0.mk A1080
                clear A1080
                by_cases c109 : t802 = 1
                ·rw [if_pos c109] at H
                 have c109b0 : (t802 == 1) = true := beq_iff_eq.mpr c109
                 have c109b1 : (t802 != 1) = false := bne_eq_false_iff_eq.mpr c109
                 clear c109
                 (first | rw [c109b0] | (simp only [i64_w, i32_w]; rw [c109b0]) | skip)
                 replace H := Option.bind_eq_some_iff.mp H
                 obtain ⟨t803, A1100, H⟩ := H
                 (try dsimp only at H)
                 have A110 := Aside0.mk A1100
                 clear A1100
                 by_cases c111 : t803 = 1
                 ·rw [if_pos c111] at H
                  have c111b0 : (t803 == 1) = true := beq_iff_eq.mpr c111
                  have c111b1 : (t803 != 1) = false := bne_eq_false_iff_eq.mpr c111
                  clear c111
                  replace H := Option.bind_eq_some_iff.mp H
                  obtain ⟨t804, A1120, H⟩ := H
                  (try dsimp only at H)
                  have A112 := Aside0.mk A1120
                  clear A1120
                  by_cases c113 : t804 = 1
                  ·rw [if_pos c113] at H
                   have c113b0 : (t804 == 1) = true := beq_iff_eq.mpr c113
                   have c113b1 : (t804 != 1) = false := bne_eq_false_iff_eq.mpr c113
                   clear c113
                   by_cases c114 : t783 = true
                   ·subst c114
                    have H1 : (arraslaw7_HavePairs.j5 kj36 l0 x3_1 true) = some r := by rw [if_pos rfl] at H; exact H
                    clear H
                    have H := H1
                    clear H1
                    as_aux_lemma =>
                     have H' := Aside0.mk H
                     clear H
                     go_wp2_with (first | ((with_reducible refine gate_callee (f := 61) rfl ?_); refine goesL_ (some 118) rfl rfl Try.func61 (by kernel_rfl) rfl #[.int .i64 t784] rfl (by (try simp only [List.map_toArray, List.map_cons, List.map_nil]); first | done | rfl | (simp only [List.length_drop, List.length_take]; rfl)) ?_; (with_reducible refine (arraslaw7_num.calls t784 t802 _ A108.out).mono ?_); rintro e w' ⟨rfl, ⟨nd, rfl⟩⟩; refine ⟨_, rfl, ?_⟩) | (go_at_call 61; (with_reducible refine (arraslaw7_num.calls t786 t803 _ A110.out).mono ?_); rintro e w' ⟨rfl, ⟨nd, rfl⟩⟩) | (go_at_call 61; (with_reducible refine (arraslaw7_num.calls t790 t804 _ A112.out).mono ?_); rintro e w' ⟨rfl, ⟨nd, rfl⟩⟩))
                     go_meet
                     case rel => exact ⟨_, (true), (by first | rfl | (simp; done) | (simp [*]; done)), H', ⟨by have := HK1.out; have := HJ1.out; have := HJ18.out; have := HJ36.out; first | omega | exact Nat.le_refl _⟩, ⟨by (with_reducible repeat (first | refine blk_drewN ?_ _ | refine blk_drew ?_ | refine blk_alloc ?_ _)); exact BK775.out⟩, ⟨by repeat (first | (with_reducible first | exact HB.out | apply below_alloc | apply pw_below_drewN | apply below_drew1 | refine below_set ?_ GE775.out) | exact HB.out)⟩⟩
                   ·replace c114 := Bool.eq_false_iff.mpr c114
                    subst c114
                    have H1 : (arraslaw7_HavePairs.j5 kj36 l0 x3_1 (decide ((wrap64 ((t785.length : Int) + (t789.length : Int))) > 0))) = some r := by rw [if_neg (show ¬ (false = true) by decide)] at H; exact H
                    clear H
                    have H := H1
                    clear H1
                    as_aux_lemma =>
                     have H' := Aside0.mk H
                     clear H
                     go_wp2_with (first | ((with_reducible refine gate_callee (f := 61) rfl ?_); refine goesL_ (some 118) rfl rfl Try.func61 (by kernel_rfl) rfl #[.int .i64 t784] rfl (by (try simp only [List.map_toArray, List.map_cons, List.map_nil]); first | done | rfl | (simp only [List.length_drop, List.length_take]; rfl)) ?_; (with_reducible refine (arraslaw7_num.calls t784 t802 _ A108.out).mono ?_); rintro e w' ⟨rfl, ⟨nd, rfl⟩⟩; refine ⟨_, rfl, ?_⟩) | (go_at_call 61; (with_reducible refine (arraslaw7_num.calls t786 t803 _ A110.out).mono ?_); rintro e w' ⟨rfl, ⟨nd, rfl⟩⟩) | (go_at_call 61; (with_reducible refine (arraslaw7_num.calls t790 t804 _ A112.out).mono ?_); rintro e w' ⟨rfl, ⟨nd, rfl⟩⟩; obtain ⟨Ao115, co115, eo115⟩ := Kd.R_slice HO_9.out; subst eo115; obtain ⟨Ao116, co116, eo116⟩ := Kd.R_slice HO_11.out; subst eo116))
                     go_meet
                     case rel => exact ⟨_, (decide ((wrap64 ((t785.length : Int) + (t789.length : Int))) > 0)), (by first | rfl | (simp; done) | (simp [*]; done)), H', ⟨by have := HK1.out; have := HJ1.out; have := HJ18.out; have := HJ36.out; first | omega | exact Nat.le_refl _⟩, ⟨by (with_reducible repeat (first | refine blk_drewN ?_ _ | refine blk_drew ?_ | refine blk_alloc ?_ _)); exact BK775.out⟩, ⟨by repeat (first | (with_reducible first | exact HB.out | apply below_alloc | apply pw_below_drewN | apply below_drew1 | refine below_set ?_ GE775.out) | exact HB.out)⟩⟩
                  ·rw [if_neg c113] at H
                   have c113b0 : (t804 == 1) = false := beq_eq_false_iff_ne.mpr c113
                   have c113b1 : (t804 != 1) = true := bne_iff_ne.mpr c113
                   as_aux_lemma =>
                    have H' := Aside0.mk H
                    clear H
                    go_wp2_with (first | ((with_reducible refine gate_callee (f := 61) rfl ?_); refine goesL_ (some 118) rfl rfl Try.func61 (by kernel_rfl) rfl #[.int .i64 t784] rfl (by (try simp only [List.map_toArray, List.map_cons, List.map_nil]); first | done | rfl | (simp only [List.length_drop, List.length_take]; rfl)) ?_; (with_reducible refine (arraslaw7_num.calls t784 t802 _ A108.out).mono ?_); rintro e w' ⟨rfl, ⟨nd, rfl⟩⟩; refine ⟨_, rfl, ?_⟩) | (go_at_call 61; (with_reducible refine (arraslaw7_num.calls t786 t803 _ A110.out).mono ?_); rintro e w' ⟨rfl, ⟨nd, rfl⟩⟩) | (go_at_call 61; (with_reducible refine (arraslaw7_num.calls t790 t804 _ A112.out).mono ?_); rintro e w' ⟨rfl, ⟨nd, rfl⟩⟩))
                    go_meet
                    case rel => exact ⟨_, (true), (by first | rfl | (simp; done) | (simp [*]; done)), H', ⟨by have := HK1.out; have := HJ1.out; have := HJ18.out; have := HJ36.out; first | omega | exact Nat.le_refl _⟩, ⟨by (with_reducible repeat (first | refine blk_drewN ?_ _ | refine blk_drew ?_ | refine blk_alloc ?_ _)); exact BK775.out⟩, ⟨by repeat (first | (with_reducible first | exact HB.out | apply below_alloc | apply pw_below_drewN | apply below_drew1 | refine below_set ?_ GE775.out) | exact HB.out)⟩⟩
                 ·rw [if_neg c111] at H
                  have c111b0 : (t803 == 1) = false := beq_eq_false_iff_ne.mpr c111
                  have c111b1 : (t803 != 1) = true := bne_iff_ne.mpr c111
                  as_aux_lemma =>
                   have H' := Aside0.mk H
                   clear H
                   go_wp2_with (first | ((with_reducible refine gate_callee (f := 61) rfl ?_); refine goesL_ (some 118) rfl rfl Try.func61 (by kernel_rfl) rfl #[.int .i64 t784] rfl (by (try simp only [List.map_toArray, List.map_cons, List.map_nil]); first | done | rfl | (simp only [List.length_drop, List.length_take]; rfl)) ?_; (with_reducible refine (arraslaw7_num.calls t784 t802 _ A108.out).mono ?_); rintro e w' ⟨rfl, ⟨nd, rfl⟩⟩; refine ⟨_, rfl, ?_⟩) | (go_at_call 61; (with_reducible refine (arraslaw7_num.calls t786 t803 _ A110.out).mono ?_); rintro e w' ⟨rfl, ⟨nd, rfl⟩⟩))
                   go_meet
                   case rel => exact ⟨_, (true), (by first | rfl | (simp; done) | (simp [*]; done)), H', ⟨by have := HK1.out; have := HJ1.out; have := HJ18.out; have := HJ36.out; first | omega | exact Nat.le_refl _⟩, ⟨by (with_reducible repeat (first | refine blk_drewN ?_ _ | refine blk_drew ?_ | refine blk_alloc ?_ _)); exact BK775.out⟩, ⟨by repeat (first | (with_reducible first | exact HB.out | apply below_alloc | apply pw_below_drewN | apply below_drew1 | refine below_set ?_ GE775.out) | exact HB.out)⟩⟩
                ·rw [if_neg c109] at H
                 have c109b0 : (t802 == 1) = false := beq_eq_false_iff_ne.mpr c109
                 have c109b1 : (t802 != 1) = true := bne_iff_ne.mpr c109
                 (first | rw [c109b0] | (simp only [i64_w, i32_w]; rw [c109b0]) | skip)
                 as_aux_lemma =>
                  have H' := Aside0.mk H
                  clear H
                  go_wp2_with (first | ((with_reducible refine gate_callee (f := 61) rfl ?_); refine goesL_ (some 118) rfl rfl Try.func61 (by kernel_rfl) rfl #[.int .i64 t784] rfl (by (try simp only [List.map_toArray, List.map_cons, List.map_nil]); first | done | rfl | (simp only [List.length_drop, List.length_take]; rfl)) ?_; (with_reducible refine (arraslaw7_num.calls t784 t802 _ A108.out).mono ?_); rintro e w' ⟨rfl, ⟨nd, rfl⟩⟩; refine ⟨_, rfl, ?_⟩))
                  go_meet
                  case rel => exact ⟨_, (true), (by first | rfl | (simp; done) | (simp [*]; done)), H', ⟨by have := HK1.out; have := HJ1.out; have := HJ18.out; have := HJ36.out; first | omega | exact Nat.le_refl _⟩, ⟨by (with_reducible repeat (first | refine blk_drewN ?_ _ | refine blk_drew ?_ | refine blk_alloc ?_ _)); exact BK775.out⟩, ⟨by repeat (first | (with_reducible first | exact HB.out | apply below_alloc | apply pw_below_drewN | apply below_drew1 | refine below_set ?_ GE775.out) | exact HB.out)⟩⟩
               case rest =>
                clear HC106
                (try clear c1); (try clear p2); (try clear c4); (try clear c5); (try clear c6); (try clear p6); (try clear c7); (try clear c8); (try clear p8); (try clear q8); (try clear hx8); (try clear c9); (try clear c10); (try clear c11); (try clear c40); (try clear c41); (try clear c49); (try clear c57); (try clear c61); (try clear p64); (try clear c68); (try clear c68b0); (try clear c69); (try clear c70); (try clear c71); (try clear c73); (try clear c73b0); (try clear c73b1); (try clear c74); (try clear c77); (try clear p80); (try clear q80); (try clear hx80); (try clear p81); (try clear q81); (try clear hx81); (try clear c88); (try clear c90); (try clear c109); (try clear c109b0); (try clear c109b1); (try clear c111); (try clear c111b0); (try clear c111b1); (try clear c113); (try clear c113b0); (try clear c113b1); (try clear c114); (try clear hcz100_0); (try clear hcz100_1); (try clear hcz100_2); (try clear hcz105_0); (try clear hcz105_1); (try clear hcz105_2); (try clear hcz107_0); (try clear hcz107_1); (try clear hcz107_2); (try clear hcz95_0); (try clear hcz95_1); (try clear hcz95_2); (try clear hfz100_0); (try clear hfz100_1); (try clear hfz100_2); (try clear hfz105_0); (try clear hfz105_1); (try clear hfz105_2); (try clear hfz107_0); (try clear hfz107_1); (try clear hfz107_2); (try clear hfz95_0); (try clear hfz95_1); (try clear hfz95_2); (try clear hx809_0); (try clear hx810_0); (try clear hx811_0); (try clear p809); (try clear p810); (try clear p811); (try clear q809); (try clear q810); (try clear q811)
                obtain ⟨kq, x140_105, rfl, HA, HJ105, BK775, HB⟩ := hcut
                cases kq with
                | zero => exact absurd HA.out (by simp [arraslaw7_HavePairs.j5])
                | succ kj105 =>
                 have H := HA.out
                 clear HA
                 simp only [arraslaw7_HavePairs.j5] at H
                 by_cases c117 : x140_105 = true
                 ·subst c117
                  have H1 : (some false) = some r := by rw [if_pos rfl] at H; exact H
                  clear H
                  have H := H1
                  clear H1
                  as_aux_lemma =>
                   obtain rfl := Option.some.inj H
                   go_wp2
                   go_ret
                   exact ⟨by first | rfl | (simp [errW_none, errW_some] <;> rfl) | (simp [*, errW_none, errW_some] <;> rfl), by repeat (first | (with_reducible first | exact HB.out | apply below_alloc | apply pw_below_drewN | apply below_drew1 | refine below_set ?_ GE775.out) | exact HB.out)⟩
                 ·replace c117 := Bool.eq_false_iff.mpr c117
                  subst c117
                  have H1 : (arraslaw7_HavePairs.l0 kj105 l0 (wrap64 (x3_1 + 1))) = some r := by rw [if_neg (show ¬ (false = true) by decide)] at H; exact H
                  clear H
                  have H := H1
                  clear H1
                  as_aux_lemma =>
                   have H' := Aside0.mk H
                   clear H
                   go_wp2
                   go_roundg kj105
                   case measure => have := HK1.out; have := HJ1.out; have := HJ18.out; have := HJ36.out; have := HJ105.out; omega
                   case rel => exact ⟨(wrap64 (x3_1 + 1)), (by first | rfl | (simp; done) | (simp [*]; done)), H', ⟨by have := HK1.out; have := HJ1.out; have := HJ18.out; have := HJ36.out; have := HJ105.out; omega⟩, ⟨by repeat (first | (with_reducible first | exact HB.out | apply below_alloc | apply pw_below_drewN | apply below_drew1 | refine below_set ?_ GE775.out) | exact HB.out)⟩⟩
       ·rw [if_neg c6] at H
        exact absurd H (by simp)
      ·rw [if_neg c5] at H
       exact absurd H (by simp)
     ·replace c4 := Bool.eq_false_iff.mpr c4
      subst c4
      have H1 : ((arraslaw7_wakes.f kj1).bind fun t773 => (some t773)) = some r := by rw [if_neg (show ¬ (false = true) by decide)] at H; exact H
      clear H
      have H := H1
      clear H1
      replace H := Option.bind_eq_some_iff.mp H
      obtain ⟨t773, A1180, H⟩ := H
      replace H : (some t773) = some r := H
      have A118 := Aside0.mk A1180
      clear A1180
      as_aux_lemma =>
       obtain rfl := Option.some.inj H
       go_wp2_with (first | ((with_reducible refine gate_callee (f := 63) rfl ?_); refine goesL_ (some 236) rfl rfl Try.func63 (by kernel_rfl) rfl #[] rfl (by (try simp only [List.map_toArray, List.map_cons, List.map_nil]); first | done | rfl | (simp only [List.length_drop, List.length_take]; rfl)) ?_; (with_reducible refine (arraslaw7_wakes.calls kj1  t773 _ A118.out).mono ?_); rintro e w119 ⟨rfl, hb⟩; refine ⟨_, rfl, ?_⟩; have n0_ := Aside0.mk (below_step (by repeat (first | (with_reducible first | exact HB.out | apply below_alloc | apply pw_below_drewN | apply below_drew1) | exact HB.out)) hb); clear HB; have HB := n0_; clear n0_; (try clear hb); (try clear hb2); (try clear hk); (try clear hi)))
       go_ret
       exact ⟨by first | rfl | (simp [errW_none, errW_some] <;> rfl) | (simp [*, errW_none, errW_some] <;> rfl), by repeat (first | (with_reducible first | exact HB.out | apply below_alloc | apply pw_below_drewN | apply below_drew1) | exact HB.out)⟩

end Go.Proofs.Ytpmcojmhkpaoaaa.PA
