-- Printed by this session's wip/myprint.py
import Derived.Test.YtpmcojmhkpaoaaaPAx0
import Derived.Test.YtpmcojmhkpaoaaaPAx2
import Derived.Test.YtpmcojmhkpaoaaaPAx3
namespace Go.Proofs.Ytpmcojmhkpaoaaa.PA
open Go.RowKit Go.Proofs.YtpmcojmhkpaoaaaW.PrintWords Go.Proofs.YtpmcojmhkpaoaaaW.PrintLast Go.Proofs.YtpmcojmhkpaoaaaW.PrintMore
attribute [local go_sem] max2_int min2_int max_two min_two max_three min_three max_four min_four   -- for this text's walks alone
set_option linter.unusedVariables false
set_option linter.unusedSimpArgs false

/-! #### arraslaw7_HaveLaws: function 13 -/
mutual
def arraslaw7_HaveLaws.l0 : Nat → List (S86) → Int → Option (Bool)
 | 0, _, _ => none
 | k + 1, x0, x3 => if x3 < (x0.length : Int) then (arraslaw7_HaveLaws.j1 k x0 x3 (decide (x3 < 15))) else (arraslaw7_HaveLaws.j1 k x0 x3 false)
def arraslaw7_HaveLaws.j1 : Nat → List (S86) → Int → Bool → Option (Bool)
 | 0, _, _, _ => none
 | k + 1, x0, x3, x30 => if x30 = true then (if 0 ≤ x3 then (if x3 < (x0.length : Int) then ((arraslaw7_heavy.f ((rd_T86 x0 x3).f0) ((rd_T86 x0 x3).f1) ((rd_T86 x0 x3).f2)).bind fun t691 => (if t691 = true then (arraslaw7_HaveLaws.j2 k x0 x3 true ((rd_T86 x0 x3).f0) ((rd_T86 x0 x3).f1) ((rd_T86 x0 x3).f2)) else ((arrasref6_Pair.f k ((rd_T86 x0 x3).f0) ((rd_T86 x0 x3).f1)).bind fun t692 => (arraslaw7_HaveLaws.j2 k x0 x3 (!t692) ((rd_T86 x0 x3).f0) ((rd_T86 x0 x3).f1) ((rd_T86 x0 x3).f2))))) else (none)) else (none)) else ((arraslaw7_wakes.f k).bind fun t688 => (some t688))
def arraslaw7_HaveLaws.j2 : Nat → List (S86) → Int → Bool → List Int → List Int → List Int → Option (Bool)
 | 0, _, _, _, _, _, _ => none
 | k + 1, x0, x3, x46, x691000, x691001, x691002 => if x46 = true then (arraslaw7_HaveLaws.l0 k x0 (wrap64 (x3 + 1))) else ((have_Join.f k x691000 x691001).bind fun bt693 => ((have_Join.f k x691001 x691000).bind fun bt697 => ((have_Join.f k x691000 x691000).bind fun bt701 => ((have_Covers.f k bt693.1 x691000).bind fun bt705 => ((have_Covers.f k bt693.1 x691001).bind fun bt707 => ((have_Lacks.f k x691000 x691001).bind fun bt709 => ((arraslaw7_num.f bt693.2).bind fun t713 => (if t713 = 0 then ((arraslaw7_num.f bt697.2).bind fun t714 => (if t714 = 0 then ((arraslaw7_num.f bt701.2).bind fun t715 => (if t715 = 0 then ((arraslaw7_num.f bt705.2).bind fun t716 => (if t716 = 0 then ((arraslaw7_num.f bt707.2).bind fun t717 => (if t717 = 0 then ((arraslaw7_num.f bt709.2).bind fun t718 => (if t718 = 0 then ((arrasref0_EqNumbers.f k bt693.1 bt697.1).bind fun t719 => (if t719 = true then ((arrasref0_EqNumbers.f k bt701.1 x691000).bind fun t720 => (if t720 = true then (if bt705.1 = true then (if bt707.1 = true then (arraslaw7_HaveLaws.j3 k x0 x3 bt693.1 bt709.1 ((bt709.1.length : Int) != (bt693.1.length : Int)) x691000 x691001 x691002) else (arraslaw7_HaveLaws.j3 k x0 x3 bt693.1 bt709.1 true x691000 x691001 x691002)) else (arraslaw7_HaveLaws.j3 k x0 x3 bt693.1 bt709.1 true x691000 x691001 x691002)) else (arraslaw7_HaveLaws.j3 k x0 x3 bt693.1 bt709.1 true x691000 x691001 x691002))) else (arraslaw7_HaveLaws.j3 k x0 x3 bt693.1 bt709.1 true x691000 x691001 x691002))) else (arraslaw7_HaveLaws.j3 k x0 x3 bt693.1 bt709.1 true x691000 x691001 x691002))) else (arraslaw7_HaveLaws.j3 k x0 x3 bt693.1 bt709.1 true x691000 x691001 x691002))) else (arraslaw7_HaveLaws.j3 k x0 x3 bt693.1 bt709.1 true x691000 x691001 x691002))) else (arraslaw7_HaveLaws.j3 k x0 x3 bt693.1 bt709.1 true x691000 x691001 x691002))) else (arraslaw7_HaveLaws.j3 k x0 x3 bt693.1 bt709.1 true x691000 x691001 x691002))) else (arraslaw7_HaveLaws.j3 k x0 x3 bt693.1 bt709.1 true x691000 x691001 x691002)))))))))
def arraslaw7_HaveLaws.j3 : Nat → List (S86) → Int → List Int → List Int → Bool → List Int → List Int → List Int → Option (Bool)
 | 0, _, _, _, _, _, _, _, _ => none
 | k + 1, x0, x3, x5, x15, x148, x691000, x691001, x691002 => if x148 = true then (some false) else (arraslaw7_HaveLaws.l1 k x0 x3 x5 x15 0 x691000 x691001 x691002)
def arraslaw7_HaveLaws.l1 : Nat → List (S86) → Int → List Int → List Int → Int → List Int → List Int → List Int → Option (Bool)
 | 0, _, _, _, _, _, _, _, _ => none
 | k + 1, x0, x3, x5, x15, x17, x691000, x691001, x691002 => if x17 < (x5.length : Int) then (if 0 ≤ x17 then (if x17 < (x691000.length : Int) then (if x17 < (x15.length : Int) then (if (wrap64 ((rd x691000 x17) + (rd x15 x17))) = (rd x5 x17) then ((arrasref0_CopyNumbers.f k x5).bind fun t724 => (if x17 < (t724.length : Int) then (if (rd t724 x17) = 0 then (arraslaw7_HaveLaws.l1 k x0 x3 x5 x15 (wrap64 (x17 + 1)) x691000 x691001 x691002) else ((some (t724.set (x17 : Int).toNat (wrap64 ((rd t724 x17) - 1)) : List Int)).bind fun y729 => ((have_Covers.f k y729 x691000).bind fun bt730 => ((have_Covers.f k y729 x691001).bind fun bt732 => ((arraslaw7_num.f bt730.2).bind fun t734 => (if t734 = 0 then ((arraslaw7_num.f bt732.2).bind fun t735 => (if t735 = 0 then (if bt730.1 = true then (arraslaw7_HaveLaws.j5 k x0 x3 x5 x15 x17 bt732.1 x691000 x691001 x691002) else (arraslaw7_HaveLaws.j5 k x0 x3 x5 x15 x17 false x691000 x691001 x691002)) else (arraslaw7_HaveLaws.j5 k x0 x3 x5 x15 x17 true x691000 x691001 x691002))) else (arraslaw7_HaveLaws.j5 k x0 x3 x5 x15 x17 true x691000 x691001 x691002))))))) else (none))) else (some false)) else (none)) else (none)) else (none)) else (arraslaw7_HaveLaws.l0 k x0 (wrap64 (x3 + 1)))
def arraslaw7_HaveLaws.j5 : Nat → List (S86) → Int → List Int → List Int → Int → Bool → List Int → List Int → List Int → Option (Bool)
 | 0, _, _, _, _, _, _, _, _, _ => none
 | k + 1, x0, x3, x5, x15, x17, x210, x691000, x691001, x691002 => if x210 = true then (some false) else (arraslaw7_HaveLaws.l1 k x0 x3 x5 x15 (wrap64 (x17 + 1)) x691000 x691001 x691002)
end
def arraslaw7_HaveLaws.f (k : Nat) (l0 : List (S86)) : Option (Bool) := arraslaw7_HaveLaws.l0 k l0 0
theorem arraslaw7_HaveLaws.mono_l : ∀ k, (∀ y0 y1, LeO (arraslaw7_HaveLaws.l0 k y0 y1) (arraslaw7_HaveLaws.l0 (k + 1) y0 y1)) ∧ (∀ y0 y1 y2, LeO (arraslaw7_HaveLaws.j1 k y0 y1 y2) (arraslaw7_HaveLaws.j1 (k + 1) y0 y1 y2)) ∧ (∀ y0 y1 y2 y3 y4 y5, LeO (arraslaw7_HaveLaws.j2 k y0 y1 y2 y3 y4 y5) (arraslaw7_HaveLaws.j2 (k + 1) y0 y1 y2 y3 y4 y5)) ∧ (∀ y0 y1 y2 y3 y4 y5 y6 y7, LeO (arraslaw7_HaveLaws.j3 k y0 y1 y2 y3 y4 y5 y6 y7) (arraslaw7_HaveLaws.j3 (k + 1) y0 y1 y2 y3 y4 y5 y6 y7)) ∧ (∀ y0 y1 y2 y3 y4 y5 y6 y7, LeO (arraslaw7_HaveLaws.l1 k y0 y1 y2 y3 y4 y5 y6 y7) (arraslaw7_HaveLaws.l1 (k + 1) y0 y1 y2 y3 y4 y5 y6 y7)) ∧ (∀ y0 y1 y2 y3 y4 y5 y6 y7 y8, LeO (arraslaw7_HaveLaws.j5 k y0 y1 y2 y3 y4 y5 y6 y7 y8) (arraslaw7_HaveLaws.j5 (k + 1) y0 y1 y2 y3 y4 y5 y6 y7 y8))
 | 0 => ⟨fun _ _ r h => by simp [arraslaw7_HaveLaws.l0] at h, fun _ _ _ r h => by simp [arraslaw7_HaveLaws.j1] at h, fun _ _ _ _ _ _ r h => by simp [arraslaw7_HaveLaws.j2] at h, fun _ _ _ _ _ _ _ _ r h => by simp [arraslaw7_HaveLaws.j3] at h, fun _ _ _ _ _ _ _ _ r h => by simp [arraslaw7_HaveLaws.l1] at h, fun _ _ _ _ _ _ _ _ _ r h => by simp [arraslaw7_HaveLaws.j5] at h⟩
 | k + 1 => by
  obtain ⟨ih0, ih1, ih2, ih3, ih4, ih5⟩ := arraslaw7_HaveLaws.mono_l k
  refine ⟨?_, ?_, ?_, ?_, ?_, ?_⟩
  ·intro y0 y1
   unfold arraslaw7_HaveLaws.l0
   repeat' first
   | (with_reducible exact ih0 _ _)
   | (with_reducible exact ih1 _ _ _)
   | (with_reducible exact ih2 _ _ _ _ _ _)
   | (with_reducible exact ih3 _ _ _ _ _ _ _ _)
   | (with_reducible exact ih4 _ _ _ _ _ _ _ _)
   | (with_reducible exact ih5 _ _ _ _ _ _ _ _ _)
   | (with_reducible exact arraslaw7_wakes.mono _)
   | (with_reducible exact arrasref0_CopyNumbers.mono _ _)
   | (with_reducible exact arrasref0_EqNumbers.mono _ _ _)
   | (with_reducible exact arrasref6_Pair.mono _ _ _)
   | (with_reducible exact have_Covers.mono _ _ _)
   | (with_reducible exact have_Join.mono _ _ _)
   | (with_reducible exact have_Lacks.mono _ _ _)
   | (with_reducible exact LeO.refl _)
   | (with_reducible exact LeO.none _)
   | (with_reducible refine LeO.ite ?_ ?_)
   | (with_reducible refine LeO.bind ?_ (fun _ => ?_))
   | exact ih0 _ _
   | exact ih1 _ _ _
   | exact ih2 _ _ _ _ _ _
   | exact ih3 _ _ _ _ _ _ _ _
   | exact ih4 _ _ _ _ _ _ _ _
   | exact ih5 _ _ _ _ _ _ _ _ _
   | exact arraslaw7_wakes.mono _
   | exact arrasref0_CopyNumbers.mono _ _
   | exact arrasref0_EqNumbers.mono _ _ _
   | exact arrasref6_Pair.mono _ _ _
   | exact have_Covers.mono _ _ _
   | exact have_Join.mono _ _ _
   | exact have_Lacks.mono _ _ _
   | exact LeO.none _
   | refine LeO.ite ?_ ?_
   | refine LeO.bind ?_ (fun _ => ?_)
  ·intro y0 y1 y2
   unfold arraslaw7_HaveLaws.j1
   repeat' first
   | (with_reducible exact ih0 _ _)
   | (with_reducible exact ih1 _ _ _)
   | (with_reducible exact ih2 _ _ _ _ _ _)
   | (with_reducible exact ih3 _ _ _ _ _ _ _ _)
   | (with_reducible exact ih4 _ _ _ _ _ _ _ _)
   | (with_reducible exact ih5 _ _ _ _ _ _ _ _ _)
   | (with_reducible exact arraslaw7_wakes.mono _)
   | (with_reducible exact arrasref0_CopyNumbers.mono _ _)
   | (with_reducible exact arrasref0_EqNumbers.mono _ _ _)
   | (with_reducible exact arrasref6_Pair.mono _ _ _)
   | (with_reducible exact have_Covers.mono _ _ _)
   | (with_reducible exact have_Join.mono _ _ _)
   | (with_reducible exact have_Lacks.mono _ _ _)
   | (with_reducible exact LeO.refl _)
   | (with_reducible exact LeO.none _)
   | (with_reducible refine LeO.ite ?_ ?_)
   | (with_reducible refine LeO.bind ?_ (fun _ => ?_))
   | exact ih0 _ _
   | exact ih1 _ _ _
   | exact ih2 _ _ _ _ _ _
   | exact ih3 _ _ _ _ _ _ _ _
   | exact ih4 _ _ _ _ _ _ _ _
   | exact ih5 _ _ _ _ _ _ _ _ _
   | exact arraslaw7_wakes.mono _
   | exact arrasref0_CopyNumbers.mono _ _
   | exact arrasref0_EqNumbers.mono _ _ _
   | exact arrasref6_Pair.mono _ _ _
   | exact have_Covers.mono _ _ _
   | exact have_Join.mono _ _ _
   | exact have_Lacks.mono _ _ _
   | exact LeO.none _
   | refine LeO.ite ?_ ?_
   | refine LeO.bind ?_ (fun _ => ?_)
  ·intro y0 y1 y2 y3 y4 y5
   unfold arraslaw7_HaveLaws.j2
   repeat' first
   | (with_reducible exact ih0 _ _)
   | (with_reducible exact ih1 _ _ _)
   | (with_reducible exact ih2 _ _ _ _ _ _)
   | (with_reducible exact ih3 _ _ _ _ _ _ _ _)
   | (with_reducible exact ih4 _ _ _ _ _ _ _ _)
   | (with_reducible exact ih5 _ _ _ _ _ _ _ _ _)
   | (with_reducible exact arraslaw7_wakes.mono _)
   | (with_reducible exact arrasref0_CopyNumbers.mono _ _)
   | (with_reducible exact arrasref0_EqNumbers.mono _ _ _)
   | (with_reducible exact arrasref6_Pair.mono _ _ _)
   | (with_reducible exact have_Covers.mono _ _ _)
   | (with_reducible exact have_Join.mono _ _ _)
   | (with_reducible exact have_Lacks.mono _ _ _)
   | (with_reducible exact LeO.refl _)
   | (with_reducible exact LeO.none _)
   | (with_reducible refine LeO.ite ?_ ?_)
   | (with_reducible refine LeO.bind ?_ (fun _ => ?_))
   | exact ih0 _ _
   | exact ih1 _ _ _
   | exact ih2 _ _ _ _ _ _
   | exact ih3 _ _ _ _ _ _ _ _
   | exact ih4 _ _ _ _ _ _ _ _
   | exact ih5 _ _ _ _ _ _ _ _ _
   | exact arraslaw7_wakes.mono _
   | exact arrasref0_CopyNumbers.mono _ _
   | exact arrasref0_EqNumbers.mono _ _ _
   | exact arrasref6_Pair.mono _ _ _
   | exact have_Covers.mono _ _ _
   | exact have_Join.mono _ _ _
   | exact have_Lacks.mono _ _ _
   | exact LeO.none _
   | refine LeO.ite ?_ ?_
   | refine LeO.bind ?_ (fun _ => ?_)
  ·intro y0 y1 y2 y3 y4 y5 y6 y7
   unfold arraslaw7_HaveLaws.j3
   repeat' first
   | (with_reducible exact ih0 _ _)
   | (with_reducible exact ih1 _ _ _)
   | (with_reducible exact ih2 _ _ _ _ _ _)
   | (with_reducible exact ih3 _ _ _ _ _ _ _ _)
   | (with_reducible exact ih4 _ _ _ _ _ _ _ _)
   | (with_reducible exact ih5 _ _ _ _ _ _ _ _ _)
   | (with_reducible exact arraslaw7_wakes.mono _)
   | (with_reducible exact arrasref0_CopyNumbers.mono _ _)
   | (with_reducible exact arrasref0_EqNumbers.mono _ _ _)
   | (with_reducible exact arrasref6_Pair.mono _ _ _)
   | (with_reducible exact have_Covers.mono _ _ _)
   | (with_reducible exact have_Join.mono _ _ _)
   | (with_reducible exact have_Lacks.mono _ _ _)
   | (with_reducible exact LeO.refl _)
   | (with_reducible exact LeO.none _)
   | (with_reducible refine LeO.ite ?_ ?_)
   | (with_reducible refine LeO.bind ?_ (fun _ => ?_))
   | exact ih0 _ _
   | exact ih1 _ _ _
   | exact ih2 _ _ _ _ _ _
   | exact ih3 _ _ _ _ _ _ _ _
   | exact ih4 _ _ _ _ _ _ _ _
   | exact ih5 _ _ _ _ _ _ _ _ _
   | exact arraslaw7_wakes.mono _
   | exact arrasref0_CopyNumbers.mono _ _
   | exact arrasref0_EqNumbers.mono _ _ _
   | exact arrasref6_Pair.mono _ _ _
   | exact have_Covers.mono _ _ _
   | exact have_Join.mono _ _ _
   | exact have_Lacks.mono _ _ _
   | exact LeO.none _
   | refine LeO.ite ?_ ?_
   | refine LeO.bind ?_ (fun _ => ?_)
  ·intro y0 y1 y2 y3 y4 y5 y6 y7
   unfold arraslaw7_HaveLaws.l1
   repeat' first
   | (with_reducible exact ih0 _ _)
   | (with_reducible exact ih1 _ _ _)
   | (with_reducible exact ih2 _ _ _ _ _ _)
   | (with_reducible exact ih3 _ _ _ _ _ _ _ _)
   | (with_reducible exact ih4 _ _ _ _ _ _ _ _)
   | (with_reducible exact ih5 _ _ _ _ _ _ _ _ _)
   | (with_reducible exact arraslaw7_wakes.mono _)
   | (with_reducible exact arrasref0_CopyNumbers.mono _ _)
   | (with_reducible exact arrasref0_EqNumbers.mono _ _ _)
   | (with_reducible exact arrasref6_Pair.mono _ _ _)
   | (with_reducible exact have_Covers.mono _ _ _)
   | (with_reducible exact have_Join.mono _ _ _)
   | (with_reducible exact have_Lacks.mono _ _ _)
   | (with_reducible exact LeO.refl _)
   | (with_reducible exact LeO.none _)
   | (with_reducible refine LeO.ite ?_ ?_)
   | (with_reducible refine LeO.bind ?_ (fun _ => ?_))
   | exact ih0 _ _
   | exact ih1 _ _ _
   | exact ih2 _ _ _ _ _ _
   | exact ih3 _ _ _ _ _ _ _ _
   | exact ih4 _ _ _ _ _ _ _ _
   | exact ih5 _ _ _ _ _ _ _ _ _
   | exact arraslaw7_wakes.mono _
   | exact arrasref0_CopyNumbers.mono _ _
   | exact arrasref0_EqNumbers.mono _ _ _
   | exact arrasref6_Pair.mono _ _ _
   | exact have_Covers.mono _ _ _
   | exact have_Join.mono _ _ _
   | exact have_Lacks.mono _ _ _
   | exact LeO.none _
   | refine LeO.ite ?_ ?_
   | refine LeO.bind ?_ (fun _ => ?_)
  ·intro y0 y1 y2 y3 y4 y5 y6 y7 y8
   unfold arraslaw7_HaveLaws.j5
   repeat' first
   | (with_reducible exact ih0 _ _)
   | (with_reducible exact ih1 _ _ _)
   | (with_reducible exact ih2 _ _ _ _ _ _)
   | (with_reducible exact ih3 _ _ _ _ _ _ _ _)
   | (with_reducible exact ih4 _ _ _ _ _ _ _ _)
   | (with_reducible exact ih5 _ _ _ _ _ _ _ _ _)
   | (with_reducible exact arraslaw7_wakes.mono _)
   | (with_reducible exact arrasref0_CopyNumbers.mono _ _)
   | (with_reducible exact arrasref0_EqNumbers.mono _ _ _)
   | (with_reducible exact arrasref6_Pair.mono _ _ _)
   | (with_reducible exact have_Covers.mono _ _ _)
   | (with_reducible exact have_Join.mono _ _ _)
   | (with_reducible exact have_Lacks.mono _ _ _)
   | (with_reducible exact LeO.refl _)
   | (with_reducible exact LeO.none _)
   | (with_reducible refine LeO.ite ?_ ?_)
   | (with_reducible refine LeO.bind ?_ (fun _ => ?_))
   | exact ih0 _ _
   | exact ih1 _ _ _
   | exact ih2 _ _ _ _ _ _
   | exact ih3 _ _ _ _ _ _ _ _
   | exact ih4 _ _ _ _ _ _ _ _
   | exact ih5 _ _ _ _ _ _ _ _ _
   | exact arraslaw7_wakes.mono _
   | exact arrasref0_CopyNumbers.mono _ _
   | exact arrasref0_EqNumbers.mono _ _ _
   | exact arrasref6_Pair.mono _ _ _
   | exact have_Covers.mono _ _ _
   | exact have_Join.mono _ _ _
   | exact have_Lacks.mono _ _ _
   | exact LeO.none _
   | refine LeO.ite ?_ ?_
   | refine LeO.bind ?_ (fun _ => ?_)
theorem arraslaw7_HaveLaws.mono : ∀ a0 k, LeO (arraslaw7_HaveLaws.f k a0) (arraslaw7_HaveLaws.f (k + 1) a0) := by
 intro a0 k
 obtain ⟨ih0, ih1, ih2, ih3, ih4, ih5⟩ := arraslaw7_HaveLaws.mono_l k
 unfold arraslaw7_HaveLaws.f
 repeat' first
   | (with_reducible exact ih0 _ _)
   | (with_reducible exact ih1 _ _ _)
   | (with_reducible exact ih2 _ _ _ _ _ _)
   | (with_reducible exact ih3 _ _ _ _ _ _ _ _)
   | (with_reducible exact ih4 _ _ _ _ _ _ _ _)
   | (with_reducible exact ih5 _ _ _ _ _ _ _ _ _)
   | (with_reducible exact arraslaw7_wakes.mono _)
   | (with_reducible exact arrasref0_CopyNumbers.mono _ _)
   | (with_reducible exact arrasref0_EqNumbers.mono _ _ _)
   | (with_reducible exact arrasref6_Pair.mono _ _ _)
   | (with_reducible exact have_Covers.mono _ _ _)
   | (with_reducible exact have_Join.mono _ _ _)
   | (with_reducible exact have_Lacks.mono _ _ _)
   | (with_reducible exact LeO.refl _)
   | (with_reducible exact LeO.none _)
   | (with_reducible refine LeO.ite ?_ ?_)
   | (with_reducible refine LeO.bind ?_ (fun _ => ?_))
   | exact ih0 _ _
   | exact ih1 _ _ _
   | exact ih2 _ _ _ _ _ _
   | exact ih3 _ _ _ _ _ _ _ _
   | exact ih4 _ _ _ _ _ _ _ _
   | exact ih5 _ _ _ _ _ _ _ _ _
   | exact arraslaw7_wakes.mono _
   | exact arrasref0_CopyNumbers.mono _ _
   | exact arrasref0_EqNumbers.mono _ _ _
   | exact arrasref6_Pair.mono _ _ _
   | exact have_Covers.mono _ _ _
   | exact have_Join.mono _ _ _
   | exact have_Lacks.mono _ _ _
   | exact LeO.none _
   | refine LeO.ite ?_ ?_
   | refine LeO.bind ?_ (fun _ => ?_)
noncomputable def arraslaw7_HaveLaws.L0 (x0 : List (S86)) (x3 : Int) : Option (Bool) := Go.Proofs.YtpmcojmhkpaoaaaLabel.lim (fun k => arraslaw7_HaveLaws.l0 k x0 x3)
noncomputable def arraslaw7_HaveLaws.J1 (x0 : List (S86)) (x3 : Int) (x30 : Bool) : Option (Bool) := Go.Proofs.YtpmcojmhkpaoaaaLabel.lim (fun k => arraslaw7_HaveLaws.j1 k x0 x3 x30)
noncomputable def arraslaw7_HaveLaws.J2 (x0 : List (S86)) (x3 : Int) (x46 : Bool) (x691000 : List Int) (x691001 : List Int) (x691002 : List Int) : Option (Bool) := Go.Proofs.YtpmcojmhkpaoaaaLabel.lim (fun k => arraslaw7_HaveLaws.j2 k x0 x3 x46 x691000 x691001 x691002)
noncomputable def arraslaw7_HaveLaws.J3 (x0 : List (S86)) (x3 : Int) (x5 : List Int) (x15 : List Int) (x148 : Bool) (x691000 : List Int) (x691001 : List Int) (x691002 : List Int) : Option (Bool) := Go.Proofs.YtpmcojmhkpaoaaaLabel.lim (fun k => arraslaw7_HaveLaws.j3 k x0 x3 x5 x15 x148 x691000 x691001 x691002)
noncomputable def arraslaw7_HaveLaws.L1 (x0 : List (S86)) (x3 : Int) (x5 : List Int) (x15 : List Int) (x17 : Int) (x691000 : List Int) (x691001 : List Int) (x691002 : List Int) : Option (Bool) := Go.Proofs.YtpmcojmhkpaoaaaLabel.lim (fun k => arraslaw7_HaveLaws.l1 k x0 x3 x5 x15 x17 x691000 x691001 x691002)
noncomputable def arraslaw7_HaveLaws.J5 (x0 : List (S86)) (x3 : Int) (x5 : List Int) (x15 : List Int) (x17 : Int) (x210 : Bool) (x691000 : List Int) (x691001 : List Int) (x691002 : List Int) : Option (Bool) := Go.Proofs.YtpmcojmhkpaoaaaLabel.lim (fun k => arraslaw7_HaveLaws.j5 k x0 x3 x5 x15 x17 x210 x691000 x691001 x691002)
theorem arraslaw7_HaveLaws.L0_lim (x0 : List (S86)) (x3 : Int) : Go.Proofs.YtpmcojmhkpaoaaaLabel.Lim (fun k => arraslaw7_HaveLaws.l0 k x0 x3) (arraslaw7_HaveLaws.L0 x0 x3) := Go.Proofs.YtpmcojmhkpaoaaaLabel.lim_spec (fun k => (arraslaw7_HaveLaws.mono_l k).1 x0 x3)
theorem arraslaw7_HaveLaws.J1_lim (x0 : List (S86)) (x3 : Int) (x30 : Bool) : Go.Proofs.YtpmcojmhkpaoaaaLabel.Lim (fun k => arraslaw7_HaveLaws.j1 k x0 x3 x30) (arraslaw7_HaveLaws.J1 x0 x3 x30) := Go.Proofs.YtpmcojmhkpaoaaaLabel.lim_spec (fun k => (arraslaw7_HaveLaws.mono_l k).2.1 x0 x3 x30)
theorem arraslaw7_HaveLaws.J2_lim (x0 : List (S86)) (x3 : Int) (x46 : Bool) (x691000 : List Int) (x691001 : List Int) (x691002 : List Int) : Go.Proofs.YtpmcojmhkpaoaaaLabel.Lim (fun k => arraslaw7_HaveLaws.j2 k x0 x3 x46 x691000 x691001 x691002) (arraslaw7_HaveLaws.J2 x0 x3 x46 x691000 x691001 x691002) := Go.Proofs.YtpmcojmhkpaoaaaLabel.lim_spec (fun k => (arraslaw7_HaveLaws.mono_l k).2.2.1 x0 x3 x46 x691000 x691001 x691002)
theorem arraslaw7_HaveLaws.J3_lim (x0 : List (S86)) (x3 : Int) (x5 : List Int) (x15 : List Int) (x148 : Bool) (x691000 : List Int) (x691001 : List Int) (x691002 : List Int) : Go.Proofs.YtpmcojmhkpaoaaaLabel.Lim (fun k => arraslaw7_HaveLaws.j3 k x0 x3 x5 x15 x148 x691000 x691001 x691002) (arraslaw7_HaveLaws.J3 x0 x3 x5 x15 x148 x691000 x691001 x691002) := Go.Proofs.YtpmcojmhkpaoaaaLabel.lim_spec (fun k => (arraslaw7_HaveLaws.mono_l k).2.2.2.1 x0 x3 x5 x15 x148 x691000 x691001 x691002)
theorem arraslaw7_HaveLaws.L1_lim (x0 : List (S86)) (x3 : Int) (x5 : List Int) (x15 : List Int) (x17 : Int) (x691000 : List Int) (x691001 : List Int) (x691002 : List Int) : Go.Proofs.YtpmcojmhkpaoaaaLabel.Lim (fun k => arraslaw7_HaveLaws.l1 k x0 x3 x5 x15 x17 x691000 x691001 x691002) (arraslaw7_HaveLaws.L1 x0 x3 x5 x15 x17 x691000 x691001 x691002) := Go.Proofs.YtpmcojmhkpaoaaaLabel.lim_spec (fun k => (arraslaw7_HaveLaws.mono_l k).2.2.2.2.1 x0 x3 x5 x15 x17 x691000 x691001 x691002)
theorem arraslaw7_HaveLaws.J5_lim (x0 : List (S86)) (x3 : Int) (x5 : List Int) (x15 : List Int) (x17 : Int) (x210 : Bool) (x691000 : List Int) (x691001 : List Int) (x691002 : List Int) : Go.Proofs.YtpmcojmhkpaoaaaLabel.Lim (fun k => arraslaw7_HaveLaws.j5 k x0 x3 x5 x15 x17 x210 x691000 x691001 x691002) (arraslaw7_HaveLaws.J5 x0 x3 x5 x15 x17 x210 x691000 x691001 x691002) := Go.Proofs.YtpmcojmhkpaoaaaLabel.lim_spec (fun k => (arraslaw7_HaveLaws.mono_l k).2.2.2.2.2 x0 x3 x5 x15 x17 x210 x691000 x691001 x691002)
theorem arraslaw7_HaveLaws.L0_eq (x0 : List (S86)) (x3 : Int) : arraslaw7_HaveLaws.L0 x0 x3 = (if x3 < (x0.length : Int) then (arraslaw7_HaveLaws.J1 x0 x3 (decide (x3 < 15))) else (arraslaw7_HaveLaws.J1 x0 x3 false)) := by
  refine Go.Proofs.YtpmcojmhkpaoaaaLabel.Lim.unique (arraslaw7_HaveLaws.L0_lim x0 x3).shift ?_
  simp only [arraslaw7_HaveLaws.l0]
  (repeat' (first | exact Go.Proofs.YtpmcojmhkpaoaaaLabel.Lim.const _ | exact arraslaw7_HaveLaws.L0_lim _ _ | exact arraslaw7_HaveLaws.J1_lim _ _ _ | exact arraslaw7_HaveLaws.J2_lim _ _ _ _ _ _ | exact arraslaw7_HaveLaws.J3_lim _ _ _ _ _ _ _ _ | exact arraslaw7_HaveLaws.L1_lim _ _ _ _ _ _ _ _ | exact arraslaw7_HaveLaws.J5_lim _ _ _ _ _ _ _ _ _ | exact arraslaw7_wakes.F_lim | exact arrasref0_CopyNumbers.F_lim _ | exact arrasref0_EqNumbers.F_lim _ _ | exact arrasref6_Pair.F_lim _ _ | exact have_Covers.F_lim _ _ | exact have_Join.F_lim _ _ | exact have_Lacks.F_lim _ _ | refine Go.Proofs.YtpmcojmhkpaoaaaLabel.Lim.ite ?_ ?_ | refine Go.Proofs.YtpmcojmhkpaoaaaLabel.Lim.bind ?_ (fun _ => ?_)))
theorem arraslaw7_HaveLaws.J1_eq (x0 : List (S86)) (x3 : Int) (x30 : Bool) : arraslaw7_HaveLaws.J1 x0 x3 x30 = (if x30 = true then (if 0 ≤ x3 then (if x3 < (x0.length : Int) then ((arraslaw7_heavy.f ((rd_T86 x0 x3).f0) ((rd_T86 x0 x3).f1) ((rd_T86 x0 x3).f2)).bind fun t691 => (if t691 = true then (arraslaw7_HaveLaws.J2 x0 x3 true ((rd_T86 x0 x3).f0) ((rd_T86 x0 x3).f1) ((rd_T86 x0 x3).f2)) else ((arrasref6_Pair.F ((rd_T86 x0 x3).f0) ((rd_T86 x0 x3).f1)).bind fun t692 => (arraslaw7_HaveLaws.J2 x0 x3 (!t692) ((rd_T86 x0 x3).f0) ((rd_T86 x0 x3).f1) ((rd_T86 x0 x3).f2))))) else (none)) else (none)) else ((arraslaw7_wakes.F).bind fun t688 => (some t688))) := by
  refine Go.Proofs.YtpmcojmhkpaoaaaLabel.Lim.unique (arraslaw7_HaveLaws.J1_lim x0 x3 x30).shift ?_
  simp only [arraslaw7_HaveLaws.j1]
  (repeat' (first | exact Go.Proofs.YtpmcojmhkpaoaaaLabel.Lim.const _ | exact arraslaw7_HaveLaws.L0_lim _ _ | exact arraslaw7_HaveLaws.J1_lim _ _ _ | exact arraslaw7_HaveLaws.J2_lim _ _ _ _ _ _ | exact arraslaw7_HaveLaws.J3_lim _ _ _ _ _ _ _ _ | exact arraslaw7_HaveLaws.L1_lim _ _ _ _ _ _ _ _ | exact arraslaw7_HaveLaws.J5_lim _ _ _ _ _ _ _ _ _ | exact arraslaw7_wakes.F_lim | exact arrasref0_CopyNumbers.F_lim _ | exact arrasref0_EqNumbers.F_lim _ _ | exact arrasref6_Pair.F_lim _ _ | exact have_Covers.F_lim _ _ | exact have_Join.F_lim _ _ | exact have_Lacks.F_lim _ _ | refine Go.Proofs.YtpmcojmhkpaoaaaLabel.Lim.ite ?_ ?_ | refine Go.Proofs.YtpmcojmhkpaoaaaLabel.Lim.bind ?_ (fun _ => ?_)))
theorem arraslaw7_HaveLaws.J2_eq (x0 : List (S86)) (x3 : Int) (x46 : Bool) (x691000 : List Int) (x691001 : List Int) (x691002 : List Int) : arraslaw7_HaveLaws.J2 x0 x3 x46 x691000 x691001 x691002 = (if x46 = true then (arraslaw7_HaveLaws.L0 x0 (wrap64 (x3 + 1))) else ((have_Join.F x691000 x691001).bind fun bt693 => ((have_Join.F x691001 x691000).bind fun bt697 => ((have_Join.F x691000 x691000).bind fun bt701 => ((have_Covers.F bt693.1 x691000).bind fun bt705 => ((have_Covers.F bt693.1 x691001).bind fun bt707 => ((have_Lacks.F x691000 x691001).bind fun bt709 => ((arraslaw7_num.f bt693.2).bind fun t713 => (if t713 = 0 then ((arraslaw7_num.f bt697.2).bind fun t714 => (if t714 = 0 then ((arraslaw7_num.f bt701.2).bind fun t715 => (if t715 = 0 then ((arraslaw7_num.f bt705.2).bind fun t716 => (if t716 = 0 then ((arraslaw7_num.f bt707.2).bind fun t717 => (if t717 = 0 then ((arraslaw7_num.f bt709.2).bind fun t718 => (if t718 = 0 then ((arrasref0_EqNumbers.F bt693.1 bt697.1).bind fun t719 => (if t719 = true then ((arrasref0_EqNumbers.F bt701.1 x691000).bind fun t720 => (if t720 = true then (if bt705.1 = true then (if bt707.1 = true then (arraslaw7_HaveLaws.J3 x0 x3 bt693.1 bt709.1 ((bt709.1.length : Int) != (bt693.1.length : Int)) x691000 x691001 x691002) else (arraslaw7_HaveLaws.J3 x0 x3 bt693.1 bt709.1 true x691000 x691001 x691002)) else (arraslaw7_HaveLaws.J3 x0 x3 bt693.1 bt709.1 true x691000 x691001 x691002)) else (arraslaw7_HaveLaws.J3 x0 x3 bt693.1 bt709.1 true x691000 x691001 x691002))) else (arraslaw7_HaveLaws.J3 x0 x3 bt693.1 bt709.1 true x691000 x691001 x691002))) else (arraslaw7_HaveLaws.J3 x0 x3 bt693.1 bt709.1 true x691000 x691001 x691002))) else (arraslaw7_HaveLaws.J3 x0 x3 bt693.1 bt709.1 true x691000 x691001 x691002))) else (arraslaw7_HaveLaws.J3 x0 x3 bt693.1 bt709.1 true x691000 x691001 x691002))) else (arraslaw7_HaveLaws.J3 x0 x3 bt693.1 bt709.1 true x691000 x691001 x691002))) else (arraslaw7_HaveLaws.J3 x0 x3 bt693.1 bt709.1 true x691000 x691001 x691002))) else (arraslaw7_HaveLaws.J3 x0 x3 bt693.1 bt709.1 true x691000 x691001 x691002)))))))))) := by
  refine Go.Proofs.YtpmcojmhkpaoaaaLabel.Lim.unique (arraslaw7_HaveLaws.J2_lim x0 x3 x46 x691000 x691001 x691002).shift ?_
  simp only [arraslaw7_HaveLaws.j2]
  (repeat' (first | exact Go.Proofs.YtpmcojmhkpaoaaaLabel.Lim.const _ | exact arraslaw7_HaveLaws.L0_lim _ _ | exact arraslaw7_HaveLaws.J1_lim _ _ _ | exact arraslaw7_HaveLaws.J2_lim _ _ _ _ _ _ | exact arraslaw7_HaveLaws.J3_lim _ _ _ _ _ _ _ _ | exact arraslaw7_HaveLaws.L1_lim _ _ _ _ _ _ _ _ | exact arraslaw7_HaveLaws.J5_lim _ _ _ _ _ _ _ _ _ | exact arraslaw7_wakes.F_lim | exact arrasref0_CopyNumbers.F_lim _ | exact arrasref0_EqNumbers.F_lim _ _ | exact arrasref6_Pair.F_lim _ _ | exact have_Covers.F_lim _ _ | exact have_Join.F_lim _ _ | exact have_Lacks.F_lim _ _ | refine Go.Proofs.YtpmcojmhkpaoaaaLabel.Lim.ite ?_ ?_ | refine Go.Proofs.YtpmcojmhkpaoaaaLabel.Lim.bind ?_ (fun _ => ?_)))
theorem arraslaw7_HaveLaws.J3_eq (x0 : List (S86)) (x3 : Int) (x5 : List Int) (x15 : List Int) (x148 : Bool) (x691000 : List Int) (x691001 : List Int) (x691002 : List Int) : arraslaw7_HaveLaws.J3 x0 x3 x5 x15 x148 x691000 x691001 x691002 = (if x148 = true then (some false) else (arraslaw7_HaveLaws.L1 x0 x3 x5 x15 0 x691000 x691001 x691002)) := by
  refine Go.Proofs.YtpmcojmhkpaoaaaLabel.Lim.unique (arraslaw7_HaveLaws.J3_lim x0 x3 x5 x15 x148 x691000 x691001 x691002).shift ?_
  simp only [arraslaw7_HaveLaws.j3]
  (repeat' (first | exact Go.Proofs.YtpmcojmhkpaoaaaLabel.Lim.const _ | exact arraslaw7_HaveLaws.L0_lim _ _ | exact arraslaw7_HaveLaws.J1_lim _ _ _ | exact arraslaw7_HaveLaws.J2_lim _ _ _ _ _ _ | exact arraslaw7_HaveLaws.J3_lim _ _ _ _ _ _ _ _ | exact arraslaw7_HaveLaws.L1_lim _ _ _ _ _ _ _ _ | exact arraslaw7_HaveLaws.J5_lim _ _ _ _ _ _ _ _ _ | exact arraslaw7_wakes.F_lim | exact arrasref0_CopyNumbers.F_lim _ | exact arrasref0_EqNumbers.F_lim _ _ | exact arrasref6_Pair.F_lim _ _ | exact have_Covers.F_lim _ _ | exact have_Join.F_lim _ _ | exact have_Lacks.F_lim _ _ | refine Go.Proofs.YtpmcojmhkpaoaaaLabel.Lim.ite ?_ ?_ | refine Go.Proofs.YtpmcojmhkpaoaaaLabel.Lim.bind ?_ (fun _ => ?_)))
theorem arraslaw7_HaveLaws.L1_eq (x0 : List (S86)) (x3 : Int) (x5 : List Int) (x15 : List Int) (x17 : Int) (x691000 : List Int) (x691001 : List Int) (x691002 : List Int) : arraslaw7_HaveLaws.L1 x0 x3 x5 x15 x17 x691000 x691001 x691002 = (if x17 < (x5.length : Int) then (if 0 ≤ x17 then (if x17 < (x691000.length : Int) then (if x17 < (x15.length : Int) then (if (wrap64 ((rd x691000 x17) + (rd x15 x17))) = (rd x5 x17) then ((arrasref0_CopyNumbers.F x5).bind fun t724 => (if x17 < (t724.length : Int) then (if (rd t724 x17) = 0 then (arraslaw7_HaveLaws.L1 x0 x3 x5 x15 (wrap64 (x17 + 1)) x691000 x691001 x691002) else ((some (t724.set (x17 : Int).toNat (wrap64 ((rd t724 x17) - 1)) : List Int)).bind fun y729 => ((have_Covers.F y729 x691000).bind fun bt730 => ((have_Covers.F y729 x691001).bind fun bt732 => ((arraslaw7_num.f bt730.2).bind fun t734 => (if t734 = 0 then ((arraslaw7_num.f bt732.2).bind fun t735 => (if t735 = 0 then (if bt730.1 = true then (arraslaw7_HaveLaws.J5 x0 x3 x5 x15 x17 bt732.1 x691000 x691001 x691002) else (arraslaw7_HaveLaws.J5 x0 x3 x5 x15 x17 false x691000 x691001 x691002)) else (arraslaw7_HaveLaws.J5 x0 x3 x5 x15 x17 true x691000 x691001 x691002))) else (arraslaw7_HaveLaws.J5 x0 x3 x5 x15 x17 true x691000 x691001 x691002))))))) else (none))) else (some false)) else (none)) else (none)) else (none)) else (arraslaw7_HaveLaws.L0 x0 (wrap64 (x3 + 1)))) := by
  refine Go.Proofs.YtpmcojmhkpaoaaaLabel.Lim.unique (arraslaw7_HaveLaws.L1_lim x0 x3 x5 x15 x17 x691000 x691001 x691002).shift ?_
  simp only [arraslaw7_HaveLaws.l1]
  (repeat' (first | exact Go.Proofs.YtpmcojmhkpaoaaaLabel.Lim.const _ | exact arraslaw7_HaveLaws.L0_lim _ _ | exact arraslaw7_HaveLaws.J1_lim _ _ _ | exact arraslaw7_HaveLaws.J2_lim _ _ _ _ _ _ | exact arraslaw7_HaveLaws.J3_lim _ _ _ _ _ _ _ _ | exact arraslaw7_HaveLaws.L1_lim _ _ _ _ _ _ _ _ | exact arraslaw7_HaveLaws.J5_lim _ _ _ _ _ _ _ _ _ | exact arraslaw7_wakes.F_lim | exact arrasref0_CopyNumbers.F_lim _ | exact arrasref0_EqNumbers.F_lim _ _ | exact arrasref6_Pair.F_lim _ _ | exact have_Covers.F_lim _ _ | exact have_Join.F_lim _ _ | exact have_Lacks.F_lim _ _ | refine Go.Proofs.YtpmcojmhkpaoaaaLabel.Lim.ite ?_ ?_ | refine Go.Proofs.YtpmcojmhkpaoaaaLabel.Lim.bind ?_ (fun _ => ?_)))
theorem arraslaw7_HaveLaws.J5_eq (x0 : List (S86)) (x3 : Int) (x5 : List Int) (x15 : List Int) (x17 : Int) (x210 : Bool) (x691000 : List Int) (x691001 : List Int) (x691002 : List Int) : arraslaw7_HaveLaws.J5 x0 x3 x5 x15 x17 x210 x691000 x691001 x691002 = (if x210 = true then (some false) else (arraslaw7_HaveLaws.L1 x0 x3 x5 x15 (wrap64 (x17 + 1)) x691000 x691001 x691002)) := by
  refine Go.Proofs.YtpmcojmhkpaoaaaLabel.Lim.unique (arraslaw7_HaveLaws.J5_lim x0 x3 x5 x15 x17 x210 x691000 x691001 x691002).shift ?_
  simp only [arraslaw7_HaveLaws.j5]
  (repeat' (first | exact Go.Proofs.YtpmcojmhkpaoaaaLabel.Lim.const _ | exact arraslaw7_HaveLaws.L0_lim _ _ | exact arraslaw7_HaveLaws.J1_lim _ _ _ | exact arraslaw7_HaveLaws.J2_lim _ _ _ _ _ _ | exact arraslaw7_HaveLaws.J3_lim _ _ _ _ _ _ _ _ | exact arraslaw7_HaveLaws.L1_lim _ _ _ _ _ _ _ _ | exact arraslaw7_HaveLaws.J5_lim _ _ _ _ _ _ _ _ _ | exact arraslaw7_wakes.F_lim | exact arrasref0_CopyNumbers.F_lim _ | exact arrasref0_EqNumbers.F_lim _ _ | exact arrasref6_Pair.F_lim _ _ | exact have_Covers.F_lim _ _ | exact have_Join.F_lim _ _ | exact have_Lacks.F_lim _ _ | refine Go.Proofs.YtpmcojmhkpaoaaaLabel.Lim.ite ?_ ?_ | refine Go.Proofs.YtpmcojmhkpaoaaaLabel.Lim.bind ?_ (fun _ => ?_)))
noncomputable def arraslaw7_HaveLaws.F (l0 : List (S86)) : Option (Bool) := Go.Proofs.YtpmcojmhkpaoaaaLabel.lim (fun k => arraslaw7_HaveLaws.f k l0)
theorem arraslaw7_HaveLaws.F_lim (l0 : List (S86)) : Go.Proofs.YtpmcojmhkpaoaaaLabel.Lim (fun k => arraslaw7_HaveLaws.f k l0) (arraslaw7_HaveLaws.F l0) := Go.Proofs.YtpmcojmhkpaoaaaLabel.lim_spec (arraslaw7_HaveLaws.mono l0)
theorem arraslaw7_HaveLaws.F_eq (l0 : List (S86)) : arraslaw7_HaveLaws.F l0 = (arraslaw7_HaveLaws.L0 l0 0) := by
  refine Go.Proofs.YtpmcojmhkpaoaaaLabel.Lim.unique (arraslaw7_HaveLaws.F_lim l0) ?_
  simp only [arraslaw7_HaveLaws.f]
  (repeat' (first | exact Go.Proofs.YtpmcojmhkpaoaaaLabel.Lim.const _ | exact arraslaw7_HaveLaws.L0_lim _ _ | exact arraslaw7_HaveLaws.J1_lim _ _ _ | exact arraslaw7_HaveLaws.J2_lim _ _ _ _ _ _ | exact arraslaw7_HaveLaws.J3_lim _ _ _ _ _ _ _ _ | exact arraslaw7_HaveLaws.L1_lim _ _ _ _ _ _ _ _ | exact arraslaw7_HaveLaws.J5_lim _ _ _ _ _ _ _ _ _ | exact arraslaw7_wakes.F_lim | exact arrasref0_CopyNumbers.F_lim _ | exact arrasref0_EqNumbers.F_lim _ _ | exact arrasref6_Pair.F_lim _ _ | exact have_Covers.F_lim _ _ | exact have_Join.F_lim _ _ | exact have_Lacks.F_lim _ _ | refine Go.Proofs.YtpmcojmhkpaoaaaLabel.Lim.ite ?_ ?_ | refine Go.Proofs.YtpmcojmhkpaoaaaLabel.Lim.bind ?_ (fun _ => ?_)))

/-! #### have_Count: function 64 -/
def have_Count.l0 : Nat → Int → List Int → Int → Int → Option (Int × Int)
 | 0, _, _, _, _ => none
 | k + 1, x2, x9, x10, x11 => if x11 < x10 then (if 0 ≤ x11 then (if x11 < (x9.length : Int) then (have_Count.l0 k (wrap64 (x2 + (rd x9 x11))) x9 x10 (wrap64 (x11 + 1))) else (none)) else (none)) else (some (x2, 0))
def have_Count.f (k : Nat) (l0 : List Int) : Option (Int × Int) := (have_Is.f k l0).bind fun t736 => (if t736 = true then (have_Count.l0 k 0 l0 (l0.length : Int) 0) else (some (0, 1)))
theorem have_Count.mono_l : ∀ k, (∀ y0 y1 y2 y3, LeO (have_Count.l0 k y0 y1 y2 y3) (have_Count.l0 (k + 1) y0 y1 y2 y3))
 | 0 => fun _ _ _ _ r h => by simp [have_Count.l0] at h
 | k + 1 => by
  have ih0 := have_Count.mono_l k
  ·intro y0 y1 y2 y3
   unfold have_Count.l0
   repeat' first
   | (with_reducible exact ih0 _ _ _ _)
   | (with_reducible exact have_Is.mono _ _)
   | (with_reducible exact LeO.refl _)
   | (with_reducible exact LeO.none _)
   | (with_reducible refine LeO.ite ?_ ?_)
   | (with_reducible refine LeO.bind ?_ (fun _ => ?_))
   | exact ih0 _ _ _ _
   | exact have_Is.mono _ _
   | exact LeO.none _
   | refine LeO.ite ?_ ?_
   | refine LeO.bind ?_ (fun _ => ?_)
theorem have_Count.mono : ∀ a0 k, LeO (have_Count.f k a0) (have_Count.f (k + 1) a0) := by
 intro a0 k
 have ih0 := have_Count.mono_l k
 unfold have_Count.f
 repeat' first
   | (with_reducible exact ih0 _ _ _ _)
   | (with_reducible exact have_Is.mono _ _)
   | (with_reducible exact LeO.refl _)
   | (with_reducible exact LeO.none _)
   | (with_reducible refine LeO.ite ?_ ?_)
   | (with_reducible refine LeO.bind ?_ (fun _ => ?_))
   | exact ih0 _ _ _ _
   | exact have_Is.mono _ _
   | exact LeO.none _
   | refine LeO.ite ?_ ?_
   | refine LeO.bind ?_ (fun _ => ?_)
noncomputable def have_Count.L0 (x2 : Int) (x9 : List Int) (x10 : Int) (x11 : Int) : Option (Int × Int) := Go.Proofs.YtpmcojmhkpaoaaaLabel.lim (fun k => have_Count.l0 k x2 x9 x10 x11)
theorem have_Count.L0_lim (x2 : Int) (x9 : List Int) (x10 : Int) (x11 : Int) : Go.Proofs.YtpmcojmhkpaoaaaLabel.Lim (fun k => have_Count.l0 k x2 x9 x10 x11) (have_Count.L0 x2 x9 x10 x11) := Go.Proofs.YtpmcojmhkpaoaaaLabel.lim_spec (fun k => (have_Count.mono_l k) x2 x9 x10 x11)
theorem have_Count.L0_eq (x2 : Int) (x9 : List Int) (x10 : Int) (x11 : Int) : have_Count.L0 x2 x9 x10 x11 = (if x11 < x10 then (if 0 ≤ x11 then (if x11 < (x9.length : Int) then (have_Count.L0 (wrap64 (x2 + (rd x9 x11))) x9 x10 (wrap64 (x11 + 1))) else (none)) else (none)) else (some (x2, 0))) := by
  refine Go.Proofs.YtpmcojmhkpaoaaaLabel.Lim.unique (have_Count.L0_lim x2 x9 x10 x11).shift ?_
  simp only [have_Count.l0]
  (repeat' (first | exact Go.Proofs.YtpmcojmhkpaoaaaLabel.Lim.const _ | exact have_Count.L0_lim _ _ _ _ | exact have_Is.F_lim _ | refine Go.Proofs.YtpmcojmhkpaoaaaLabel.Lim.ite ?_ ?_ | refine Go.Proofs.YtpmcojmhkpaoaaaLabel.Lim.bind ?_ (fun _ => ?_)))
noncomputable def have_Count.F (l0 : List Int) : Option (Int × Int) := Go.Proofs.YtpmcojmhkpaoaaaLabel.lim (fun k => have_Count.f k l0)
theorem have_Count.F_lim (l0 : List Int) : Go.Proofs.YtpmcojmhkpaoaaaLabel.Lim (fun k => have_Count.f k l0) (have_Count.F l0) := Go.Proofs.YtpmcojmhkpaoaaaLabel.lim_spec (have_Count.mono l0)
theorem have_Count.F_eq (l0 : List Int) : have_Count.F l0 = ((have_Is.F l0).bind fun t736 => (if t736 = true then (have_Count.L0 0 l0 (l0.length : Int) 0) else (some (0, 1)))) := by
  refine Go.Proofs.YtpmcojmhkpaoaaaLabel.Lim.unique (have_Count.F_lim l0) ?_
  simp only [have_Count.f]
  (repeat' (first | exact Go.Proofs.YtpmcojmhkpaoaaaLabel.Lim.const _ | exact have_Count.L0_lim _ _ _ _ | exact have_Is.F_lim _ | refine Go.Proofs.YtpmcojmhkpaoaaaLabel.Lim.ite ?_ ?_ | refine Go.Proofs.YtpmcojmhkpaoaaaLabel.Lim.bind ?_ (fun _ => ?_)))

/-! #### arraslaw7_HaveLacks: function 14 -/
mutual
def arraslaw7_HaveLacks.l0 : Nat → List (S86) → Int → Option (Bool)
 | 0, _, _ => none
 | k + 1, x0, x3 => if x3 < (x0.length : Int) then (arraslaw7_HaveLacks.j1 k x0 x3 (decide (x3 < 15))) else (arraslaw7_HaveLacks.j1 k x0 x3 false)
def arraslaw7_HaveLacks.j1 : Nat → List (S86) → Int → Bool → Option (Bool)
 | 0, _, _, _ => none
 | k + 1, x0, x3, x28 => if x28 = true then (if 0 ≤ x3 then (if x3 < (x0.length : Int) then ((arraslaw7_heavy.f ((rd_T86 x0 x3).f0) ((rd_T86 x0 x3).f1) ((rd_T86 x0 x3).f2)).bind fun t741 => (if t741 = true then (arraslaw7_HaveLacks.j2 k x0 x3 true ((rd_T86 x0 x3).f0) ((rd_T86 x0 x3).f1) ((rd_T86 x0 x3).f2)) else ((arrasref6_Pair.f k ((rd_T86 x0 x3).f0) ((rd_T86 x0 x3).f1)).bind fun t742 => (arraslaw7_HaveLacks.j2 k x0 x3 (!t742) ((rd_T86 x0 x3).f0) ((rd_T86 x0 x3).f1) ((rd_T86 x0 x3).f2))))) else (none)) else (none)) else ((arraslaw7_wakes.f k).bind fun t738 => (some t738))
def arraslaw7_HaveLacks.j2 : Nat → List (S86) → Int → Bool → List Int → List Int → List Int → Option (Bool)
 | 0, _, _, _, _, _, _ => none
 | k + 1, x0, x3, x44, x741000, x741001, x741002 => if x44 = true then (arraslaw7_HaveLacks.l0 k x0 (wrap64 (x3 + 1))) else ((have_Lacks.f k x741000 x741001).bind fun bt743 => ((have_Join.f k x741000 x741001).bind fun bt747 => ((arraslaw7_num.f bt743.2).bind fun t751 => (if t751 = 0 then ((arraslaw7_num.f bt747.2).bind fun t752 => (arraslaw7_HaveLacks.j3 k x0 x3 bt743.1 bt747.1 (t752 != 0) x741000 x741001 x741002)) else (arraslaw7_HaveLacks.j3 k x0 x3 bt743.1 bt747.1 true x741000 x741001 x741002)))))
def arraslaw7_HaveLacks.j3 : Nat → List (S86) → Int → List Int → List Int → Bool → List Int → List Int → List Int → Option (Bool)
 | 0, _, _, _, _, _, _, _, _ => none
 | k + 1, x0, x3, x5, x7, x68, x741000, x741001, x741002 => if x68 = true then (some false) else ((have_Lacks.f k x7 x741001).bind fun bt753 => ((have_Covers.f k x741000 x741001).bind fun bt757 => (arraslaw7_HaveLacks.l1 k x0 x3 x5 x7 bt753.1 bt753.2 bt757.1 bt757.2 true 0 x741000 x741001 x741002)))
def arraslaw7_HaveLacks.l1 : Nat → List (S86) → Int → List Int → List Int → List Int → Int → Bool → Int → Bool → Int → List Int → List Int → List Int → Option (Bool)
 | 0, _, _, _, _, _, _, _, _, _, _, _, _, _ => none
 | k + 1, x0, x3, x5, x7, x9, x10, x11, x12, x13, x14, x741000, x741001, x741002 => if x14 < (x5.length : Int) then (if x13 = true then (if 0 ≤ x14 then (arraslaw7_HaveLacks.l1 k x0 x3 x5 x7 x9 x10 x11 x12 ((rd x5 x14) == 0) (wrap64 (x14 + 1)) x741000 x741001 x741002) else (none)) else (arraslaw7_HaveLacks.l1 k x0 x3 x5 x7 x9 x10 x11 x12 false (wrap64 (x14 + 1)) x741000 x741001 x741002)) else ((have_Count.f k x741000).bind fun bt760 => ((have_Count.f k x7).bind fun bt762 => (arraslaw7_HaveLacks.l2 k x0 x3 x5 x9 x10 x11 x12 x13 bt760.1 bt760.2 bt762.1 bt762.2 0 0)))
def arraslaw7_HaveLacks.l2 : Nat → List (S86) → Int → List Int → List Int → Int → Bool → Int → Bool → Int → Int → Int → Int → Int → Int → Option (Bool)
 | 0, _, _, _, _, _, _, _, _, _, _, _, _, _, _ => none
 | k + 1, x0, x3, x5, x9, x10, x11, x12, x13, x15, x16, x17, x18, x19, x20 => if x20 < (x5.length : Int) then (if 0 ≤ x20 then (if x20 < (x9.length : Int) then (if (rd x9 x20) = 0 then (arraslaw7_HaveLacks.l2 k x0 x3 x5 x9 x10 x11 x12 x13 x15 x16 x17 x18 (wrap64 (x19 + (rd x5 x20))) (wrap64 (x20 + 1))) else (some false)) else (none)) else (none)) else ((arraslaw7_num.f x10).bind fun t766 => (if t766 = 0 then ((arraslaw7_num.f x12).bind fun t767 => (if t767 = 0 then ((arraslaw7_num.f x16).bind fun t768 => (if t768 = 0 then ((arraslaw7_num.f x18).bind fun t769 => (if t769 = 0 then (if (x11 != x13) = true then (arraslaw7_HaveLacks.j6 k x0 x3 true) else (arraslaw7_HaveLacks.j6 k x0 x3 (x17 != (wrap64 (x15 + x19))))) else (arraslaw7_HaveLacks.j6 k x0 x3 true))) else (arraslaw7_HaveLacks.j6 k x0 x3 true))) else (arraslaw7_HaveLacks.j6 k x0 x3 true))) else (arraslaw7_HaveLacks.j6 k x0 x3 true)))
def arraslaw7_HaveLacks.j6 : Nat → List (S86) → Int → Bool → Option (Bool)
 | 0, _, _, _ => none
 | k + 1, x0, x3, x155 => if x155 = true then (some false) else (arraslaw7_HaveLacks.l0 k x0 (wrap64 (x3 + 1)))
end
def arraslaw7_HaveLacks.f (k : Nat) (l0 : List (S86)) : Option (Bool) := arraslaw7_HaveLacks.l0 k l0 0
theorem arraslaw7_HaveLacks.mono_l : ∀ k, (∀ y0 y1, LeO (arraslaw7_HaveLacks.l0 k y0 y1) (arraslaw7_HaveLacks.l0 (k + 1) y0 y1)) ∧ (∀ y0 y1 y2, LeO (arraslaw7_HaveLacks.j1 k y0 y1 y2) (arraslaw7_HaveLacks.j1 (k + 1) y0 y1 y2)) ∧ (∀ y0 y1 y2 y3 y4 y5, LeO (arraslaw7_HaveLacks.j2 k y0 y1 y2 y3 y4 y5) (arraslaw7_HaveLacks.j2 (k + 1) y0 y1 y2 y3 y4 y5)) ∧ (∀ y0 y1 y2 y3 y4 y5 y6 y7, LeO (arraslaw7_HaveLacks.j3 k y0 y1 y2 y3 y4 y5 y6 y7) (arraslaw7_HaveLacks.j3 (k + 1) y0 y1 y2 y3 y4 y5 y6 y7)) ∧ (∀ y0 y1 y2 y3 y4 y5 y6 y7 y8 y9 y10 y11 y12, LeO (arraslaw7_HaveLacks.l1 k y0 y1 y2 y3 y4 y5 y6 y7 y8 y9 y10 y11 y12) (arraslaw7_HaveLacks.l1 (k + 1) y0 y1 y2 y3 y4 y5 y6 y7 y8 y9 y10 y11 y12)) ∧ (∀ y0 y1 y2 y3 y4 y5 y6 y7 y8 y9 y10 y11 y12 y13, LeO (arraslaw7_HaveLacks.l2 k y0 y1 y2 y3 y4 y5 y6 y7 y8 y9 y10 y11 y12 y13) (arraslaw7_HaveLacks.l2 (k + 1) y0 y1 y2 y3 y4 y5 y6 y7 y8 y9 y10 y11 y12 y13)) ∧ (∀ y0 y1 y2, LeO (arraslaw7_HaveLacks.j6 k y0 y1 y2) (arraslaw7_HaveLacks.j6 (k + 1) y0 y1 y2))
 | 0 => ⟨fun _ _ r h => by simp [arraslaw7_HaveLacks.l0] at h, fun _ _ _ r h => by simp [arraslaw7_HaveLacks.j1] at h, fun _ _ _ _ _ _ r h => by simp [arraslaw7_HaveLacks.j2] at h, fun _ _ _ _ _ _ _ _ r h => by simp [arraslaw7_HaveLacks.j3] at h, fun _ _ _ _ _ _ _ _ _ _ _ _ _ r h => by simp [arraslaw7_HaveLacks.l1] at h, fun _ _ _ _ _ _ _ _ _ _ _ _ _ _ r h => by simp [arraslaw7_HaveLacks.l2] at h, fun _ _ _ r h => by simp [arraslaw7_HaveLacks.j6] at h⟩
 | k + 1 => by
  obtain ⟨ih0, ih1, ih2, ih3, ih4, ih5, ih6⟩ := arraslaw7_HaveLacks.mono_l k
  refine ⟨?_, ?_, ?_, ?_, ?_, ?_, ?_⟩
  ·intro y0 y1
   unfold arraslaw7_HaveLacks.l0
   repeat' first
   | (with_reducible exact ih0 _ _)
   | (with_reducible exact ih1 _ _ _)
   | (with_reducible exact ih2 _ _ _ _ _ _)
   | (with_reducible exact ih3 _ _ _ _ _ _ _ _)
   | (with_reducible exact ih4 _ _ _ _ _ _ _ _ _ _ _ _ _)
   | (with_reducible exact ih5 _ _ _ _ _ _ _ _ _ _ _ _ _ _)
   | (with_reducible exact ih6 _ _ _)
   | (with_reducible exact arraslaw7_wakes.mono _)
   | (with_reducible exact arrasref6_Pair.mono _ _ _)
   | (with_reducible exact have_Count.mono _ _)
   | (with_reducible exact have_Covers.mono _ _ _)
   | (with_reducible exact have_Join.mono _ _ _)
   | (with_reducible exact have_Lacks.mono _ _ _)
   | (with_reducible exact LeO.refl _)
   | (with_reducible exact LeO.none _)
   | (with_reducible refine LeO.ite ?_ ?_)
   | (with_reducible refine LeO.bind ?_ (fun _ => ?_))
   | exact ih0 _ _
   | exact ih1 _ _ _
   | exact ih2 _ _ _ _ _ _
   | exact ih3 _ _ _ _ _ _ _ _
   | exact ih4 _ _ _ _ _ _ _ _ _ _ _ _ _
   | exact ih5 _ _ _ _ _ _ _ _ _ _ _ _ _ _
   | exact ih6 _ _ _
   | exact arraslaw7_wakes.mono _
   | exact arrasref6_Pair.mono _ _ _
   | exact have_Count.mono _ _
   | exact have_Covers.mono _ _ _
   | exact have_Join.mono _ _ _
   | exact have_Lacks.mono _ _ _
   | exact LeO.none _
   | refine LeO.ite ?_ ?_
   | refine LeO.bind ?_ (fun _ => ?_)
  ·intro y0 y1 y2
   unfold arraslaw7_HaveLacks.j1
   repeat' first
   | (with_reducible exact ih0 _ _)
   | (with_reducible exact ih1 _ _ _)
   | (with_reducible exact ih2 _ _ _ _ _ _)
   | (with_reducible exact ih3 _ _ _ _ _ _ _ _)
   | (with_reducible exact ih4 _ _ _ _ _ _ _ _ _ _ _ _ _)
   | (with_reducible exact ih5 _ _ _ _ _ _ _ _ _ _ _ _ _ _)
   | (with_reducible exact ih6 _ _ _)
   | (with_reducible exact arraslaw7_wakes.mono _)
   | (with_reducible exact arrasref6_Pair.mono _ _ _)
   | (with_reducible exact have_Count.mono _ _)
   | (with_reducible exact have_Covers.mono _ _ _)
   | (with_reducible exact have_Join.mono _ _ _)
   | (with_reducible exact have_Lacks.mono _ _ _)
   | (with_reducible exact LeO.refl _)
   | (with_reducible exact LeO.none _)
   | (with_reducible refine LeO.ite ?_ ?_)
   | (with_reducible refine LeO.bind ?_ (fun _ => ?_))
   | exact ih0 _ _
   | exact ih1 _ _ _
   | exact ih2 _ _ _ _ _ _
   | exact ih3 _ _ _ _ _ _ _ _
   | exact ih4 _ _ _ _ _ _ _ _ _ _ _ _ _
   | exact ih5 _ _ _ _ _ _ _ _ _ _ _ _ _ _
   | exact ih6 _ _ _
   | exact arraslaw7_wakes.mono _
   | exact arrasref6_Pair.mono _ _ _
   | exact have_Count.mono _ _
   | exact have_Covers.mono _ _ _
   | exact have_Join.mono _ _ _
   | exact have_Lacks.mono _ _ _
   | exact LeO.none _
   | refine LeO.ite ?_ ?_
   | refine LeO.bind ?_ (fun _ => ?_)
  ·intro y0 y1 y2 y3 y4 y5
   unfold arraslaw7_HaveLacks.j2
   repeat' first
   | (with_reducible exact ih0 _ _)
   | (with_reducible exact ih1 _ _ _)
   | (with_reducible exact ih2 _ _ _ _ _ _)
   | (with_reducible exact ih3 _ _ _ _ _ _ _ _)
   | (with_reducible exact ih4 _ _ _ _ _ _ _ _ _ _ _ _ _)
   | (with_reducible exact ih5 _ _ _ _ _ _ _ _ _ _ _ _ _ _)
   | (with_reducible exact ih6 _ _ _)
   | (with_reducible exact arraslaw7_wakes.mono _)
   | (with_reducible exact arrasref6_Pair.mono _ _ _)
   | (with_reducible exact have_Count.mono _ _)
   | (with_reducible exact have_Covers.mono _ _ _)
   | (with_reducible exact have_Join.mono _ _ _)
   | (with_reducible exact have_Lacks.mono _ _ _)
   | (with_reducible exact LeO.refl _)
   | (with_reducible exact LeO.none _)
   | (with_reducible refine LeO.ite ?_ ?_)
   | (with_reducible refine LeO.bind ?_ (fun _ => ?_))
   | exact ih0 _ _
   | exact ih1 _ _ _
   | exact ih2 _ _ _ _ _ _
   | exact ih3 _ _ _ _ _ _ _ _
   | exact ih4 _ _ _ _ _ _ _ _ _ _ _ _ _
   | exact ih5 _ _ _ _ _ _ _ _ _ _ _ _ _ _
   | exact ih6 _ _ _
   | exact arraslaw7_wakes.mono _
   | exact arrasref6_Pair.mono _ _ _
   | exact have_Count.mono _ _
   | exact have_Covers.mono _ _ _
   | exact have_Join.mono _ _ _
   | exact have_Lacks.mono _ _ _
   | exact LeO.none _
   | refine LeO.ite ?_ ?_
   | refine LeO.bind ?_ (fun _ => ?_)
  ·intro y0 y1 y2 y3 y4 y5 y6 y7
   unfold arraslaw7_HaveLacks.j3
   repeat' first
   | (with_reducible exact ih0 _ _)
   | (with_reducible exact ih1 _ _ _)
   | (with_reducible exact ih2 _ _ _ _ _ _)
   | (with_reducible exact ih3 _ _ _ _ _ _ _ _)
   | (with_reducible exact ih4 _ _ _ _ _ _ _ _ _ _ _ _ _)
   | (with_reducible exact ih5 _ _ _ _ _ _ _ _ _ _ _ _ _ _)
   | (with_reducible exact ih6 _ _ _)
   | (with_reducible exact arraslaw7_wakes.mono _)
   | (with_reducible exact arrasref6_Pair.mono _ _ _)
   | (with_reducible exact have_Count.mono _ _)
   | (with_reducible exact have_Covers.mono _ _ _)
   | (with_reducible exact have_Join.mono _ _ _)
   | (with_reducible exact have_Lacks.mono _ _ _)
   | (with_reducible exact LeO.refl _)
   | (with_reducible exact LeO.none _)
   | (with_reducible refine LeO.ite ?_ ?_)
   | (with_reducible refine LeO.bind ?_ (fun _ => ?_))
   | exact ih0 _ _
   | exact ih1 _ _ _
   | exact ih2 _ _ _ _ _ _
   | exact ih3 _ _ _ _ _ _ _ _
   | exact ih4 _ _ _ _ _ _ _ _ _ _ _ _ _
   | exact ih5 _ _ _ _ _ _ _ _ _ _ _ _ _ _
   | exact ih6 _ _ _
   | exact arraslaw7_wakes.mono _
   | exact arrasref6_Pair.mono _ _ _
   | exact have_Count.mono _ _
   | exact have_Covers.mono _ _ _
   | exact have_Join.mono _ _ _
   | exact have_Lacks.mono _ _ _
   | exact LeO.none _
   | refine LeO.ite ?_ ?_
   | refine LeO.bind ?_ (fun _ => ?_)
  ·intro y0 y1 y2 y3 y4 y5 y6 y7 y8 y9 y10 y11 y12
   unfold arraslaw7_HaveLacks.l1
   repeat' first
   | (with_reducible exact ih0 _ _)
   | (with_reducible exact ih1 _ _ _)
   | (with_reducible exact ih2 _ _ _ _ _ _)
   | (with_reducible exact ih3 _ _ _ _ _ _ _ _)
   | (with_reducible exact ih4 _ _ _ _ _ _ _ _ _ _ _ _ _)
   | (with_reducible exact ih5 _ _ _ _ _ _ _ _ _ _ _ _ _ _)
   | (with_reducible exact ih6 _ _ _)
   | (with_reducible exact arraslaw7_wakes.mono _)
   | (with_reducible exact arrasref6_Pair.mono _ _ _)
   | (with_reducible exact have_Count.mono _ _)
   | (with_reducible exact have_Covers.mono _ _ _)
   | (with_reducible exact have_Join.mono _ _ _)
   | (with_reducible exact have_Lacks.mono _ _ _)
   | (with_reducible exact LeO.refl _)
   | (with_reducible exact LeO.none _)
   | (with_reducible refine LeO.ite ?_ ?_)
   | (with_reducible refine LeO.bind ?_ (fun _ => ?_))
   | exact ih0 _ _
   | exact ih1 _ _ _
   | exact ih2 _ _ _ _ _ _
   | exact ih3 _ _ _ _ _ _ _ _
   | exact ih4 _ _ _ _ _ _ _ _ _ _ _ _ _
   | exact ih5 _ _ _ _ _ _ _ _ _ _ _ _ _ _
   | exact ih6 _ _ _
   | exact arraslaw7_wakes.mono _
   | exact arrasref6_Pair.mono _ _ _
   | exact have_Count.mono _ _
   | exact have_Covers.mono _ _ _
   | exact have_Join.mono _ _ _
   | exact have_Lacks.mono _ _ _
   | exact LeO.none _
   | refine LeO.ite ?_ ?_
   | refine LeO.bind ?_ (fun _ => ?_)
  ·intro y0 y1 y2 y3 y4 y5 y6 y7 y8 y9 y10 y11 y12 y13
   unfold arraslaw7_HaveLacks.l2
   repeat' first
   | (with_reducible exact ih0 _ _)
   | (with_reducible exact ih1 _ _ _)
   | (with_reducible exact ih2 _ _ _ _ _ _)
   | (with_reducible exact ih3 _ _ _ _ _ _ _ _)
   | (with_reducible exact ih4 _ _ _ _ _ _ _ _ _ _ _ _ _)
   | (with_reducible exact ih5 _ _ _ _ _ _ _ _ _ _ _ _ _ _)
   | (with_reducible exact ih6 _ _ _)
   | (with_reducible exact arraslaw7_wakes.mono _)
   | (with_reducible exact arrasref6_Pair.mono _ _ _)
   | (with_reducible exact have_Count.mono _ _)
   | (with_reducible exact have_Covers.mono _ _ _)
   | (with_reducible exact have_Join.mono _ _ _)
   | (with_reducible exact have_Lacks.mono _ _ _)
   | (with_reducible exact LeO.refl _)
   | (with_reducible exact LeO.none _)
   | (with_reducible refine LeO.ite ?_ ?_)
   | (with_reducible refine LeO.bind ?_ (fun _ => ?_))
   | exact ih0 _ _
   | exact ih1 _ _ _
   | exact ih2 _ _ _ _ _ _
   | exact ih3 _ _ _ _ _ _ _ _
   | exact ih4 _ _ _ _ _ _ _ _ _ _ _ _ _
   | exact ih5 _ _ _ _ _ _ _ _ _ _ _ _ _ _
   | exact ih6 _ _ _
   | exact arraslaw7_wakes.mono _
   | exact arrasref6_Pair.mono _ _ _
   | exact have_Count.mono _ _
   | exact have_Covers.mono _ _ _
   | exact have_Join.mono _ _ _
   | exact have_Lacks.mono _ _ _
   | exact LeO.none _
   | refine LeO.ite ?_ ?_
   | refine LeO.bind ?_ (fun _ => ?_)
  ·intro y0 y1 y2
   unfold arraslaw7_HaveLacks.j6
   repeat' first
   | (with_reducible exact ih0 _ _)
   | (with_reducible exact ih1 _ _ _)
   | (with_reducible exact ih2 _ _ _ _ _ _)
   | (with_reducible exact ih3 _ _ _ _ _ _ _ _)
   | (with_reducible exact ih4 _ _ _ _ _ _ _ _ _ _ _ _ _)
   | (with_reducible exact ih5 _ _ _ _ _ _ _ _ _ _ _ _ _ _)
   | (with_reducible exact ih6 _ _ _)
   | (with_reducible exact arraslaw7_wakes.mono _)
   | (with_reducible exact arrasref6_Pair.mono _ _ _)
   | (with_reducible exact have_Count.mono _ _)
   | (with_reducible exact have_Covers.mono _ _ _)
   | (with_reducible exact have_Join.mono _ _ _)
   | (with_reducible exact have_Lacks.mono _ _ _)
   | (with_reducible exact LeO.refl _)
   | (with_reducible exact LeO.none _)
   | (with_reducible refine LeO.ite ?_ ?_)
   | (with_reducible refine LeO.bind ?_ (fun _ => ?_))
   | exact ih0 _ _
   | exact ih1 _ _ _
   | exact ih2 _ _ _ _ _ _
   | exact ih3 _ _ _ _ _ _ _ _
   | exact ih4 _ _ _ _ _ _ _ _ _ _ _ _ _
   | exact ih5 _ _ _ _ _ _ _ _ _ _ _ _ _ _
   | exact ih6 _ _ _
   | exact arraslaw7_wakes.mono _
   | exact arrasref6_Pair.mono _ _ _
   | exact have_Count.mono _ _
   | exact have_Covers.mono _ _ _
   | exact have_Join.mono _ _ _
   | exact have_Lacks.mono _ _ _
   | exact LeO.none _
   | refine LeO.ite ?_ ?_
   | refine LeO.bind ?_ (fun _ => ?_)
theorem arraslaw7_HaveLacks.mono : ∀ a0 k, LeO (arraslaw7_HaveLacks.f k a0) (arraslaw7_HaveLacks.f (k + 1) a0) := by
 intro a0 k
 obtain ⟨ih0, ih1, ih2, ih3, ih4, ih5, ih6⟩ := arraslaw7_HaveLacks.mono_l k
 unfold arraslaw7_HaveLacks.f
 repeat' first
   | (with_reducible exact ih0 _ _)
   | (with_reducible exact ih1 _ _ _)
   | (with_reducible exact ih2 _ _ _ _ _ _)
   | (with_reducible exact ih3 _ _ _ _ _ _ _ _)
   | (with_reducible exact ih4 _ _ _ _ _ _ _ _ _ _ _ _ _)
   | (with_reducible exact ih5 _ _ _ _ _ _ _ _ _ _ _ _ _ _)
   | (with_reducible exact ih6 _ _ _)
   | (with_reducible exact arraslaw7_wakes.mono _)
   | (with_reducible exact arrasref6_Pair.mono _ _ _)
   | (with_reducible exact have_Count.mono _ _)
   | (with_reducible exact have_Covers.mono _ _ _)
   | (with_reducible exact have_Join.mono _ _ _)
   | (with_reducible exact have_Lacks.mono _ _ _)
   | (with_reducible exact LeO.refl _)
   | (with_reducible exact LeO.none _)
   | (with_reducible refine LeO.ite ?_ ?_)
   | (with_reducible refine LeO.bind ?_ (fun _ => ?_))
   | exact ih0 _ _
   | exact ih1 _ _ _
   | exact ih2 _ _ _ _ _ _
   | exact ih3 _ _ _ _ _ _ _ _
   | exact ih4 _ _ _ _ _ _ _ _ _ _ _ _ _
   | exact ih5 _ _ _ _ _ _ _ _ _ _ _ _ _ _
   | exact ih6 _ _ _
   | exact arraslaw7_wakes.mono _
   | exact arrasref6_Pair.mono _ _ _
   | exact have_Count.mono _ _
   | exact have_Covers.mono _ _ _
   | exact have_Join.mono _ _ _
   | exact have_Lacks.mono _ _ _
   | exact LeO.none _
   | refine LeO.ite ?_ ?_
   | refine LeO.bind ?_ (fun _ => ?_)
noncomputable def arraslaw7_HaveLacks.L0 (x0 : List (S86)) (x3 : Int) : Option (Bool) := Go.Proofs.YtpmcojmhkpaoaaaLabel.lim (fun k => arraslaw7_HaveLacks.l0 k x0 x3)
noncomputable def arraslaw7_HaveLacks.J1 (x0 : List (S86)) (x3 : Int) (x28 : Bool) : Option (Bool) := Go.Proofs.YtpmcojmhkpaoaaaLabel.lim (fun k => arraslaw7_HaveLacks.j1 k x0 x3 x28)
noncomputable def arraslaw7_HaveLacks.J2 (x0 : List (S86)) (x3 : Int) (x44 : Bool) (x741000 : List Int) (x741001 : List Int) (x741002 : List Int) : Option (Bool) := Go.Proofs.YtpmcojmhkpaoaaaLabel.lim (fun k => arraslaw7_HaveLacks.j2 k x0 x3 x44 x741000 x741001 x741002)
noncomputable def arraslaw7_HaveLacks.J3 (x0 : List (S86)) (x3 : Int) (x5 : List Int) (x7 : List Int) (x68 : Bool) (x741000 : List Int) (x741001 : List Int) (x741002 : List Int) : Option (Bool) := Go.Proofs.YtpmcojmhkpaoaaaLabel.lim (fun k => arraslaw7_HaveLacks.j3 k x0 x3 x5 x7 x68 x741000 x741001 x741002)
noncomputable def arraslaw7_HaveLacks.L1 (x0 : List (S86)) (x3 : Int) (x5 : List Int) (x7 : List Int) (x9 : List Int) (x10 : Int) (x11 : Bool) (x12 : Int) (x13 : Bool) (x14 : Int) (x741000 : List Int) (x741001 : List Int) (x741002 : List Int) : Option (Bool) := Go.Proofs.YtpmcojmhkpaoaaaLabel.lim (fun k => arraslaw7_HaveLacks.l1 k x0 x3 x5 x7 x9 x10 x11 x12 x13 x14 x741000 x741001 x741002)
noncomputable def arraslaw7_HaveLacks.L2 (x0 : List (S86)) (x3 : Int) (x5 : List Int) (x9 : List Int) (x10 : Int) (x11 : Bool) (x12 : Int) (x13 : Bool) (x15 : Int) (x16 : Int) (x17 : Int) (x18 : Int) (x19 : Int) (x20 : Int) : Option (Bool) := Go.Proofs.YtpmcojmhkpaoaaaLabel.lim (fun k => arraslaw7_HaveLacks.l2 k x0 x3 x5 x9 x10 x11 x12 x13 x15 x16 x17 x18 x19 x20)
noncomputable def arraslaw7_HaveLacks.J6 (x0 : List (S86)) (x3 : Int) (x155 : Bool) : Option (Bool) := Go.Proofs.YtpmcojmhkpaoaaaLabel.lim (fun k => arraslaw7_HaveLacks.j6 k x0 x3 x155)
theorem arraslaw7_HaveLacks.L0_lim (x0 : List (S86)) (x3 : Int) : Go.Proofs.YtpmcojmhkpaoaaaLabel.Lim (fun k => arraslaw7_HaveLacks.l0 k x0 x3) (arraslaw7_HaveLacks.L0 x0 x3) := Go.Proofs.YtpmcojmhkpaoaaaLabel.lim_spec (fun k => (arraslaw7_HaveLacks.mono_l k).1 x0 x3)
theorem arraslaw7_HaveLacks.J1_lim (x0 : List (S86)) (x3 : Int) (x28 : Bool) : Go.Proofs.YtpmcojmhkpaoaaaLabel.Lim (fun k => arraslaw7_HaveLacks.j1 k x0 x3 x28) (arraslaw7_HaveLacks.J1 x0 x3 x28) := Go.Proofs.YtpmcojmhkpaoaaaLabel.lim_spec (fun k => (arraslaw7_HaveLacks.mono_l k).2.1 x0 x3 x28)
theorem arraslaw7_HaveLacks.J2_lim (x0 : List (S86)) (x3 : Int) (x44 : Bool) (x741000 : List Int) (x741001 : List Int) (x741002 : List Int) : Go.Proofs.YtpmcojmhkpaoaaaLabel.Lim (fun k => arraslaw7_HaveLacks.j2 k x0 x3 x44 x741000 x741001 x741002) (arraslaw7_HaveLacks.J2 x0 x3 x44 x741000 x741001 x741002) := Go.Proofs.YtpmcojmhkpaoaaaLabel.lim_spec (fun k => (arraslaw7_HaveLacks.mono_l k).2.2.1 x0 x3 x44 x741000 x741001 x741002)
theorem arraslaw7_HaveLacks.J3_lim (x0 : List (S86)) (x3 : Int) (x5 : List Int) (x7 : List Int) (x68 : Bool) (x741000 : List Int) (x741001 : List Int) (x741002 : List Int) : Go.Proofs.YtpmcojmhkpaoaaaLabel.Lim (fun k => arraslaw7_HaveLacks.j3 k x0 x3 x5 x7 x68 x741000 x741001 x741002) (arraslaw7_HaveLacks.J3 x0 x3 x5 x7 x68 x741000 x741001 x741002) := Go.Proofs.YtpmcojmhkpaoaaaLabel.lim_spec (fun k => (arraslaw7_HaveLacks.mono_l k).2.2.2.1 x0 x3 x5 x7 x68 x741000 x741001 x741002)
theorem arraslaw7_HaveLacks.L1_lim (x0 : List (S86)) (x3 : Int) (x5 : List Int) (x7 : List Int) (x9 : List Int) (x10 : Int) (x11 : Bool) (x12 : Int) (x13 : Bool) (x14 : Int) (x741000 : List Int) (x741001 : List Int) (x741002 : List Int) : Go.Proofs.YtpmcojmhkpaoaaaLabel.Lim (fun k => arraslaw7_HaveLacks.l1 k x0 x3 x5 x7 x9 x10 x11 x12 x13 x14 x741000 x741001 x741002) (arraslaw7_HaveLacks.L1 x0 x3 x5 x7 x9 x10 x11 x12 x13 x14 x741000 x741001 x741002) := Go.Proofs.YtpmcojmhkpaoaaaLabel.lim_spec (fun k => (arraslaw7_HaveLacks.mono_l k).2.2.2.2.1 x0 x3 x5 x7 x9 x10 x11 x12 x13 x14 x741000 x741001 x741002)
theorem arraslaw7_HaveLacks.L2_lim (x0 : List (S86)) (x3 : Int) (x5 : List Int) (x9 : List Int) (x10 : Int) (x11 : Bool) (x12 : Int) (x13 : Bool) (x15 : Int) (x16 : Int) (x17 : Int) (x18 : Int) (x19 : Int) (x20 : Int) : Go.Proofs.YtpmcojmhkpaoaaaLabel.Lim (fun k => arraslaw7_HaveLacks.l2 k x0 x3 x5 x9 x10 x11 x12 x13 x15 x16 x17 x18 x19 x20) (arraslaw7_HaveLacks.L2 x0 x3 x5 x9 x10 x11 x12 x13 x15 x16 x17 x18 x19 x20) := Go.Proofs.YtpmcojmhkpaoaaaLabel.lim_spec (fun k => (arraslaw7_HaveLacks.mono_l k).2.2.2.2.2.1 x0 x3 x5 x9 x10 x11 x12 x13 x15 x16 x17 x18 x19 x20)
theorem arraslaw7_HaveLacks.J6_lim (x0 : List (S86)) (x3 : Int) (x155 : Bool) : Go.Proofs.YtpmcojmhkpaoaaaLabel.Lim (fun k => arraslaw7_HaveLacks.j6 k x0 x3 x155) (arraslaw7_HaveLacks.J6 x0 x3 x155) := Go.Proofs.YtpmcojmhkpaoaaaLabel.lim_spec (fun k => (arraslaw7_HaveLacks.mono_l k).2.2.2.2.2.2 x0 x3 x155)
theorem arraslaw7_HaveLacks.L0_eq (x0 : List (S86)) (x3 : Int) : arraslaw7_HaveLacks.L0 x0 x3 = (if x3 < (x0.length : Int) then (arraslaw7_HaveLacks.J1 x0 x3 (decide (x3 < 15))) else (arraslaw7_HaveLacks.J1 x0 x3 false)) := by
  refine Go.Proofs.YtpmcojmhkpaoaaaLabel.Lim.unique (arraslaw7_HaveLacks.L0_lim x0 x3).shift ?_
  simp only [arraslaw7_HaveLacks.l0]
  (repeat' (first | exact Go.Proofs.YtpmcojmhkpaoaaaLabel.Lim.const _ | exact arraslaw7_HaveLacks.L0_lim _ _ | exact arraslaw7_HaveLacks.J1_lim _ _ _ | exact arraslaw7_HaveLacks.J2_lim _ _ _ _ _ _ | exact arraslaw7_HaveLacks.J3_lim _ _ _ _ _ _ _ _ | exact arraslaw7_HaveLacks.L1_lim _ _ _ _ _ _ _ _ _ _ _ _ _ | exact arraslaw7_HaveLacks.L2_lim _ _ _ _ _ _ _ _ _ _ _ _ _ _ | exact arraslaw7_HaveLacks.J6_lim _ _ _ | exact arraslaw7_wakes.F_lim | exact arrasref6_Pair.F_lim _ _ | exact have_Count.F_lim _ | exact have_Covers.F_lim _ _ | exact have_Join.F_lim _ _ | exact have_Lacks.F_lim _ _ | refine Go.Proofs.YtpmcojmhkpaoaaaLabel.Lim.ite ?_ ?_ | refine Go.Proofs.YtpmcojmhkpaoaaaLabel.Lim.bind ?_ (fun _ => ?_)))
theorem arraslaw7_HaveLacks.J1_eq (x0 : List (S86)) (x3 : Int) (x28 : Bool) : arraslaw7_HaveLacks.J1 x0 x3 x28 = (if x28 = true then (if 0 ≤ x3 then (if x3 < (x0.length : Int) then ((arraslaw7_heavy.f ((rd_T86 x0 x3).f0) ((rd_T86 x0 x3).f1) ((rd_T86 x0 x3).f2)).bind fun t741 => (if t741 = true then (arraslaw7_HaveLacks.J2 x0 x3 true ((rd_T86 x0 x3).f0) ((rd_T86 x0 x3).f1) ((rd_T86 x0 x3).f2)) else ((arrasref6_Pair.F ((rd_T86 x0 x3).f0) ((rd_T86 x0 x3).f1)).bind fun t742 => (arraslaw7_HaveLacks.J2 x0 x3 (!t742) ((rd_T86 x0 x3).f0) ((rd_T86 x0 x3).f1) ((rd_T86 x0 x3).f2))))) else (none)) else (none)) else ((arraslaw7_wakes.F).bind fun t738 => (some t738))) := by
  refine Go.Proofs.YtpmcojmhkpaoaaaLabel.Lim.unique (arraslaw7_HaveLacks.J1_lim x0 x3 x28).shift ?_
  simp only [arraslaw7_HaveLacks.j1]
  (repeat' (first | exact Go.Proofs.YtpmcojmhkpaoaaaLabel.Lim.const _ | exact arraslaw7_HaveLacks.L0_lim _ _ | exact arraslaw7_HaveLacks.J1_lim _ _ _ | exact arraslaw7_HaveLacks.J2_lim _ _ _ _ _ _ | exact arraslaw7_HaveLacks.J3_lim _ _ _ _ _ _ _ _ | exact arraslaw7_HaveLacks.L1_lim _ _ _ _ _ _ _ _ _ _ _ _ _ | exact arraslaw7_HaveLacks.L2_lim _ _ _ _ _ _ _ _ _ _ _ _ _ _ | exact arraslaw7_HaveLacks.J6_lim _ _ _ | exact arraslaw7_wakes.F_lim | exact arrasref6_Pair.F_lim _ _ | exact have_Count.F_lim _ | exact have_Covers.F_lim _ _ | exact have_Join.F_lim _ _ | exact have_Lacks.F_lim _ _ | refine Go.Proofs.YtpmcojmhkpaoaaaLabel.Lim.ite ?_ ?_ | refine Go.Proofs.YtpmcojmhkpaoaaaLabel.Lim.bind ?_ (fun _ => ?_)))
theorem arraslaw7_HaveLacks.J2_eq (x0 : List (S86)) (x3 : Int) (x44 : Bool) (x741000 : List Int) (x741001 : List Int) (x741002 : List Int) : arraslaw7_HaveLacks.J2 x0 x3 x44 x741000 x741001 x741002 = (if x44 = true then (arraslaw7_HaveLacks.L0 x0 (wrap64 (x3 + 1))) else ((have_Lacks.F x741000 x741001).bind fun bt743 => ((have_Join.F x741000 x741001).bind fun bt747 => ((arraslaw7_num.f bt743.2).bind fun t751 => (if t751 = 0 then ((arraslaw7_num.f bt747.2).bind fun t752 => (arraslaw7_HaveLacks.J3 x0 x3 bt743.1 bt747.1 (t752 != 0) x741000 x741001 x741002)) else (arraslaw7_HaveLacks.J3 x0 x3 bt743.1 bt747.1 true x741000 x741001 x741002)))))) := by
  refine Go.Proofs.YtpmcojmhkpaoaaaLabel.Lim.unique (arraslaw7_HaveLacks.J2_lim x0 x3 x44 x741000 x741001 x741002).shift ?_
  simp only [arraslaw7_HaveLacks.j2]
  (repeat' (first | exact Go.Proofs.YtpmcojmhkpaoaaaLabel.Lim.const _ | exact arraslaw7_HaveLacks.L0_lim _ _ | exact arraslaw7_HaveLacks.J1_lim _ _ _ | exact arraslaw7_HaveLacks.J2_lim _ _ _ _ _ _ | exact arraslaw7_HaveLacks.J3_lim _ _ _ _ _ _ _ _ | exact arraslaw7_HaveLacks.L1_lim _ _ _ _ _ _ _ _ _ _ _ _ _ | exact arraslaw7_HaveLacks.L2_lim _ _ _ _ _ _ _ _ _ _ _ _ _ _ | exact arraslaw7_HaveLacks.J6_lim _ _ _ | exact arraslaw7_wakes.F_lim | exact arrasref6_Pair.F_lim _ _ | exact have_Count.F_lim _ | exact have_Covers.F_lim _ _ | exact have_Join.F_lim _ _ | exact have_Lacks.F_lim _ _ | refine Go.Proofs.YtpmcojmhkpaoaaaLabel.Lim.ite ?_ ?_ | refine Go.Proofs.YtpmcojmhkpaoaaaLabel.Lim.bind ?_ (fun _ => ?_)))
theorem arraslaw7_HaveLacks.J3_eq (x0 : List (S86)) (x3 : Int) (x5 : List Int) (x7 : List Int) (x68 : Bool) (x741000 : List Int) (x741001 : List Int) (x741002 : List Int) : arraslaw7_HaveLacks.J3 x0 x3 x5 x7 x68 x741000 x741001 x741002 = (if x68 = true then (some false) else ((have_Lacks.F x7 x741001).bind fun bt753 => ((have_Covers.F x741000 x741001).bind fun bt757 => (arraslaw7_HaveLacks.L1 x0 x3 x5 x7 bt753.1 bt753.2 bt757.1 bt757.2 true 0 x741000 x741001 x741002)))) := by
  refine Go.Proofs.YtpmcojmhkpaoaaaLabel.Lim.unique (arraslaw7_HaveLacks.J3_lim x0 x3 x5 x7 x68 x741000 x741001 x741002).shift ?_
  simp only [arraslaw7_HaveLacks.j3]
  (repeat' (first | exact Go.Proofs.YtpmcojmhkpaoaaaLabel.Lim.const _ | exact arraslaw7_HaveLacks.L0_lim _ _ | exact arraslaw7_HaveLacks.J1_lim _ _ _ | exact arraslaw7_HaveLacks.J2_lim _ _ _ _ _ _ | exact arraslaw7_HaveLacks.J3_lim _ _ _ _ _ _ _ _ | exact arraslaw7_HaveLacks.L1_lim _ _ _ _ _ _ _ _ _ _ _ _ _ | exact arraslaw7_HaveLacks.L2_lim _ _ _ _ _ _ _ _ _ _ _ _ _ _ | exact arraslaw7_HaveLacks.J6_lim _ _ _ | exact arraslaw7_wakes.F_lim | exact arrasref6_Pair.F_lim _ _ | exact have_Count.F_lim _ | exact have_Covers.F_lim _ _ | exact have_Join.F_lim _ _ | exact have_Lacks.F_lim _ _ | refine Go.Proofs.YtpmcojmhkpaoaaaLabel.Lim.ite ?_ ?_ | refine Go.Proofs.YtpmcojmhkpaoaaaLabel.Lim.bind ?_ (fun _ => ?_)))
theorem arraslaw7_HaveLacks.L1_eq (x0 : List (S86)) (x3 : Int) (x5 : List Int) (x7 : List Int) (x9 : List Int) (x10 : Int) (x11 : Bool) (x12 : Int) (x13 : Bool) (x14 : Int) (x741000 : List Int) (x741001 : List Int) (x741002 : List Int) : arraslaw7_HaveLacks.L1 x0 x3 x5 x7 x9 x10 x11 x12 x13 x14 x741000 x741001 x741002 = (if x14 < (x5.length : Int) then (if x13 = true then (if 0 ≤ x14 then (arraslaw7_HaveLacks.L1 x0 x3 x5 x7 x9 x10 x11 x12 ((rd x5 x14) == 0) (wrap64 (x14 + 1)) x741000 x741001 x741002) else (none)) else (arraslaw7_HaveLacks.L1 x0 x3 x5 x7 x9 x10 x11 x12 false (wrap64 (x14 + 1)) x741000 x741001 x741002)) else ((have_Count.F x741000).bind fun bt760 => ((have_Count.F x7).bind fun bt762 => (arraslaw7_HaveLacks.L2 x0 x3 x5 x9 x10 x11 x12 x13 bt760.1 bt760.2 bt762.1 bt762.2 0 0)))) := by
  refine Go.Proofs.YtpmcojmhkpaoaaaLabel.Lim.unique (arraslaw7_HaveLacks.L1_lim x0 x3 x5 x7 x9 x10 x11 x12 x13 x14 x741000 x741001 x741002).shift ?_
  simp only [arraslaw7_HaveLacks.l1]
  (repeat' (first | exact Go.Proofs.YtpmcojmhkpaoaaaLabel.Lim.const _ | exact arraslaw7_HaveLacks.L0_lim _ _ | exact arraslaw7_HaveLacks.J1_lim _ _ _ | exact arraslaw7_HaveLacks.J2_lim _ _ _ _ _ _ | exact arraslaw7_HaveLacks.J3_lim _ _ _ _ _ _ _ _ | exact arraslaw7_HaveLacks.L1_lim _ _ _ _ _ _ _ _ _ _ _ _ _ | exact arraslaw7_HaveLacks.L2_lim _ _ _ _ _ _ _ _ _ _ _ _ _ _ | exact arraslaw7_HaveLacks.J6_lim _ _ _ | exact arraslaw7_wakes.F_lim | exact arrasref6_Pair.F_lim _ _ | exact have_Count.F_lim _ | exact have_Covers.F_lim _ _ | exact have_Join.F_lim _ _ | exact have_Lacks.F_lim _ _ | refine Go.Proofs.YtpmcojmhkpaoaaaLabel.Lim.ite ?_ ?_ | refine Go.Proofs.YtpmcojmhkpaoaaaLabel.Lim.bind ?_ (fun _ => ?_)))
theorem arraslaw7_HaveLacks.L2_eq (x0 : List (S86)) (x3 : Int) (x5 : List Int) (x9 : List Int) (x10 : Int) (x11 : Bool) (x12 : Int) (x13 : Bool) (x15 : Int) (x16 : Int) (x17 : Int) (x18 : Int) (x19 : Int) (x20 : Int) : arraslaw7_HaveLacks.L2 x0 x3 x5 x9 x10 x11 x12 x13 x15 x16 x17 x18 x19 x20 = (if x20 < (x5.length : Int) then (if 0 ≤ x20 then (if x20 < (x9.length : Int) then (if (rd x9 x20) = 0 then (arraslaw7_HaveLacks.L2 x0 x3 x5 x9 x10 x11 x12 x13 x15 x16 x17 x18 (wrap64 (x19 + (rd x5 x20))) (wrap64 (x20 + 1))) else (some false)) else (none)) else (none)) else ((arraslaw7_num.f x10).bind fun t766 => (if t766 = 0 then ((arraslaw7_num.f x12).bind fun t767 => (if t767 = 0 then ((arraslaw7_num.f x16).bind fun t768 => (if t768 = 0 then ((arraslaw7_num.f x18).bind fun t769 => (if t769 = 0 then (if (x11 != x13) = true then (arraslaw7_HaveLacks.J6 x0 x3 true) else (arraslaw7_HaveLacks.J6 x0 x3 (x17 != (wrap64 (x15 + x19))))) else (arraslaw7_HaveLacks.J6 x0 x3 true))) else (arraslaw7_HaveLacks.J6 x0 x3 true))) else (arraslaw7_HaveLacks.J6 x0 x3 true))) else (arraslaw7_HaveLacks.J6 x0 x3 true)))) := by
  refine Go.Proofs.YtpmcojmhkpaoaaaLabel.Lim.unique (arraslaw7_HaveLacks.L2_lim x0 x3 x5 x9 x10 x11 x12 x13 x15 x16 x17 x18 x19 x20).shift ?_
  simp only [arraslaw7_HaveLacks.l2]
  (repeat' (first | exact Go.Proofs.YtpmcojmhkpaoaaaLabel.Lim.const _ | exact arraslaw7_HaveLacks.L0_lim _ _ | exact arraslaw7_HaveLacks.J1_lim _ _ _ | exact arraslaw7_HaveLacks.J2_lim _ _ _ _ _ _ | exact arraslaw7_HaveLacks.J3_lim _ _ _ _ _ _ _ _ | exact arraslaw7_HaveLacks.L1_lim _ _ _ _ _ _ _ _ _ _ _ _ _ | exact arraslaw7_HaveLacks.L2_lim _ _ _ _ _ _ _ _ _ _ _ _ _ _ | exact arraslaw7_HaveLacks.J6_lim _ _ _ | exact arraslaw7_wakes.F_lim | exact arrasref6_Pair.F_lim _ _ | exact have_Count.F_lim _ | exact have_Covers.F_lim _ _ | exact have_Join.F_lim _ _ | exact have_Lacks.F_lim _ _ | refine Go.Proofs.YtpmcojmhkpaoaaaLabel.Lim.ite ?_ ?_ | refine Go.Proofs.YtpmcojmhkpaoaaaLabel.Lim.bind ?_ (fun _ => ?_)))
theorem arraslaw7_HaveLacks.J6_eq (x0 : List (S86)) (x3 : Int) (x155 : Bool) : arraslaw7_HaveLacks.J6 x0 x3 x155 = (if x155 = true then (some false) else (arraslaw7_HaveLacks.L0 x0 (wrap64 (x3 + 1)))) := by
  refine Go.Proofs.YtpmcojmhkpaoaaaLabel.Lim.unique (arraslaw7_HaveLacks.J6_lim x0 x3 x155).shift ?_
  simp only [arraslaw7_HaveLacks.j6]
  (repeat' (first | exact Go.Proofs.YtpmcojmhkpaoaaaLabel.Lim.const _ | exact arraslaw7_HaveLacks.L0_lim _ _ | exact arraslaw7_HaveLacks.J1_lim _ _ _ | exact arraslaw7_HaveLacks.J2_lim _ _ _ _ _ _ | exact arraslaw7_HaveLacks.J3_lim _ _ _ _ _ _ _ _ | exact arraslaw7_HaveLacks.L1_lim _ _ _ _ _ _ _ _ _ _ _ _ _ | exact arraslaw7_HaveLacks.L2_lim _ _ _ _ _ _ _ _ _ _ _ _ _ _ | exact arraslaw7_HaveLacks.J6_lim _ _ _ | exact arraslaw7_wakes.F_lim | exact arrasref6_Pair.F_lim _ _ | exact have_Count.F_lim _ | exact have_Covers.F_lim _ _ | exact have_Join.F_lim _ _ | exact have_Lacks.F_lim _ _ | refine Go.Proofs.YtpmcojmhkpaoaaaLabel.Lim.ite ?_ ?_ | refine Go.Proofs.YtpmcojmhkpaoaaaLabel.Lim.bind ?_ (fun _ => ?_)))
noncomputable def arraslaw7_HaveLacks.F (l0 : List (S86)) : Option (Bool) := Go.Proofs.YtpmcojmhkpaoaaaLabel.lim (fun k => arraslaw7_HaveLacks.f k l0)
theorem arraslaw7_HaveLacks.F_lim (l0 : List (S86)) : Go.Proofs.YtpmcojmhkpaoaaaLabel.Lim (fun k => arraslaw7_HaveLacks.f k l0) (arraslaw7_HaveLacks.F l0) := Go.Proofs.YtpmcojmhkpaoaaaLabel.lim_spec (arraslaw7_HaveLacks.mono l0)
theorem arraslaw7_HaveLacks.F_eq (l0 : List (S86)) : arraslaw7_HaveLacks.F l0 = (arraslaw7_HaveLacks.L0 l0 0) := by
  refine Go.Proofs.YtpmcojmhkpaoaaaLabel.Lim.unique (arraslaw7_HaveLacks.F_lim l0) ?_
  simp only [arraslaw7_HaveLacks.f]
  (repeat' (first | exact Go.Proofs.YtpmcojmhkpaoaaaLabel.Lim.const _ | exact arraslaw7_HaveLacks.L0_lim _ _ | exact arraslaw7_HaveLacks.J1_lim _ _ _ | exact arraslaw7_HaveLacks.J2_lim _ _ _ _ _ _ | exact arraslaw7_HaveLacks.J3_lim _ _ _ _ _ _ _ _ | exact arraslaw7_HaveLacks.L1_lim _ _ _ _ _ _ _ _ _ _ _ _ _ | exact arraslaw7_HaveLacks.L2_lim _ _ _ _ _ _ _ _ _ _ _ _ _ _ | exact arraslaw7_HaveLacks.J6_lim _ _ _ | exact arraslaw7_wakes.F_lim | exact arrasref6_Pair.F_lim _ _ | exact have_Count.F_lim _ | exact have_Covers.F_lim _ _ | exact have_Join.F_lim _ _ | exact have_Lacks.F_lim _ _ | refine Go.Proofs.YtpmcojmhkpaoaaaLabel.Lim.ite ?_ ?_ | refine Go.Proofs.YtpmcojmhkpaoaaaLabel.Lim.bind ?_ (fun _ => ?_)))

/-! #### have_Check: function 66 -/
def have_Check.f (k : Nat) (l0 : List Int) : Option (Int) := (have_Is.f k l0).bind fun t770 => (if t770 = true then (some 0) else (some 1))
theorem have_Check.mono : ∀ a0 k, LeO (have_Check.f k a0) (have_Check.f (k + 1) a0) := by
 intro a0 k
 unfold have_Check.f
 repeat' first
   | (with_reducible exact have_Is.mono _ _)
   | (with_reducible exact LeO.refl _)
   | (with_reducible exact LeO.none _)
   | (with_reducible refine LeO.ite ?_ ?_)
   | (with_reducible refine LeO.bind ?_ (fun _ => ?_))
   | exact have_Is.mono _ _
   | exact LeO.none _
   | refine LeO.ite ?_ ?_
   | refine LeO.bind ?_ (fun _ => ?_)
noncomputable def have_Check.F (l0 : List Int) : Option (Int) := Go.Proofs.YtpmcojmhkpaoaaaLabel.lim (fun k => have_Check.f k l0)
theorem have_Check.F_lim (l0 : List Int) : Go.Proofs.YtpmcojmhkpaoaaaLabel.Lim (fun k => have_Check.f k l0) (have_Check.F l0) := Go.Proofs.YtpmcojmhkpaoaaaLabel.lim_spec (have_Check.mono l0)
theorem have_Check.F_eq (l0 : List Int) : have_Check.F l0 = ((have_Is.F l0).bind fun t770 => (if t770 = true then (some 0) else (some 1))) := by
  refine Go.Proofs.YtpmcojmhkpaoaaaLabel.Lim.unique (have_Check.F_lim l0) ?_
  simp only [have_Check.f]
  (repeat' (first | exact Go.Proofs.YtpmcojmhkpaoaaaLabel.Lim.const _ | exact have_Is.F_lim _ | refine Go.Proofs.YtpmcojmhkpaoaaaLabel.Lim.ite ?_ ?_ | refine Go.Proofs.YtpmcojmhkpaoaaaLabel.Lim.bind ?_ (fun _ => ?_)))

/-! #### arrasref6_Covers: function 67 -/
def arrasref6_Covers.l0 : Nat → List Int → List Int → Int → Option (Bool)
 | 0, _, _, _ => none
 | k + 1, x0, x1, x5 => if x5 < (x0.length : Int) then (if 0 ≤ x5 then (if x5 < (x1.length : Int) then (if (rd x1 x5) > (rd x0 x5) then (some false) else (arrasref6_Covers.l0 k x0 x1 (wrap64 (x5 + 1)))) else (none)) else (none)) else (some true)
def arrasref6_Covers.f (k : Nat) (l0 : List Int) (l1 : List Int) : Option (Bool) := arrasref6_Covers.l0 k l0 l1 0
theorem arrasref6_Covers.mono_l : ∀ k, (∀ y0 y1 y2, LeO (arrasref6_Covers.l0 k y0 y1 y2) (arrasref6_Covers.l0 (k + 1) y0 y1 y2))
 | 0 => fun _ _ _ r h => by simp [arrasref6_Covers.l0] at h
 | k + 1 => by
  have ih0 := arrasref6_Covers.mono_l k
  ·intro y0 y1 y2
   unfold arrasref6_Covers.l0
   repeat' first
   | (with_reducible exact ih0 _ _ _)
   | (with_reducible exact LeO.refl _)
   | (with_reducible exact LeO.none _)
   | (with_reducible refine LeO.ite ?_ ?_)
   | (with_reducible refine LeO.bind ?_ (fun _ => ?_))
   | exact ih0 _ _ _
   | exact LeO.none _
   | refine LeO.ite ?_ ?_
   | refine LeO.bind ?_ (fun _ => ?_)
theorem arrasref6_Covers.mono : ∀ a0 a1 k, LeO (arrasref6_Covers.f k a0 a1) (arrasref6_Covers.f (k + 1) a0 a1) := by
 intro a0 a1 k
 have ih0 := arrasref6_Covers.mono_l k
 unfold arrasref6_Covers.f
 repeat' first
   | (with_reducible exact ih0 _ _ _)
   | (with_reducible exact LeO.refl _)
   | (with_reducible exact LeO.none _)
   | (with_reducible refine LeO.ite ?_ ?_)
   | (with_reducible refine LeO.bind ?_ (fun _ => ?_))
   | exact ih0 _ _ _
   | exact LeO.none _
   | refine LeO.ite ?_ ?_
   | refine LeO.bind ?_ (fun _ => ?_)
noncomputable def arrasref6_Covers.L0 (x0 : List Int) (x1 : List Int) (x5 : Int) : Option (Bool) := Go.Proofs.YtpmcojmhkpaoaaaLabel.lim (fun k => arrasref6_Covers.l0 k x0 x1 x5)
theorem arrasref6_Covers.L0_lim (x0 : List Int) (x1 : List Int) (x5 : Int) : Go.Proofs.YtpmcojmhkpaoaaaLabel.Lim (fun k => arrasref6_Covers.l0 k x0 x1 x5) (arrasref6_Covers.L0 x0 x1 x5) := Go.Proofs.YtpmcojmhkpaoaaaLabel.lim_spec (fun k => (arrasref6_Covers.mono_l k) x0 x1 x5)
theorem arrasref6_Covers.L0_eq (x0 : List Int) (x1 : List Int) (x5 : Int) : arrasref6_Covers.L0 x0 x1 x5 = (if x5 < (x0.length : Int) then (if 0 ≤ x5 then (if x5 < (x1.length : Int) then (if (rd x1 x5) > (rd x0 x5) then (some false) else (arrasref6_Covers.L0 x0 x1 (wrap64 (x5 + 1)))) else (none)) else (none)) else (some true)) := by
  refine Go.Proofs.YtpmcojmhkpaoaaaLabel.Lim.unique (arrasref6_Covers.L0_lim x0 x1 x5).shift ?_
  simp only [arrasref6_Covers.l0]
  (repeat' (first | exact Go.Proofs.YtpmcojmhkpaoaaaLabel.Lim.const _ | exact arrasref6_Covers.L0_lim _ _ _ | refine Go.Proofs.YtpmcojmhkpaoaaaLabel.Lim.ite ?_ ?_ | refine Go.Proofs.YtpmcojmhkpaoaaaLabel.Lim.bind ?_ (fun _ => ?_)))
noncomputable def arrasref6_Covers.F (l0 : List Int) (l1 : List Int) : Option (Bool) := Go.Proofs.YtpmcojmhkpaoaaaLabel.lim (fun k => arrasref6_Covers.f k l0 l1)
theorem arrasref6_Covers.F_lim (l0 : List Int) (l1 : List Int) : Go.Proofs.YtpmcojmhkpaoaaaLabel.Lim (fun k => arrasref6_Covers.f k l0 l1) (arrasref6_Covers.F l0 l1) := Go.Proofs.YtpmcojmhkpaoaaaLabel.lim_spec (arrasref6_Covers.mono l0 l1)
theorem arrasref6_Covers.F_eq (l0 : List Int) (l1 : List Int) : arrasref6_Covers.F l0 l1 = (arrasref6_Covers.L0 l0 l1 0) := by
  refine Go.Proofs.YtpmcojmhkpaoaaaLabel.Lim.unique (arrasref6_Covers.F_lim l0 l1) ?_
  simp only [arrasref6_Covers.f]
  (repeat' (first | exact Go.Proofs.YtpmcojmhkpaoaaaLabel.Lim.const _ | exact arrasref6_Covers.L0_lim _ _ _ | refine Go.Proofs.YtpmcojmhkpaoaaaLabel.Lim.ite ?_ ?_ | refine Go.Proofs.YtpmcojmhkpaoaaaLabel.Lim.bind ?_ (fun _ => ?_)))

/-! #### arraslaw7_HavePairs: function 15 -/
mutual
def arraslaw7_HavePairs.l0 : Nat → List (S86) → Int → Option (Bool)
 | 0, _, _ => none
 | k + 1, x0, x3 => if x3 < (x0.length : Int) then (arraslaw7_HavePairs.j1 k x0 x3 (decide (x3 < 15))) else (arraslaw7_HavePairs.j1 k x0 x3 false)
def arraslaw7_HavePairs.j1 : Nat → List (S86) → Int → Bool → Option (Bool)
 | 0, _, _, _ => none
 | k + 1, x0, x3, x26 => if x26 = true then (if 0 ≤ x3 then (if x3 < (x0.length : Int) then ((arraslaw7_heavy.f ((rd_T86 x0 x3).f0) ((rd_T86 x0 x3).f1) ((rd_T86 x0 x3).f2)).bind fun t776 => (if t776 = true then (some true) else ((arrasref0_CopyNumbers.f k ((rd_T86 x0 x3).f0)).bind fun t777 => ((arrasref0_CopyNumbers.f k ((rd_T86 x0 x3).f1)).bind fun t780 => ((have_Covers.f k t777 t780).bind fun bt783 => ((have_Join.f k t777 t780).bind fun bt785 => ((have_Lacks.f k t777 t780).bind fun bt789 => ((have_Count.f k t777).bind fun bt793 => ((arrasref6_Vector.f k ((rd_T86 x0 x3).f0)).bind fun t795 => (arraslaw7_HavePairs.l1 k x0 x3 t777 t780 bt783.1 bt783.2 bt785.1 bt785.2 bt789.1 bt789.2 bt793.1 bt793.2 t795 0 0 ((rd_T86 x0 x3).f0) ((rd_T86 x0 x3).f1) ((rd_T86 x0 x3).f2))))))))))) else (none)) else (none)) else ((arraslaw7_wakes.f k).bind fun t773 => (some t773))
def arraslaw7_HavePairs.j3 : Nat → List (S86) → Int → List Int → List Int → Bool → Int → List Int → Int → List Int → Int → Int → Int → Bool → Int → List Int → List Int → List Int → Option (Bool)
 | 0, _, _, _, _, _, _, _, _, _, _, _, _, _, _, _, _, _ => none
 | k + 1, x0, x3, x5, x6, x7, x8, x9, x10, x11, x12, x13, x14, x15, x16, x776000, x776001, x776002 => (have_Check.f k x5).bind fun t797 => ((arraslaw7_num.f t797).bind fun t798 => (if ((t798 == 0) != x15) = true then (arraslaw7_HavePairs.j4 k x0 x3 x5 x6 x7 x8 x9 x10 x11 x12 true x776000 x776001 x776002) else ((arraslaw7_num.f x14).bind fun t799 => (if ((t799 == 0) != x15) = true then (arraslaw7_HavePairs.j4 k x0 x3 x5 x6 x7 x8 x9 x10 x11 x12 true x776000 x776001 x776002) else (if x13 = x16 then (if x15 = true then (arraslaw7_HavePairs.j4 k x0 x3 x5 x6 x7 x8 x9 x10 x11 x12 false x776000 x776001 x776002) else ((arraslaw7_num.f x14).bind fun t800 => (arraslaw7_HavePairs.j4 k x0 x3 x5 x6 x7 x8 x9 x10 x11 x12 (t800 != 1) x776000 x776001 x776002))) else (arraslaw7_HavePairs.j4 k x0 x3 x5 x6 x7 x8 x9 x10 x11 x12 true x776000 x776001 x776002))))))
def arraslaw7_HavePairs.j4 : Nat → List (S86) → Int → List Int → List Int → Bool → Int → List Int → Int → List Int → Int → Bool → List Int → List Int → List Int → Option (Bool)
 | 0, _, _, _, _, _, _, _, _, _, _, _, _, _, _ => none
 | k + 1, x0, x3, x5, x6, x7, x8, x9, x10, x11, x12, x110, x776000, x776001, x776002 => if x110 = true then (some false) else ((arrasref6_Pair.f k x776000 x776001).bind fun t801 => (if t801 = true then ((arraslaw7_num.f x8).bind fun t805 => (if t805 = 0 then ((arraslaw7_num.f x10).bind fun t806 => (if t806 = 0 then ((arraslaw7_num.f x12).bind fun t807 => (if t807 = 0 then ((arrasref6_Covers.f k x776000 x776001).bind fun t808 => (if (x7 != t808) = true then (arraslaw7_HavePairs.j6 k x0 x3 x5 x6 x9 x11 true x776000 x776001 x776002) else (if (x9.length : Int) = (x776000.length : Int) then (arraslaw7_HavePairs.j6 k x0 x3 x5 x6 x9 x11 ((x11.length : Int) != (x776000.length : Int)) x776000 x776001 x776002) else (arraslaw7_HavePairs.j6 k x0 x3 x5 x6 x9 x11 true x776000 x776001 x776002)))) else (arraslaw7_HavePairs.j6 k x0 x3 x5 x6 x9 x11 true x776000 x776001 x776002))) else (arraslaw7_HavePairs.j6 k x0 x3 x5 x6 x9 x11 true x776000 x776001 x776002))) else (arraslaw7_HavePairs.j6 k x0 x3 x5 x6 x9 x11 true x776000 x776001 x776002))) else ((arraslaw7_num.f x8).bind fun t802 => (if t802 = 1 then ((arraslaw7_num.f x10).bind fun t803 => (if t803 = 1 then ((arraslaw7_num.f x12).bind fun t804 => (if t804 = 1 then (if x7 = true then (arraslaw7_HavePairs.j5 k x0 x3 true) else (arraslaw7_HavePairs.j5 k x0 x3 (decide ((wrap64 ((x9.length : Int) + (x11.length : Int))) > 0)))) else (arraslaw7_HavePairs.j5 k x0 x3 true))) else (arraslaw7_HavePairs.j5 k x0 x3 true))) else (arraslaw7_HavePairs.j5 k x0 x3 true)))))
def arraslaw7_HavePairs.j6 : Nat → List (S86) → Int → List Int → List Int → List Int → List Int → Bool → List Int → List Int → List Int → Option (Bool)
 | 0, _, _, _, _, _, _, _, _, _, _ => none
 | k + 1, x0, x3, x5, x6, x9, x11, x178, x776000, x776001, x776002 => if x178 = true then (some false) else (arraslaw7_HavePairs.l2 k x0 x3 x5 x6 x9 x11 0 x776000 x776001 x776002)
def arraslaw7_HavePairs.l2 : Nat → List (S86) → Int → List Int → List Int → List Int → List Int → Int → List Int → List Int → List Int → Option (Bool)
 | 0, _, _, _, _, _, _, _, _, _, _ => none
 | k + 1, x0, x3, x5, x6, x9, x11, x18, x776000, x776001, x776002 => if x18 < (x9.length : Int) then (if 0 ≤ x18 then (if x18 < (x776000.length : Int) then (if x18 < (x776001.length : Int) then (if (rd x9 x18) = (mx (rd x776000 x18) (rd x776001 x18)) then (if x18 < (x11.length : Int) then (if (rd x11 x18) = (mx 0 (wrap64 ((rd x776001 x18) - (rd x776000 x18)))) then (arraslaw7_HavePairs.l2 k x0 x3 x5 x6 x9 x11 (wrap64 (x18 + 1)) x776000 x776001 x776002) else (some false)) else (none)) else (some false)) else (none)) else (none)) else (none)) else ((arraslaw0_Numbers.f k x9).bind fun _ => ((arraslaw0_Numbers.f k x11).bind fun _ => ((arrasref0_EqNumbers.f k x5 x776000).bind fun t815 => (if t815 = true then ((arrasref0_EqNumbers.f k x6 x776001).bind fun t816 => (if t816 = true then (arraslaw7_HavePairs.l0 k x0 (wrap64 (x3 + 1))) else (some false))) else (some false)))))
def arraslaw7_HavePairs.j5 : Nat → List (S86) → Int → Bool → Option (Bool)
 | 0, _, _, _ => none
 | k + 1, x0, x3, x140 => if x140 = true then (some false) else (arraslaw7_HavePairs.l0 k x0 (wrap64 (x3 + 1)))
def arraslaw7_HavePairs.l1 : Nat → List (S86) → Int → List Int → List Int → Bool → Int → List Int → Int → List Int → Int → Int → Int → Bool → Int → Int → List Int → List Int → List Int → Option (Bool)
 | 0, _, _, _, _, _, _, _, _, _, _, _, _, _, _, _, _, _, _ => none
 | k + 1, x0, x3, x5, x6, x7, x8, x9, x10, x11, x12, x13, x14, x15, x16, x17, x776000, x776001, x776002 => if x17 < (x776000.length : Int) then (if x15 = true then (if 0 ≤ x17 then (arraslaw7_HavePairs.l1 k x0 x3 x5 x6 x7 x8 x9 x10 x11 x12 x13 x14 x15 (wrap64 (x16 + (rd x776000 x17))) (wrap64 (x17 + 1)) x776000 x776001 x776002) else (none)) else (arraslaw7_HavePairs.j3 k x0 x3 x5 x6 x7 x8 x9 x10 x11 x12 x13 x14 x15 x16 x776000 x776001 x776002)) else (arraslaw7_HavePairs.j3 k x0 x3 x5 x6 x7 x8 x9 x10 x11 x12 x13 x14 x15 x16 x776000 x776001 x776002)
end
def arraslaw7_HavePairs.f (k : Nat) (l0 : List (S86)) : Option (Bool) := arraslaw7_HavePairs.l0 k l0 0
theorem arraslaw7_HavePairs.mono_l : ∀ k, (∀ y0 y1, LeO (arraslaw7_HavePairs.l0 k y0 y1) (arraslaw7_HavePairs.l0 (k + 1) y0 y1)) ∧ (∀ y0 y1 y2, LeO (arraslaw7_HavePairs.j1 k y0 y1 y2) (arraslaw7_HavePairs.j1 (k + 1) y0 y1 y2)) ∧ (∀ y0 y1 y2 y3 y4 y5 y6 y7 y8 y9 y10 y11 y12 y13 y14 y15 y16, LeO (arraslaw7_HavePairs.j3 k y0 y1 y2 y3 y4 y5 y6 y7 y8 y9 y10 y11 y12 y13 y14 y15 y16) (arraslaw7_HavePairs.j3 (k + 1) y0 y1 y2 y3 y4 y5 y6 y7 y8 y9 y10 y11 y12 y13 y14 y15 y16)) ∧ (∀ y0 y1 y2 y3 y4 y5 y6 y7 y8 y9 y10 y11 y12 y13, LeO (arraslaw7_HavePairs.j4 k y0 y1 y2 y3 y4 y5 y6 y7 y8 y9 y10 y11 y12 y13) (arraslaw7_HavePairs.j4 (k + 1) y0 y1 y2 y3 y4 y5 y6 y7 y8 y9 y10 y11 y12 y13)) ∧ (∀ y0 y1 y2 y3 y4 y5 y6 y7 y8 y9, LeO (arraslaw7_HavePairs.j6 k y0 y1 y2 y3 y4 y5 y6 y7 y8 y9) (arraslaw7_HavePairs.j6 (k + 1) y0 y1 y2 y3 y4 y5 y6 y7 y8 y9)) ∧ (∀ y0 y1 y2 y3 y4 y5 y6 y7 y8 y9, LeO (arraslaw7_HavePairs.l2 k y0 y1 y2 y3 y4 y5 y6 y7 y8 y9) (arraslaw7_HavePairs.l2 (k + 1) y0 y1 y2 y3 y4 y5 y6 y7 y8 y9)) ∧ (∀ y0 y1 y2, LeO (arraslaw7_HavePairs.j5 k y0 y1 y2) (arraslaw7_HavePairs.j5 (k + 1) y0 y1 y2)) ∧ (∀ y0 y1 y2 y3 y4 y5 y6 y7 y8 y9 y10 y11 y12 y13 y14 y15 y16 y17, LeO (arraslaw7_HavePairs.l1 k y0 y1 y2 y3 y4 y5 y6 y7 y8 y9 y10 y11 y12 y13 y14 y15 y16 y17) (arraslaw7_HavePairs.l1 (k + 1) y0 y1 y2 y3 y4 y5 y6 y7 y8 y9 y10 y11 y12 y13 y14 y15 y16 y17))
 | 0 => ⟨fun _ _ r h => by simp [arraslaw7_HavePairs.l0] at h, fun _ _ _ r h => by simp [arraslaw7_HavePairs.j1] at h, fun _ _ _ _ _ _ _ _ _ _ _ _ _ _ _ _ _ r h => by simp [arraslaw7_HavePairs.j3] at h, fun _ _ _ _ _ _ _ _ _ _ _ _ _ _ r h => by simp [arraslaw7_HavePairs.j4] at h, fun _ _ _ _ _ _ _ _ _ _ r h => by simp [arraslaw7_HavePairs.j6] at h, fun _ _ _ _ _ _ _ _ _ _ r h => by simp [arraslaw7_HavePairs.l2] at h, fun _ _ _ r h => by simp [arraslaw7_HavePairs.j5] at h, fun _ _ _ _ _ _ _ _ _ _ _ _ _ _ _ _ _ _ r h => by simp [arraslaw7_HavePairs.l1] at h⟩
 | k + 1 => by
  obtain ⟨ih0, ih1, ih2, ih3, ih4, ih5, ih6, ih7⟩ := arraslaw7_HavePairs.mono_l k
  refine ⟨?_, ?_, ?_, ?_, ?_, ?_, ?_, ?_⟩
  ·intro y0 y1
   unfold arraslaw7_HavePairs.l0
   repeat' first
   | (with_reducible exact ih0 _ _)
   | (with_reducible exact ih1 _ _ _)
   | (with_reducible exact ih2 _ _ _ _ _ _ _ _ _ _ _ _ _ _ _ _ _)
   | (with_reducible exact ih3 _ _ _ _ _ _ _ _ _ _ _ _ _ _)
   | (with_reducible exact ih4 _ _ _ _ _ _ _ _ _ _)
   | (with_reducible exact ih5 _ _ _ _ _ _ _ _ _ _)
   | (with_reducible exact ih6 _ _ _)
   | (with_reducible exact ih7 _ _ _ _ _ _ _ _ _ _ _ _ _ _ _ _ _ _)
   | (with_reducible exact arraslaw0_Numbers.mono _ _)
   | (with_reducible exact arraslaw7_wakes.mono _)
   | (with_reducible exact arrasref0_CopyNumbers.mono _ _)
   | (with_reducible exact arrasref0_EqNumbers.mono _ _ _)
   | (with_reducible exact arrasref6_Covers.mono _ _ _)
   | (with_reducible exact arrasref6_Pair.mono _ _ _)
   | (with_reducible exact arrasref6_Vector.mono _ _)
   | (with_reducible exact have_Check.mono _ _)
   | (with_reducible exact have_Count.mono _ _)
   | (with_reducible exact have_Covers.mono _ _ _)
   | (with_reducible exact have_Join.mono _ _ _)
   | (with_reducible exact have_Lacks.mono _ _ _)
   | (with_reducible exact LeO.refl _)
   | (with_reducible exact LeO.none _)
   | (with_reducible refine LeO.ite ?_ ?_)
   | (with_reducible refine LeO.bind ?_ (fun _ => ?_))
   | exact ih0 _ _
   | exact ih1 _ _ _
   | exact ih2 _ _ _ _ _ _ _ _ _ _ _ _ _ _ _ _ _
   | exact ih3 _ _ _ _ _ _ _ _ _ _ _ _ _ _
   | exact ih4 _ _ _ _ _ _ _ _ _ _
   | exact ih5 _ _ _ _ _ _ _ _ _ _
   | exact ih6 _ _ _
   | exact ih7 _ _ _ _ _ _ _ _ _ _ _ _ _ _ _ _ _ _
   | exact arraslaw0_Numbers.mono _ _
   | exact arraslaw7_wakes.mono _
   | exact arrasref0_CopyNumbers.mono _ _
   | exact arrasref0_EqNumbers.mono _ _ _
   | exact arrasref6_Covers.mono _ _ _
   | exact arrasref6_Pair.mono _ _ _
   | exact arrasref6_Vector.mono _ _
   | exact have_Check.mono _ _
   | exact have_Count.mono _ _
   | exact have_Covers.mono _ _ _
   | exact have_Join.mono _ _ _
   | exact have_Lacks.mono _ _ _
   | exact LeO.none _
   | refine LeO.ite ?_ ?_
   | refine LeO.bind ?_ (fun _ => ?_)
  ·intro y0 y1 y2
   unfold arraslaw7_HavePairs.j1
   repeat' first
   | (with_reducible exact ih0 _ _)
   | (with_reducible exact ih1 _ _ _)
   | (with_reducible exact ih2 _ _ _ _ _ _ _ _ _ _ _ _ _ _ _ _ _)
   | (with_reducible exact ih3 _ _ _ _ _ _ _ _ _ _ _ _ _ _)
   | (with_reducible exact ih4 _ _ _ _ _ _ _ _ _ _)
   | (with_reducible exact ih5 _ _ _ _ _ _ _ _ _ _)
   | (with_reducible exact ih6 _ _ _)
   | (with_reducible exact ih7 _ _ _ _ _ _ _ _ _ _ _ _ _ _ _ _ _ _)
   | (with_reducible exact arraslaw0_Numbers.mono _ _)
   | (with_reducible exact arraslaw7_wakes.mono _)
   | (with_reducible exact arrasref0_CopyNumbers.mono _ _)
   | (with_reducible exact arrasref0_EqNumbers.mono _ _ _)
   | (with_reducible exact arrasref6_Covers.mono _ _ _)
   | (with_reducible exact arrasref6_Pair.mono _ _ _)
   | (with_reducible exact arrasref6_Vector.mono _ _)
   | (with_reducible exact have_Check.mono _ _)
   | (with_reducible exact have_Count.mono _ _)
   | (with_reducible exact have_Covers.mono _ _ _)
   | (with_reducible exact have_Join.mono _ _ _)
   | (with_reducible exact have_Lacks.mono _ _ _)
   | (with_reducible exact LeO.refl _)
   | (with_reducible exact LeO.none _)
   | (with_reducible refine LeO.ite ?_ ?_)
   | (with_reducible refine LeO.bind ?_ (fun _ => ?_))
   | exact ih0 _ _
   | exact ih1 _ _ _
   | exact ih2 _ _ _ _ _ _ _ _ _ _ _ _ _ _ _ _ _
   | exact ih3 _ _ _ _ _ _ _ _ _ _ _ _ _ _
   | exact ih4 _ _ _ _ _ _ _ _ _ _
   | exact ih5 _ _ _ _ _ _ _ _ _ _
   | exact ih6 _ _ _
   | exact ih7 _ _ _ _ _ _ _ _ _ _ _ _ _ _ _ _ _ _
   | exact arraslaw0_Numbers.mono _ _
   | exact arraslaw7_wakes.mono _
   | exact arrasref0_CopyNumbers.mono _ _
   | exact arrasref0_EqNumbers.mono _ _ _
   | exact arrasref6_Covers.mono _ _ _
   | exact arrasref6_Pair.mono _ _ _
   | exact arrasref6_Vector.mono _ _
   | exact have_Check.mono _ _
   | exact have_Count.mono _ _
   | exact have_Covers.mono _ _ _
   | exact have_Join.mono _ _ _
   | exact have_Lacks.mono _ _ _
   | exact LeO.none _
   | refine LeO.ite ?_ ?_
   | refine LeO.bind ?_ (fun _ => ?_)
  ·intro y0 y1 y2 y3 y4 y5 y6 y7 y8 y9 y10 y11 y12 y13 y14 y15 y16
   unfold arraslaw7_HavePairs.j3
   repeat' first
   | (with_reducible exact ih0 _ _)
   | (with_reducible exact ih1 _ _ _)
   | (with_reducible exact ih2 _ _ _ _ _ _ _ _ _ _ _ _ _ _ _ _ _)
   | (with_reducible exact ih3 _ _ _ _ _ _ _ _ _ _ _ _ _ _)
   | (with_reducible exact ih4 _ _ _ _ _ _ _ _ _ _)
   | (with_reducible exact ih5 _ _ _ _ _ _ _ _ _ _)
   | (with_reducible exact ih6 _ _ _)
   | (with_reducible exact ih7 _ _ _ _ _ _ _ _ _ _ _ _ _ _ _ _ _ _)
   | (with_reducible exact arraslaw0_Numbers.mono _ _)
   | (with_reducible exact arraslaw7_wakes.mono _)
   | (with_reducible exact arrasref0_CopyNumbers.mono _ _)
   | (with_reducible exact arrasref0_EqNumbers.mono _ _ _)
   | (with_reducible exact arrasref6_Covers.mono _ _ _)
   | (with_reducible exact arrasref6_Pair.mono _ _ _)
   | (with_reducible exact arrasref6_Vector.mono _ _)
   | (with_reducible exact have_Check.mono _ _)
   | (with_reducible exact have_Count.mono _ _)
   | (with_reducible exact have_Covers.mono _ _ _)
   | (with_reducible exact have_Join.mono _ _ _)
   | (with_reducible exact have_Lacks.mono _ _ _)
   | (with_reducible exact LeO.refl _)
   | (with_reducible exact LeO.none _)
   | (with_reducible refine LeO.ite ?_ ?_)
   | (with_reducible refine LeO.bind ?_ (fun _ => ?_))
   | exact ih0 _ _
   | exact ih1 _ _ _
   | exact ih2 _ _ _ _ _ _ _ _ _ _ _ _ _ _ _ _ _
   | exact ih3 _ _ _ _ _ _ _ _ _ _ _ _ _ _
   | exact ih4 _ _ _ _ _ _ _ _ _ _
   | exact ih5 _ _ _ _ _ _ _ _ _ _
   | exact ih6 _ _ _
   | exact ih7 _ _ _ _ _ _ _ _ _ _ _ _ _ _ _ _ _ _
   | exact arraslaw0_Numbers.mono _ _
   | exact arraslaw7_wakes.mono _
   | exact arrasref0_CopyNumbers.mono _ _
   | exact arrasref0_EqNumbers.mono _ _ _
   | exact arrasref6_Covers.mono _ _ _
   | exact arrasref6_Pair.mono _ _ _
   | exact arrasref6_Vector.mono _ _
   | exact have_Check.mono _ _
   | exact have_Count.mono _ _
   | exact have_Covers.mono _ _ _
   | exact have_Join.mono _ _ _
   | exact have_Lacks.mono _ _ _
   | exact LeO.none _
   | refine LeO.ite ?_ ?_
   | refine LeO.bind ?_ (fun _ => ?_)
  ·intro y0 y1 y2 y3 y4 y5 y6 y7 y8 y9 y10 y11 y12 y13
   unfold arraslaw7_HavePairs.j4
   repeat' first
   | (with_reducible exact ih0 _ _)
   | (with_reducible exact ih1 _ _ _)
   | (with_reducible exact ih2 _ _ _ _ _ _ _ _ _ _ _ _ _ _ _ _ _)
   | (with_reducible exact ih3 _ _ _ _ _ _ _ _ _ _ _ _ _ _)
   | (with_reducible exact ih4 _ _ _ _ _ _ _ _ _ _)
   | (with_reducible exact ih5 _ _ _ _ _ _ _ _ _ _)
   | (with_reducible exact ih6 _ _ _)
   | (with_reducible exact ih7 _ _ _ _ _ _ _ _ _ _ _ _ _ _ _ _ _ _)
   | (with_reducible exact arraslaw0_Numbers.mono _ _)
   | (with_reducible exact arraslaw7_wakes.mono _)
   | (with_reducible exact arrasref0_CopyNumbers.mono _ _)
   | (with_reducible exact arrasref0_EqNumbers.mono _ _ _)
   | (with_reducible exact arrasref6_Covers.mono _ _ _)
   | (with_reducible exact arrasref6_Pair.mono _ _ _)
   | (with_reducible exact arrasref6_Vector.mono _ _)
   | (with_reducible exact have_Check.mono _ _)
   | (with_reducible exact have_Count.mono _ _)
   | (with_reducible exact have_Covers.mono _ _ _)
   | (with_reducible exact have_Join.mono _ _ _)
   | (with_reducible exact have_Lacks.mono _ _ _)
   | (with_reducible exact LeO.refl _)
   | (with_reducible exact LeO.none _)
   | (with_reducible refine LeO.ite ?_ ?_)
   | (with_reducible refine LeO.bind ?_ (fun _ => ?_))
   | exact ih0 _ _
   | exact ih1 _ _ _
   | exact ih2 _ _ _ _ _ _ _ _ _ _ _ _ _ _ _ _ _
   | exact ih3 _ _ _ _ _ _ _ _ _ _ _ _ _ _
   | exact ih4 _ _ _ _ _ _ _ _ _ _
   | exact ih5 _ _ _ _ _ _ _ _ _ _
   | exact ih6 _ _ _
   | exact ih7 _ _ _ _ _ _ _ _ _ _ _ _ _ _ _ _ _ _
   | exact arraslaw0_Numbers.mono _ _
   | exact arraslaw7_wakes.mono _
   | exact arrasref0_CopyNumbers.mono _ _
   | exact arrasref0_EqNumbers.mono _ _ _
   | exact arrasref6_Covers.mono _ _ _
   | exact arrasref6_Pair.mono _ _ _
   | exact arrasref6_Vector.mono _ _
   | exact have_Check.mono _ _
   | exact have_Count.mono _ _
   | exact have_Covers.mono _ _ _
   | exact have_Join.mono _ _ _
   | exact have_Lacks.mono _ _ _
   | exact LeO.none _
   | refine LeO.ite ?_ ?_
   | refine LeO.bind ?_ (fun _ => ?_)
  ·intro y0 y1 y2 y3 y4 y5 y6 y7 y8 y9
   unfold arraslaw7_HavePairs.j6
   repeat' first
   | (with_reducible exact ih0 _ _)
   | (with_reducible exact ih1 _ _ _)
   | (with_reducible exact ih2 _ _ _ _ _ _ _ _ _ _ _ _ _ _ _ _ _)
   | (with_reducible exact ih3 _ _ _ _ _ _ _ _ _ _ _ _ _ _)
   | (with_reducible exact ih4 _ _ _ _ _ _ _ _ _ _)
   | (with_reducible exact ih5 _ _ _ _ _ _ _ _ _ _)
   | (with_reducible exact ih6 _ _ _)
   | (with_reducible exact ih7 _ _ _ _ _ _ _ _ _ _ _ _ _ _ _ _ _ _)
   | (with_reducible exact arraslaw0_Numbers.mono _ _)
   | (with_reducible exact arraslaw7_wakes.mono _)
   | (with_reducible exact arrasref0_CopyNumbers.mono _ _)
   | (with_reducible exact arrasref0_EqNumbers.mono _ _ _)
   | (with_reducible exact arrasref6_Covers.mono _ _ _)
   | (with_reducible exact arrasref6_Pair.mono _ _ _)
   | (with_reducible exact arrasref6_Vector.mono _ _)
   | (with_reducible exact have_Check.mono _ _)
   | (with_reducible exact have_Count.mono _ _)
   | (with_reducible exact have_Covers.mono _ _ _)
   | (with_reducible exact have_Join.mono _ _ _)
   | (with_reducible exact have_Lacks.mono _ _ _)
   | (with_reducible exact LeO.refl _)
   | (with_reducible exact LeO.none _)
   | (with_reducible refine LeO.ite ?_ ?_)
   | (with_reducible refine LeO.bind ?_ (fun _ => ?_))
   | exact ih0 _ _
   | exact ih1 _ _ _
   | exact ih2 _ _ _ _ _ _ _ _ _ _ _ _ _ _ _ _ _
   | exact ih3 _ _ _ _ _ _ _ _ _ _ _ _ _ _
   | exact ih4 _ _ _ _ _ _ _ _ _ _
   | exact ih5 _ _ _ _ _ _ _ _ _ _
   | exact ih6 _ _ _
   | exact ih7 _ _ _ _ _ _ _ _ _ _ _ _ _ _ _ _ _ _
   | exact arraslaw0_Numbers.mono _ _
   | exact arraslaw7_wakes.mono _
   | exact arrasref0_CopyNumbers.mono _ _
   | exact arrasref0_EqNumbers.mono _ _ _
   | exact arrasref6_Covers.mono _ _ _
   | exact arrasref6_Pair.mono _ _ _
   | exact arrasref6_Vector.mono _ _
   | exact have_Check.mono _ _
   | exact have_Count.mono _ _
   | exact have_Covers.mono _ _ _
   | exact have_Join.mono _ _ _
   | exact have_Lacks.mono _ _ _
   | exact LeO.none _
   | refine LeO.ite ?_ ?_
   | refine LeO.bind ?_ (fun _ => ?_)
  ·intro y0 y1 y2 y3 y4 y5 y6 y7 y8 y9
   unfold arraslaw7_HavePairs.l2
   repeat' first
   | (with_reducible exact ih0 _ _)
   | (with_reducible exact ih1 _ _ _)
   | (with_reducible exact ih2 _ _ _ _ _ _ _ _ _ _ _ _ _ _ _ _ _)
   | (with_reducible exact ih3 _ _ _ _ _ _ _ _ _ _ _ _ _ _)
   | (with_reducible exact ih4 _ _ _ _ _ _ _ _ _ _)
   | (with_reducible exact ih5 _ _ _ _ _ _ _ _ _ _)
   | (with_reducible exact ih6 _ _ _)
   | (with_reducible exact ih7 _ _ _ _ _ _ _ _ _ _ _ _ _ _ _ _ _ _)
   | (with_reducible exact arraslaw0_Numbers.mono _ _)
   | (with_reducible exact arraslaw7_wakes.mono _)
   | (with_reducible exact arrasref0_CopyNumbers.mono _ _)
   | (with_reducible exact arrasref0_EqNumbers.mono _ _ _)
   | (with_reducible exact arrasref6_Covers.mono _ _ _)
   | (with_reducible exact arrasref6_Pair.mono _ _ _)
   | (with_reducible exact arrasref6_Vector.mono _ _)
   | (with_reducible exact have_Check.mono _ _)
   | (with_reducible exact have_Count.mono _ _)
   | (with_reducible exact have_Covers.mono _ _ _)
   | (with_reducible exact have_Join.mono _ _ _)
   | (with_reducible exact have_Lacks.mono _ _ _)
   | (with_reducible exact LeO.refl _)
   | (with_reducible exact LeO.none _)
   | (with_reducible refine LeO.ite ?_ ?_)
   | (with_reducible refine LeO.bind ?_ (fun _ => ?_))
   | exact ih0 _ _
   | exact ih1 _ _ _
   | exact ih2 _ _ _ _ _ _ _ _ _ _ _ _ _ _ _ _ _
   | exact ih3 _ _ _ _ _ _ _ _ _ _ _ _ _ _
   | exact ih4 _ _ _ _ _ _ _ _ _ _
   | exact ih5 _ _ _ _ _ _ _ _ _ _
   | exact ih6 _ _ _
   | exact ih7 _ _ _ _ _ _ _ _ _ _ _ _ _ _ _ _ _ _
   | exact arraslaw0_Numbers.mono _ _
   | exact arraslaw7_wakes.mono _
   | exact arrasref0_CopyNumbers.mono _ _
   | exact arrasref0_EqNumbers.mono _ _ _
   | exact arrasref6_Covers.mono _ _ _
   | exact arrasref6_Pair.mono _ _ _
   | exact arrasref6_Vector.mono _ _
   | exact have_Check.mono _ _
   | exact have_Count.mono _ _
   | exact have_Covers.mono _ _ _
   | exact have_Join.mono _ _ _
   | exact have_Lacks.mono _ _ _
   | exact LeO.none _
   | refine LeO.ite ?_ ?_
   | refine LeO.bind ?_ (fun _ => ?_)
  ·intro y0 y1 y2
   unfold arraslaw7_HavePairs.j5
   repeat' first
   | (with_reducible exact ih0 _ _)
   | (with_reducible exact ih1 _ _ _)
   | (with_reducible exact ih2 _ _ _ _ _ _ _ _ _ _ _ _ _ _ _ _ _)
   | (with_reducible exact ih3 _ _ _ _ _ _ _ _ _ _ _ _ _ _)
   | (with_reducible exact ih4 _ _ _ _ _ _ _ _ _ _)
   | (with_reducible exact ih5 _ _ _ _ _ _ _ _ _ _)
   | (with_reducible exact ih6 _ _ _)
   | (with_reducible exact ih7 _ _ _ _ _ _ _ _ _ _ _ _ _ _ _ _ _ _)
   | (with_reducible exact arraslaw0_Numbers.mono _ _)
   | (with_reducible exact arraslaw7_wakes.mono _)
   | (with_reducible exact arrasref0_CopyNumbers.mono _ _)
   | (with_reducible exact arrasref0_EqNumbers.mono _ _ _)
   | (with_reducible exact arrasref6_Covers.mono _ _ _)
   | (with_reducible exact arrasref6_Pair.mono _ _ _)
   | (with_reducible exact arrasref6_Vector.mono _ _)
   | (with_reducible exact have_Check.mono _ _)
   | (with_reducible exact have_Count.mono _ _)
   | (with_reducible exact have_Covers.mono _ _ _)
   | (with_reducible exact have_Join.mono _ _ _)
   | (with_reducible exact have_Lacks.mono _ _ _)
   | (with_reducible exact LeO.refl _)
   | (with_reducible exact LeO.none _)
   | (with_reducible refine LeO.ite ?_ ?_)
   | (with_reducible refine LeO.bind ?_ (fun _ => ?_))
   | exact ih0 _ _
   | exact ih1 _ _ _
   | exact ih2 _ _ _ _ _ _ _ _ _ _ _ _ _ _ _ _ _
   | exact ih3 _ _ _ _ _ _ _ _ _ _ _ _ _ _
   | exact ih4 _ _ _ _ _ _ _ _ _ _
   | exact ih5 _ _ _ _ _ _ _ _ _ _
   | exact ih6 _ _ _
   | exact ih7 _ _ _ _ _ _ _ _ _ _ _ _ _ _ _ _ _ _
   | exact arraslaw0_Numbers.mono _ _
   | exact arraslaw7_wakes.mono _
   | exact arrasref0_CopyNumbers.mono _ _
   | exact arrasref0_EqNumbers.mono _ _ _
   | exact arrasref6_Covers.mono _ _ _
   | exact arrasref6_Pair.mono _ _ _
   | exact arrasref6_Vector.mono _ _
   | exact have_Check.mono _ _
   | exact have_Count.mono _ _
   | exact have_Covers.mono _ _ _
   | exact have_Join.mono _ _ _
   | exact have_Lacks.mono _ _ _
   | exact LeO.none _
   | refine LeO.ite ?_ ?_
   | refine LeO.bind ?_ (fun _ => ?_)
  ·intro y0 y1 y2 y3 y4 y5 y6 y7 y8 y9 y10 y11 y12 y13 y14 y15 y16 y17
   unfold arraslaw7_HavePairs.l1
   repeat' first
   | (with_reducible exact ih0 _ _)
   | (with_reducible exact ih1 _ _ _)
   | (with_reducible exact ih2 _ _ _ _ _ _ _ _ _ _ _ _ _ _ _ _ _)
   | (with_reducible exact ih3 _ _ _ _ _ _ _ _ _ _ _ _ _ _)
   | (with_reducible exact ih4 _ _ _ _ _ _ _ _ _ _)
   | (with_reducible exact ih5 _ _ _ _ _ _ _ _ _ _)
   | (with_reducible exact ih6 _ _ _)
   | (with_reducible exact ih7 _ _ _ _ _ _ _ _ _ _ _ _ _ _ _ _ _ _)
   | (with_reducible exact arraslaw0_Numbers.mono _ _)
   | (with_reducible exact arraslaw7_wakes.mono _)
   | (with_reducible exact arrasref0_CopyNumbers.mono _ _)
   | (with_reducible exact arrasref0_EqNumbers.mono _ _ _)
   | (with_reducible exact arrasref6_Covers.mono _ _ _)
   | (with_reducible exact arrasref6_Pair.mono _ _ _)
   | (with_reducible exact arrasref6_Vector.mono _ _)
   | (with_reducible exact have_Check.mono _ _)
   | (with_reducible exact have_Count.mono _ _)
   | (with_reducible exact have_Covers.mono _ _ _)
   | (with_reducible exact have_Join.mono _ _ _)
   | (with_reducible exact have_Lacks.mono _ _ _)
   | (with_reducible exact LeO.refl _)
   | (with_reducible exact LeO.none _)
   | (with_reducible refine LeO.ite ?_ ?_)
   | (with_reducible refine LeO.bind ?_ (fun _ => ?_))
   | exact ih0 _ _
   | exact ih1 _ _ _
   | exact ih2 _ _ _ _ _ _ _ _ _ _ _ _ _ _ _ _ _
   | exact ih3 _ _ _ _ _ _ _ _ _ _ _ _ _ _
   | exact ih4 _ _ _ _ _ _ _ _ _ _
   | exact ih5 _ _ _ _ _ _ _ _ _ _
   | exact ih6 _ _ _
   | exact ih7 _ _ _ _ _ _ _ _ _ _ _ _ _ _ _ _ _ _
   | exact arraslaw0_Numbers.mono _ _
   | exact arraslaw7_wakes.mono _
   | exact arrasref0_CopyNumbers.mono _ _
   | exact arrasref0_EqNumbers.mono _ _ _
   | exact arrasref6_Covers.mono _ _ _
   | exact arrasref6_Pair.mono _ _ _
   | exact arrasref6_Vector.mono _ _
   | exact have_Check.mono _ _
   | exact have_Count.mono _ _
   | exact have_Covers.mono _ _ _
   | exact have_Join.mono _ _ _
   | exact have_Lacks.mono _ _ _
   | exact LeO.none _
   | refine LeO.ite ?_ ?_
   | refine LeO.bind ?_ (fun _ => ?_)
theorem arraslaw7_HavePairs.mono : ∀ a0 k, LeO (arraslaw7_HavePairs.f k a0) (arraslaw7_HavePairs.f (k + 1) a0) := by
 intro a0 k
 obtain ⟨ih0, ih1, ih2, ih3, ih4, ih5, ih6, ih7⟩ := arraslaw7_HavePairs.mono_l k
 unfold arraslaw7_HavePairs.f
 repeat' first
   | (with_reducible exact ih0 _ _)
   | (with_reducible exact ih1 _ _ _)
   | (with_reducible exact ih2 _ _ _ _ _ _ _ _ _ _ _ _ _ _ _ _ _)
   | (with_reducible exact ih3 _ _ _ _ _ _ _ _ _ _ _ _ _ _)
   | (with_reducible exact ih4 _ _ _ _ _ _ _ _ _ _)
   | (with_reducible exact ih5 _ _ _ _ _ _ _ _ _ _)
   | (with_reducible exact ih6 _ _ _)
   | (with_reducible exact ih7 _ _ _ _ _ _ _ _ _ _ _ _ _ _ _ _ _ _)
   | (with_reducible exact arraslaw0_Numbers.mono _ _)
   | (with_reducible exact arraslaw7_wakes.mono _)
   | (with_reducible exact arrasref0_CopyNumbers.mono _ _)
   | (with_reducible exact arrasref0_EqNumbers.mono _ _ _)
   | (with_reducible exact arrasref6_Covers.mono _ _ _)
   | (with_reducible exact arrasref6_Pair.mono _ _ _)
   | (with_reducible exact arrasref6_Vector.mono _ _)
   | (with_reducible exact have_Check.mono _ _)
   | (with_reducible exact have_Count.mono _ _)
   | (with_reducible exact have_Covers.mono _ _ _)
   | (with_reducible exact have_Join.mono _ _ _)
   | (with_reducible exact have_Lacks.mono _ _ _)
   | (with_reducible exact LeO.refl _)
   | (with_reducible exact LeO.none _)
   | (with_reducible refine LeO.ite ?_ ?_)
   | (with_reducible refine LeO.bind ?_ (fun _ => ?_))
   | exact ih0 _ _
   | exact ih1 _ _ _
   | exact ih2 _ _ _ _ _ _ _ _ _ _ _ _ _ _ _ _ _
   | exact ih3 _ _ _ _ _ _ _ _ _ _ _ _ _ _
   | exact ih4 _ _ _ _ _ _ _ _ _ _
   | exact ih5 _ _ _ _ _ _ _ _ _ _
   | exact ih6 _ _ _
   | exact ih7 _ _ _ _ _ _ _ _ _ _ _ _ _ _ _ _ _ _
   | exact arraslaw0_Numbers.mono _ _
   | exact arraslaw7_wakes.mono _
   | exact arrasref0_CopyNumbers.mono _ _
   | exact arrasref0_EqNumbers.mono _ _ _
   | exact arrasref6_Covers.mono _ _ _
   | exact arrasref6_Pair.mono _ _ _
   | exact arrasref6_Vector.mono _ _
   | exact have_Check.mono _ _
   | exact have_Count.mono _ _
   | exact have_Covers.mono _ _ _
   | exact have_Join.mono _ _ _
   | exact have_Lacks.mono _ _ _
   | exact LeO.none _
   | refine LeO.ite ?_ ?_
   | refine LeO.bind ?_ (fun _ => ?_)
def arraslaw7_HavePairs.T7 : Bool × List (List Nat × List Nat) := (true, [([], []), ([0], [0]), ([1], [1]), ([], []), ([3], [3]), ([4, 2], [4]), ([2, 5, 0, 1, 2], [2]), ([5, 6, 0, 1, 2, 3, 4, 5, 6], [5])])
def arraslaw7_HavePairs.B7 : List Nat := [0, 1, 3, 0, 8, 31, 63, 127]
theorem arraslaw7_HavePairs.tab7 : rtab .any (opsOf Try.f15 7) = arraslaw7_HavePairs.T7 := by kernel_rfl
theorem arraslaw7_HavePairs.bits7 : waitsOk arraslaw7_HavePairs.T7.2 arraslaw7_HavePairs.B7 = true := by kernel_rfl
def arraslaw7_HavePairs.T28 : Bool × List (List Nat × List Nat) := (true, [([], []), ([], []), ([0, 1], [0, 1]), ([2], [2]), ([], []), ([4], [4]), ([], []), ([5, 6], [5, 6]), ([7], [7]), ([], []), ([9], [9]), ([], []), ([10, 11], [10, 11]), ([12], [12]), ([8, 13], [8, 13]), ([3, 14], [3, 14]), ([15], [15]), ([16], [16]), ([16], [16]), ([17, 18, 16], [16, 17, 18]), ([19, 16], [16, 19]), ([16], [16]), ([21, 16], [16, 21]), ([16], [16]), ([22, 23, 16], [16, 22, 23]), ([24, 16], [16, 24]), ([16], [16]), ([26, 16], [16, 26]), ([16], [16]), ([27, 28, 16], [16, 27, 28]), ([29, 16], [16, 29]), ([25, 30, 16], [16, 25, 30]), ([31, 16], [16, 31]), ([20, 32, 16], [16, 20, 32]), ([16, 33], [16, 33])])
def arraslaw7_HavePairs.B28 : List Nat := [0, 0, 3, 7, 0, 16, 0, 112, 240, 0, 512, 0, 3584, 7680, 16368, 32767, 65535, 131071, 131071, 524287, 1048575, 131071, 2228223, 131071, 14811135, 31588351, 131071, 67239935, 131071, 469893119, 1006764031, 2145517567, 4293001215, 8589934591, 17179869183]
theorem arraslaw7_HavePairs.tab28 : rtab .any (opsOf Try.f15 28) = arraslaw7_HavePairs.T28 := by kernel_rfl
theorem arraslaw7_HavePairs.bits28 : waitsOk arraslaw7_HavePairs.T28.2 arraslaw7_HavePairs.B28 = true := by kernel_rfl
noncomputable def arraslaw7_HavePairs.L0 (x0 : List (S86)) (x3 : Int) : Option (Bool) := Go.Proofs.YtpmcojmhkpaoaaaLabel.lim (fun k => arraslaw7_HavePairs.l0 k x0 x3)
noncomputable def arraslaw7_HavePairs.J1 (x0 : List (S86)) (x3 : Int) (x26 : Bool) : Option (Bool) := Go.Proofs.YtpmcojmhkpaoaaaLabel.lim (fun k => arraslaw7_HavePairs.j1 k x0 x3 x26)
noncomputable def arraslaw7_HavePairs.J3 (x0 : List (S86)) (x3 : Int) (x5 : List Int) (x6 : List Int) (x7 : Bool) (x8 : Int) (x9 : List Int) (x10 : Int) (x11 : List Int) (x12 : Int) (x13 : Int) (x14 : Int) (x15 : Bool) (x16 : Int) (x776000 : List Int) (x776001 : List Int) (x776002 : List Int) : Option (Bool) := Go.Proofs.YtpmcojmhkpaoaaaLabel.lim (fun k => arraslaw7_HavePairs.j3 k x0 x3 x5 x6 x7 x8 x9 x10 x11 x12 x13 x14 x15 x16 x776000 x776001 x776002)
noncomputable def arraslaw7_HavePairs.J4 (x0 : List (S86)) (x3 : Int) (x5 : List Int) (x6 : List Int) (x7 : Bool) (x8 : Int) (x9 : List Int) (x10 : Int) (x11 : List Int) (x12 : Int) (x110 : Bool) (x776000 : List Int) (x776001 : List Int) (x776002 : List Int) : Option (Bool) := Go.Proofs.YtpmcojmhkpaoaaaLabel.lim (fun k => arraslaw7_HavePairs.j4 k x0 x3 x5 x6 x7 x8 x9 x10 x11 x12 x110 x776000 x776001 x776002)
noncomputable def arraslaw7_HavePairs.J6 (x0 : List (S86)) (x3 : Int) (x5 : List Int) (x6 : List Int) (x9 : List Int) (x11 : List Int) (x178 : Bool) (x776000 : List Int) (x776001 : List Int) (x776002 : List Int) : Option (Bool) := Go.Proofs.YtpmcojmhkpaoaaaLabel.lim (fun k => arraslaw7_HavePairs.j6 k x0 x3 x5 x6 x9 x11 x178 x776000 x776001 x776002)
noncomputable def arraslaw7_HavePairs.L2 (x0 : List (S86)) (x3 : Int) (x5 : List Int) (x6 : List Int) (x9 : List Int) (x11 : List Int) (x18 : Int) (x776000 : List Int) (x776001 : List Int) (x776002 : List Int) : Option (Bool) := Go.Proofs.YtpmcojmhkpaoaaaLabel.lim (fun k => arraslaw7_HavePairs.l2 k x0 x3 x5 x6 x9 x11 x18 x776000 x776001 x776002)
noncomputable def arraslaw7_HavePairs.J5 (x0 : List (S86)) (x3 : Int) (x140 : Bool) : Option (Bool) := Go.Proofs.YtpmcojmhkpaoaaaLabel.lim (fun k => arraslaw7_HavePairs.j5 k x0 x3 x140)
noncomputable def arraslaw7_HavePairs.L1 (x0 : List (S86)) (x3 : Int) (x5 : List Int) (x6 : List Int) (x7 : Bool) (x8 : Int) (x9 : List Int) (x10 : Int) (x11 : List Int) (x12 : Int) (x13 : Int) (x14 : Int) (x15 : Bool) (x16 : Int) (x17 : Int) (x776000 : List Int) (x776001 : List Int) (x776002 : List Int) : Option (Bool) := Go.Proofs.YtpmcojmhkpaoaaaLabel.lim (fun k => arraslaw7_HavePairs.l1 k x0 x3 x5 x6 x7 x8 x9 x10 x11 x12 x13 x14 x15 x16 x17 x776000 x776001 x776002)
theorem arraslaw7_HavePairs.L0_lim (x0 : List (S86)) (x3 : Int) : Go.Proofs.YtpmcojmhkpaoaaaLabel.Lim (fun k => arraslaw7_HavePairs.l0 k x0 x3) (arraslaw7_HavePairs.L0 x0 x3) := Go.Proofs.YtpmcojmhkpaoaaaLabel.lim_spec (fun k => (arraslaw7_HavePairs.mono_l k).1 x0 x3)
theorem arraslaw7_HavePairs.J1_lim (x0 : List (S86)) (x3 : Int) (x26 : Bool) : Go.Proofs.YtpmcojmhkpaoaaaLabel.Lim (fun k => arraslaw7_HavePairs.j1 k x0 x3 x26) (arraslaw7_HavePairs.J1 x0 x3 x26) := Go.Proofs.YtpmcojmhkpaoaaaLabel.lim_spec (fun k => (arraslaw7_HavePairs.mono_l k).2.1 x0 x3 x26)
theorem arraslaw7_HavePairs.J3_lim (x0 : List (S86)) (x3 : Int) (x5 : List Int) (x6 : List Int) (x7 : Bool) (x8 : Int) (x9 : List Int) (x10 : Int) (x11 : List Int) (x12 : Int) (x13 : Int) (x14 : Int) (x15 : Bool) (x16 : Int) (x776000 : List Int) (x776001 : List Int) (x776002 : List Int) : Go.Proofs.YtpmcojmhkpaoaaaLabel.Lim (fun k => arraslaw7_HavePairs.j3 k x0 x3 x5 x6 x7 x8 x9 x10 x11 x12 x13 x14 x15 x16 x776000 x776001 x776002) (arraslaw7_HavePairs.J3 x0 x3 x5 x6 x7 x8 x9 x10 x11 x12 x13 x14 x15 x16 x776000 x776001 x776002) := Go.Proofs.YtpmcojmhkpaoaaaLabel.lim_spec (fun k => (arraslaw7_HavePairs.mono_l k).2.2.1 x0 x3 x5 x6 x7 x8 x9 x10 x11 x12 x13 x14 x15 x16 x776000 x776001 x776002)
theorem arraslaw7_HavePairs.J4_lim (x0 : List (S86)) (x3 : Int) (x5 : List Int) (x6 : List Int) (x7 : Bool) (x8 : Int) (x9 : List Int) (x10 : Int) (x11 : List Int) (x12 : Int) (x110 : Bool) (x776000 : List Int) (x776001 : List Int) (x776002 : List Int) : Go.Proofs.YtpmcojmhkpaoaaaLabel.Lim (fun k => arraslaw7_HavePairs.j4 k x0 x3 x5 x6 x7 x8 x9 x10 x11 x12 x110 x776000 x776001 x776002) (arraslaw7_HavePairs.J4 x0 x3 x5 x6 x7 x8 x9 x10 x11 x12 x110 x776000 x776001 x776002) := Go.Proofs.YtpmcojmhkpaoaaaLabel.lim_spec (fun k => (arraslaw7_HavePairs.mono_l k).2.2.2.1 x0 x3 x5 x6 x7 x8 x9 x10 x11 x12 x110 x776000 x776001 x776002)
theorem arraslaw7_HavePairs.J6_lim (x0 : List (S86)) (x3 : Int) (x5 : List Int) (x6 : List Int) (x9 : List Int) (x11 : List Int) (x178 : Bool) (x776000 : List Int) (x776001 : List Int) (x776002 : List Int) : Go.Proofs.YtpmcojmhkpaoaaaLabel.Lim (fun k => arraslaw7_HavePairs.j6 k x0 x3 x5 x6 x9 x11 x178 x776000 x776001 x776002) (arraslaw7_HavePairs.J6 x0 x3 x5 x6 x9 x11 x178 x776000 x776001 x776002) := Go.Proofs.YtpmcojmhkpaoaaaLabel.lim_spec (fun k => (arraslaw7_HavePairs.mono_l k).2.2.2.2.1 x0 x3 x5 x6 x9 x11 x178 x776000 x776001 x776002)
theorem arraslaw7_HavePairs.L2_lim (x0 : List (S86)) (x3 : Int) (x5 : List Int) (x6 : List Int) (x9 : List Int) (x11 : List Int) (x18 : Int) (x776000 : List Int) (x776001 : List Int) (x776002 : List Int) : Go.Proofs.YtpmcojmhkpaoaaaLabel.Lim (fun k => arraslaw7_HavePairs.l2 k x0 x3 x5 x6 x9 x11 x18 x776000 x776001 x776002) (arraslaw7_HavePairs.L2 x0 x3 x5 x6 x9 x11 x18 x776000 x776001 x776002) := Go.Proofs.YtpmcojmhkpaoaaaLabel.lim_spec (fun k => (arraslaw7_HavePairs.mono_l k).2.2.2.2.2.1 x0 x3 x5 x6 x9 x11 x18 x776000 x776001 x776002)
theorem arraslaw7_HavePairs.J5_lim (x0 : List (S86)) (x3 : Int) (x140 : Bool) : Go.Proofs.YtpmcojmhkpaoaaaLabel.Lim (fun k => arraslaw7_HavePairs.j5 k x0 x3 x140) (arraslaw7_HavePairs.J5 x0 x3 x140) := Go.Proofs.YtpmcojmhkpaoaaaLabel.lim_spec (fun k => (arraslaw7_HavePairs.mono_l k).2.2.2.2.2.2.1 x0 x3 x140)
theorem arraslaw7_HavePairs.L1_lim (x0 : List (S86)) (x3 : Int) (x5 : List Int) (x6 : List Int) (x7 : Bool) (x8 : Int) (x9 : List Int) (x10 : Int) (x11 : List Int) (x12 : Int) (x13 : Int) (x14 : Int) (x15 : Bool) (x16 : Int) (x17 : Int) (x776000 : List Int) (x776001 : List Int) (x776002 : List Int) : Go.Proofs.YtpmcojmhkpaoaaaLabel.Lim (fun k => arraslaw7_HavePairs.l1 k x0 x3 x5 x6 x7 x8 x9 x10 x11 x12 x13 x14 x15 x16 x17 x776000 x776001 x776002) (arraslaw7_HavePairs.L1 x0 x3 x5 x6 x7 x8 x9 x10 x11 x12 x13 x14 x15 x16 x17 x776000 x776001 x776002) := Go.Proofs.YtpmcojmhkpaoaaaLabel.lim_spec (fun k => (arraslaw7_HavePairs.mono_l k).2.2.2.2.2.2.2 x0 x3 x5 x6 x7 x8 x9 x10 x11 x12 x13 x14 x15 x16 x17 x776000 x776001 x776002)
theorem arraslaw7_HavePairs.L0_eq (x0 : List (S86)) (x3 : Int) : arraslaw7_HavePairs.L0 x0 x3 = (if x3 < (x0.length : Int) then (arraslaw7_HavePairs.J1 x0 x3 (decide (x3 < 15))) else (arraslaw7_HavePairs.J1 x0 x3 false)) := by
  refine Go.Proofs.YtpmcojmhkpaoaaaLabel.Lim.unique (arraslaw7_HavePairs.L0_lim x0 x3).shift ?_
  simp only [arraslaw7_HavePairs.l0]
  (repeat' (first | exact Go.Proofs.YtpmcojmhkpaoaaaLabel.Lim.const _ | exact arraslaw7_HavePairs.L0_lim _ _ | exact arraslaw7_HavePairs.J1_lim _ _ _ | exact arraslaw7_HavePairs.J3_lim _ _ _ _ _ _ _ _ _ _ _ _ _ _ _ _ _ | exact arraslaw7_HavePairs.J4_lim _ _ _ _ _ _ _ _ _ _ _ _ _ _ | exact arraslaw7_HavePairs.J6_lim _ _ _ _ _ _ _ _ _ _ | exact arraslaw7_HavePairs.L2_lim _ _ _ _ _ _ _ _ _ _ | exact arraslaw7_HavePairs.J5_lim _ _ _ | exact arraslaw7_HavePairs.L1_lim _ _ _ _ _ _ _ _ _ _ _ _ _ _ _ _ _ _ | exact arraslaw0_Numbers.F_lim _ | exact arraslaw7_wakes.F_lim | exact arrasref0_CopyNumbers.F_lim _ | exact arrasref0_EqNumbers.F_lim _ _ | exact arrasref6_Covers.F_lim _ _ | exact arrasref6_Pair.F_lim _ _ | exact arrasref6_Vector.F_lim _ | exact have_Check.F_lim _ | exact have_Count.F_lim _ | exact have_Covers.F_lim _ _ | exact have_Join.F_lim _ _ | exact have_Lacks.F_lim _ _ | refine Go.Proofs.YtpmcojmhkpaoaaaLabel.Lim.ite ?_ ?_ | refine Go.Proofs.YtpmcojmhkpaoaaaLabel.Lim.bind ?_ (fun _ => ?_)))
theorem arraslaw7_HavePairs.J1_eq (x0 : List (S86)) (x3 : Int) (x26 : Bool) : arraslaw7_HavePairs.J1 x0 x3 x26 = (if x26 = true then (if 0 ≤ x3 then (if x3 < (x0.length : Int) then ((arraslaw7_heavy.f ((rd_T86 x0 x3).f0) ((rd_T86 x0 x3).f1) ((rd_T86 x0 x3).f2)).bind fun t776 => (if t776 = true then (some true) else ((arrasref0_CopyNumbers.F ((rd_T86 x0 x3).f0)).bind fun t777 => ((arrasref0_CopyNumbers.F ((rd_T86 x0 x3).f1)).bind fun t780 => ((have_Covers.F t777 t780).bind fun bt783 => ((have_Join.F t777 t780).bind fun bt785 => ((have_Lacks.F t777 t780).bind fun bt789 => ((have_Count.F t777).bind fun bt793 => ((arrasref6_Vector.F ((rd_T86 x0 x3).f0)).bind fun t795 => (arraslaw7_HavePairs.L1 x0 x3 t777 t780 bt783.1 bt783.2 bt785.1 bt785.2 bt789.1 bt789.2 bt793.1 bt793.2 t795 0 0 ((rd_T86 x0 x3).f0) ((rd_T86 x0 x3).f1) ((rd_T86 x0 x3).f2))))))))))) else (none)) else (none)) else ((arraslaw7_wakes.F).bind fun t773 => (some t773))) := by
  refine Go.Proofs.YtpmcojmhkpaoaaaLabel.Lim.unique (arraslaw7_HavePairs.J1_lim x0 x3 x26).shift ?_
  simp only [arraslaw7_HavePairs.j1]
  (repeat' (first | exact Go.Proofs.YtpmcojmhkpaoaaaLabel.Lim.const _ | exact arraslaw7_HavePairs.L0_lim _ _ | exact arraslaw7_HavePairs.J1_lim _ _ _ | exact arraslaw7_HavePairs.J3_lim _ _ _ _ _ _ _ _ _ _ _ _ _ _ _ _ _ | exact arraslaw7_HavePairs.J4_lim _ _ _ _ _ _ _ _ _ _ _ _ _ _ | exact arraslaw7_HavePairs.J6_lim _ _ _ _ _ _ _ _ _ _ | exact arraslaw7_HavePairs.L2_lim _ _ _ _ _ _ _ _ _ _ | exact arraslaw7_HavePairs.J5_lim _ _ _ | exact arraslaw7_HavePairs.L1_lim _ _ _ _ _ _ _ _ _ _ _ _ _ _ _ _ _ _ | exact arraslaw0_Numbers.F_lim _ | exact arraslaw7_wakes.F_lim | exact arrasref0_CopyNumbers.F_lim _ | exact arrasref0_EqNumbers.F_lim _ _ | exact arrasref6_Covers.F_lim _ _ | exact arrasref6_Pair.F_lim _ _ | exact arrasref6_Vector.F_lim _ | exact have_Check.F_lim _ | exact have_Count.F_lim _ | exact have_Covers.F_lim _ _ | exact have_Join.F_lim _ _ | exact have_Lacks.F_lim _ _ | refine Go.Proofs.YtpmcojmhkpaoaaaLabel.Lim.ite ?_ ?_ | refine Go.Proofs.YtpmcojmhkpaoaaaLabel.Lim.bind ?_ (fun _ => ?_)))
theorem arraslaw7_HavePairs.J3_eq (x0 : List (S86)) (x3 : Int) (x5 : List Int) (x6 : List Int) (x7 : Bool) (x8 : Int) (x9 : List Int) (x10 : Int) (x11 : List Int) (x12 : Int) (x13 : Int) (x14 : Int) (x15 : Bool) (x16 : Int) (x776000 : List Int) (x776001 : List Int) (x776002 : List Int) : arraslaw7_HavePairs.J3 x0 x3 x5 x6 x7 x8 x9 x10 x11 x12 x13 x14 x15 x16 x776000 x776001 x776002 = ((have_Check.F x5).bind fun t797 => ((arraslaw7_num.f t797).bind fun t798 => (if ((t798 == 0) != x15) = true then (arraslaw7_HavePairs.J4 x0 x3 x5 x6 x7 x8 x9 x10 x11 x12 true x776000 x776001 x776002) else ((arraslaw7_num.f x14).bind fun t799 => (if ((t799 == 0) != x15) = true then (arraslaw7_HavePairs.J4 x0 x3 x5 x6 x7 x8 x9 x10 x11 x12 true x776000 x776001 x776002) else (if x13 = x16 then (if x15 = true then (arraslaw7_HavePairs.J4 x0 x3 x5 x6 x7 x8 x9 x10 x11 x12 false x776000 x776001 x776002) else ((arraslaw7_num.f x14).bind fun t800 => (arraslaw7_HavePairs.J4 x0 x3 x5 x6 x7 x8 x9 x10 x11 x12 (t800 != 1) x776000 x776001 x776002))) else (arraslaw7_HavePairs.J4 x0 x3 x5 x6 x7 x8 x9 x10 x11 x12 true x776000 x776001 x776002))))))) := by
  refine Go.Proofs.YtpmcojmhkpaoaaaLabel.Lim.unique (arraslaw7_HavePairs.J3_lim x0 x3 x5 x6 x7 x8 x9 x10 x11 x12 x13 x14 x15 x16 x776000 x776001 x776002).shift ?_
  simp only [arraslaw7_HavePairs.j3]
  (repeat' (first | exact Go.Proofs.YtpmcojmhkpaoaaaLabel.Lim.const _ | exact arraslaw7_HavePairs.L0_lim _ _ | exact arraslaw7_HavePairs.J1_lim _ _ _ | exact arraslaw7_HavePairs.J3_lim _ _ _ _ _ _ _ _ _ _ _ _ _ _ _ _ _ | exact arraslaw7_HavePairs.J4_lim _ _ _ _ _ _ _ _ _ _ _ _ _ _ | exact arraslaw7_HavePairs.J6_lim _ _ _ _ _ _ _ _ _ _ | exact arraslaw7_HavePairs.L2_lim _ _ _ _ _ _ _ _ _ _ | exact arraslaw7_HavePairs.J5_lim _ _ _ | exact arraslaw7_HavePairs.L1_lim _ _ _ _ _ _ _ _ _ _ _ _ _ _ _ _ _ _ | exact arraslaw0_Numbers.F_lim _ | exact arraslaw7_wakes.F_lim | exact arrasref0_CopyNumbers.F_lim _ | exact arrasref0_EqNumbers.F_lim _ _ | exact arrasref6_Covers.F_lim _ _ | exact arrasref6_Pair.F_lim _ _ | exact arrasref6_Vector.F_lim _ | exact have_Check.F_lim _ | exact have_Count.F_lim _ | exact have_Covers.F_lim _ _ | exact have_Join.F_lim _ _ | exact have_Lacks.F_lim _ _ | refine Go.Proofs.YtpmcojmhkpaoaaaLabel.Lim.ite ?_ ?_ | refine Go.Proofs.YtpmcojmhkpaoaaaLabel.Lim.bind ?_ (fun _ => ?_)))
theorem arraslaw7_HavePairs.J4_eq (x0 : List (S86)) (x3 : Int) (x5 : List Int) (x6 : List Int) (x7 : Bool) (x8 : Int) (x9 : List Int) (x10 : Int) (x11 : List Int) (x12 : Int) (x110 : Bool) (x776000 : List Int) (x776001 : List Int) (x776002 : List Int) : arraslaw7_HavePairs.J4 x0 x3 x5 x6 x7 x8 x9 x10 x11 x12 x110 x776000 x776001 x776002 = (if x110 = true then (some false) else ((arrasref6_Pair.F x776000 x776001).bind fun t801 => (if t801 = true then ((arraslaw7_num.f x8).bind fun t805 => (if t805 = 0 then ((arraslaw7_num.f x10).bind fun t806 => (if t806 = 0 then ((arraslaw7_num.f x12).bind fun t807 => (if t807 = 0 then ((arrasref6_Covers.F x776000 x776001).bind fun t808 => (if (x7 != t808) = true then (arraslaw7_HavePairs.J6 x0 x3 x5 x6 x9 x11 true x776000 x776001 x776002) else (if (x9.length : Int) = (x776000.length : Int) then (arraslaw7_HavePairs.J6 x0 x3 x5 x6 x9 x11 ((x11.length : Int) != (x776000.length : Int)) x776000 x776001 x776002) else (arraslaw7_HavePairs.J6 x0 x3 x5 x6 x9 x11 true x776000 x776001 x776002)))) else (arraslaw7_HavePairs.J6 x0 x3 x5 x6 x9 x11 true x776000 x776001 x776002))) else (arraslaw7_HavePairs.J6 x0 x3 x5 x6 x9 x11 true x776000 x776001 x776002))) else (arraslaw7_HavePairs.J6 x0 x3 x5 x6 x9 x11 true x776000 x776001 x776002))) else ((arraslaw7_num.f x8).bind fun t802 => (if t802 = 1 then ((arraslaw7_num.f x10).bind fun t803 => (if t803 = 1 then ((arraslaw7_num.f x12).bind fun t804 => (if t804 = 1 then (if x7 = true then (arraslaw7_HavePairs.J5 x0 x3 true) else (arraslaw7_HavePairs.J5 x0 x3 (decide ((wrap64 ((x9.length : Int) + (x11.length : Int))) > 0)))) else (arraslaw7_HavePairs.J5 x0 x3 true))) else (arraslaw7_HavePairs.J5 x0 x3 true))) else (arraslaw7_HavePairs.J5 x0 x3 true)))))) := by
  refine Go.Proofs.YtpmcojmhkpaoaaaLabel.Lim.unique (arraslaw7_HavePairs.J4_lim x0 x3 x5 x6 x7 x8 x9 x10 x11 x12 x110 x776000 x776001 x776002).shift ?_
  simp only [arraslaw7_HavePairs.j4]
  (repeat' (first | exact Go.Proofs.YtpmcojmhkpaoaaaLabel.Lim.const _ | exact arraslaw7_HavePairs.L0_lim _ _ | exact arraslaw7_HavePairs.J1_lim _ _ _ | exact arraslaw7_HavePairs.J3_lim _ _ _ _ _ _ _ _ _ _ _ _ _ _ _ _ _ | exact arraslaw7_HavePairs.J4_lim _ _ _ _ _ _ _ _ _ _ _ _ _ _ | exact arraslaw7_HavePairs.J6_lim _ _ _ _ _ _ _ _ _ _ | exact arraslaw7_HavePairs.L2_lim _ _ _ _ _ _ _ _ _ _ | exact arraslaw7_HavePairs.J5_lim _ _ _ | exact arraslaw7_HavePairs.L1_lim _ _ _ _ _ _ _ _ _ _ _ _ _ _ _ _ _ _ | exact arraslaw0_Numbers.F_lim _ | exact arraslaw7_wakes.F_lim | exact arrasref0_CopyNumbers.F_lim _ | exact arrasref0_EqNumbers.F_lim _ _ | exact arrasref6_Covers.F_lim _ _ | exact arrasref6_Pair.F_lim _ _ | exact arrasref6_Vector.F_lim _ | exact have_Check.F_lim _ | exact have_Count.F_lim _ | exact have_Covers.F_lim _ _ | exact have_Join.F_lim _ _ | exact have_Lacks.F_lim _ _ | refine Go.Proofs.YtpmcojmhkpaoaaaLabel.Lim.ite ?_ ?_ | refine Go.Proofs.YtpmcojmhkpaoaaaLabel.Lim.bind ?_ (fun _ => ?_)))
theorem arraslaw7_HavePairs.J6_eq (x0 : List (S86)) (x3 : Int) (x5 : List Int) (x6 : List Int) (x9 : List Int) (x11 : List Int) (x178 : Bool) (x776000 : List Int) (x776001 : List Int) (x776002 : List Int) : arraslaw7_HavePairs.J6 x0 x3 x5 x6 x9 x11 x178 x776000 x776001 x776002 = (if x178 = true then (some false) else (arraslaw7_HavePairs.L2 x0 x3 x5 x6 x9 x11 0 x776000 x776001 x776002)) := by
  refine Go.Proofs.YtpmcojmhkpaoaaaLabel.Lim.unique (arraslaw7_HavePairs.J6_lim x0 x3 x5 x6 x9 x11 x178 x776000 x776001 x776002).shift ?_
  simp only [arraslaw7_HavePairs.j6]
  (repeat' (first | exact Go.Proofs.YtpmcojmhkpaoaaaLabel.Lim.const _ | exact arraslaw7_HavePairs.L0_lim _ _ | exact arraslaw7_HavePairs.J1_lim _ _ _ | exact arraslaw7_HavePairs.J3_lim _ _ _ _ _ _ _ _ _ _ _ _ _ _ _ _ _ | exact arraslaw7_HavePairs.J4_lim _ _ _ _ _ _ _ _ _ _ _ _ _ _ | exact arraslaw7_HavePairs.J6_lim _ _ _ _ _ _ _ _ _ _ | exact arraslaw7_HavePairs.L2_lim _ _ _ _ _ _ _ _ _ _ | exact arraslaw7_HavePairs.J5_lim _ _ _ | exact arraslaw7_HavePairs.L1_lim _ _ _ _ _ _ _ _ _ _ _ _ _ _ _ _ _ _ | exact arraslaw0_Numbers.F_lim _ | exact arraslaw7_wakes.F_lim | exact arrasref0_CopyNumbers.F_lim _ | exact arrasref0_EqNumbers.F_lim _ _ | exact arrasref6_Covers.F_lim _ _ | exact arrasref6_Pair.F_lim _ _ | exact arrasref6_Vector.F_lim _ | exact have_Check.F_lim _ | exact have_Count.F_lim _ | exact have_Covers.F_lim _ _ | exact have_Join.F_lim _ _ | exact have_Lacks.F_lim _ _ | refine Go.Proofs.YtpmcojmhkpaoaaaLabel.Lim.ite ?_ ?_ | refine Go.Proofs.YtpmcojmhkpaoaaaLabel.Lim.bind ?_ (fun _ => ?_)))
theorem arraslaw7_HavePairs.L2_eq (x0 : List (S86)) (x3 : Int) (x5 : List Int) (x6 : List Int) (x9 : List Int) (x11 : List Int) (x18 : Int) (x776000 : List Int) (x776001 : List Int) (x776002 : List Int) : arraslaw7_HavePairs.L2 x0 x3 x5 x6 x9 x11 x18 x776000 x776001 x776002 = (if x18 < (x9.length : Int) then (if 0 ≤ x18 then (if x18 < (x776000.length : Int) then (if x18 < (x776001.length : Int) then (if (rd x9 x18) = (mx (rd x776000 x18) (rd x776001 x18)) then (if x18 < (x11.length : Int) then (if (rd x11 x18) = (mx 0 (wrap64 ((rd x776001 x18) - (rd x776000 x18)))) then (arraslaw7_HavePairs.L2 x0 x3 x5 x6 x9 x11 (wrap64 (x18 + 1)) x776000 x776001 x776002) else (some false)) else (none)) else (some false)) else (none)) else (none)) else (none)) else ((arraslaw0_Numbers.F x9).bind fun _ => ((arraslaw0_Numbers.F x11).bind fun _ => ((arrasref0_EqNumbers.F x5 x776000).bind fun t815 => (if t815 = true then ((arrasref0_EqNumbers.F x6 x776001).bind fun t816 => (if t816 = true then (arraslaw7_HavePairs.L0 x0 (wrap64 (x3 + 1))) else (some false))) else (some false)))))) := by
  refine Go.Proofs.YtpmcojmhkpaoaaaLabel.Lim.unique (arraslaw7_HavePairs.L2_lim x0 x3 x5 x6 x9 x11 x18 x776000 x776001 x776002).shift ?_
  simp only [arraslaw7_HavePairs.l2]
  (repeat' (first | exact Go.Proofs.YtpmcojmhkpaoaaaLabel.Lim.const _ | exact arraslaw7_HavePairs.L0_lim _ _ | exact arraslaw7_HavePairs.J1_lim _ _ _ | exact arraslaw7_HavePairs.J3_lim _ _ _ _ _ _ _ _ _ _ _ _ _ _ _ _ _ | exact arraslaw7_HavePairs.J4_lim _ _ _ _ _ _ _ _ _ _ _ _ _ _ | exact arraslaw7_HavePairs.J6_lim _ _ _ _ _ _ _ _ _ _ | exact arraslaw7_HavePairs.L2_lim _ _ _ _ _ _ _ _ _ _ | exact arraslaw7_HavePairs.J5_lim _ _ _ | exact arraslaw7_HavePairs.L1_lim _ _ _ _ _ _ _ _ _ _ _ _ _ _ _ _ _ _ | exact arraslaw0_Numbers.F_lim _ | exact arraslaw7_wakes.F_lim | exact arrasref0_CopyNumbers.F_lim _ | exact arrasref0_EqNumbers.F_lim _ _ | exact arrasref6_Covers.F_lim _ _ | exact arrasref6_Pair.F_lim _ _ | exact arrasref6_Vector.F_lim _ | exact have_Check.F_lim _ | exact have_Count.F_lim _ | exact have_Covers.F_lim _ _ | exact have_Join.F_lim _ _ | exact have_Lacks.F_lim _ _ | refine Go.Proofs.YtpmcojmhkpaoaaaLabel.Lim.ite ?_ ?_ | refine Go.Proofs.YtpmcojmhkpaoaaaLabel.Lim.bind ?_ (fun _ => ?_)))
theorem arraslaw7_HavePairs.J5_eq (x0 : List (S86)) (x3 : Int) (x140 : Bool) : arraslaw7_HavePairs.J5 x0 x3 x140 = (if x140 = true then (some false) else (arraslaw7_HavePairs.L0 x0 (wrap64 (x3 + 1)))) := by
  refine Go.Proofs.YtpmcojmhkpaoaaaLabel.Lim.unique (arraslaw7_HavePairs.J5_lim x0 x3 x140).shift ?_
  simp only [arraslaw7_HavePairs.j5]
  (repeat' (first | exact Go.Proofs.YtpmcojmhkpaoaaaLabel.Lim.const _ | exact arraslaw7_HavePairs.L0_lim _ _ | exact arraslaw7_HavePairs.J1_lim _ _ _ | exact arraslaw7_HavePairs.J3_lim _ _ _ _ _ _ _ _ _ _ _ _ _ _ _ _ _ | exact arraslaw7_HavePairs.J4_lim _ _ _ _ _ _ _ _ _ _ _ _ _ _ | exact arraslaw7_HavePairs.J6_lim _ _ _ _ _ _ _ _ _ _ | exact arraslaw7_HavePairs.L2_lim _ _ _ _ _ _ _ _ _ _ | exact arraslaw7_HavePairs.J5_lim _ _ _ | exact arraslaw7_HavePairs.L1_lim _ _ _ _ _ _ _ _ _ _ _ _ _ _ _ _ _ _ | exact arraslaw0_Numbers.F_lim _ | exact arraslaw7_wakes.F_lim | exact arrasref0_CopyNumbers.F_lim _ | exact arrasref0_EqNumbers.F_lim _ _ | exact arrasref6_Covers.F_lim _ _ | exact arrasref6_Pair.F_lim _ _ | exact arrasref6_Vector.F_lim _ | exact have_Check.F_lim _ | exact have_Count.F_lim _ | exact have_Covers.F_lim _ _ | exact have_Join.F_lim _ _ | exact have_Lacks.F_lim _ _ | refine Go.Proofs.YtpmcojmhkpaoaaaLabel.Lim.ite ?_ ?_ | refine Go.Proofs.YtpmcojmhkpaoaaaLabel.Lim.bind ?_ (fun _ => ?_)))
theorem arraslaw7_HavePairs.L1_eq (x0 : List (S86)) (x3 : Int) (x5 : List Int) (x6 : List Int) (x7 : Bool) (x8 : Int) (x9 : List Int) (x10 : Int) (x11 : List Int) (x12 : Int) (x13 : Int) (x14 : Int) (x15 : Bool) (x16 : Int) (x17 : Int) (x776000 : List Int) (x776001 : List Int) (x776002 : List Int) : arraslaw7_HavePairs.L1 x0 x3 x5 x6 x7 x8 x9 x10 x11 x12 x13 x14 x15 x16 x17 x776000 x776001 x776002 = (if x17 < (x776000.length : Int) then (if x15 = true then (if 0 ≤ x17 then (arraslaw7_HavePairs.L1 x0 x3 x5 x6 x7 x8 x9 x10 x11 x12 x13 x14 x15 (wrap64 (x16 + (rd x776000 x17))) (wrap64 (x17 + 1)) x776000 x776001 x776002) else (none)) else (arraslaw7_HavePairs.J3 x0 x3 x5 x6 x7 x8 x9 x10 x11 x12 x13 x14 x15 x16 x776000 x776001 x776002)) else (arraslaw7_HavePairs.J3 x0 x3 x5 x6 x7 x8 x9 x10 x11 x12 x13 x14 x15 x16 x776000 x776001 x776002)) := by
  refine Go.Proofs.YtpmcojmhkpaoaaaLabel.Lim.unique (arraslaw7_HavePairs.L1_lim x0 x3 x5 x6 x7 x8 x9 x10 x11 x12 x13 x14 x15 x16 x17 x776000 x776001 x776002).shift ?_
  simp only [arraslaw7_HavePairs.l1]
  (repeat' (first | exact Go.Proofs.YtpmcojmhkpaoaaaLabel.Lim.const _ | exact arraslaw7_HavePairs.L0_lim _ _ | exact arraslaw7_HavePairs.J1_lim _ _ _ | exact arraslaw7_HavePairs.J3_lim _ _ _ _ _ _ _ _ _ _ _ _ _ _ _ _ _ | exact arraslaw7_HavePairs.J4_lim _ _ _ _ _ _ _ _ _ _ _ _ _ _ | exact arraslaw7_HavePairs.J6_lim _ _ _ _ _ _ _ _ _ _ | exact arraslaw7_HavePairs.L2_lim _ _ _ _ _ _ _ _ _ _ | exact arraslaw7_HavePairs.J5_lim _ _ _ | exact arraslaw7_HavePairs.L1_lim _ _ _ _ _ _ _ _ _ _ _ _ _ _ _ _ _ _ | exact arraslaw0_Numbers.F_lim _ | exact arraslaw7_wakes.F_lim | exact arrasref0_CopyNumbers.F_lim _ | exact arrasref0_EqNumbers.F_lim _ _ | exact arrasref6_Covers.F_lim _ _ | exact arrasref6_Pair.F_lim _ _ | exact arrasref6_Vector.F_lim _ | exact have_Check.F_lim _ | exact have_Count.F_lim _ | exact have_Covers.F_lim _ _ | exact have_Join.F_lim _ _ | exact have_Lacks.F_lim _ _ | refine Go.Proofs.YtpmcojmhkpaoaaaLabel.Lim.ite ?_ ?_ | refine Go.Proofs.YtpmcojmhkpaoaaaLabel.Lim.bind ?_ (fun _ => ?_)))
noncomputable def arraslaw7_HavePairs.F (l0 : List (S86)) : Option (Bool) := Go.Proofs.YtpmcojmhkpaoaaaLabel.lim (fun k => arraslaw7_HavePairs.f k l0)
theorem arraslaw7_HavePairs.F_lim (l0 : List (S86)) : Go.Proofs.YtpmcojmhkpaoaaaLabel.Lim (fun k => arraslaw7_HavePairs.f k l0) (arraslaw7_HavePairs.F l0) := Go.Proofs.YtpmcojmhkpaoaaaLabel.lim_spec (arraslaw7_HavePairs.mono l0)
theorem arraslaw7_HavePairs.F_eq (l0 : List (S86)) : arraslaw7_HavePairs.F l0 = (arraslaw7_HavePairs.L0 l0 0) := by
  refine Go.Proofs.YtpmcojmhkpaoaaaLabel.Lim.unique (arraslaw7_HavePairs.F_lim l0) ?_
  simp only [arraslaw7_HavePairs.f]
  (repeat' (first | exact Go.Proofs.YtpmcojmhkpaoaaaLabel.Lim.const _ | exact arraslaw7_HavePairs.L0_lim _ _ | exact arraslaw7_HavePairs.J1_lim _ _ _ | exact arraslaw7_HavePairs.J3_lim _ _ _ _ _ _ _ _ _ _ _ _ _ _ _ _ _ | exact arraslaw7_HavePairs.J4_lim _ _ _ _ _ _ _ _ _ _ _ _ _ _ | exact arraslaw7_HavePairs.J6_lim _ _ _ _ _ _ _ _ _ _ | exact arraslaw7_HavePairs.L2_lim _ _ _ _ _ _ _ _ _ _ | exact arraslaw7_HavePairs.J5_lim _ _ _ | exact arraslaw7_HavePairs.L1_lim _ _ _ _ _ _ _ _ _ _ _ _ _ _ _ _ _ _ | exact arraslaw0_Numbers.F_lim _ | exact arraslaw7_wakes.F_lim | exact arrasref0_CopyNumbers.F_lim _ | exact arrasref0_EqNumbers.F_lim _ _ | exact arrasref6_Covers.F_lim _ _ | exact arrasref6_Pair.F_lim _ _ | exact arrasref6_Vector.F_lim _ | exact have_Check.F_lim _ | exact have_Count.F_lim _ | exact have_Covers.F_lim _ _ | exact have_Join.F_lim _ _ | exact have_Lacks.F_lim _ _ | refine Go.Proofs.YtpmcojmhkpaoaaaLabel.Lim.ite ?_ ?_ | refine Go.Proofs.YtpmcojmhkpaoaaaLabel.Lim.bind ?_ (fun _ => ?_)))

/-! #### have_Bytes: function 68 -/
def have_Bytes.f (k : Nat) (l0 : List Int) : Option (List Int × Int) := (have_Is.f k l0).bind fun t817 => (if t817 = true then ((code_PutAll.f k ([] : List Int) l0).bind fun t818 => (some (t818, 0))) else (some (([] : List Int), 1)))
theorem have_Bytes.mono : ∀ a0 k, LeO (have_Bytes.f k a0) (have_Bytes.f (k + 1) a0) := by
 intro a0 k
 unfold have_Bytes.f
 repeat' first
   | (with_reducible exact code_PutAll.mono _ _ _)
   | (with_reducible exact have_Is.mono _ _)
   | (with_reducible exact LeO.refl _)
   | (with_reducible exact LeO.none _)
   | (with_reducible refine LeO.ite ?_ ?_)
   | (with_reducible refine LeO.bind ?_ (fun _ => ?_))
   | exact code_PutAll.mono _ _ _
   | exact have_Is.mono _ _
   | exact LeO.none _
   | refine LeO.ite ?_ ?_
   | refine LeO.bind ?_ (fun _ => ?_)
noncomputable def have_Bytes.F (l0 : List Int) : Option (List Int × Int) := Go.Proofs.YtpmcojmhkpaoaaaLabel.lim (fun k => have_Bytes.f k l0)
theorem have_Bytes.F_lim (l0 : List Int) : Go.Proofs.YtpmcojmhkpaoaaaLabel.Lim (fun k => have_Bytes.f k l0) (have_Bytes.F l0) := Go.Proofs.YtpmcojmhkpaoaaaLabel.lim_spec (have_Bytes.mono l0)
theorem have_Bytes.F_eq (l0 : List Int) : have_Bytes.F l0 = ((have_Is.F l0).bind fun t817 => (if t817 = true then ((code_PutAll.F ([] : List Int) l0).bind fun t818 => (some (t818, 0))) else (some (([] : List Int), 1)))) := by
  refine Go.Proofs.YtpmcojmhkpaoaaaLabel.Lim.unique (have_Bytes.F_lim l0) ?_
  simp only [have_Bytes.f]
  (repeat' (first | exact Go.Proofs.YtpmcojmhkpaoaaaLabel.Lim.const _ | exact code_PutAll.F_lim _ _ | exact have_Is.F_lim _ | refine Go.Proofs.YtpmcojmhkpaoaaaLabel.Lim.ite ?_ ?_ | refine Go.Proofs.YtpmcojmhkpaoaaaLabel.Lim.bind ?_ (fun _ => ?_)))

/-! #### have_Take: function 69 -/
def have_Take.f (k : Nat) (l0 : List Int) : Option (List Int × Int × Int) := (code_TakeNums.f k l0).bind fun bt821 => (if bt821.2.2 = 0 then ((have_Is.f k bt821.1).bind fun t826 => (if t826 = true then (some (bt821.1, bt821.2.1, 0)) else (some (([] : List Int), 0, 1)))) else (some (([] : List Int), 0, bt821.2.2)))
theorem have_Take.mono : ∀ a0 k, LeO (have_Take.f k a0) (have_Take.f (k + 1) a0) := by
 intro a0 k
 unfold have_Take.f
 repeat' first
   | (with_reducible exact code_TakeNums.mono _ _)
   | (with_reducible exact have_Is.mono _ _)
   | (with_reducible exact LeO.refl _)
   | (with_reducible exact LeO.none _)
   | (with_reducible refine LeO.ite ?_ ?_)
   | (with_reducible refine LeO.bind ?_ (fun _ => ?_))
   | exact code_TakeNums.mono _ _
   | exact have_Is.mono _ _
   | exact LeO.none _
   | refine LeO.ite ?_ ?_
   | refine LeO.bind ?_ (fun _ => ?_)
noncomputable def have_Take.F (l0 : List Int) : Option (List Int × Int × Int) := Go.Proofs.YtpmcojmhkpaoaaaLabel.lim (fun k => have_Take.f k l0)
theorem have_Take.F_lim (l0 : List Int) : Go.Proofs.YtpmcojmhkpaoaaaLabel.Lim (fun k => have_Take.f k l0) (have_Take.F l0) := Go.Proofs.YtpmcojmhkpaoaaaLabel.lim_spec (have_Take.mono l0)
theorem have_Take.F_eq (l0 : List Int) : have_Take.F l0 = ((code_TakeNums.F l0).bind fun bt821 => (if bt821.2.2 = 0 then ((have_Is.F bt821.1).bind fun t826 => (if t826 = true then (some (bt821.1, bt821.2.1, 0)) else (some (([] : List Int), 0, 1)))) else (some (([] : List Int), 0, bt821.2.2)))) := by
  refine Go.Proofs.YtpmcojmhkpaoaaaLabel.Lim.unique (have_Take.F_lim l0) ?_
  simp only [have_Take.f]
  (repeat' (first | exact Go.Proofs.YtpmcojmhkpaoaaaLabel.Lim.const _ | exact code_TakeNums.F_lim _ | exact have_Is.F_lim _ | refine Go.Proofs.YtpmcojmhkpaoaaaLabel.Lim.ite ?_ ?_ | refine Go.Proofs.YtpmcojmhkpaoaaaLabel.Lim.bind ?_ (fun _ => ?_)))

/-! #### arrasref6_TakeVector: function 70 -/
def arrasref6_TakeVector.f (k : Nat) (l0 : List Int) : Option (List Int × Int × Int) := (arrasref5_TakeNums.f k l0).bind fun bt827 => (if bt827.2.2 = 0 then ((arrasref6_Vector.f k bt827.1).bind fun t832 => (if t832 = true then (some (bt827.1, bt827.2.1, 0)) else (some (([] : List Int), 0, 1)))) else (some (([] : List Int), 0, bt827.2.2)))
theorem arrasref6_TakeVector.mono : ∀ a0 k, LeO (arrasref6_TakeVector.f k a0) (arrasref6_TakeVector.f (k + 1) a0) := by
 intro a0 k
 unfold arrasref6_TakeVector.f
 repeat' first
   | (with_reducible exact arrasref5_TakeNums.mono _ _)
   | (with_reducible exact arrasref6_Vector.mono _ _)
   | (with_reducible exact LeO.refl _)
   | (with_reducible exact LeO.none _)
   | (with_reducible refine LeO.ite ?_ ?_)
   | (with_reducible refine LeO.bind ?_ (fun _ => ?_))
   | exact arrasref5_TakeNums.mono _ _
   | exact arrasref6_Vector.mono _ _
   | exact LeO.none _
   | refine LeO.ite ?_ ?_
   | refine LeO.bind ?_ (fun _ => ?_)
noncomputable def arrasref6_TakeVector.F (l0 : List Int) : Option (List Int × Int × Int) := Go.Proofs.YtpmcojmhkpaoaaaLabel.lim (fun k => arrasref6_TakeVector.f k l0)
theorem arrasref6_TakeVector.F_lim (l0 : List Int) : Go.Proofs.YtpmcojmhkpaoaaaLabel.Lim (fun k => arrasref6_TakeVector.f k l0) (arrasref6_TakeVector.F l0) := Go.Proofs.YtpmcojmhkpaoaaaLabel.lim_spec (arrasref6_TakeVector.mono l0)
theorem arrasref6_TakeVector.F_eq (l0 : List Int) : arrasref6_TakeVector.F l0 = ((arrasref5_TakeNums.F l0).bind fun bt827 => (if bt827.2.2 = 0 then ((arrasref6_Vector.F bt827.1).bind fun t832 => (if t832 = true then (some (bt827.1, bt827.2.1, 0)) else (some (([] : List Int), 0, 1)))) else (some (([] : List Int), 0, bt827.2.2)))) := by
  refine Go.Proofs.YtpmcojmhkpaoaaaLabel.Lim.unique (arrasref6_TakeVector.F_lim l0) ?_
  simp only [arrasref6_TakeVector.f]
  (repeat' (first | exact Go.Proofs.YtpmcojmhkpaoaaaLabel.Lim.const _ | exact arrasref5_TakeNums.F_lim _ | exact arrasref6_Vector.F_lim _ | refine Go.Proofs.YtpmcojmhkpaoaaaLabel.Lim.ite ?_ ?_ | refine Go.Proofs.YtpmcojmhkpaoaaaLabel.Lim.bind ?_ (fun _ => ?_)))

/-! #### arraslaw7_HaveBytes: function 16 -/
mutual
def arraslaw7_HaveBytes.l0 : Nat → List (S86) → Int → Option (Bool)
 | 0, _, _ => none
 | k + 1, x0, x3 => if x3 < (x0.length : Int) then (arraslaw7_HaveBytes.j1 k x0 x3 (decide (x3 < 15))) else (arraslaw7_HaveBytes.j1 k x0 x3 false)
def arraslaw7_HaveBytes.j1 : Nat → List (S86) → Int → Bool → Option (Bool)
 | 0, _, _, _ => none
 | k + 1, x0, x3, x20 => if x20 = true then (if 0 ≤ x3 then (if x3 < (x0.length : Int) then ((arraslaw7_heavy.f ((rd_T86 x0 x3).f0) ((rd_T86 x0 x3).f1) ((rd_T86 x0 x3).f2)).bind fun t836 => (if t836 = true then (some true) else ((have_Bytes.f k ((rd_T86 x0 x3).f0)).bind fun bt837 => ((arraslaw7_num.f bt837.2).bind fun t841 => ((arrasref6_Vector.f k ((rd_T86 x0 x3).f0)).bind fun t842 => (if ((t841 == 0) != t842) = true then (arraslaw7_HaveBytes.j2 k x0 x3 bt837.1 bt837.2 true ((rd_T86 x0 x3).f0) ((rd_T86 x0 x3).f1) ((rd_T86 x0 x3).f2)) else ((arraslaw7_num.f bt837.2).bind fun t843 => (if t843 = 0 then (arraslaw7_HaveBytes.j2 k x0 x3 bt837.1 bt837.2 false ((rd_T86 x0 x3).f0) ((rd_T86 x0 x3).f1) ((rd_T86 x0 x3).f2)) else ((arraslaw7_num.f bt837.2).bind fun t844 => (if t844 = 1 then (arraslaw7_HaveBytes.j2 k x0 x3 bt837.1 bt837.2 (decide ((bt837.1.length : Int) > 0)) ((rd_T86 x0 x3).f0) ((rd_T86 x0 x3).f1) ((rd_T86 x0 x3).f2)) else (arraslaw7_HaveBytes.j2 k x0 x3 bt837.1 bt837.2 true ((rd_T86 x0 x3).f0) ((rd_T86 x0 x3).f1) ((rd_T86 x0 x3).f2)))))))))))) else (none)) else (none)) else ((arraslaw7_wakes.f k).bind fun t833 => (some t833))
def arraslaw7_HaveBytes.j2 : Nat → List (S86) → Int → List Int → Int → Bool → List Int → List Int → List Int → Option (Bool)
 | 0, _, _, _, _, _, _, _, _ => none
 | k + 1, x0, x3, x5, x6, x56, x836000, x836001, x836002 => if x56 = true then (some false) else ((have_Take.f k x836002).bind fun bt845 => ((arrasref6_TakeVector.f k x836002).bind fun bt850 => ((arraslaw7_num.f bt845.2.2).bind fun t855 => (if t855 = bt850.2.2 then ((arrasref0_EqNumbers.f k bt845.1 bt850.1).bind fun t856 => (if t856 = true then (arraslaw7_HaveBytes.j3 k x0 x3 x5 x6 (bt845.2.1 != bt850.2.1) x836000 x836001 x836002) else (arraslaw7_HaveBytes.j3 k x0 x3 x5 x6 true x836000 x836001 x836002))) else (arraslaw7_HaveBytes.j3 k x0 x3 x5 x6 true x836000 x836001 x836002)))))
def arraslaw7_HaveBytes.j3 : Nat → List (S86) → Int → List Int → Int → Bool → List Int → List Int → List Int → Option (Bool)
 | 0, _, _, _, _, _, _, _, _ => none
 | k + 1, x0, x3, x5, x6, x85, x836000, x836001, x836002 => if x85 = true then (some false) else ((arraslaw7_num.f x6).bind fun t857 => (if t857 = 0 then ((arrasref0_CopyBytes.f k x5).bind fun t858 => (if t858.length + x836002.length < 140737488355328 then ((have_Take.f k (t858 ++ x836002)).bind fun bt864 => ((arraslaw7_num.f bt864.2.2).bind fun t869 => (if t869 = 0 then ((arrasref0_EqNumbers.f k bt864.1 x836000).bind fun t870 => (if t870 = true then (arraslaw7_HaveBytes.j4 k x0 x3 (bt864.2.1 != (x5.length : Int))) else (arraslaw7_HaveBytes.j4 k x0 x3 true))) else (arraslaw7_HaveBytes.j4 k x0 x3 true)))) else (none))) else (arraslaw7_HaveBytes.l0 k x0 (wrap64 (x3 + 1)))))
def arraslaw7_HaveBytes.j4 : Nat → List (S86) → Int → Bool → Option (Bool)
 | 0, _, _, _ => none
 | k + 1, x0, x3, x114 => if x114 = true then (some false) else (arraslaw7_HaveBytes.l0 k x0 (wrap64 (x3 + 1)))
end
def arraslaw7_HaveBytes.f (k : Nat) (l0 : List (S86)) : Option (Bool) := arraslaw7_HaveBytes.l0 k l0 0
theorem arraslaw7_HaveBytes.mono_l : ∀ k, (∀ y0 y1, LeO (arraslaw7_HaveBytes.l0 k y0 y1) (arraslaw7_HaveBytes.l0 (k + 1) y0 y1)) ∧ (∀ y0 y1 y2, LeO (arraslaw7_HaveBytes.j1 k y0 y1 y2) (arraslaw7_HaveBytes.j1 (k + 1) y0 y1 y2)) ∧ (∀ y0 y1 y2 y3 y4 y5 y6 y7, LeO (arraslaw7_HaveBytes.j2 k y0 y1 y2 y3 y4 y5 y6 y7) (arraslaw7_HaveBytes.j2 (k + 1) y0 y1 y2 y3 y4 y5 y6 y7)) ∧ (∀ y0 y1 y2 y3 y4 y5 y6 y7, LeO (arraslaw7_HaveBytes.j3 k y0 y1 y2 y3 y4 y5 y6 y7) (arraslaw7_HaveBytes.j3 (k + 1) y0 y1 y2 y3 y4 y5 y6 y7)) ∧ (∀ y0 y1 y2, LeO (arraslaw7_HaveBytes.j4 k y0 y1 y2) (arraslaw7_HaveBytes.j4 (k + 1) y0 y1 y2))
 | 0 => ⟨fun _ _ r h => by simp [arraslaw7_HaveBytes.l0] at h, fun _ _ _ r h => by simp [arraslaw7_HaveBytes.j1] at h, fun _ _ _ _ _ _ _ _ r h => by simp [arraslaw7_HaveBytes.j2] at h, fun _ _ _ _ _ _ _ _ r h => by simp [arraslaw7_HaveBytes.j3] at h, fun _ _ _ r h => by simp [arraslaw7_HaveBytes.j4] at h⟩
 | k + 1 => by
  obtain ⟨ih0, ih1, ih2, ih3, ih4⟩ := arraslaw7_HaveBytes.mono_l k
  refine ⟨?_, ?_, ?_, ?_, ?_⟩
  ·intro y0 y1
   unfold arraslaw7_HaveBytes.l0
   repeat' first
   | (with_reducible exact ih0 _ _)
   | (with_reducible exact ih1 _ _ _)
   | (with_reducible exact ih2 _ _ _ _ _ _ _ _)
   | (with_reducible exact ih3 _ _ _ _ _ _ _ _)
   | (with_reducible exact ih4 _ _ _)
   | (with_reducible exact arraslaw7_wakes.mono _)
   | (with_reducible exact arrasref0_CopyBytes.mono _ _)
   | (with_reducible exact arrasref0_EqNumbers.mono _ _ _)
   | (with_reducible exact arrasref6_TakeVector.mono _ _)
   | (with_reducible exact arrasref6_Vector.mono _ _)
   | (with_reducible exact have_Bytes.mono _ _)
   | (with_reducible exact have_Take.mono _ _)
   | (with_reducible exact LeO.refl _)
   | (with_reducible exact LeO.none _)
   | (with_reducible refine LeO.ite ?_ ?_)
   | (with_reducible refine LeO.bind ?_ (fun _ => ?_))
   | exact ih0 _ _
   | exact ih1 _ _ _
   | exact ih2 _ _ _ _ _ _ _ _
   | exact ih3 _ _ _ _ _ _ _ _
   | exact ih4 _ _ _
   | exact arraslaw7_wakes.mono _
   | exact arrasref0_CopyBytes.mono _ _
   | exact arrasref0_EqNumbers.mono _ _ _
   | exact arrasref6_TakeVector.mono _ _
   | exact arrasref6_Vector.mono _ _
   | exact have_Bytes.mono _ _
   | exact have_Take.mono _ _
   | exact LeO.none _
   | refine LeO.ite ?_ ?_
   | refine LeO.bind ?_ (fun _ => ?_)
  ·intro y0 y1 y2
   unfold arraslaw7_HaveBytes.j1
   repeat' first
   | (with_reducible exact ih0 _ _)
   | (with_reducible exact ih1 _ _ _)
   | (with_reducible exact ih2 _ _ _ _ _ _ _ _)
   | (with_reducible exact ih3 _ _ _ _ _ _ _ _)
   | (with_reducible exact ih4 _ _ _)
   | (with_reducible exact arraslaw7_wakes.mono _)
   | (with_reducible exact arrasref0_CopyBytes.mono _ _)
   | (with_reducible exact arrasref0_EqNumbers.mono _ _ _)
   | (with_reducible exact arrasref6_TakeVector.mono _ _)
   | (with_reducible exact arrasref6_Vector.mono _ _)
   | (with_reducible exact have_Bytes.mono _ _)
   | (with_reducible exact have_Take.mono _ _)
   | (with_reducible exact LeO.refl _)
   | (with_reducible exact LeO.none _)
   | (with_reducible refine LeO.ite ?_ ?_)
   | (with_reducible refine LeO.bind ?_ (fun _ => ?_))
   | exact ih0 _ _
   | exact ih1 _ _ _
   | exact ih2 _ _ _ _ _ _ _ _
   | exact ih3 _ _ _ _ _ _ _ _
   | exact ih4 _ _ _
   | exact arraslaw7_wakes.mono _
   | exact arrasref0_CopyBytes.mono _ _
   | exact arrasref0_EqNumbers.mono _ _ _
   | exact arrasref6_TakeVector.mono _ _
   | exact arrasref6_Vector.mono _ _
   | exact have_Bytes.mono _ _
   | exact have_Take.mono _ _
   | exact LeO.none _
   | refine LeO.ite ?_ ?_
   | refine LeO.bind ?_ (fun _ => ?_)
  ·intro y0 y1 y2 y3 y4 y5 y6 y7
   unfold arraslaw7_HaveBytes.j2
   repeat' first
   | (with_reducible exact ih0 _ _)
   | (with_reducible exact ih1 _ _ _)
   | (with_reducible exact ih2 _ _ _ _ _ _ _ _)
   | (with_reducible exact ih3 _ _ _ _ _ _ _ _)
   | (with_reducible exact ih4 _ _ _)
   | (with_reducible exact arraslaw7_wakes.mono _)
   | (with_reducible exact arrasref0_CopyBytes.mono _ _)
   | (with_reducible exact arrasref0_EqNumbers.mono _ _ _)
   | (with_reducible exact arrasref6_TakeVector.mono _ _)
   | (with_reducible exact arrasref6_Vector.mono _ _)
   | (with_reducible exact have_Bytes.mono _ _)
   | (with_reducible exact have_Take.mono _ _)
   | (with_reducible exact LeO.refl _)
   | (with_reducible exact LeO.none _)
   | (with_reducible refine LeO.ite ?_ ?_)
   | (with_reducible refine LeO.bind ?_ (fun _ => ?_))
   | exact ih0 _ _
   | exact ih1 _ _ _
   | exact ih2 _ _ _ _ _ _ _ _
   | exact ih3 _ _ _ _ _ _ _ _
   | exact ih4 _ _ _
   | exact arraslaw7_wakes.mono _
   | exact arrasref0_CopyBytes.mono _ _
   | exact arrasref0_EqNumbers.mono _ _ _
   | exact arrasref6_TakeVector.mono _ _
   | exact arrasref6_Vector.mono _ _
   | exact have_Bytes.mono _ _
   | exact have_Take.mono _ _
   | exact LeO.none _
   | refine LeO.ite ?_ ?_
   | refine LeO.bind ?_ (fun _ => ?_)
  ·intro y0 y1 y2 y3 y4 y5 y6 y7
   unfold arraslaw7_HaveBytes.j3
   repeat' first
   | (with_reducible exact ih0 _ _)
   | (with_reducible exact ih1 _ _ _)
   | (with_reducible exact ih2 _ _ _ _ _ _ _ _)
   | (with_reducible exact ih3 _ _ _ _ _ _ _ _)
   | (with_reducible exact ih4 _ _ _)
   | (with_reducible exact arraslaw7_wakes.mono _)
   | (with_reducible exact arrasref0_CopyBytes.mono _ _)
   | (with_reducible exact arrasref0_EqNumbers.mono _ _ _)
   | (with_reducible exact arrasref6_TakeVector.mono _ _)
   | (with_reducible exact arrasref6_Vector.mono _ _)
   | (with_reducible exact have_Bytes.mono _ _)
   | (with_reducible exact have_Take.mono _ _)
   | (with_reducible exact LeO.refl _)
   | (with_reducible exact LeO.none _)
   | (with_reducible refine LeO.ite ?_ ?_)
   | (with_reducible refine LeO.bind ?_ (fun _ => ?_))
   | exact ih0 _ _
   | exact ih1 _ _ _
   | exact ih2 _ _ _ _ _ _ _ _
   | exact ih3 _ _ _ _ _ _ _ _
   | exact ih4 _ _ _
   | exact arraslaw7_wakes.mono _
   | exact arrasref0_CopyBytes.mono _ _
   | exact arrasref0_EqNumbers.mono _ _ _
   | exact arrasref6_TakeVector.mono _ _
   | exact arrasref6_Vector.mono _ _
   | exact have_Bytes.mono _ _
   | exact have_Take.mono _ _
   | exact LeO.none _
   | refine LeO.ite ?_ ?_
   | refine LeO.bind ?_ (fun _ => ?_)
  ·intro y0 y1 y2
   unfold arraslaw7_HaveBytes.j4
   repeat' first
   | (with_reducible exact ih0 _ _)
   | (with_reducible exact ih1 _ _ _)
   | (with_reducible exact ih2 _ _ _ _ _ _ _ _)
   | (with_reducible exact ih3 _ _ _ _ _ _ _ _)
   | (with_reducible exact ih4 _ _ _)
   | (with_reducible exact arraslaw7_wakes.mono _)
   | (with_reducible exact arrasref0_CopyBytes.mono _ _)
   | (with_reducible exact arrasref0_EqNumbers.mono _ _ _)
   | (with_reducible exact arrasref6_TakeVector.mono _ _)
   | (with_reducible exact arrasref6_Vector.mono _ _)
   | (with_reducible exact have_Bytes.mono _ _)
   | (with_reducible exact have_Take.mono _ _)
   | (with_reducible exact LeO.refl _)
   | (with_reducible exact LeO.none _)
   | (with_reducible refine LeO.ite ?_ ?_)
   | (with_reducible refine LeO.bind ?_ (fun _ => ?_))
   | exact ih0 _ _
   | exact ih1 _ _ _
   | exact ih2 _ _ _ _ _ _ _ _
   | exact ih3 _ _ _ _ _ _ _ _
   | exact ih4 _ _ _
   | exact arraslaw7_wakes.mono _
   | exact arrasref0_CopyBytes.mono _ _
   | exact arrasref0_EqNumbers.mono _ _ _
   | exact arrasref6_TakeVector.mono _ _
   | exact arrasref6_Vector.mono _ _
   | exact have_Bytes.mono _ _
   | exact have_Take.mono _ _
   | exact LeO.none _
   | refine LeO.ite ?_ ?_
   | refine LeO.bind ?_ (fun _ => ?_)
theorem arraslaw7_HaveBytes.mono : ∀ a0 k, LeO (arraslaw7_HaveBytes.f k a0) (arraslaw7_HaveBytes.f (k + 1) a0) := by
 intro a0 k
 obtain ⟨ih0, ih1, ih2, ih3, ih4⟩ := arraslaw7_HaveBytes.mono_l k
 unfold arraslaw7_HaveBytes.f
 repeat' first
   | (with_reducible exact ih0 _ _)
   | (with_reducible exact ih1 _ _ _)
   | (with_reducible exact ih2 _ _ _ _ _ _ _ _)
   | (with_reducible exact ih3 _ _ _ _ _ _ _ _)
   | (with_reducible exact ih4 _ _ _)
   | (with_reducible exact arraslaw7_wakes.mono _)
   | (with_reducible exact arrasref0_CopyBytes.mono _ _)
   | (with_reducible exact arrasref0_EqNumbers.mono _ _ _)
   | (with_reducible exact arrasref6_TakeVector.mono _ _)
   | (with_reducible exact arrasref6_Vector.mono _ _)
   | (with_reducible exact have_Bytes.mono _ _)
   | (with_reducible exact have_Take.mono _ _)
   | (with_reducible exact LeO.refl _)
   | (with_reducible exact LeO.none _)
   | (with_reducible refine LeO.ite ?_ ?_)
   | (with_reducible refine LeO.bind ?_ (fun _ => ?_))
   | exact ih0 _ _
   | exact ih1 _ _ _
   | exact ih2 _ _ _ _ _ _ _ _
   | exact ih3 _ _ _ _ _ _ _ _
   | exact ih4 _ _ _
   | exact arraslaw7_wakes.mono _
   | exact arrasref0_CopyBytes.mono _ _
   | exact arrasref0_EqNumbers.mono _ _ _
   | exact arrasref6_TakeVector.mono _ _
   | exact arrasref6_Vector.mono _ _
   | exact have_Bytes.mono _ _
   | exact have_Take.mono _ _
   | exact LeO.none _
   | refine LeO.ite ?_ ?_
   | refine LeO.bind ?_ (fun _ => ?_)
def arraslaw7_HaveBytes.T8 : Bool × List (List Nat × List Nat) := (true, [([], []), ([0], [0]), ([1], [1]), ([], []), ([3], [3]), ([4, 1], [4]), ([2, 5], [2, 5]), ([6, 5], [6]), ([7], [7]), ([8, 7, 7], [7, 8]), ([9, 7], [7, 9]), ([10, 9, 7], [7, 10]), ([11], [11]), ([12, 11, 11], [11, 12]), ([13, 11], [11, 13]), ([14, 13, 11], [11, 14]), ([15], [15]), ([16, 15], [15, 16]), ([17, 15], [15, 17]), ([15, 18, 11], [11, 15, 18]), ([11, 19, 7], [7, 11, 19]), ([7, 20], [7, 20])])
def arraslaw7_HaveBytes.B8 : List Nat := [0, 1, 3, 0, 8, 27, 63, 127, 255, 511, 1023, 2047, 4095, 8191, 16383, 32767, 65535, 131071, 262143, 524287, 1048575, 2097151]
theorem arraslaw7_HaveBytes.tab8 : rtab .any (opsOf Try.f16 8) = arraslaw7_HaveBytes.T8 := by kernel_rfl
theorem arraslaw7_HaveBytes.bits8 : waitsOk arraslaw7_HaveBytes.T8.2 arraslaw7_HaveBytes.B8 = true := by kernel_rfl
def arraslaw7_HaveBytes.T15 : Bool × List (List Nat × List Nat) := (true, [([], []), ([0], [0]), ([], []), ([2], [2]), ([1, 3, 1], [1, 3]), ([4, 4], [4]), ([5], [5]), ([6], [6]), ([6], [6]), ([6], [6]), ([7, 5, 0, 1, 2, 3, 4, 5, 6, 7], [7]), ([8, 10, 0, 1, 2, 3, 4, 5, 6, 7, 8, 10], [8]), ([9, 11, 0, 1, 2, 3, 4, 5, 6, 7, 8, 9, 10, 11], [9])])
def arraslaw7_HaveBytes.B15 : List Nat := [0, 1, 0, 4, 15, 31, 63, 127, 127, 127, 255, 1535, 4095]
theorem arraslaw7_HaveBytes.tab15 : rtab .any (opsOf Try.f16 15) = arraslaw7_HaveBytes.T15 := by kernel_rfl
theorem arraslaw7_HaveBytes.bits15 : waitsOk arraslaw7_HaveBytes.T15.2 arraslaw7_HaveBytes.B15 = true := by kernel_rfl
noncomputable def arraslaw7_HaveBytes.L0 (x0 : List (S86)) (x3 : Int) : Option (Bool) := Go.Proofs.YtpmcojmhkpaoaaaLabel.lim (fun k => arraslaw7_HaveBytes.l0 k x0 x3)
noncomputable def arraslaw7_HaveBytes.J1 (x0 : List (S86)) (x3 : Int) (x20 : Bool) : Option (Bool) := Go.Proofs.YtpmcojmhkpaoaaaLabel.lim (fun k => arraslaw7_HaveBytes.j1 k x0 x3 x20)
noncomputable def arraslaw7_HaveBytes.J2 (x0 : List (S86)) (x3 : Int) (x5 : List Int) (x6 : Int) (x56 : Bool) (x836000 : List Int) (x836001 : List Int) (x836002 : List Int) : Option (Bool) := Go.Proofs.YtpmcojmhkpaoaaaLabel.lim (fun k => arraslaw7_HaveBytes.j2 k x0 x3 x5 x6 x56 x836000 x836001 x836002)
noncomputable def arraslaw7_HaveBytes.J3 (x0 : List (S86)) (x3 : Int) (x5 : List Int) (x6 : Int) (x85 : Bool) (x836000 : List Int) (x836001 : List Int) (x836002 : List Int) : Option (Bool) := Go.Proofs.YtpmcojmhkpaoaaaLabel.lim (fun k => arraslaw7_HaveBytes.j3 k x0 x3 x5 x6 x85 x836000 x836001 x836002)
noncomputable def arraslaw7_HaveBytes.J4 (x0 : List (S86)) (x3 : Int) (x114 : Bool) : Option (Bool) := Go.Proofs.YtpmcojmhkpaoaaaLabel.lim (fun k => arraslaw7_HaveBytes.j4 k x0 x3 x114)
theorem arraslaw7_HaveBytes.L0_lim (x0 : List (S86)) (x3 : Int) : Go.Proofs.YtpmcojmhkpaoaaaLabel.Lim (fun k => arraslaw7_HaveBytes.l0 k x0 x3) (arraslaw7_HaveBytes.L0 x0 x3) := Go.Proofs.YtpmcojmhkpaoaaaLabel.lim_spec (fun k => (arraslaw7_HaveBytes.mono_l k).1 x0 x3)
theorem arraslaw7_HaveBytes.J1_lim (x0 : List (S86)) (x3 : Int) (x20 : Bool) : Go.Proofs.YtpmcojmhkpaoaaaLabel.Lim (fun k => arraslaw7_HaveBytes.j1 k x0 x3 x20) (arraslaw7_HaveBytes.J1 x0 x3 x20) := Go.Proofs.YtpmcojmhkpaoaaaLabel.lim_spec (fun k => (arraslaw7_HaveBytes.mono_l k).2.1 x0 x3 x20)
theorem arraslaw7_HaveBytes.J2_lim (x0 : List (S86)) (x3 : Int) (x5 : List Int) (x6 : Int) (x56 : Bool) (x836000 : List Int) (x836001 : List Int) (x836002 : List Int) : Go.Proofs.YtpmcojmhkpaoaaaLabel.Lim (fun k => arraslaw7_HaveBytes.j2 k x0 x3 x5 x6 x56 x836000 x836001 x836002) (arraslaw7_HaveBytes.J2 x0 x3 x5 x6 x56 x836000 x836001 x836002) := Go.Proofs.YtpmcojmhkpaoaaaLabel.lim_spec (fun k => (arraslaw7_HaveBytes.mono_l k).2.2.1 x0 x3 x5 x6 x56 x836000 x836001 x836002)
theorem arraslaw7_HaveBytes.J3_lim (x0 : List (S86)) (x3 : Int) (x5 : List Int) (x6 : Int) (x85 : Bool) (x836000 : List Int) (x836001 : List Int) (x836002 : List Int) : Go.Proofs.YtpmcojmhkpaoaaaLabel.Lim (fun k => arraslaw7_HaveBytes.j3 k x0 x3 x5 x6 x85 x836000 x836001 x836002) (arraslaw7_HaveBytes.J3 x0 x3 x5 x6 x85 x836000 x836001 x836002) := Go.Proofs.YtpmcojmhkpaoaaaLabel.lim_spec (fun k => (arraslaw7_HaveBytes.mono_l k).2.2.2.1 x0 x3 x5 x6 x85 x836000 x836001 x836002)
theorem arraslaw7_HaveBytes.J4_lim (x0 : List (S86)) (x3 : Int) (x114 : Bool) : Go.Proofs.YtpmcojmhkpaoaaaLabel.Lim (fun k => arraslaw7_HaveBytes.j4 k x0 x3 x114) (arraslaw7_HaveBytes.J4 x0 x3 x114) := Go.Proofs.YtpmcojmhkpaoaaaLabel.lim_spec (fun k => (arraslaw7_HaveBytes.mono_l k).2.2.2.2 x0 x3 x114)
theorem arraslaw7_HaveBytes.L0_eq (x0 : List (S86)) (x3 : Int) : arraslaw7_HaveBytes.L0 x0 x3 = (if x3 < (x0.length : Int) then (arraslaw7_HaveBytes.J1 x0 x3 (decide (x3 < 15))) else (arraslaw7_HaveBytes.J1 x0 x3 false)) := by
  refine Go.Proofs.YtpmcojmhkpaoaaaLabel.Lim.unique (arraslaw7_HaveBytes.L0_lim x0 x3).shift ?_
  simp only [arraslaw7_HaveBytes.l0]
  (repeat' (first | exact Go.Proofs.YtpmcojmhkpaoaaaLabel.Lim.const _ | exact arraslaw7_HaveBytes.L0_lim _ _ | exact arraslaw7_HaveBytes.J1_lim _ _ _ | exact arraslaw7_HaveBytes.J2_lim _ _ _ _ _ _ _ _ | exact arraslaw7_HaveBytes.J3_lim _ _ _ _ _ _ _ _ | exact arraslaw7_HaveBytes.J4_lim _ _ _ | exact arraslaw7_wakes.F_lim | exact arrasref0_CopyBytes.F_lim _ | exact arrasref0_EqNumbers.F_lim _ _ | exact arrasref6_TakeVector.F_lim _ | exact arrasref6_Vector.F_lim _ | exact have_Bytes.F_lim _ | exact have_Take.F_lim _ | refine Go.Proofs.YtpmcojmhkpaoaaaLabel.Lim.ite ?_ ?_ | refine Go.Proofs.YtpmcojmhkpaoaaaLabel.Lim.bind ?_ (fun _ => ?_)))
theorem arraslaw7_HaveBytes.J1_eq (x0 : List (S86)) (x3 : Int) (x20 : Bool) : arraslaw7_HaveBytes.J1 x0 x3 x20 = (if x20 = true then (if 0 ≤ x3 then (if x3 < (x0.length : Int) then ((arraslaw7_heavy.f ((rd_T86 x0 x3).f0) ((rd_T86 x0 x3).f1) ((rd_T86 x0 x3).f2)).bind fun t836 => (if t836 = true then (some true) else ((have_Bytes.F ((rd_T86 x0 x3).f0)).bind fun bt837 => ((arraslaw7_num.f bt837.2).bind fun t841 => ((arrasref6_Vector.F ((rd_T86 x0 x3).f0)).bind fun t842 => (if ((t841 == 0) != t842) = true then (arraslaw7_HaveBytes.J2 x0 x3 bt837.1 bt837.2 true ((rd_T86 x0 x3).f0) ((rd_T86 x0 x3).f1) ((rd_T86 x0 x3).f2)) else ((arraslaw7_num.f bt837.2).bind fun t843 => (if t843 = 0 then (arraslaw7_HaveBytes.J2 x0 x3 bt837.1 bt837.2 false ((rd_T86 x0 x3).f0) ((rd_T86 x0 x3).f1) ((rd_T86 x0 x3).f2)) else ((arraslaw7_num.f bt837.2).bind fun t844 => (if t844 = 1 then (arraslaw7_HaveBytes.J2 x0 x3 bt837.1 bt837.2 (decide ((bt837.1.length : Int) > 0)) ((rd_T86 x0 x3).f0) ((rd_T86 x0 x3).f1) ((rd_T86 x0 x3).f2)) else (arraslaw7_HaveBytes.J2 x0 x3 bt837.1 bt837.2 true ((rd_T86 x0 x3).f0) ((rd_T86 x0 x3).f1) ((rd_T86 x0 x3).f2)))))))))))) else (none)) else (none)) else ((arraslaw7_wakes.F).bind fun t833 => (some t833))) := by
  refine Go.Proofs.YtpmcojmhkpaoaaaLabel.Lim.unique (arraslaw7_HaveBytes.J1_lim x0 x3 x20).shift ?_
  simp only [arraslaw7_HaveBytes.j1]
  (repeat' (first | exact Go.Proofs.YtpmcojmhkpaoaaaLabel.Lim.const _ | exact arraslaw7_HaveBytes.L0_lim _ _ | exact arraslaw7_HaveBytes.J1_lim _ _ _ | exact arraslaw7_HaveBytes.J2_lim _ _ _ _ _ _ _ _ | exact arraslaw7_HaveBytes.J3_lim _ _ _ _ _ _ _ _ | exact arraslaw7_HaveBytes.J4_lim _ _ _ | exact arraslaw7_wakes.F_lim | exact arrasref0_CopyBytes.F_lim _ | exact arrasref0_EqNumbers.F_lim _ _ | exact arrasref6_TakeVector.F_lim _ | exact arrasref6_Vector.F_lim _ | exact have_Bytes.F_lim _ | exact have_Take.F_lim _ | refine Go.Proofs.YtpmcojmhkpaoaaaLabel.Lim.ite ?_ ?_ | refine Go.Proofs.YtpmcojmhkpaoaaaLabel.Lim.bind ?_ (fun _ => ?_)))
theorem arraslaw7_HaveBytes.J2_eq (x0 : List (S86)) (x3 : Int) (x5 : List Int) (x6 : Int) (x56 : Bool) (x836000 : List Int) (x836001 : List Int) (x836002 : List Int) : arraslaw7_HaveBytes.J2 x0 x3 x5 x6 x56 x836000 x836001 x836002 = (if x56 = true then (some false) else ((have_Take.F x836002).bind fun bt845 => ((arrasref6_TakeVector.F x836002).bind fun bt850 => ((arraslaw7_num.f bt845.2.2).bind fun t855 => (if t855 = bt850.2.2 then ((arrasref0_EqNumbers.F bt845.1 bt850.1).bind fun t856 => (if t856 = true then (arraslaw7_HaveBytes.J3 x0 x3 x5 x6 (bt845.2.1 != bt850.2.1) x836000 x836001 x836002) else (arraslaw7_HaveBytes.J3 x0 x3 x5 x6 true x836000 x836001 x836002))) else (arraslaw7_HaveBytes.J3 x0 x3 x5 x6 true x836000 x836001 x836002)))))) := by
  refine Go.Proofs.YtpmcojmhkpaoaaaLabel.Lim.unique (arraslaw7_HaveBytes.J2_lim x0 x3 x5 x6 x56 x836000 x836001 x836002).shift ?_
  simp only [arraslaw7_HaveBytes.j2]
  (repeat' (first | exact Go.Proofs.YtpmcojmhkpaoaaaLabel.Lim.const _ | exact arraslaw7_HaveBytes.L0_lim _ _ | exact arraslaw7_HaveBytes.J1_lim _ _ _ | exact arraslaw7_HaveBytes.J2_lim _ _ _ _ _ _ _ _ | exact arraslaw7_HaveBytes.J3_lim _ _ _ _ _ _ _ _ | exact arraslaw7_HaveBytes.J4_lim _ _ _ | exact arraslaw7_wakes.F_lim | exact arrasref0_CopyBytes.F_lim _ | exact arrasref0_EqNumbers.F_lim _ _ | exact arrasref6_TakeVector.F_lim _ | exact arrasref6_Vector.F_lim _ | exact have_Bytes.F_lim _ | exact have_Take.F_lim _ | refine Go.Proofs.YtpmcojmhkpaoaaaLabel.Lim.ite ?_ ?_ | refine Go.Proofs.YtpmcojmhkpaoaaaLabel.Lim.bind ?_ (fun _ => ?_)))
theorem arraslaw7_HaveBytes.J3_eq (x0 : List (S86)) (x3 : Int) (x5 : List Int) (x6 : Int) (x85 : Bool) (x836000 : List Int) (x836001 : List Int) (x836002 : List Int) : arraslaw7_HaveBytes.J3 x0 x3 x5 x6 x85 x836000 x836001 x836002 = (if x85 = true then (some false) else ((arraslaw7_num.f x6).bind fun t857 => (if t857 = 0 then ((arrasref0_CopyBytes.F x5).bind fun t858 => (if t858.length + x836002.length < 140737488355328 then ((have_Take.F (t858 ++ x836002)).bind fun bt864 => ((arraslaw7_num.f bt864.2.2).bind fun t869 => (if t869 = 0 then ((arrasref0_EqNumbers.F bt864.1 x836000).bind fun t870 => (if t870 = true then (arraslaw7_HaveBytes.J4 x0 x3 (bt864.2.1 != (x5.length : Int))) else (arraslaw7_HaveBytes.J4 x0 x3 true))) else (arraslaw7_HaveBytes.J4 x0 x3 true)))) else (none))) else (arraslaw7_HaveBytes.L0 x0 (wrap64 (x3 + 1)))))) := by
  refine Go.Proofs.YtpmcojmhkpaoaaaLabel.Lim.unique (arraslaw7_HaveBytes.J3_lim x0 x3 x5 x6 x85 x836000 x836001 x836002).shift ?_
  simp only [arraslaw7_HaveBytes.j3]
  (repeat' (first | exact Go.Proofs.YtpmcojmhkpaoaaaLabel.Lim.const _ | exact arraslaw7_HaveBytes.L0_lim _ _ | exact arraslaw7_HaveBytes.J1_lim _ _ _ | exact arraslaw7_HaveBytes.J2_lim _ _ _ _ _ _ _ _ | exact arraslaw7_HaveBytes.J3_lim _ _ _ _ _ _ _ _ | exact arraslaw7_HaveBytes.J4_lim _ _ _ | exact arraslaw7_wakes.F_lim | exact arrasref0_CopyBytes.F_lim _ | exact arrasref0_EqNumbers.F_lim _ _ | exact arrasref6_TakeVector.F_lim _ | exact arrasref6_Vector.F_lim _ | exact have_Bytes.F_lim _ | exact have_Take.F_lim _ | refine Go.Proofs.YtpmcojmhkpaoaaaLabel.Lim.ite ?_ ?_ | refine Go.Proofs.YtpmcojmhkpaoaaaLabel.Lim.bind ?_ (fun _ => ?_)))
theorem arraslaw7_HaveBytes.J4_eq (x0 : List (S86)) (x3 : Int) (x114 : Bool) : arraslaw7_HaveBytes.J4 x0 x3 x114 = (if x114 = true then (some false) else (arraslaw7_HaveBytes.L0 x0 (wrap64 (x3 + 1)))) := by
  refine Go.Proofs.YtpmcojmhkpaoaaaLabel.Lim.unique (arraslaw7_HaveBytes.J4_lim x0 x3 x114).shift ?_
  simp only [arraslaw7_HaveBytes.j4]
  (repeat' (first | exact Go.Proofs.YtpmcojmhkpaoaaaLabel.Lim.const _ | exact arraslaw7_HaveBytes.L0_lim _ _ | exact arraslaw7_HaveBytes.J1_lim _ _ _ | exact arraslaw7_HaveBytes.J2_lim _ _ _ _ _ _ _ _ | exact arraslaw7_HaveBytes.J3_lim _ _ _ _ _ _ _ _ | exact arraslaw7_HaveBytes.J4_lim _ _ _ | exact arraslaw7_wakes.F_lim | exact arrasref0_CopyBytes.F_lim _ | exact arrasref0_EqNumbers.F_lim _ _ | exact arrasref6_TakeVector.F_lim _ | exact arrasref6_Vector.F_lim _ | exact have_Bytes.F_lim _ | exact have_Take.F_lim _ | refine Go.Proofs.YtpmcojmhkpaoaaaLabel.Lim.ite ?_ ?_ | refine Go.Proofs.YtpmcojmhkpaoaaaLabel.Lim.bind ?_ (fun _ => ?_)))
noncomputable def arraslaw7_HaveBytes.F (l0 : List (S86)) : Option (Bool) := Go.Proofs.YtpmcojmhkpaoaaaLabel.lim (fun k => arraslaw7_HaveBytes.f k l0)
theorem arraslaw7_HaveBytes.F_lim (l0 : List (S86)) : Go.Proofs.YtpmcojmhkpaoaaaLabel.Lim (fun k => arraslaw7_HaveBytes.f k l0) (arraslaw7_HaveBytes.F l0) := Go.Proofs.YtpmcojmhkpaoaaaLabel.lim_spec (arraslaw7_HaveBytes.mono l0)
theorem arraslaw7_HaveBytes.F_eq (l0 : List (S86)) : arraslaw7_HaveBytes.F l0 = (arraslaw7_HaveBytes.L0 l0 0) := by
  refine Go.Proofs.YtpmcojmhkpaoaaaLabel.Lim.unique (arraslaw7_HaveBytes.F_lim l0) ?_
  simp only [arraslaw7_HaveBytes.f]
  (repeat' (first | exact Go.Proofs.YtpmcojmhkpaoaaaLabel.Lim.const _ | exact arraslaw7_HaveBytes.L0_lim _ _ | exact arraslaw7_HaveBytes.J1_lim _ _ _ | exact arraslaw7_HaveBytes.J2_lim _ _ _ _ _ _ _ _ | exact arraslaw7_HaveBytes.J3_lim _ _ _ _ _ _ _ _ | exact arraslaw7_HaveBytes.J4_lim _ _ _ | exact arraslaw7_wakes.F_lim | exact arrasref0_CopyBytes.F_lim _ | exact arrasref0_EqNumbers.F_lim _ _ | exact arrasref6_TakeVector.F_lim _ | exact arrasref6_Vector.F_lim _ | exact have_Bytes.F_lim _ | exact have_Take.F_lim _ | refine Go.Proofs.YtpmcojmhkpaoaaaLabel.Lim.ite ?_ ?_ | refine Go.Proofs.YtpmcojmhkpaoaaaLabel.Lim.bind ?_ (fun _ => ?_)))

end Go.Proofs.Ytpmcojmhkpaoaaa.PA
