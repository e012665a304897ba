-- Printed by this session's wip/myprint.py
import Derived.Test.YtpmcojmhkpaoaaaPAx0
import Derived.Test.YtpmcojmhkpaoaaaPAx2
namespace Go.Proofs.Ytpmcojmhkpaoaaa.PA
open Go.RowKit Go.Proofs.YtpmcojmhkpaoaaaW.PrintWords Go.Proofs.YtpmcojmhkpaoaaaW.PrintLast Go.Proofs.YtpmcojmhkpaoaaaW.PrintMore
attribute [local go_sem] max2_int min2_int max_two min_two max_three min_three max_four min_four   -- for this text's walks alone
set_option linter.unusedVariables false
set_option linter.unusedSimpArgs false

/-! #### arraslaw5_CodeRows: function 9 -/
mutual
def arraslaw5_CodeRows.l0 : Nat → List (S43) → List Int → Int → Option (Bool)
 | 0, _, _, _ => none
 | k + 1, x0, x3, x4 => if x4 < (x0.length : Int) then (arraslaw5_CodeRows.j1 k x0 x3 x4 (decide (x4 < 20))) else (arraslaw5_CodeRows.j1 k x0 x3 x4 false)
def arraslaw5_CodeRows.j1 : Nat → List (S43) → List Int → Int → Bool → Option (Bool)
 | 0, _, _, _, _ => none
 | k + 1, x0, x3, x4, x26 => if x26 = true then (if 0 ≤ x4 then (if x4 < (x0.length : Int) then ((arraslaw5_heavy.f ((rd_T43 x0 x4).f0) ((rd_T43 x0 x4).f1) ((rd_T43 x0 x4).f2) ((rd_T43 x0 x4).f3)).bind fun t428 => (if t428 = true then (arraslaw5_CodeRows.j2 k x0 x3 x4 true ((rd_T43 x0 x4).f0) ((rd_T43 x0 x4).f1) ((rd_T43 x0 x4).f2) ((rd_T43 x0 x4).f3)) else (if (((rd_T43 x0 x4).f1).size : Int) > 300 then (arraslaw5_CodeRows.j2 k x0 x3 x4 true ((rd_T43 x0 x4).f0) ((rd_T43 x0 x4).f1) ((rd_T43 x0 x4).f2) ((rd_T43 x0 x4).f3)) else (arraslaw5_CodeRows.j2 k x0 x3 x4 (decide ((((rd_T43 x0 x4).f2).length : Int) > 50)) ((rd_T43 x0 x4).f0) ((rd_T43 x0 x4).f1) ((rd_T43 x0 x4).f2) ((rd_T43 x0 x4).f3))))) else (none)) else (none)) else (arraslaw5_CodeRows.l1 k x0 x3 0 0)
def arraslaw5_CodeRows.j2 : Nat → List (S43) → List Int → Int → Bool → Int → ByteArray → List Int → List Int → Option (Bool)
 | 0, _, _, _, _, _, _, _, _ => none
 | k + 1, x0, x3, x4, x46, x428000, x428001, x428002, x428003 => if x46 = true then (some true) else ((arraslaw0_Within.f x428000 4611686018427387904).bind fun t429 => ((code_Num.f k t429).bind fun bt430 => ((code_Text.f k x428001).bind fun bt434 => ((code_Nums.f k x428002).bind fun bt438 => ((arraslaw5_num.f bt430.2).bind fun t442 => (if t442 = 0 then ((arraslaw5_num.f bt434.2).bind fun t443 => (if t443 = 0 then ((arraslaw5_num.f bt438.2).bind fun t444 => ((arrasref5_Numbers.f k x428002).bind fun t445 => (arraslaw5_CodeRows.j3 k x0 x3 x4 bt430.1 bt434.1 bt438.1 ((t444 == 0) != t445)))) else (arraslaw5_CodeRows.j3 k x0 x3 x4 bt430.1 bt434.1 bt438.1 true))) else (arraslaw5_CodeRows.j3 k x0 x3 x4 bt430.1 bt434.1 bt438.1 true)))))))
def arraslaw5_CodeRows.j3 : Nat → List (S43) → List Int → Int → List Int → List Int → List Int → Bool → Option (Bool)
 | 0, _, _, _, _, _, _, _ => none
 | k + 1, x0, x3, x4, x6, x8, x10, x82 => if x82 = true then (some false) else (if x3.length + x6.length < 140737488355328 then ((some (x3 ++ x6 : List Int)).bind fun y446 => (if y446.length + x8.length < 140737488355328 then ((some (y446 ++ x8 : List Int)).bind fun y449 => (if y449.length + x10.length < 140737488355328 then (arraslaw5_CodeRows.l0 k x0 (y449 ++ x10) (wrap64 (x4 + 1))) else (none))) else (none))) else (none))
def arraslaw5_CodeRows.l1 : Nat → List (S43) → List Int → Int → Int → Option (Bool)
 | 0, _, _, _, _ => none
 | k + 1, x0, x3, x12, x13 => if x13 < (x0.length : Int) then (arraslaw5_CodeRows.j5 k x0 x3 x12 x13 (decide (x13 < 20))) else (arraslaw5_CodeRows.j5 k x0 x3 x12 x13 false)
def arraslaw5_CodeRows.j5 : Nat → List (S43) → List Int → Int → Int → Bool → Option (Bool)
 | 0, _, _, _, _, _ => none
 | k + 1, x0, x3, x12, x13, x97 => if x97 = true then (if 0 ≤ x12 then (if x12 ≤ (x3.length : Int) then ((code_TakeNum.f k (x3.drop (x12 : Int).toNat)).bind fun bt460 => ((arraslaw5_num.f bt460.2.2).bind fun t463 => (if t463 = 0 then (if 0 ≤ x13 then (if x13 < (x0.length : Int) then ((arraslaw0_Within.f ((rd_T43 x0 x13).f0) 4611686018427387904).bind fun t465 => (arraslaw5_CodeRows.j6 k x0 x3 x12 x13 bt460.2.1 (bt460.1 != t465))) else (none)) else (none)) else (arraslaw5_CodeRows.j6 k x0 x3 x12 x13 bt460.2.1 true)))) else (none)) else (none)) else (if x12 = (x3.length : Int) then ((arraslaw5_wakes.f k).bind fun t455 => (some t455)) else (some false))
def arraslaw5_CodeRows.j6 : Nat → List (S43) → List Int → Int → Int → Int → Bool → Option (Bool)
 | 0, _, _, _, _, _, _ => none
 | k + 1, x0, x3, x12, x13, x15, x120 => if x120 = true then (some false) else (if 0 ≤ (wrap64 (x12 + x15)) then (if (wrap64 (x12 + x15)) ≤ (x3.length : Int) then ((code_TakeText.f k (x3.drop ((wrap64 (x12 + x15)) : Int).toNat)).bind fun bt470 => ((arraslaw5_num.f bt470.2.2).bind fun t473 => (if t473 = 0 then (if 0 ≤ x13 then (if x13 < (x0.length : Int) then (arraslaw5_CodeRows.j7 k x0 x3 (wrap64 (x12 + x15)) x13 bt470.2.1 (bt470.1.toList != ((rd_T43 x0 x13).f1).toList)) else (none)) else (none)) else (arraslaw5_CodeRows.j7 k x0 x3 (wrap64 (x12 + x15)) x13 bt470.2.1 true)))) else (none)) else (none))
def arraslaw5_CodeRows.j7 : Nat → List (S43) → List Int → Int → Int → Int → Bool → Option (Bool)
 | 0, _, _, _, _, _, _ => none
 | k + 1, x0, x3, x12, x13, x15, x143 => if x143 = true then (some false) else (if 0 ≤ x13 then (if x13 < (x0.length : Int) then ((arrasref5_Numbers.f k ((rd_T43 x0 x13).f2)).bind fun t476 => (if t476 = true then (if 0 ≤ (wrap64 (x12 + x15)) then (if (wrap64 (x12 + x15)) ≤ (x3.length : Int) then ((code_TakeNums.f k (x3.drop ((wrap64 (x12 + x15)) : Int).toNat)).bind fun bt481 => ((arraslaw5_num.f bt481.2.2).bind fun t486 => (if t486 = 0 then ((arrasref0_EqNumbers.f k bt481.1 ((rd_T43 x0 x13).f2)).bind fun t488 => (if t488 = true then (arraslaw5_CodeRows.l1 k x0 x3 (wrap64 ((wrap64 (x12 + x15)) + bt481.2.1)) (wrap64 (x13 + 1))) else (some false))) else (some false)))) else (none)) else (none)) else (arraslaw5_CodeRows.l1 k x0 x3 (wrap64 (x12 + x15)) (wrap64 (x13 + 1))))) else (none)) else (none))
end
def arraslaw5_CodeRows.f (k : Nat) (l0 : List (S43)) : Option (Bool) := arraslaw5_CodeRows.l0 k l0 ([] : List Int) 0
theorem arraslaw5_CodeRows.mono_l : ∀ k, (∀ y0 y1 y2, LeO (arraslaw5_CodeRows.l0 k y0 y1 y2) (arraslaw5_CodeRows.l0 (k + 1) y0 y1 y2)) ∧ (∀ y0 y1 y2 y3, LeO (arraslaw5_CodeRows.j1 k y0 y1 y2 y3) (arraslaw5_CodeRows.j1 (k + 1) y0 y1 y2 y3)) ∧ (∀ y0 y1 y2 y3 y4 y5 y6 y7, LeO (arraslaw5_CodeRows.j2 k y0 y1 y2 y3 y4 y5 y6 y7) (arraslaw5_CodeRows.j2 (k + 1) y0 y1 y2 y3 y4 y5 y6 y7)) ∧ (∀ y0 y1 y2 y3 y4 y5 y6, LeO (arraslaw5_CodeRows.j3 k y0 y1 y2 y3 y4 y5 y6) (arraslaw5_CodeRows.j3 (k + 1) y0 y1 y2 y3 y4 y5 y6)) ∧ (∀ y0 y1 y2 y3, LeO (arraslaw5_CodeRows.l1 k y0 y1 y2 y3) (arraslaw5_CodeRows.l1 (k + 1) y0 y1 y2 y3)) ∧ (∀ y0 y1 y2 y3 y4, LeO (arraslaw5_CodeRows.j5 k y0 y1 y2 y3 y4) (arraslaw5_CodeRows.j5 (k + 1) y0 y1 y2 y3 y4)) ∧ (∀ y0 y1 y2 y3 y4 y5, LeO (arraslaw5_CodeRows.j6 k y0 y1 y2 y3 y4 y5) (arraslaw5_CodeRows.j6 (k + 1) y0 y1 y2 y3 y4 y5)) ∧ (∀ y0 y1 y2 y3 y4 y5, LeO (arraslaw5_CodeRows.j7 k y0 y1 y2 y3 y4 y5) (arraslaw5_CodeRows.j7 (k + 1) y0 y1 y2 y3 y4 y5))
 | 0 => ⟨fun _ _ _ r h => by simp [arraslaw5_CodeRows.l0] at h, fun _ _ _ _ r h => by simp [arraslaw5_CodeRows.j1] at h, fun _ _ _ _ _ _ _ _ r h => by simp [arraslaw5_CodeRows.j2] at h, fun _ _ _ _ _ _ _ r h => by simp [arraslaw5_CodeRows.j3] at h, fun _ _ _ _ r h => by simp [arraslaw5_CodeRows.l1] at h, fun _ _ _ _ _ r h => by simp [arraslaw5_CodeRows.j5] at h, fun _ _ _ _ _ _ r h => by simp [arraslaw5_CodeRows.j6] at h, fun _ _ _ _ _ _ r h => by simp [arraslaw5_CodeRows.j7] at h⟩
 | k + 1 => by
  obtain ⟨ih0, ih1, ih2, ih3, ih4, ih5, ih6, ih7⟩ := arraslaw5_CodeRows.mono_l k
  refine ⟨?_, ?_, ?_, ?_, ?_, ?_, ?_, ?_⟩
  ·intro y0 y1 y2
   unfold arraslaw5_CodeRows.l0
   repeat' first
   | (with_reducible exact ih0 _ _ _)
   | (with_reducible exact ih1 _ _ _ _)
   | (with_reducible exact ih2 _ _ _ _ _ _ _ _)
   | (with_reducible exact ih3 _ _ _ _ _ _ _)
   | (with_reducible exact ih4 _ _ _ _)
   | (with_reducible exact ih5 _ _ _ _ _)
   | (with_reducible exact ih6 _ _ _ _ _ _)
   | (with_reducible exact ih7 _ _ _ _ _ _)
   | (with_reducible exact arraslaw5_wakes.mono _)
   | (with_reducible exact arrasref0_EqNumbers.mono _ _ _)
   | (with_reducible exact arrasref5_Numbers.mono _ _)
   | (with_reducible exact code_Num.mono _ _)
   | (with_reducible exact code_Nums.mono _ _)
   | (with_reducible exact code_TakeNum.mono _ _)
   | (with_reducible exact code_TakeNums.mono _ _)
   | (with_reducible exact code_TakeText.mono _ _)
   | (with_reducible exact code_Text.mono _ _)
   | (with_reducible exact LeO.refl _)
   | (with_reducible exact LeO.none _)
   | (with_reducible refine LeO.ite ?_ ?_)
   | (with_reducible refine LeO.bind ?_ (fun _ => ?_))
   | exact ih0 _ _ _
   | exact ih1 _ _ _ _
   | exact ih2 _ _ _ _ _ _ _ _
   | exact ih3 _ _ _ _ _ _ _
   | exact ih4 _ _ _ _
   | exact ih5 _ _ _ _ _
   | exact ih6 _ _ _ _ _ _
   | exact ih7 _ _ _ _ _ _
   | exact arraslaw5_wakes.mono _
   | exact arrasref0_EqNumbers.mono _ _ _
   | exact arrasref5_Numbers.mono _ _
   | exact code_Num.mono _ _
   | exact code_Nums.mono _ _
   | exact code_TakeNum.mono _ _
   | exact code_TakeNums.mono _ _
   | exact code_TakeText.mono _ _
   | exact code_Text.mono _ _
   | exact LeO.none _
   | refine LeO.ite ?_ ?_
   | refine LeO.bind ?_ (fun _ => ?_)
  ·intro y0 y1 y2 y3
   unfold arraslaw5_CodeRows.j1
   repeat' first
   | (with_reducible exact ih0 _ _ _)
   | (with_reducible exact ih1 _ _ _ _)
   | (with_reducible exact ih2 _ _ _ _ _ _ _ _)
   | (with_reducible exact ih3 _ _ _ _ _ _ _)
   | (with_reducible exact ih4 _ _ _ _)
   | (with_reducible exact ih5 _ _ _ _ _)
   | (with_reducible exact ih6 _ _ _ _ _ _)
   | (with_reducible exact ih7 _ _ _ _ _ _)
   | (with_reducible exact arraslaw5_wakes.mono _)
   | (with_reducible exact arrasref0_EqNumbers.mono _ _ _)
   | (with_reducible exact arrasref5_Numbers.mono _ _)
   | (with_reducible exact code_Num.mono _ _)
   | (with_reducible exact code_Nums.mono _ _)
   | (with_reducible exact code_TakeNum.mono _ _)
   | (with_reducible exact code_TakeNums.mono _ _)
   | (with_reducible exact code_TakeText.mono _ _)
   | (with_reducible exact code_Text.mono _ _)
   | (with_reducible exact LeO.refl _)
   | (with_reducible exact LeO.none _)
   | (with_reducible refine LeO.ite ?_ ?_)
   | (with_reducible refine LeO.bind ?_ (fun _ => ?_))
   | exact ih0 _ _ _
   | exact ih1 _ _ _ _
   | exact ih2 _ _ _ _ _ _ _ _
   | exact ih3 _ _ _ _ _ _ _
   | exact ih4 _ _ _ _
   | exact ih5 _ _ _ _ _
   | exact ih6 _ _ _ _ _ _
   | exact ih7 _ _ _ _ _ _
   | exact arraslaw5_wakes.mono _
   | exact arrasref0_EqNumbers.mono _ _ _
   | exact arrasref5_Numbers.mono _ _
   | exact code_Num.mono _ _
   | exact code_Nums.mono _ _
   | exact code_TakeNum.mono _ _
   | exact code_TakeNums.mono _ _
   | exact code_TakeText.mono _ _
   | exact code_Text.mono _ _
   | exact LeO.none _
   | refine LeO.ite ?_ ?_
   | refine LeO.bind ?_ (fun _ => ?_)
  ·intro y0 y1 y2 y3 y4 y5 y6 y7
   unfold arraslaw5_CodeRows.j2
   repeat' first
   | (with_reducible exact ih0 _ _ _)
   | (with_reducible exact ih1 _ _ _ _)
   | (with_reducible exact ih2 _ _ _ _ _ _ _ _)
   | (with_reducible exact ih3 _ _ _ _ _ _ _)
   | (with_reducible exact ih4 _ _ _ _)
   | (with_reducible exact ih5 _ _ _ _ _)
   | (with_reducible exact ih6 _ _ _ _ _ _)
   | (with_reducible exact ih7 _ _ _ _ _ _)
   | (with_reducible exact arraslaw5_wakes.mono _)
   | (with_reducible exact arrasref0_EqNumbers.mono _ _ _)
   | (with_reducible exact arrasref5_Numbers.mono _ _)
   | (with_reducible exact code_Num.mono _ _)
   | (with_reducible exact code_Nums.mono _ _)
   | (with_reducible exact code_TakeNum.mono _ _)
   | (with_reducible exact code_TakeNums.mono _ _)
   | (with_reducible exact code_TakeText.mono _ _)
   | (with_reducible exact code_Text.mono _ _)
   | (with_reducible exact LeO.refl _)
   | (with_reducible exact LeO.none _)
   | (with_reducible refine LeO.ite ?_ ?_)
   | (with_reducible refine LeO.bind ?_ (fun _ => ?_))
   | exact ih0 _ _ _
   | exact ih1 _ _ _ _
   | exact ih2 _ _ _ _ _ _ _ _
   | exact ih3 _ _ _ _ _ _ _
   | exact ih4 _ _ _ _
   | exact ih5 _ _ _ _ _
   | exact ih6 _ _ _ _ _ _
   | exact ih7 _ _ _ _ _ _
   | exact arraslaw5_wakes.mono _
   | exact arrasref0_EqNumbers.mono _ _ _
   | exact arrasref5_Numbers.mono _ _
   | exact code_Num.mono _ _
   | exact code_Nums.mono _ _
   | exact code_TakeNum.mono _ _
   | exact code_TakeNums.mono _ _
   | exact code_TakeText.mono _ _
   | exact code_Text.mono _ _
   | exact LeO.none _
   | refine LeO.ite ?_ ?_
   | refine LeO.bind ?_ (fun _ => ?_)
  ·intro y0 y1 y2 y3 y4 y5 y6
   unfold arraslaw5_CodeRows.j3
   repeat' first
   | (with_reducible exact ih0 _ _ _)
   | (with_reducible exact ih1 _ _ _ _)
   | (with_reducible exact ih2 _ _ _ _ _ _ _ _)
   | (with_reducible exact ih3 _ _ _ _ _ _ _)
   | (with_reducible exact ih4 _ _ _ _)
   | (with_reducible exact ih5 _ _ _ _ _)
   | (with_reducible exact ih6 _ _ _ _ _ _)
   | (with_reducible exact ih7 _ _ _ _ _ _)
   | (with_reducible exact arraslaw5_wakes.mono _)
   | (with_reducible exact arrasref0_EqNumbers.mono _ _ _)
   | (with_reducible exact arrasref5_Numbers.mono _ _)
   | (with_reducible exact code_Num.mono _ _)
   | (with_reducible exact code_Nums.mono _ _)
   | (with_reducible exact code_TakeNum.mono _ _)
   | (with_reducible exact code_TakeNums.mono _ _)
   | (with_reducible exact code_TakeText.mono _ _)
   | (with_reducible exact code_Text.mono _ _)
   | (with_reducible exact LeO.refl _)
   | (with_reducible exact LeO.none _)
   | (with_reducible refine LeO.ite ?_ ?_)
   | (with_reducible refine LeO.bind ?_ (fun _ => ?_))
   | exact ih0 _ _ _
   | exact ih1 _ _ _ _
   | exact ih2 _ _ _ _ _ _ _ _
   | exact ih3 _ _ _ _ _ _ _
   | exact ih4 _ _ _ _
   | exact ih5 _ _ _ _ _
   | exact ih6 _ _ _ _ _ _
   | exact ih7 _ _ _ _ _ _
   | exact arraslaw5_wakes.mono _
   | exact arrasref0_EqNumbers.mono _ _ _
   | exact arrasref5_Numbers.mono _ _
   | exact code_Num.mono _ _
   | exact code_Nums.mono _ _
   | exact code_TakeNum.mono _ _
   | exact code_TakeNums.mono _ _
   | exact code_TakeText.mono _ _
   | exact code_Text.mono _ _
   | exact LeO.none _
   | refine LeO.ite ?_ ?_
   | refine LeO.bind ?_ (fun _ => ?_)
  ·intro y0 y1 y2 y3
   unfold arraslaw5_CodeRows.l1
   repeat' first
   | (with_reducible exact ih0 _ _ _)
   | (with_reducible exact ih1 _ _ _ _)
   | (with_reducible exact ih2 _ _ _ _ _ _ _ _)
   | (with_reducible exact ih3 _ _ _ _ _ _ _)
   | (with_reducible exact ih4 _ _ _ _)
   | (with_reducible exact ih5 _ _ _ _ _)
   | (with_reducible exact ih6 _ _ _ _ _ _)
   | (with_reducible exact ih7 _ _ _ _ _ _)
   | (with_reducible exact arraslaw5_wakes.mono _)
   | (with_reducible exact arrasref0_EqNumbers.mono _ _ _)
   | (with_reducible exact arrasref5_Numbers.mono _ _)
   | (with_reducible exact code_Num.mono _ _)
   | (with_reducible exact code_Nums.mono _ _)
   | (with_reducible exact code_TakeNum.mono _ _)
   | (with_reducible exact code_TakeNums.mono _ _)
   | (with_reducible exact code_TakeText.mono _ _)
   | (with_reducible exact code_Text.mono _ _)
   | (with_reducible exact LeO.refl _)
   | (with_reducible exact LeO.none _)
   | (with_reducible refine LeO.ite ?_ ?_)
   | (with_reducible refine LeO.bind ?_ (fun _ => ?_))
   | exact ih0 _ _ _
   | exact ih1 _ _ _ _
   | exact ih2 _ _ _ _ _ _ _ _
   | exact ih3 _ _ _ _ _ _ _
   | exact ih4 _ _ _ _
   | exact ih5 _ _ _ _ _
   | exact ih6 _ _ _ _ _ _
   | exact ih7 _ _ _ _ _ _
   | exact arraslaw5_wakes.mono _
   | exact arrasref0_EqNumbers.mono _ _ _
   | exact arrasref5_Numbers.mono _ _
   | exact code_Num.mono _ _
   | exact code_Nums.mono _ _
   | exact code_TakeNum.mono _ _
   | exact code_TakeNums.mono _ _
   | exact code_TakeText.mono _ _
   | exact code_Text.mono _ _
   | exact LeO.none _
   | refine LeO.ite ?_ ?_
   | refine LeO.bind ?_ (fun _ => ?_)
  ·intro y0 y1 y2 y3 y4
   unfold arraslaw5_CodeRows.j5
   repeat' first
   | (with_reducible exact ih0 _ _ _)
   | (with_reducible exact ih1 _ _ _ _)
   | (with_reducible exact ih2 _ _ _ _ _ _ _ _)
   | (with_reducible exact ih3 _ _ _ _ _ _ _)
   | (with_reducible exact ih4 _ _ _ _)
   | (with_reducible exact ih5 _ _ _ _ _)
   | (with_reducible exact ih6 _ _ _ _ _ _)
   | (with_reducible exact ih7 _ _ _ _ _ _)
   | (with_reducible exact arraslaw5_wakes.mono _)
   | (with_reducible exact arrasref0_EqNumbers.mono _ _ _)
   | (with_reducible exact arrasref5_Numbers.mono _ _)
   | (with_reducible exact code_Num.mono _ _)
   | (with_reducible exact code_Nums.mono _ _)
   | (with_reducible exact code_TakeNum.mono _ _)
   | (with_reducible exact code_TakeNums.mono _ _)
   | (with_reducible exact code_TakeText.mono _ _)
   | (with_reducible exact code_Text.mono _ _)
   | (with_reducible exact LeO.refl _)
   | (with_reducible exact LeO.none _)
   | (with_reducible refine LeO.ite ?_ ?_)
   | (with_reducible refine LeO.bind ?_ (fun _ => ?_))
   | exact ih0 _ _ _
   | exact ih1 _ _ _ _
   | exact ih2 _ _ _ _ _ _ _ _
   | exact ih3 _ _ _ _ _ _ _
   | exact ih4 _ _ _ _
   | exact ih5 _ _ _ _ _
   | exact ih6 _ _ _ _ _ _
   | exact ih7 _ _ _ _ _ _
   | exact arraslaw5_wakes.mono _
   | exact arrasref0_EqNumbers.mono _ _ _
   | exact arrasref5_Numbers.mono _ _
   | exact code_Num.mono _ _
   | exact code_Nums.mono _ _
   | exact code_TakeNum.mono _ _
   | exact code_TakeNums.mono _ _
   | exact code_TakeText.mono _ _
   | exact code_Text.mono _ _
   | exact LeO.none _
   | refine LeO.ite ?_ ?_
   | refine LeO.bind ?_ (fun _ => ?_)
  ·intro y0 y1 y2 y3 y4 y5
   unfold arraslaw5_CodeRows.j6
   repeat' first
   | (with_reducible exact ih0 _ _ _)
   | (with_reducible exact ih1 _ _ _ _)
   | (with_reducible exact ih2 _ _ _ _ _ _ _ _)
   | (with_reducible exact ih3 _ _ _ _ _ _ _)
   | (with_reducible exact ih4 _ _ _ _)
   | (with_reducible exact ih5 _ _ _ _ _)
   | (with_reducible exact ih6 _ _ _ _ _ _)
   | (with_reducible exact ih7 _ _ _ _ _ _)
   | (with_reducible exact arraslaw5_wakes.mono _)
   | (with_reducible exact arrasref0_EqNumbers.mono _ _ _)
   | (with_reducible exact arrasref5_Numbers.mono _ _)
   | (with_reducible exact code_Num.mono _ _)
   | (with_reducible exact code_Nums.mono _ _)
   | (with_reducible exact code_TakeNum.mono _ _)
   | (with_reducible exact code_TakeNums.mono _ _)
   | (with_reducible exact code_TakeText.mono _ _)
   | (with_reducible exact code_Text.mono _ _)
   | (with_reducible exact LeO.refl _)
   | (with_reducible exact LeO.none _)
   | (with_reducible refine LeO.ite ?_ ?_)
   | (with_reducible refine LeO.bind ?_ (fun _ => ?_))
   | exact ih0 _ _ _
   | exact ih1 _ _ _ _
   | exact ih2 _ _ _ _ _ _ _ _
   | exact ih3 _ _ _ _ _ _ _
   | exact ih4 _ _ _ _
   | exact ih5 _ _ _ _ _
   | exact ih6 _ _ _ _ _ _
   | exact ih7 _ _ _ _ _ _
   | exact arraslaw5_wakes.mono _
   | exact arrasref0_EqNumbers.mono _ _ _
   | exact arrasref5_Numbers.mono _ _
   | exact code_Num.mono _ _
   | exact code_Nums.mono _ _
   | exact code_TakeNum.mono _ _
   | exact code_TakeNums.mono _ _
   | exact code_TakeText.mono _ _
   | exact code_Text.mono _ _
   | exact LeO.none _
   | refine LeO.ite ?_ ?_
   | refine LeO.bind ?_ (fun _ => ?_)
  ·intro y0 y1 y2 y3 y4 y5
   unfold arraslaw5_CodeRows.j7
   repeat' first
   | (with_reducible exact ih0 _ _ _)
   | (with_reducible exact ih1 _ _ _ _)
   | (with_reducible exact ih2 _ _ _ _ _ _ _ _)
   | (with_reducible exact ih3 _ _ _ _ _ _ _)
   | (with_reducible exact ih4 _ _ _ _)
   | (with_reducible exact ih5 _ _ _ _ _)
   | (with_reducible exact ih6 _ _ _ _ _ _)
   | (with_reducible exact ih7 _ _ _ _ _ _)
   | (with_reducible exact arraslaw5_wakes.mono _)
   | (with_reducible exact arrasref0_EqNumbers.mono _ _ _)
   | (with_reducible exact arrasref5_Numbers.mono _ _)
   | (with_reducible exact code_Num.mono _ _)
   | (with_reducible exact code_Nums.mono _ _)
   | (with_reducible exact code_TakeNum.mono _ _)
   | (with_reducible exact code_TakeNums.mono _ _)
   | (with_reducible exact code_TakeText.mono _ _)
   | (with_reducible exact code_Text.mono _ _)
   | (with_reducible exact LeO.refl _)
   | (with_reducible exact LeO.none _)
   | (with_reducible refine LeO.ite ?_ ?_)
   | (with_reducible refine LeO.bind ?_ (fun _ => ?_))
   | exact ih0 _ _ _
   | exact ih1 _ _ _ _
   | exact ih2 _ _ _ _ _ _ _ _
   | exact ih3 _ _ _ _ _ _ _
   | exact ih4 _ _ _ _
   | exact ih5 _ _ _ _ _
   | exact ih6 _ _ _ _ _ _
   | exact ih7 _ _ _ _ _ _
   | exact arraslaw5_wakes.mono _
   | exact arrasref0_EqNumbers.mono _ _ _
   | exact arrasref5_Numbers.mono _ _
   | exact code_Num.mono _ _
   | exact code_Nums.mono _ _
   | exact code_TakeNum.mono _ _
   | exact code_TakeNums.mono _ _
   | exact code_TakeText.mono _ _
   | exact code_Text.mono _ _
   | exact LeO.none _
   | refine LeO.ite ?_ ?_
   | refine LeO.bind ?_ (fun _ => ?_)
theorem arraslaw5_CodeRows.mono : ∀ a0 k, LeO (arraslaw5_CodeRows.f k a0) (arraslaw5_CodeRows.f (k + 1) a0) := by
 intro a0 k
 obtain ⟨ih0, ih1, ih2, ih3, ih4, ih5, ih6, ih7⟩ := arraslaw5_CodeRows.mono_l k
 unfold arraslaw5_CodeRows.f
 repeat' first
   | (with_reducible exact ih0 _ _ _)
   | (with_reducible exact ih1 _ _ _ _)
   | (with_reducible exact ih2 _ _ _ _ _ _ _ _)
   | (with_reducible exact ih3 _ _ _ _ _ _ _)
   | (with_reducible exact ih4 _ _ _ _)
   | (with_reducible exact ih5 _ _ _ _ _)
   | (with_reducible exact ih6 _ _ _ _ _ _)
   | (with_reducible exact ih7 _ _ _ _ _ _)
   | (with_reducible exact arraslaw5_wakes.mono _)
   | (with_reducible exact arrasref0_EqNumbers.mono _ _ _)
   | (with_reducible exact arrasref5_Numbers.mono _ _)
   | (with_reducible exact code_Num.mono _ _)
   | (with_reducible exact code_Nums.mono _ _)
   | (with_reducible exact code_TakeNum.mono _ _)
   | (with_reducible exact code_TakeNums.mono _ _)
   | (with_reducible exact code_TakeText.mono _ _)
   | (with_reducible exact code_Text.mono _ _)
   | (with_reducible exact LeO.refl _)
   | (with_reducible exact LeO.none _)
   | (with_reducible refine LeO.ite ?_ ?_)
   | (with_reducible refine LeO.bind ?_ (fun _ => ?_))
   | exact ih0 _ _ _
   | exact ih1 _ _ _ _
   | exact ih2 _ _ _ _ _ _ _ _
   | exact ih3 _ _ _ _ _ _ _
   | exact ih4 _ _ _ _
   | exact ih5 _ _ _ _ _
   | exact ih6 _ _ _ _ _ _
   | exact ih7 _ _ _ _ _ _
   | exact arraslaw5_wakes.mono _
   | exact arrasref0_EqNumbers.mono _ _ _
   | exact arrasref5_Numbers.mono _ _
   | exact code_Num.mono _ _
   | exact code_Nums.mono _ _
   | exact code_TakeNum.mono _ _
   | exact code_TakeNums.mono _ _
   | exact code_TakeText.mono _ _
   | exact code_Text.mono _ _
   | exact LeO.none _
   | refine LeO.ite ?_ ?_
   | refine LeO.bind ?_ (fun _ => ?_)
noncomputable def arraslaw5_CodeRows.L0 (x0 : List (S43)) (x3 : List Int) (x4 : Int) : Option (Bool) := Go.Proofs.YtpmcojmhkpaoaaaLabel.lim (fun k => arraslaw5_CodeRows.l0 k x0 x3 x4)
noncomputable def arraslaw5_CodeRows.J1 (x0 : List (S43)) (x3 : List Int) (x4 : Int) (x26 : Bool) : Option (Bool) := Go.Proofs.YtpmcojmhkpaoaaaLabel.lim (fun k => arraslaw5_CodeRows.j1 k x0 x3 x4 x26)
noncomputable def arraslaw5_CodeRows.J2 (x0 : List (S43)) (x3 : List Int) (x4 : Int) (x46 : Bool) (x428000 : Int) (x428001 : ByteArray) (x428002 : List Int) (x428003 : List Int) : Option (Bool) := Go.Proofs.YtpmcojmhkpaoaaaLabel.lim (fun k => arraslaw5_CodeRows.j2 k x0 x3 x4 x46 x428000 x428001 x428002 x428003)
noncomputable def arraslaw5_CodeRows.J3 (x0 : List (S43)) (x3 : List Int) (x4 : Int) (x6 : List Int) (x8 : List Int) (x10 : List Int) (x82 : Bool) : Option (Bool) := Go.Proofs.YtpmcojmhkpaoaaaLabel.lim (fun k => arraslaw5_CodeRows.j3 k x0 x3 x4 x6 x8 x10 x82)
noncomputable def arraslaw5_CodeRows.L1 (x0 : List (S43)) (x3 : List Int) (x12 : Int) (x13 : Int) : Option (Bool) := Go.Proofs.YtpmcojmhkpaoaaaLabel.lim (fun k => arraslaw5_CodeRows.l1 k x0 x3 x12 x13)
noncomputable def arraslaw5_CodeRows.J5 (x0 : List (S43)) (x3 : List Int) (x12 : Int) (x13 : Int) (x97 : Bool) : Option (Bool) := Go.Proofs.YtpmcojmhkpaoaaaLabel.lim (fun k => arraslaw5_CodeRows.j5 k x0 x3 x12 x13 x97)
noncomputable def arraslaw5_CodeRows.J6 (x0 : List (S43)) (x3 : List Int) (x12 : Int) (x13 : Int) (x15 : Int) (x120 : Bool) : Option (Bool) := Go.Proofs.YtpmcojmhkpaoaaaLabel.lim (fun k => arraslaw5_CodeRows.j6 k x0 x3 x12 x13 x15 x120)
noncomputable def arraslaw5_CodeRows.J7 (x0 : List (S43)) (x3 : List Int) (x12 : Int) (x13 : Int) (x15 : Int) (x143 : Bool) : Option (Bool) := Go.Proofs.YtpmcojmhkpaoaaaLabel.lim (fun k => arraslaw5_CodeRows.j7 k x0 x3 x12 x13 x15 x143)
theorem arraslaw5_CodeRows.L0_lim (x0 : List (S43)) (x3 : List Int) (x4 : Int) : Go.Proofs.YtpmcojmhkpaoaaaLabel.Lim (fun k => arraslaw5_CodeRows.l0 k x0 x3 x4) (arraslaw5_CodeRows.L0 x0 x3 x4) := Go.Proofs.YtpmcojmhkpaoaaaLabel.lim_spec (fun k => (arraslaw5_CodeRows.mono_l k).1 x0 x3 x4)
theorem arraslaw5_CodeRows.J1_lim (x0 : List (S43)) (x3 : List Int) (x4 : Int) (x26 : Bool) : Go.Proofs.YtpmcojmhkpaoaaaLabel.Lim (fun k => arraslaw5_CodeRows.j1 k x0 x3 x4 x26) (arraslaw5_CodeRows.J1 x0 x3 x4 x26) := Go.Proofs.YtpmcojmhkpaoaaaLabel.lim_spec (fun k => (arraslaw5_CodeRows.mono_l k).2.1 x0 x3 x4 x26)
theorem arraslaw5_CodeRows.J2_lim (x0 : List (S43)) (x3 : List Int) (x4 : Int) (x46 : Bool) (x428000 : Int) (x428001 : ByteArray) (x428002 : List Int) (x428003 : List Int) : Go.Proofs.YtpmcojmhkpaoaaaLabel.Lim (fun k => arraslaw5_CodeRows.j2 k x0 x3 x4 x46 x428000 x428001 x428002 x428003) (arraslaw5_CodeRows.J2 x0 x3 x4 x46 x428000 x428001 x428002 x428003) := Go.Proofs.YtpmcojmhkpaoaaaLabel.lim_spec (fun k => (arraslaw5_CodeRows.mono_l k).2.2.1 x0 x3 x4 x46 x428000 x428001 x428002 x428003)
theorem arraslaw5_CodeRows.J3_lim (x0 : List (S43)) (x3 : List Int) (x4 : Int) (x6 : List Int) (x8 : List Int) (x10 : List Int) (x82 : Bool) : Go.Proofs.YtpmcojmhkpaoaaaLabel.Lim (fun k => arraslaw5_CodeRows.j3 k x0 x3 x4 x6 x8 x10 x82) (arraslaw5_CodeRows.J3 x0 x3 x4 x6 x8 x10 x82) := Go.Proofs.YtpmcojmhkpaoaaaLabel.lim_spec (fun k => (arraslaw5_CodeRows.mono_l k).2.2.2.1 x0 x3 x4 x6 x8 x10 x82)
theorem arraslaw5_CodeRows.L1_lim (x0 : List (S43)) (x3 : List Int) (x12 : Int) (x13 : Int) : Go.Proofs.YtpmcojmhkpaoaaaLabel.Lim (fun k => arraslaw5_CodeRows.l1 k x0 x3 x12 x13) (arraslaw5_CodeRows.L1 x0 x3 x12 x13) := Go.Proofs.YtpmcojmhkpaoaaaLabel.lim_spec (fun k => (arraslaw5_CodeRows.mono_l k).2.2.2.2.1 x0 x3 x12 x13)
theorem arraslaw5_CodeRows.J5_lim (x0 : List (S43)) (x3 : List Int) (x12 : Int) (x13 : Int) (x97 : Bool) : Go.Proofs.YtpmcojmhkpaoaaaLabel.Lim (fun k => arraslaw5_CodeRows.j5 k x0 x3 x12 x13 x97) (arraslaw5_CodeRows.J5 x0 x3 x12 x13 x97) := Go.Proofs.YtpmcojmhkpaoaaaLabel.lim_spec (fun k => (arraslaw5_CodeRows.mono_l k).2.2.2.2.2.1 x0 x3 x12 x13 x97)
theorem arraslaw5_CodeRows.J6_lim (x0 : List (S43)) (x3 : List Int) (x12 : Int) (x13 : Int) (x15 : Int) (x120 : Bool) : Go.Proofs.YtpmcojmhkpaoaaaLabel.Lim (fun k => arraslaw5_CodeRows.j6 k x0 x3 x12 x13 x15 x120) (arraslaw5_CodeRows.J6 x0 x3 x12 x13 x15 x120) := Go.Proofs.YtpmcojmhkpaoaaaLabel.lim_spec (fun k => (arraslaw5_CodeRows.mono_l k).2.2.2.2.2.2.1 x0 x3 x12 x13 x15 x120)
theorem arraslaw5_CodeRows.J7_lim (x0 : List (S43)) (x3 : List Int) (x12 : Int) (x13 : Int) (x15 : Int) (x143 : Bool) : Go.Proofs.YtpmcojmhkpaoaaaLabel.Lim (fun k => arraslaw5_CodeRows.j7 k x0 x3 x12 x13 x15 x143) (arraslaw5_CodeRows.J7 x0 x3 x12 x13 x15 x143) := Go.Proofs.YtpmcojmhkpaoaaaLabel.lim_spec (fun k => (arraslaw5_CodeRows.mono_l k).2.2.2.2.2.2.2 x0 x3 x12 x13 x15 x143)
theorem arraslaw5_CodeRows.L0_eq (x0 : List (S43)) (x3 : List Int) (x4 : Int) : arraslaw5_CodeRows.L0 x0 x3 x4 = (if x4 < (x0.length : Int) then (arraslaw5_CodeRows.J1 x0 x3 x4 (decide (x4 < 20))) else (arraslaw5_CodeRows.J1 x0 x3 x4 false)) := by
  refine Go.Proofs.YtpmcojmhkpaoaaaLabel.Lim.unique (arraslaw5_CodeRows.L0_lim x0 x3 x4).shift ?_
  simp only [arraslaw5_CodeRows.l0]
  (repeat' (first | exact Go.Proofs.YtpmcojmhkpaoaaaLabel.Lim.const _ | exact arraslaw5_CodeRows.L0_lim _ _ _ | exact arraslaw5_CodeRows.J1_lim _ _ _ _ | exact arraslaw5_CodeRows.J2_lim _ _ _ _ _ _ _ _ | exact arraslaw5_CodeRows.J3_lim _ _ _ _ _ _ _ | exact arraslaw5_CodeRows.L1_lim _ _ _ _ | exact arraslaw5_CodeRows.J5_lim _ _ _ _ _ | exact arraslaw5_CodeRows.J6_lim _ _ _ _ _ _ | exact arraslaw5_CodeRows.J7_lim _ _ _ _ _ _ | exact arraslaw5_wakes.F_lim | exact arrasref0_EqNumbers.F_lim _ _ | exact arrasref5_Numbers.F_lim _ | exact code_Num.F_lim _ | exact code_Nums.F_lim _ | exact code_TakeNum.F_lim _ | exact code_TakeNums.F_lim _ | exact code_TakeText.F_lim _ | exact code_Text.F_lim _ | refine Go.Proofs.YtpmcojmhkpaoaaaLabel.Lim.ite ?_ ?_ | refine Go.Proofs.YtpmcojmhkpaoaaaLabel.Lim.bind ?_ (fun _ => ?_)))
theorem arraslaw5_CodeRows.J1_eq (x0 : List (S43)) (x3 : List Int) (x4 : Int) (x26 : Bool) : arraslaw5_CodeRows.J1 x0 x3 x4 x26 = (if x26 = true then (if 0 ≤ x4 then (if x4 < (x0.length : Int) then ((arraslaw5_heavy.f ((rd_T43 x0 x4).f0) ((rd_T43 x0 x4).f1) ((rd_T43 x0 x4).f2) ((rd_T43 x0 x4).f3)).bind fun t428 => (if t428 = true then (arraslaw5_CodeRows.J2 x0 x3 x4 true ((rd_T43 x0 x4).f0) ((rd_T43 x0 x4).f1) ((rd_T43 x0 x4).f2) ((rd_T43 x0 x4).f3)) else (if (((rd_T43 x0 x4).f1).size : Int) > 300 then (arraslaw5_CodeRows.J2 x0 x3 x4 true ((rd_T43 x0 x4).f0) ((rd_T43 x0 x4).f1) ((rd_T43 x0 x4).f2) ((rd_T43 x0 x4).f3)) else (arraslaw5_CodeRows.J2 x0 x3 x4 (decide ((((rd_T43 x0 x4).f2).length : Int) > 50)) ((rd_T43 x0 x4).f0) ((rd_T43 x0 x4).f1) ((rd_T43 x0 x4).f2) ((rd_T43 x0 x4).f3))))) else (none)) else (none)) else (arraslaw5_CodeRows.L1 x0 x3 0 0)) := by
  refine Go.Proofs.YtpmcojmhkpaoaaaLabel.Lim.unique (arraslaw5_CodeRows.J1_lim x0 x3 x4 x26).shift ?_
  simp only [arraslaw5_CodeRows.j1]
  (repeat' (first | exact Go.Proofs.YtpmcojmhkpaoaaaLabel.Lim.const _ | exact arraslaw5_CodeRows.L0_lim _ _ _ | exact arraslaw5_CodeRows.J1_lim _ _ _ _ | exact arraslaw5_CodeRows.J2_lim _ _ _ _ _ _ _ _ | exact arraslaw5_CodeRows.J3_lim _ _ _ _ _ _ _ | exact arraslaw5_CodeRows.L1_lim _ _ _ _ | exact arraslaw5_CodeRows.J5_lim _ _ _ _ _ | exact arraslaw5_CodeRows.J6_lim _ _ _ _ _ _ | exact arraslaw5_CodeRows.J7_lim _ _ _ _ _ _ | exact arraslaw5_wakes.F_lim | exact arrasref0_EqNumbers.F_lim _ _ | exact arrasref5_Numbers.F_lim _ | exact code_Num.F_lim _ | exact code_Nums.F_lim _ | exact code_TakeNum.F_lim _ | exact code_TakeNums.F_lim _ | exact code_TakeText.F_lim _ | exact code_Text.F_lim _ | refine Go.Proofs.YtpmcojmhkpaoaaaLabel.Lim.ite ?_ ?_ | refine Go.Proofs.YtpmcojmhkpaoaaaLabel.Lim.bind ?_ (fun _ => ?_)))
theorem arraslaw5_CodeRows.J2_eq (x0 : List (S43)) (x3 : List Int) (x4 : Int) (x46 : Bool) (x428000 : Int) (x428001 : ByteArray) (x428002 : List Int) (x428003 : List Int) : arraslaw5_CodeRows.J2 x0 x3 x4 x46 x428000 x428001 x428002 x428003 = (if x46 = true then (some true) else ((arraslaw0_Within.f x428000 4611686018427387904).bind fun t429 => ((code_Num.F t429).bind fun bt430 => ((code_Text.F x428001).bind fun bt434 => ((code_Nums.F x428002).bind fun bt438 => ((arraslaw5_num.f bt430.2).bind fun t442 => (if t442 = 0 then ((arraslaw5_num.f bt434.2).bind fun t443 => (if t443 = 0 then ((arraslaw5_num.f bt438.2).bind fun t444 => ((arrasref5_Numbers.F x428002).bind fun t445 => (arraslaw5_CodeRows.J3 x0 x3 x4 bt430.1 bt434.1 bt438.1 ((t444 == 0) != t445)))) else (arraslaw5_CodeRows.J3 x0 x3 x4 bt430.1 bt434.1 bt438.1 true))) else (arraslaw5_CodeRows.J3 x0 x3 x4 bt430.1 bt434.1 bt438.1 true)))))))) := by
  refine Go.Proofs.YtpmcojmhkpaoaaaLabel.Lim.unique (arraslaw5_CodeRows.J2_lim x0 x3 x4 x46 x428000 x428001 x428002 x428003).shift ?_
  simp only [arraslaw5_CodeRows.j2]
  (repeat' (first | exact Go.Proofs.YtpmcojmhkpaoaaaLabel.Lim.const _ | exact arraslaw5_CodeRows.L0_lim _ _ _ | exact arraslaw5_CodeRows.J1_lim _ _ _ _ | exact arraslaw5_CodeRows.J2_lim _ _ _ _ _ _ _ _ | exact arraslaw5_CodeRows.J3_lim _ _ _ _ _ _ _ | exact arraslaw5_CodeRows.L1_lim _ _ _ _ | exact arraslaw5_CodeRows.J5_lim _ _ _ _ _ | exact arraslaw5_CodeRows.J6_lim _ _ _ _ _ _ | exact arraslaw5_CodeRows.J7_lim _ _ _ _ _ _ | exact arraslaw5_wakes.F_lim | exact arrasref0_EqNumbers.F_lim _ _ | exact arrasref5_Numbers.F_lim _ | exact code_Num.F_lim _ | exact code_Nums.F_lim _ | exact code_TakeNum.F_lim _ | exact code_TakeNums.F_lim _ | exact code_TakeText.F_lim _ | exact code_Text.F_lim _ | refine Go.Proofs.YtpmcojmhkpaoaaaLabel.Lim.ite ?_ ?_ | refine Go.Proofs.YtpmcojmhkpaoaaaLabel.Lim.bind ?_ (fun _ => ?_)))
theorem arraslaw5_CodeRows.J3_eq (x0 : List (S43)) (x3 : List Int) (x4 : Int) (x6 : List Int) (x8 : List Int) (x10 : List Int) (x82 : Bool) : arraslaw5_CodeRows.J3 x0 x3 x4 x6 x8 x10 x82 = (if x82 = true then (some false) else (if x3.length + x6.length < 140737488355328 then ((some (x3 ++ x6 : List Int)).bind fun y446 => (if y446.length + x8.length < 140737488355328 then ((some (y446 ++ x8 : List Int)).bind fun y449 => (if y449.length + x10.length < 140737488355328 then (arraslaw5_CodeRows.L0 x0 (y449 ++ x10) (wrap64 (x4 + 1))) else (none))) else (none))) else (none))) := by
  refine Go.Proofs.YtpmcojmhkpaoaaaLabel.Lim.unique (arraslaw5_CodeRows.J3_lim x0 x3 x4 x6 x8 x10 x82).shift ?_
  simp only [arraslaw5_CodeRows.j3]
  (repeat' (first | exact Go.Proofs.YtpmcojmhkpaoaaaLabel.Lim.const _ | exact arraslaw5_CodeRows.L0_lim _ _ _ | exact arraslaw5_CodeRows.J1_lim _ _ _ _ | exact arraslaw5_CodeRows.J2_lim _ _ _ _ _ _ _ _ | exact arraslaw5_CodeRows.J3_lim _ _ _ _ _ _ _ | exact arraslaw5_CodeRows.L1_lim _ _ _ _ | exact arraslaw5_CodeRows.J5_lim _ _ _ _ _ | exact arraslaw5_CodeRows.J6_lim _ _ _ _ _ _ | exact arraslaw5_CodeRows.J7_lim _ _ _ _ _ _ | exact arraslaw5_wakes.F_lim | exact arrasref0_EqNumbers.F_lim _ _ | exact arrasref5_Numbers.F_lim _ | exact code_Num.F_lim _ | exact code_Nums.F_lim _ | exact code_TakeNum.F_lim _ | exact code_TakeNums.F_lim _ | exact code_TakeText.F_lim _ | exact code_Text.F_lim _ | refine Go.Proofs.YtpmcojmhkpaoaaaLabel.Lim.ite ?_ ?_ | refine Go.Proofs.YtpmcojmhkpaoaaaLabel.Lim.bind ?_ (fun _ => ?_)))
theorem arraslaw5_CodeRows.L1_eq (x0 : List (S43)) (x3 : List Int) (x12 : Int) (x13 : Int) : arraslaw5_CodeRows.L1 x0 x3 x12 x13 = (if x13 < (x0.length : Int) then (arraslaw5_CodeRows.J5 x0 x3 x12 x13 (decide (x13 < 20))) else (arraslaw5_CodeRows.J5 x0 x3 x12 x13 false)) := by
  refine Go.Proofs.YtpmcojmhkpaoaaaLabel.Lim.unique (arraslaw5_CodeRows.L1_lim x0 x3 x12 x13).shift ?_
  simp only [arraslaw5_CodeRows.l1]
  (repeat' (first | exact Go.Proofs.YtpmcojmhkpaoaaaLabel.Lim.const _ | exact arraslaw5_CodeRows.L0_lim _ _ _ | exact arraslaw5_CodeRows.J1_lim _ _ _ _ | exact arraslaw5_CodeRows.J2_lim _ _ _ _ _ _ _ _ | exact arraslaw5_CodeRows.J3_lim _ _ _ _ _ _ _ | exact arraslaw5_CodeRows.L1_lim _ _ _ _ | exact arraslaw5_CodeRows.J5_lim _ _ _ _ _ | exact arraslaw5_CodeRows.J6_lim _ _ _ _ _ _ | exact arraslaw5_CodeRows.J7_lim _ _ _ _ _ _ | exact arraslaw5_wakes.F_lim | exact arrasref0_EqNumbers.F_lim _ _ | exact arrasref5_Numbers.F_lim _ | exact code_Num.F_lim _ | exact code_Nums.F_lim _ | exact code_TakeNum.F_lim _ | exact code_TakeNums.F_lim _ | exact code_TakeText.F_lim _ | exact code_Text.F_lim _ | refine Go.Proofs.YtpmcojmhkpaoaaaLabel.Lim.ite ?_ ?_ | refine Go.Proofs.YtpmcojmhkpaoaaaLabel.Lim.bind ?_ (fun _ => ?_)))
theorem arraslaw5_CodeRows.J5_eq (x0 : List (S43)) (x3 : List Int) (x12 : Int) (x13 : Int) (x97 : Bool) : arraslaw5_CodeRows.J5 x0 x3 x12 x13 x97 = (if x97 = true then (if 0 ≤ x12 then (if x12 ≤ (x3.length : Int) then ((code_TakeNum.F (x3.drop (x12 : Int).toNat)).bind fun bt460 => ((arraslaw5_num.f bt460.2.2).bind fun t463 => (if t463 = 0 then (if 0 ≤ x13 then (if x13 < (x0.length : Int) then ((arraslaw0_Within.f ((rd_T43 x0 x13).f0) 4611686018427387904).bind fun t465 => (arraslaw5_CodeRows.J6 x0 x3 x12 x13 bt460.2.1 (bt460.1 != t465))) else (none)) else (none)) else (arraslaw5_CodeRows.J6 x0 x3 x12 x13 bt460.2.1 true)))) else (none)) else (none)) else (if x12 = (x3.length : Int) then ((arraslaw5_wakes.F).bind fun t455 => (some t455)) else (some false))) := by
  refine Go.Proofs.YtpmcojmhkpaoaaaLabel.Lim.unique (arraslaw5_CodeRows.J5_lim x0 x3 x12 x13 x97).shift ?_
  simp only [arraslaw5_CodeRows.j5]
  (repeat' (first | exact Go.Proofs.YtpmcojmhkpaoaaaLabel.Lim.const _ | exact arraslaw5_CodeRows.L0_lim _ _ _ | exact arraslaw5_CodeRows.J1_lim _ _ _ _ | exact arraslaw5_CodeRows.J2_lim _ _ _ _ _ _ _ _ | exact arraslaw5_CodeRows.J3_lim _ _ _ _ _ _ _ | exact arraslaw5_CodeRows.L1_lim _ _ _ _ | exact arraslaw5_CodeRows.J5_lim _ _ _ _ _ | exact arraslaw5_CodeRows.J6_lim _ _ _ _ _ _ | exact arraslaw5_CodeRows.J7_lim _ _ _ _ _ _ | exact arraslaw5_wakes.F_lim | exact arrasref0_EqNumbers.F_lim _ _ | exact arrasref5_Numbers.F_lim _ | exact code_Num.F_lim _ | exact code_Nums.F_lim _ | exact code_TakeNum.F_lim _ | exact code_TakeNums.F_lim _ | exact code_TakeText.F_lim _ | exact code_Text.F_lim _ | refine Go.Proofs.YtpmcojmhkpaoaaaLabel.Lim.ite ?_ ?_ | refine Go.Proofs.YtpmcojmhkpaoaaaLabel.Lim.bind ?_ (fun _ => ?_)))
theorem arraslaw5_CodeRows.J6_eq (x0 : List (S43)) (x3 : List Int) (x12 : Int) (x13 : Int) (x15 : Int) (x120 : Bool) : arraslaw5_CodeRows.J6 x0 x3 x12 x13 x15 x120 = (if x120 = true then (some false) else (if 0 ≤ (wrap64 (x12 + x15)) then (if (wrap64 (x12 + x15)) ≤ (x3.length : Int) then ((code_TakeText.F (x3.drop ((wrap64 (x12 + x15)) : Int).toNat)).bind fun bt470 => ((arraslaw5_num.f bt470.2.2).bind fun t473 => (if t473 = 0 then (if 0 ≤ x13 then (if x13 < (x0.length : Int) then (arraslaw5_CodeRows.J7 x0 x3 (wrap64 (x12 + x15)) x13 bt470.2.1 (bt470.1.toList != ((rd_T43 x0 x13).f1).toList)) else (none)) else (none)) else (arraslaw5_CodeRows.J7 x0 x3 (wrap64 (x12 + x15)) x13 bt470.2.1 true)))) else (none)) else (none))) := by
  refine Go.Proofs.YtpmcojmhkpaoaaaLabel.Lim.unique (arraslaw5_CodeRows.J6_lim x0 x3 x12 x13 x15 x120).shift ?_
  simp only [arraslaw5_CodeRows.j6]
  (repeat' (first | exact Go.Proofs.YtpmcojmhkpaoaaaLabel.Lim.const _ | exact arraslaw5_CodeRows.L0_lim _ _ _ | exact arraslaw5_CodeRows.J1_lim _ _ _ _ | exact arraslaw5_CodeRows.J2_lim _ _ _ _ _ _ _ _ | exact arraslaw5_CodeRows.J3_lim _ _ _ _ _ _ _ | exact arraslaw5_CodeRows.L1_lim _ _ _ _ | exact arraslaw5_CodeRows.J5_lim _ _ _ _ _ | exact arraslaw5_CodeRows.J6_lim _ _ _ _ _ _ | exact arraslaw5_CodeRows.J7_lim _ _ _ _ _ _ | exact arraslaw5_wakes.F_lim | exact arrasref0_EqNumbers.F_lim _ _ | exact arrasref5_Numbers.F_lim _ | exact code_Num.F_lim _ | exact code_Nums.F_lim _ | exact code_TakeNum.F_lim _ | exact code_TakeNums.F_lim _ | exact code_TakeText.F_lim _ | exact code_Text.F_lim _ | refine Go.Proofs.YtpmcojmhkpaoaaaLabel.Lim.ite ?_ ?_ | refine Go.Proofs.YtpmcojmhkpaoaaaLabel.Lim.bind ?_ (fun _ => ?_)))
theorem arraslaw5_CodeRows.J7_eq (x0 : List (S43)) (x3 : List Int) (x12 : Int) (x13 : Int) (x15 : Int) (x143 : Bool) : arraslaw5_CodeRows.J7 x0 x3 x12 x13 x15 x143 = (if x143 = true then (some false) else (if 0 ≤ x13 then (if x13 < (x0.length : Int) then ((arrasref5_Numbers.F ((rd_T43 x0 x13).f2)).bind fun t476 => (if t476 = true then (if 0 ≤ (wrap64 (x12 + x15)) then (if (wrap64 (x12 + x15)) ≤ (x3.length : Int) then ((code_TakeNums.F (x3.drop ((wrap64 (x12 + x15)) : Int).toNat)).bind fun bt481 => ((arraslaw5_num.f bt481.2.2).bind fun t486 => (if t486 = 0 then ((arrasref0_EqNumbers.F bt481.1 ((rd_T43 x0 x13).f2)).bind fun t488 => (if t488 = true then (arraslaw5_CodeRows.L1 x0 x3 (wrap64 ((wrap64 (x12 + x15)) + bt481.2.1)) (wrap64 (x13 + 1))) else (some false))) else (some false)))) else (none)) else (none)) else (arraslaw5_CodeRows.L1 x0 x3 (wrap64 (x12 + x15)) (wrap64 (x13 + 1))))) else (none)) else (none))) := by
  refine Go.Proofs.YtpmcojmhkpaoaaaLabel.Lim.unique (arraslaw5_CodeRows.J7_lim x0 x3 x12 x13 x15 x143).shift ?_
  simp only [arraslaw5_CodeRows.j7]
  (repeat' (first | exact Go.Proofs.YtpmcojmhkpaoaaaLabel.Lim.const _ | exact arraslaw5_CodeRows.L0_lim _ _ _ | exact arraslaw5_CodeRows.J1_lim _ _ _ _ | exact arraslaw5_CodeRows.J2_lim _ _ _ _ _ _ _ _ | exact arraslaw5_CodeRows.J3_lim _ _ _ _ _ _ _ | exact arraslaw5_CodeRows.L1_lim _ _ _ _ | exact arraslaw5_CodeRows.J5_lim _ _ _ _ _ | exact arraslaw5_CodeRows.J6_lim _ _ _ _ _ _ | exact arraslaw5_CodeRows.J7_lim _ _ _ _ _ _ | exact arraslaw5_wakes.F_lim | exact arrasref0_EqNumbers.F_lim _ _ | exact arrasref5_Numbers.F_lim _ | exact code_Num.F_lim _ | exact code_Nums.F_lim _ | exact code_TakeNum.F_lim _ | exact code_TakeNums.F_lim _ | exact code_TakeText.F_lim _ | exact code_Text.F_lim _ | refine Go.Proofs.YtpmcojmhkpaoaaaLabel.Lim.ite ?_ ?_ | refine Go.Proofs.YtpmcojmhkpaoaaaLabel.Lim.bind ?_ (fun _ => ?_)))
noncomputable def arraslaw5_CodeRows.F (l0 : List (S43)) : Option (Bool) := Go.Proofs.YtpmcojmhkpaoaaaLabel.lim (fun k => arraslaw5_CodeRows.f k l0)
theorem arraslaw5_CodeRows.F_lim (l0 : List (S43)) : Go.Proofs.YtpmcojmhkpaoaaaLabel.Lim (fun k => arraslaw5_CodeRows.f k l0) (arraslaw5_CodeRows.F l0) := Go.Proofs.YtpmcojmhkpaoaaaLabel.lim_spec (arraslaw5_CodeRows.mono l0)
theorem arraslaw5_CodeRows.F_eq (l0 : List (S43)) : arraslaw5_CodeRows.F l0 = (arraslaw5_CodeRows.L0 l0 ([] : List Int) 0) := by
  refine Go.Proofs.YtpmcojmhkpaoaaaLabel.Lim.unique (arraslaw5_CodeRows.F_lim l0) ?_
  simp only [arraslaw5_CodeRows.f]
  (repeat' (first | exact Go.Proofs.YtpmcojmhkpaoaaaLabel.Lim.const _ | exact arraslaw5_CodeRows.L0_lim _ _ _ | exact arraslaw5_CodeRows.J1_lim _ _ _ _ | exact arraslaw5_CodeRows.J2_lim _ _ _ _ _ _ _ _ | exact arraslaw5_CodeRows.J3_lim _ _ _ _ _ _ _ | exact arraslaw5_CodeRows.L1_lim _ _ _ _ | exact arraslaw5_CodeRows.J5_lim _ _ _ _ _ | exact arraslaw5_CodeRows.J6_lim _ _ _ _ _ _ | exact arraslaw5_CodeRows.J7_lim _ _ _ _ _ _ | exact arraslaw5_wakes.F_lim | exact arrasref0_EqNumbers.F_lim _ _ | exact arrasref5_Numbers.F_lim _ | exact code_Num.F_lim _ | exact code_Nums.F_lim _ | exact code_TakeNum.F_lim _ | exact code_TakeNums.F_lim _ | exact code_TakeText.F_lim _ | exact code_Text.F_lim _ | refine Go.Proofs.YtpmcojmhkpaoaaaLabel.Lim.ite ?_ ?_ | refine Go.Proofs.YtpmcojmhkpaoaaaLabel.Lim.bind ?_ (fun _ => ?_)))

/-! #### stamp_Next: function 42 -/
def stamp_Next.j0 : Nat → Int → Bool → Int → Int → Option (Int × Int × Int)
 | 0, _, _, _, _ => none
 | k + 1, x0, x24, x491000, x491001 => if x24 = true then (some (0, 0, 1)) else (if x0 = 1099511627776 then (some (0, 0, 5)) else (some (x491000, x491001, 0)))
def stamp_Next.f (k : Nat) (a0 : Int) (a1 : Int) : Option (Int × Int × Int) := if a0 < 0 then (stamp_Next.j0 k a0 true (wrap64 (a0 + 1)) a1) else (if a0 > 1099511627776 then (stamp_Next.j0 k a0 true (wrap64 (a0 + 1)) a1) else (if a1 < 0 then (stamp_Next.j0 k a0 true (wrap64 (a0 + 1)) a1) else (stamp_Next.j0 k a0 (decide (a1 ≥ 16)) (wrap64 (a0 + 1)) a1)))
theorem stamp_Next.mono_l : ∀ k, (∀ y0 y1 y2 y3, LeO (stamp_Next.j0 k y0 y1 y2 y3) (stamp_Next.j0 (k + 1) y0 y1 y2 y3))
 | 0 => fun _ _ _ _ r h => by simp [stamp_Next.j0] at h
 | k + 1 => by
  have ih0 := stamp_Next.mono_l k
  ·intro y0 y1 y2 y3
   unfold stamp_Next.j0
   repeat' first
   | (with_reducible exact ih0 _ _ _ _)
   | (with_reducible exact LeO.refl _)
   | (with_reducible exact LeO.none _)
   | (with_reducible refine LeO.ite ?_ ?_)
   | (with_reducible refine LeO.bind ?_ (fun _ => ?_))
   | exact ih0 _ _ _ _
   | exact LeO.none _
   | refine LeO.ite ?_ ?_
   | refine LeO.bind ?_ (fun _ => ?_)
theorem stamp_Next.mono : ∀ a0 a1 k, LeO (stamp_Next.f k a0 a1) (stamp_Next.f (k + 1) a0 a1) := by
 intro a0 a1 k
 have ih0 := stamp_Next.mono_l k
 unfold stamp_Next.f
 repeat' first
   | (with_reducible exact ih0 _ _ _ _)
   | (with_reducible exact LeO.refl _)
   | (with_reducible exact LeO.none _)
   | (with_reducible refine LeO.ite ?_ ?_)
   | (with_reducible refine LeO.bind ?_ (fun _ => ?_))
   | exact ih0 _ _ _ _
   | exact LeO.none _
   | refine LeO.ite ?_ ?_
   | refine LeO.bind ?_ (fun _ => ?_)
noncomputable def stamp_Next.J0 (x0 : Int) (x24 : Bool) (x491000 : Int) (x491001 : Int) : Option (Int × Int × Int) := Go.Proofs.YtpmcojmhkpaoaaaLabel.lim (fun k => stamp_Next.j0 k x0 x24 x491000 x491001)
theorem stamp_Next.J0_lim (x0 : Int) (x24 : Bool) (x491000 : Int) (x491001 : Int) : Go.Proofs.YtpmcojmhkpaoaaaLabel.Lim (fun k => stamp_Next.j0 k x0 x24 x491000 x491001) (stamp_Next.J0 x0 x24 x491000 x491001) := Go.Proofs.YtpmcojmhkpaoaaaLabel.lim_spec (fun k => (stamp_Next.mono_l k) x0 x24 x491000 x491001)
theorem stamp_Next.J0_eq (x0 : Int) (x24 : Bool) (x491000 : Int) (x491001 : Int) : stamp_Next.J0 x0 x24 x491000 x491001 = (if x24 = true then (some (0, 0, 1)) else (if x0 = 1099511627776 then (some (0, 0, 5)) else (some (x491000, x491001, 0)))) := by
  refine Go.Proofs.YtpmcojmhkpaoaaaLabel.Lim.unique (stamp_Next.J0_lim x0 x24 x491000 x491001).shift ?_
  simp only [stamp_Next.j0]
  (repeat' (first | exact Go.Proofs.YtpmcojmhkpaoaaaLabel.Lim.const _ | exact stamp_Next.J0_lim _ _ _ _ | refine Go.Proofs.YtpmcojmhkpaoaaaLabel.Lim.ite ?_ ?_ | refine Go.Proofs.YtpmcojmhkpaoaaaLabel.Lim.bind ?_ (fun _ => ?_)))
noncomputable def stamp_Next.F (a0 : Int) (a1 : Int) : Option (Int × Int × Int) := Go.Proofs.YtpmcojmhkpaoaaaLabel.lim (fun k => stamp_Next.f k a0 a1)
theorem stamp_Next.F_lim (a0 : Int) (a1 : Int) : Go.Proofs.YtpmcojmhkpaoaaaLabel.Lim (fun k => stamp_Next.f k a0 a1) (stamp_Next.F a0 a1) := Go.Proofs.YtpmcojmhkpaoaaaLabel.lim_spec (stamp_Next.mono a0 a1)
theorem stamp_Next.F_eq (a0 : Int) (a1 : Int) : stamp_Next.F a0 a1 = (if a0 < 0 then (stamp_Next.J0 a0 true (wrap64 (a0 + 1)) a1) else (if a0 > 1099511627776 then (stamp_Next.J0 a0 true (wrap64 (a0 + 1)) a1) else (if a1 < 0 then (stamp_Next.J0 a0 true (wrap64 (a0 + 1)) a1) else (stamp_Next.J0 a0 (decide (a1 ≥ 16)) (wrap64 (a0 + 1)) a1)))) := by
  refine Go.Proofs.YtpmcojmhkpaoaaaLabel.Lim.unique (stamp_Next.F_lim a0 a1) ?_
  simp only [stamp_Next.f]
  (repeat' (first | exact Go.Proofs.YtpmcojmhkpaoaaaLabel.Lim.const _ | exact stamp_Next.J0_lim _ _ _ _ | refine Go.Proofs.YtpmcojmhkpaoaaaLabel.Lim.ite ?_ ?_ | refine Go.Proofs.YtpmcojmhkpaoaaaLabel.Lim.bind ?_ (fun _ => ?_)))

/-! #### arrasref0_Num: function 43 -/
def arrasref0_Num.f (a0 : Int) (a1 : Int) : Option (Bool) := if a0 ≥ 0 then (some (decide (a0 ≤ a1))) else (some false)

/-! #### arraslaw6_num: function 44 -/
def arraslaw6_num.f (a0 : Int) : Option (Int) := some a0

/-! #### cmp_Or_int: function 74 -/
def cmp_Or_int.l0 : Nat → Int → List Int → Int → Int → Option (Int)
 | 0, _, _, _, _ => none
 | k + 1, x3, x6, x7, x8 => if x8 < x7 then (if 0 ≤ x8 then (if x8 < (x6.length : Int) then (if (rd x6 x8) = x3 then (cmp_Or_int.l0 k x3 x6 x7 (wrap64 (x8 + 1))) else (some (rd x6 x8))) else (none)) else (none)) else (some x3)
def cmp_Or_int.f (k : Nat) (l0 : List Int) : Option (Int) := cmp_Or_int.l0 k 0 l0 (l0.length : Int) 0
theorem cmp_Or_int.mono_l : ∀ k, (∀ y0 y1 y2 y3, LeO (cmp_Or_int.l0 k y0 y1 y2 y3) (cmp_Or_int.l0 (k + 1) y0 y1 y2 y3))
 | 0 => fun _ _ _ _ r h => by simp [cmp_Or_int.l0] at h
 | k + 1 => by
  have ih0 := cmp_Or_int.mono_l k
  ·intro y0 y1 y2 y3
   unfold cmp_Or_int.l0
   repeat' first
   | (with_reducible exact ih0 _ _ _ _)
   | (with_reducible exact LeO.refl _)
   | (with_reducible exact LeO.none _)
   | (with_reducible refine LeO.ite ?_ ?_)
   | (with_reducible refine LeO.bind ?_ (fun _ => ?_))
   | exact ih0 _ _ _ _
   | exact LeO.none _
   | refine LeO.ite ?_ ?_
   | refine LeO.bind ?_ (fun _ => ?_)
theorem cmp_Or_int.mono : ∀ a0 k, LeO (cmp_Or_int.f k a0) (cmp_Or_int.f (k + 1) a0) := by
 intro a0 k
 have ih0 := cmp_Or_int.mono_l k
 unfold cmp_Or_int.f
 repeat' first
   | (with_reducible exact ih0 _ _ _ _)
   | (with_reducible exact LeO.refl _)
   | (with_reducible exact LeO.none _)
   | (with_reducible refine LeO.ite ?_ ?_)
   | (with_reducible refine LeO.bind ?_ (fun _ => ?_))
   | exact ih0 _ _ _ _
   | exact LeO.none _
   | refine LeO.ite ?_ ?_
   | refine LeO.bind ?_ (fun _ => ?_)
noncomputable def cmp_Or_int.L0 (x3 : Int) (x6 : List Int) (x7 : Int) (x8 : Int) : Option (Int) := Go.Proofs.YtpmcojmhkpaoaaaLabel.lim (fun k => cmp_Or_int.l0 k x3 x6 x7 x8)
theorem cmp_Or_int.L0_lim (x3 : Int) (x6 : List Int) (x7 : Int) (x8 : Int) : Go.Proofs.YtpmcojmhkpaoaaaLabel.Lim (fun k => cmp_Or_int.l0 k x3 x6 x7 x8) (cmp_Or_int.L0 x3 x6 x7 x8) := Go.Proofs.YtpmcojmhkpaoaaaLabel.lim_spec (fun k => (cmp_Or_int.mono_l k) x3 x6 x7 x8)
theorem cmp_Or_int.L0_eq (x3 : Int) (x6 : List Int) (x7 : Int) (x8 : Int) : cmp_Or_int.L0 x3 x6 x7 x8 = (if x8 < x7 then (if 0 ≤ x8 then (if x8 < (x6.length : Int) then (if (rd x6 x8) = x3 then (cmp_Or_int.L0 x3 x6 x7 (wrap64 (x8 + 1))) else (some (rd x6 x8))) else (none)) else (none)) else (some x3)) := by
  refine Go.Proofs.YtpmcojmhkpaoaaaLabel.Lim.unique (cmp_Or_int.L0_lim x3 x6 x7 x8).shift ?_
  simp only [cmp_Or_int.l0]
  (repeat' (first | exact Go.Proofs.YtpmcojmhkpaoaaaLabel.Lim.const _ | exact cmp_Or_int.L0_lim _ _ _ _ | refine Go.Proofs.YtpmcojmhkpaoaaaLabel.Lim.ite ?_ ?_ | refine Go.Proofs.YtpmcojmhkpaoaaaLabel.Lim.bind ?_ (fun _ => ?_)))
noncomputable def cmp_Or_int.F (l0 : List Int) : Option (Int) := Go.Proofs.YtpmcojmhkpaoaaaLabel.lim (fun k => cmp_Or_int.f k l0)
theorem cmp_Or_int.F_lim (l0 : List Int) : Go.Proofs.YtpmcojmhkpaoaaaLabel.Lim (fun k => cmp_Or_int.f k l0) (cmp_Or_int.F l0) := Go.Proofs.YtpmcojmhkpaoaaaLabel.lim_spec (cmp_Or_int.mono l0)
theorem cmp_Or_int.F_eq (l0 : List Int) : cmp_Or_int.F l0 = (cmp_Or_int.L0 0 l0 (l0.length : Int) 0) := by
  refine Go.Proofs.YtpmcojmhkpaoaaaLabel.Lim.unique (cmp_Or_int.F_lim l0) ?_
  simp only [cmp_Or_int.f]
  (repeat' (first | exact Go.Proofs.YtpmcojmhkpaoaaaLabel.Lim.const _ | exact cmp_Or_int.L0_lim _ _ _ _ | refine Go.Proofs.YtpmcojmhkpaoaaaLabel.Lim.ite ?_ ?_ | refine Go.Proofs.YtpmcojmhkpaoaaaLabel.Lim.bind ?_ (fun _ => ?_)))

/-! #### cmp_isNaN_int: function 85 -/
def cmp_isNaN_int.f (a0 : Int) : Option (Bool) := some (a0 != a0)

/-! #### cmp_Compare_int: function 75 -/
def cmp_Compare_int.f (a0 : Int) (a1 : Int) : Option (Int) := (cmp_isNaN_int.f a0).bind fun t492 => ((cmp_isNaN_int.f a1).bind fun t493 => (if t492 = true then (if t493 = true then (some 0) else (some (-1))) else (if t493 = true then (some 1) else (if a0 < a1 then (some (-1)) else (if a0 > a1 then (some 1) else (some 0))))))

/-! #### stamp_Cmp: function 45 -/
def stamp_Cmp.f (k : Nat) (a0_0 : Int) (a0_1 : Int) (a1_0 : Int) (a1_1 : Int) : Option (Int) := (cmp_Compare_int.f a0_0 a1_0).bind fun t496 => ((cmp_Compare_int.f a0_1 a1_1).bind fun t497 => ((cmp_Or_int.f k (([t496, t497] : List Int))).bind fun t501 => (some t501)))
theorem stamp_Cmp.mono : ∀ a0 a1 a2 a3 k, LeO (stamp_Cmp.f k a0 a1 a2 a3) (stamp_Cmp.f (k + 1) a0 a1 a2 a3) := by
 intro a0 a1 a2 a3 k
 unfold stamp_Cmp.f
 repeat' first
   | (with_reducible exact cmp_Or_int.mono _ _)
   | (with_reducible exact LeO.refl _)
   | (with_reducible exact LeO.none _)
   | (with_reducible refine LeO.ite ?_ ?_)
   | (with_reducible refine LeO.bind ?_ (fun _ => ?_))
   | exact cmp_Or_int.mono _ _
   | exact LeO.none _
   | refine LeO.ite ?_ ?_
   | refine LeO.bind ?_ (fun _ => ?_)
def stamp_Cmp.T1 : Bool × List (List Nat × List Nat) := (true, [([], []), ([0], [0]), ([], []), ([2], [2]), ([1, 3], [1, 3]), ([], []), ([5], [5]), ([], []), ([7], [7]), ([6, 8, 4], [6, 8]), ([4, 9], [4, 9]), ([10, 9], [10]), ([11, 11, 0, 1, 2, 3, 4, 5, 6, 7, 8, 9, 10, 11], [11])])
def stamp_Cmp.B1 : List Nat := [0, 1, 0, 4, 15, 0, 32, 0, 128, 511, 1023, 2047, 4095]
theorem stamp_Cmp.tab1 : rtab .any (opsOf Try.f45 1) = stamp_Cmp.T1 := by kernel_rfl
theorem stamp_Cmp.bits1 : waitsOk stamp_Cmp.T1.2 stamp_Cmp.B1 = true := by kernel_rfl
noncomputable def stamp_Cmp.F (a0_0 : Int) (a0_1 : Int) (a1_0 : Int) (a1_1 : Int) : Option (Int) := Go.Proofs.YtpmcojmhkpaoaaaLabel.lim (fun k => stamp_Cmp.f k a0_0 a0_1 a1_0 a1_1)
theorem stamp_Cmp.F_lim (a0_0 : Int) (a0_1 : Int) (a1_0 : Int) (a1_1 : Int) : Go.Proofs.YtpmcojmhkpaoaaaLabel.Lim (fun k => stamp_Cmp.f k a0_0 a0_1 a1_0 a1_1) (stamp_Cmp.F a0_0 a0_1 a1_0 a1_1) := Go.Proofs.YtpmcojmhkpaoaaaLabel.lim_spec (stamp_Cmp.mono a0_0 a0_1 a1_0 a1_1)
theorem stamp_Cmp.F_eq (a0_0 : Int) (a0_1 : Int) (a1_0 : Int) (a1_1 : Int) : stamp_Cmp.F a0_0 a0_1 a1_0 a1_1 = ((cmp_Compare_int.f a0_0 a1_0).bind fun t496 => ((cmp_Compare_int.f a0_1 a1_1).bind fun t497 => ((cmp_Or_int.F (([t496, t497] : List Int))).bind fun t501 => (some t501)))) := by
  refine Go.Proofs.YtpmcojmhkpaoaaaLabel.Lim.unique (stamp_Cmp.F_lim a0_0 a0_1 a1_0 a1_1) ?_
  simp only [stamp_Cmp.f]
  (repeat' (first | exact Go.Proofs.YtpmcojmhkpaoaaaLabel.Lim.const _ | exact cmp_Or_int.F_lim _ | refine Go.Proofs.YtpmcojmhkpaoaaaLabel.Lim.ite ?_ ?_ | refine Go.Proofs.YtpmcojmhkpaoaaaLabel.Lim.bind ?_ (fun _ => ?_)))

/-! #### arraslaw6_wakes: function 46 -/
def arraslaw6_wakes.f (k : Nat)  : Option (Bool) := (stamp_Next.f k 4 2).bind fun bt502 => ((arraslaw6_num.f bt502.2.2).bind fun t506 => (if t506 = 0 then (some (bt502.1 == 5 && (bt502.2.1 == 2))) else (some false)))
theorem arraslaw6_wakes.mono : ∀ k, LeO (arraslaw6_wakes.f k ) (arraslaw6_wakes.f (k + 1) ) := by
 intro  k
 unfold arraslaw6_wakes.f
 repeat' first
   | (with_reducible exact stamp_Next.mono _ _ _)
   | (with_reducible exact LeO.refl _)
   | (with_reducible exact LeO.none _)
   | (with_reducible refine LeO.ite ?_ ?_)
   | (with_reducible refine LeO.bind ?_ (fun _ => ?_))
   | exact stamp_Next.mono _ _ _
   | exact LeO.none _
   | refine LeO.ite ?_ ?_
   | refine LeO.bind ?_ (fun _ => ?_)
noncomputable def arraslaw6_wakes.F  : Option (Bool) := Go.Proofs.YtpmcojmhkpaoaaaLabel.lim (fun k => arraslaw6_wakes.f k )
theorem arraslaw6_wakes.F_lim  : Go.Proofs.YtpmcojmhkpaoaaaLabel.Lim (fun k => arraslaw6_wakes.f k ) (arraslaw6_wakes.F ) := Go.Proofs.YtpmcojmhkpaoaaaLabel.lim_spec (arraslaw6_wakes.mono )
theorem arraslaw6_wakes.F_eq  : arraslaw6_wakes.F  = ((stamp_Next.F 4 2).bind fun bt502 => ((arraslaw6_num.f bt502.2.2).bind fun t506 => (if t506 = 0 then (some (bt502.1 == 5 && (bt502.2.1 == 2))) else (some false)))) := by
  refine Go.Proofs.YtpmcojmhkpaoaaaLabel.Lim.unique (arraslaw6_wakes.F_lim ) ?_
  simp only [arraslaw6_wakes.f]
  (repeat' (first | exact Go.Proofs.YtpmcojmhkpaoaaaLabel.Lim.const _ | exact stamp_Next.F_lim _ _ | refine Go.Proofs.YtpmcojmhkpaoaaaLabel.Lim.ite ?_ ?_ | refine Go.Proofs.YtpmcojmhkpaoaaaLabel.Lim.bind ?_ (fun _ => ?_)))

/-! #### arraslaw6_StampNexts: function 10 -/
mutual
def arraslaw6_StampNexts.l0 : Nat → List (S70) → Int → Option (Bool)
 | 0, _, _ => none
 | k + 1, x0, x3 => if x3 < (x0.length : Int) then (arraslaw6_StampNexts.j1 k x0 x3 (decide (x3 < 20))) else (arraslaw6_StampNexts.j1 k x0 x3 false)
def arraslaw6_StampNexts.j1 : Nat → List (S70) → Int → Bool → Option (Bool)
 | 0, _, _, _ => none
 | k + 1, x0, x3, x17 => if x17 = true then (if 0 ≤ x3 then (if x3 < (x0.length : Int) then ((stamp_Next.f k ((rd_T70 x0 x3).f0.f0) ((rd_T70 x0 x3).f0.f1)).bind fun bt510 => ((arrasref0_Num.f ((rd_T70 x0 x3).f0.f0) 1099511627776).bind fun t515 => (if t515 = true then ((arrasref0_Num.f ((rd_T70 x0 x3).f0.f1) 15).bind fun t516 => (arraslaw6_StampNexts.j2 k x0 x3 ((rd_T70 x0 x3).f0.f0) ((rd_T70 x0 x3).f0.f1) bt510.2.2 1 t516 bt510.1 bt510.2.1 0 0)) else (arraslaw6_StampNexts.j2 k x0 x3 ((rd_T70 x0 x3).f0.f0) ((rd_T70 x0 x3).f0.f1) bt510.2.2 1 false bt510.1 bt510.2.1 0 0)))) else (none)) else (none)) else ((arraslaw6_wakes.f k).bind fun t507 => (some t507))
def arraslaw6_StampNexts.j2 : Nat → List (S70) → Int → Int → Int → Int → Int → Bool → Int → Int → Int → Int → Option (Bool)
 | 0, _, _, _, _, _, _, _, _, _, _, _ => none
 | k + 1, x0, x3, x4, x5, x7, x8, x44, x514000, x514001, x515000, x515001 => if x44 = true then (if x4 < 1099511627776 then (arraslaw6_StampNexts.j3 k x0 x3 x4 x7 0 x514000 x514001 (wrap64 (x4 + 1)) x5) else (arraslaw6_StampNexts.j3 k x0 x3 x4 x7 5 x514000 x514001 x515000 x515001)) else (arraslaw6_StampNexts.j3 k x0 x3 x4 x7 x8 x514000 x514001 x515000 x515001)
def arraslaw6_StampNexts.j3 : Nat → List (S70) → Int → Int → Int → Int → Int → Int → Int → Int → Option (Bool)
 | 0, _, _, _, _, _, _, _, _, _ => none
 | k + 1, x0, x3, x4, x7, x8, x514000, x514001, x515000, x515001 => (arraslaw6_num.f x7).bind fun t517 => (if t517 = x8 then (if (!(x514000 == x515000) || (!(x514001 == x515001))) = true then (arraslaw6_StampNexts.j4 k x0 x3 true) else (if x8 = 0 then ((stamp_Cmp.f k x4 16 x514000 x514001).bind fun t518 => (arraslaw6_StampNexts.j4 k x0 x3 (decide (t518 ≥ 0)))) else (arraslaw6_StampNexts.j4 k x0 x3 false))) else (arraslaw6_StampNexts.j4 k x0 x3 true))
def arraslaw6_StampNexts.j4 : Nat → List (S70) → Int → Bool → Option (Bool)
 | 0, _, _, _ => none
 | k + 1, x0, x3, x70 => if x70 = true then (some false) else (arraslaw6_StampNexts.l0 k x0 (wrap64 (x3 + 1)))
end
def arraslaw6_StampNexts.f (k : Nat) (l0 : List (S70)) : Option (Bool) := arraslaw6_StampNexts.l0 k l0 0
theorem arraslaw6_StampNexts.mono_l : ∀ k, (∀ y0 y1, LeO (arraslaw6_StampNexts.l0 k y0 y1) (arraslaw6_StampNexts.l0 (k + 1) y0 y1)) ∧ (∀ y0 y1 y2, LeO (arraslaw6_StampNexts.j1 k y0 y1 y2) (arraslaw6_StampNexts.j1 (k + 1) y0 y1 y2)) ∧ (∀ y0 y1 y2 y3 y4 y5 y6 y7 y8 y9 y10, LeO (arraslaw6_StampNexts.j2 k y0 y1 y2 y3 y4 y5 y6 y7 y8 y9 y10) (arraslaw6_StampNexts.j2 (k + 1) y0 y1 y2 y3 y4 y5 y6 y7 y8 y9 y10)) ∧ (∀ y0 y1 y2 y3 y4 y5 y6 y7 y8, LeO (arraslaw6_StampNexts.j3 k y0 y1 y2 y3 y4 y5 y6 y7 y8) (arraslaw6_StampNexts.j3 (k + 1) y0 y1 y2 y3 y4 y5 y6 y7 y8)) ∧ (∀ y0 y1 y2, LeO (arraslaw6_StampNexts.j4 k y0 y1 y2) (arraslaw6_StampNexts.j4 (k + 1) y0 y1 y2))
 | 0 => ⟨fun _ _ r h => by simp [arraslaw6_StampNexts.l0] at h, fun _ _ _ r h => by simp [arraslaw6_StampNexts.j1] at h, fun _ _ _ _ _ _ _ _ _ _ _ r h => by simp [arraslaw6_StampNexts.j2] at h, fun _ _ _ _ _ _ _ _ _ r h => by simp [arraslaw6_StampNexts.j3] at h, fun _ _ _ r h => by simp [arraslaw6_StampNexts.j4] at h⟩
 | k + 1 => by
  obtain ⟨ih0, ih1, ih2, ih3, ih4⟩ := arraslaw6_StampNexts.mono_l k
  refine ⟨?_, ?_, ?_, ?_, ?_⟩
  ·intro y0 y1
   unfold arraslaw6_StampNexts.l0
   repeat' first
   | (with_reducible exact ih0 _ _)
   | (with_reducible exact ih1 _ _ _)
   | (with_reducible exact ih2 _ _ _ _ _ _ _ _ _ _ _)
   | (with_reducible exact ih3 _ _ _ _ _ _ _ _ _)
   | (with_reducible exact ih4 _ _ _)
   | (with_reducible exact arraslaw6_wakes.mono _)
   | (with_reducible exact stamp_Cmp.mono _ _ _ _ _)
   | (with_reducible exact stamp_Next.mono _ _ _)
   | (with_reducible exact LeO.refl _)
   | (with_reducible exact LeO.none _)
   | (with_reducible refine LeO.ite ?_ ?_)
   | (with_reducible refine LeO.bind ?_ (fun _ => ?_))
   | exact ih0 _ _
   | exact ih1 _ _ _
   | exact ih2 _ _ _ _ _ _ _ _ _ _ _
   | exact ih3 _ _ _ _ _ _ _ _ _
   | exact ih4 _ _ _
   | exact arraslaw6_wakes.mono _
   | exact stamp_Cmp.mono _ _ _ _ _
   | exact stamp_Next.mono _ _ _
   | exact LeO.none _
   | refine LeO.ite ?_ ?_
   | refine LeO.bind ?_ (fun _ => ?_)
  ·intro y0 y1 y2
   unfold arraslaw6_StampNexts.j1
   repeat' first
   | (with_reducible exact ih0 _ _)
   | (with_reducible exact ih1 _ _ _)
   | (with_reducible exact ih2 _ _ _ _ _ _ _ _ _ _ _)
   | (with_reducible exact ih3 _ _ _ _ _ _ _ _ _)
   | (with_reducible exact ih4 _ _ _)
   | (with_reducible exact arraslaw6_wakes.mono _)
   | (with_reducible exact stamp_Cmp.mono _ _ _ _ _)
   | (with_reducible exact stamp_Next.mono _ _ _)
   | (with_reducible exact LeO.refl _)
   | (with_reducible exact LeO.none _)
   | (with_reducible refine LeO.ite ?_ ?_)
   | (with_reducible refine LeO.bind ?_ (fun _ => ?_))
   | exact ih0 _ _
   | exact ih1 _ _ _
   | exact ih2 _ _ _ _ _ _ _ _ _ _ _
   | exact ih3 _ _ _ _ _ _ _ _ _
   | exact ih4 _ _ _
   | exact arraslaw6_wakes.mono _
   | exact stamp_Cmp.mono _ _ _ _ _
   | exact stamp_Next.mono _ _ _
   | exact LeO.none _
   | refine LeO.ite ?_ ?_
   | refine LeO.bind ?_ (fun _ => ?_)
  ·intro y0 y1 y2 y3 y4 y5 y6 y7 y8 y9 y10
   unfold arraslaw6_StampNexts.j2
   repeat' first
   | (with_reducible exact ih0 _ _)
   | (with_reducible exact ih1 _ _ _)
   | (with_reducible exact ih2 _ _ _ _ _ _ _ _ _ _ _)
   | (with_reducible exact ih3 _ _ _ _ _ _ _ _ _)
   | (with_reducible exact ih4 _ _ _)
   | (with_reducible exact arraslaw6_wakes.mono _)
   | (with_reducible exact stamp_Cmp.mono _ _ _ _ _)
   | (with_reducible exact stamp_Next.mono _ _ _)
   | (with_reducible exact LeO.refl _)
   | (with_reducible exact LeO.none _)
   | (with_reducible refine LeO.ite ?_ ?_)
   | (with_reducible refine LeO.bind ?_ (fun _ => ?_))
   | exact ih0 _ _
   | exact ih1 _ _ _
   | exact ih2 _ _ _ _ _ _ _ _ _ _ _
   | exact ih3 _ _ _ _ _ _ _ _ _
   | exact ih4 _ _ _
   | exact arraslaw6_wakes.mono _
   | exact stamp_Cmp.mono _ _ _ _ _
   | exact stamp_Next.mono _ _ _
   | exact LeO.none _
   | refine LeO.ite ?_ ?_
   | refine LeO.bind ?_ (fun _ => ?_)
  ·intro y0 y1 y2 y3 y4 y5 y6 y7 y8
   unfold arraslaw6_StampNexts.j3
   repeat' first
   | (with_reducible exact ih0 _ _)
   | (with_reducible exact ih1 _ _ _)
   | (with_reducible exact ih2 _ _ _ _ _ _ _ _ _ _ _)
   | (with_reducible exact ih3 _ _ _ _ _ _ _ _ _)
   | (with_reducible exact ih4 _ _ _)
   | (with_reducible exact arraslaw6_wakes.mono _)
   | (with_reducible exact stamp_Cmp.mono _ _ _ _ _)
   | (with_reducible exact stamp_Next.mono _ _ _)
   | (with_reducible exact LeO.refl _)
   | (with_reducible exact LeO.none _)
   | (with_reducible refine LeO.ite ?_ ?_)
   | (with_reducible refine LeO.bind ?_ (fun _ => ?_))
   | exact ih0 _ _
   | exact ih1 _ _ _
   | exact ih2 _ _ _ _ _ _ _ _ _ _ _
   | exact ih3 _ _ _ _ _ _ _ _ _
   | exact ih4 _ _ _
   | exact arraslaw6_wakes.mono _
   | exact stamp_Cmp.mono _ _ _ _ _
   | exact stamp_Next.mono _ _ _
   | exact LeO.none _
   | refine LeO.ite ?_ ?_
   | refine LeO.bind ?_ (fun _ => ?_)
  ·intro y0 y1 y2
   unfold arraslaw6_StampNexts.j4
   repeat' first
   | (with_reducible exact ih0 _ _)
   | (with_reducible exact ih1 _ _ _)
   | (with_reducible exact ih2 _ _ _ _ _ _ _ _ _ _ _)
   | (with_reducible exact ih3 _ _ _ _ _ _ _ _ _)
   | (with_reducible exact ih4 _ _ _)
   | (with_reducible exact arraslaw6_wakes.mono _)
   | (with_reducible exact stamp_Cmp.mono _ _ _ _ _)
   | (with_reducible exact stamp_Next.mono _ _ _)
   | (with_reducible exact LeO.refl _)
   | (with_reducible exact LeO.none _)
   | (with_reducible refine LeO.ite ?_ ?_)
   | (with_reducible refine LeO.bind ?_ (fun _ => ?_))
   | exact ih0 _ _
   | exact ih1 _ _ _
   | exact ih2 _ _ _ _ _ _ _ _ _ _ _
   | exact ih3 _ _ _ _ _ _ _ _ _
   | exact ih4 _ _ _
   | exact arraslaw6_wakes.mono _
   | exact stamp_Cmp.mono _ _ _ _ _
   | exact stamp_Next.mono _ _ _
   | exact LeO.none _
   | refine LeO.ite ?_ ?_
   | refine LeO.bind ?_ (fun _ => ?_)
theorem arraslaw6_StampNexts.mono : ∀ a0 k, LeO (arraslaw6_StampNexts.f k a0) (arraslaw6_StampNexts.f (k + 1) a0) := by
 intro a0 k
 obtain ⟨ih0, ih1, ih2, ih3, ih4⟩ := arraslaw6_StampNexts.mono_l k
 unfold arraslaw6_StampNexts.f
 repeat' first
   | (with_reducible exact ih0 _ _)
   | (with_reducible exact ih1 _ _ _)
   | (with_reducible exact ih2 _ _ _ _ _ _ _ _ _ _ _)
   | (with_reducible exact ih3 _ _ _ _ _ _ _ _ _)
   | (with_reducible exact ih4 _ _ _)
   | (with_reducible exact arraslaw6_wakes.mono _)
   | (with_reducible exact stamp_Cmp.mono _ _ _ _ _)
   | (with_reducible exact stamp_Next.mono _ _ _)
   | (with_reducible exact LeO.refl _)
   | (with_reducible exact LeO.none _)
   | (with_reducible refine LeO.ite ?_ ?_)
   | (with_reducible refine LeO.bind ?_ (fun _ => ?_))
   | exact ih0 _ _
   | exact ih1 _ _ _
   | exact ih2 _ _ _ _ _ _ _ _ _ _ _
   | exact ih3 _ _ _ _ _ _ _ _ _
   | exact ih4 _ _ _
   | exact arraslaw6_wakes.mono _
   | exact stamp_Cmp.mono _ _ _ _ _
   | exact stamp_Next.mono _ _ _
   | exact LeO.none _
   | refine LeO.ite ?_ ?_
   | refine LeO.bind ?_ (fun _ => ?_)
noncomputable def arraslaw6_StampNexts.L0 (x0 : List (S70)) (x3 : Int) : Option (Bool) := Go.Proofs.YtpmcojmhkpaoaaaLabel.lim (fun k => arraslaw6_StampNexts.l0 k x0 x3)
noncomputable def arraslaw6_StampNexts.J1 (x0 : List (S70)) (x3 : Int) (x17 : Bool) : Option (Bool) := Go.Proofs.YtpmcojmhkpaoaaaLabel.lim (fun k => arraslaw6_StampNexts.j1 k x0 x3 x17)
noncomputable def arraslaw6_StampNexts.J2 (x0 : List (S70)) (x3 : Int) (x4 : Int) (x5 : Int) (x7 : Int) (x8 : Int) (x44 : Bool) (x514000 : Int) (x514001 : Int) (x515000 : Int) (x515001 : Int) : Option (Bool) := Go.Proofs.YtpmcojmhkpaoaaaLabel.lim (fun k => arraslaw6_StampNexts.j2 k x0 x3 x4 x5 x7 x8 x44 x514000 x514001 x515000 x515001)
noncomputable def arraslaw6_StampNexts.J3 (x0 : List (S70)) (x3 : Int) (x4 : Int) (x7 : Int) (x8 : Int) (x514000 : Int) (x514001 : Int) (x515000 : Int) (x515001 : Int) : Option (Bool) := Go.Proofs.YtpmcojmhkpaoaaaLabel.lim (fun k => arraslaw6_StampNexts.j3 k x0 x3 x4 x7 x8 x514000 x514001 x515000 x515001)
noncomputable def arraslaw6_StampNexts.J4 (x0 : List (S70)) (x3 : Int) (x70 : Bool) : Option (Bool) := Go.Proofs.YtpmcojmhkpaoaaaLabel.lim (fun k => arraslaw6_StampNexts.j4 k x0 x3 x70)
theorem arraslaw6_StampNexts.L0_lim (x0 : List (S70)) (x3 : Int) : Go.Proofs.YtpmcojmhkpaoaaaLabel.Lim (fun k => arraslaw6_StampNexts.l0 k x0 x3) (arraslaw6_StampNexts.L0 x0 x3) := Go.Proofs.YtpmcojmhkpaoaaaLabel.lim_spec (fun k => (arraslaw6_StampNexts.mono_l k).1 x0 x3)
theorem arraslaw6_StampNexts.J1_lim (x0 : List (S70)) (x3 : Int) (x17 : Bool) : Go.Proofs.YtpmcojmhkpaoaaaLabel.Lim (fun k => arraslaw6_StampNexts.j1 k x0 x3 x17) (arraslaw6_StampNexts.J1 x0 x3 x17) := Go.Proofs.YtpmcojmhkpaoaaaLabel.lim_spec (fun k => (arraslaw6_StampNexts.mono_l k).2.1 x0 x3 x17)
theorem arraslaw6_StampNexts.J2_lim (x0 : List (S70)) (x3 : Int) (x4 : Int) (x5 : Int) (x7 : Int) (x8 : Int) (x44 : Bool) (x514000 : Int) (x514001 : Int) (x515000 : Int) (x515001 : Int) : Go.Proofs.YtpmcojmhkpaoaaaLabel.Lim (fun k => arraslaw6_StampNexts.j2 k x0 x3 x4 x5 x7 x8 x44 x514000 x514001 x515000 x515001) (arraslaw6_StampNexts.J2 x0 x3 x4 x5 x7 x8 x44 x514000 x514001 x515000 x515001) := Go.Proofs.YtpmcojmhkpaoaaaLabel.lim_spec (fun k => (arraslaw6_StampNexts.mono_l k).2.2.1 x0 x3 x4 x5 x7 x8 x44 x514000 x514001 x515000 x515001)
theorem arraslaw6_StampNexts.J3_lim (x0 : List (S70)) (x3 : Int) (x4 : Int) (x7 : Int) (x8 : Int) (x514000 : Int) (x514001 : Int) (x515000 : Int) (x515001 : Int) : Go.Proofs.YtpmcojmhkpaoaaaLabel.Lim (fun k => arraslaw6_StampNexts.j3 k x0 x3 x4 x7 x8 x514000 x514001 x515000 x515001) (arraslaw6_StampNexts.J3 x0 x3 x4 x7 x8 x514000 x514001 x515000 x515001) := Go.Proofs.YtpmcojmhkpaoaaaLabel.lim_spec (fun k => (arraslaw6_StampNexts.mono_l k).2.2.2.1 x0 x3 x4 x7 x8 x514000 x514001 x515000 x515001)
theorem arraslaw6_StampNexts.J4_lim (x0 : List (S70)) (x3 : Int) (x70 : Bool) : Go.Proofs.YtpmcojmhkpaoaaaLabel.Lim (fun k => arraslaw6_StampNexts.j4 k x0 x3 x70) (arraslaw6_StampNexts.J4 x0 x3 x70) := Go.Proofs.YtpmcojmhkpaoaaaLabel.lim_spec (fun k => (arraslaw6_StampNexts.mono_l k).2.2.2.2 x0 x3 x70)
theorem arraslaw6_StampNexts.L0_eq (x0 : List (S70)) (x3 : Int) : arraslaw6_StampNexts.L0 x0 x3 = (if x3 < (x0.length : Int) then (arraslaw6_StampNexts.J1 x0 x3 (decide (x3 < 20))) else (arraslaw6_StampNexts.J1 x0 x3 false)) := by
  refine Go.Proofs.YtpmcojmhkpaoaaaLabel.Lim.unique (arraslaw6_StampNexts.L0_lim x0 x3).shift ?_
  simp only [arraslaw6_StampNexts.l0]
  (repeat' (first | exact Go.Proofs.YtpmcojmhkpaoaaaLabel.Lim.const _ | exact arraslaw6_StampNexts.L0_lim _ _ | exact arraslaw6_StampNexts.J1_lim _ _ _ | exact arraslaw6_StampNexts.J2_lim _ _ _ _ _ _ _ _ _ _ _ | exact arraslaw6_StampNexts.J3_lim _ _ _ _ _ _ _ _ _ | exact arraslaw6_StampNexts.J4_lim _ _ _ | exact arraslaw6_wakes.F_lim | exact stamp_Cmp.F_lim _ _ _ _ | exact stamp_Next.F_lim _ _ | refine Go.Proofs.YtpmcojmhkpaoaaaLabel.Lim.ite ?_ ?_ | refine Go.Proofs.YtpmcojmhkpaoaaaLabel.Lim.bind ?_ (fun _ => ?_)))
theorem arraslaw6_StampNexts.J1_eq (x0 : List (S70)) (x3 : Int) (x17 : Bool) : arraslaw6_StampNexts.J1 x0 x3 x17 = (if x17 = true then (if 0 ≤ x3 then (if x3 < (x0.length : Int) then ((stamp_Next.F ((rd_T70 x0 x3).f0.f0) ((rd_T70 x0 x3).f0.f1)).bind fun bt510 => ((arrasref0_Num.f ((rd_T70 x0 x3).f0.f0) 1099511627776).bind fun t515 => (if t515 = true then ((arrasref0_Num.f ((rd_T70 x0 x3).f0.f1) 15).bind fun t516 => (arraslaw6_StampNexts.J2 x0 x3 ((rd_T70 x0 x3).f0.f0) ((rd_T70 x0 x3).f0.f1) bt510.2.2 1 t516 bt510.1 bt510.2.1 0 0)) else (arraslaw6_StampNexts.J2 x0 x3 ((rd_T70 x0 x3).f0.f0) ((rd_T70 x0 x3).f0.f1) bt510.2.2 1 false bt510.1 bt510.2.1 0 0)))) else (none)) else (none)) else ((arraslaw6_wakes.F).bind fun t507 => (some t507))) := by
  refine Go.Proofs.YtpmcojmhkpaoaaaLabel.Lim.unique (arraslaw6_StampNexts.J1_lim x0 x3 x17).shift ?_
  simp only [arraslaw6_StampNexts.j1]
  (repeat' (first | exact Go.Proofs.YtpmcojmhkpaoaaaLabel.Lim.const _ | exact arraslaw6_StampNexts.L0_lim _ _ | exact arraslaw6_StampNexts.J1_lim _ _ _ | exact arraslaw6_StampNexts.J2_lim _ _ _ _ _ _ _ _ _ _ _ | exact arraslaw6_StampNexts.J3_lim _ _ _ _ _ _ _ _ _ | exact arraslaw6_StampNexts.J4_lim _ _ _ | exact arraslaw6_wakes.F_lim | exact stamp_Cmp.F_lim _ _ _ _ | exact stamp_Next.F_lim _ _ | refine Go.Proofs.YtpmcojmhkpaoaaaLabel.Lim.ite ?_ ?_ | refine Go.Proofs.YtpmcojmhkpaoaaaLabel.Lim.bind ?_ (fun _ => ?_)))
theorem arraslaw6_StampNexts.J2_eq (x0 : List (S70)) (x3 : Int) (x4 : Int) (x5 : Int) (x7 : Int) (x8 : Int) (x44 : Bool) (x514000 : Int) (x514001 : Int) (x515000 : Int) (x515001 : Int) : arraslaw6_StampNexts.J2 x0 x3 x4 x5 x7 x8 x44 x514000 x514001 x515000 x515001 = (if x44 = true then (if x4 < 1099511627776 then (arraslaw6_StampNexts.J3 x0 x3 x4 x7 0 x514000 x514001 (wrap64 (x4 + 1)) x5) else (arraslaw6_StampNexts.J3 x0 x3 x4 x7 5 x514000 x514001 x515000 x515001)) else (arraslaw6_StampNexts.J3 x0 x3 x4 x7 x8 x514000 x514001 x515000 x515001)) := by
  refine Go.Proofs.YtpmcojmhkpaoaaaLabel.Lim.unique (arraslaw6_StampNexts.J2_lim x0 x3 x4 x5 x7 x8 x44 x514000 x514001 x515000 x515001).shift ?_
  simp only [arraslaw6_StampNexts.j2]
  (repeat' (first | exact Go.Proofs.YtpmcojmhkpaoaaaLabel.Lim.const _ | exact arraslaw6_StampNexts.L0_lim _ _ | exact arraslaw6_StampNexts.J1_lim _ _ _ | exact arraslaw6_StampNexts.J2_lim _ _ _ _ _ _ _ _ _ _ _ | exact arraslaw6_StampNexts.J3_lim _ _ _ _ _ _ _ _ _ | exact arraslaw6_StampNexts.J4_lim _ _ _ | exact arraslaw6_wakes.F_lim | exact stamp_Cmp.F_lim _ _ _ _ | exact stamp_Next.F_lim _ _ | refine Go.Proofs.YtpmcojmhkpaoaaaLabel.Lim.ite ?_ ?_ | refine Go.Proofs.YtpmcojmhkpaoaaaLabel.Lim.bind ?_ (fun _ => ?_)))
theorem arraslaw6_StampNexts.J3_eq (x0 : List (S70)) (x3 : Int) (x4 : Int) (x7 : Int) (x8 : Int) (x514000 : Int) (x514001 : Int) (x515000 : Int) (x515001 : Int) : arraslaw6_StampNexts.J3 x0 x3 x4 x7 x8 x514000 x514001 x515000 x515001 = ((arraslaw6_num.f x7).bind fun t517 => (if t517 = x8 then (if (!(x514000 == x515000) || (!(x514001 == x515001))) = true then (arraslaw6_StampNexts.J4 x0 x3 true) else (if x8 = 0 then ((stamp_Cmp.F x4 16 x514000 x514001).bind fun t518 => (arraslaw6_StampNexts.J4 x0 x3 (decide (t518 ≥ 0)))) else (arraslaw6_StampNexts.J4 x0 x3 false))) else (arraslaw6_StampNexts.J4 x0 x3 true))) := by
  refine Go.Proofs.YtpmcojmhkpaoaaaLabel.Lim.unique (arraslaw6_StampNexts.J3_lim x0 x3 x4 x7 x8 x514000 x514001 x515000 x515001).shift ?_
  simp only [arraslaw6_StampNexts.j3]
  (repeat' (first | exact Go.Proofs.YtpmcojmhkpaoaaaLabel.Lim.const _ | exact arraslaw6_StampNexts.L0_lim _ _ | exact arraslaw6_StampNexts.J1_lim _ _ _ | exact arraslaw6_StampNexts.J2_lim _ _ _ _ _ _ _ _ _ _ _ | exact arraslaw6_StampNexts.J3_lim _ _ _ _ _ _ _ _ _ | exact arraslaw6_StampNexts.J4_lim _ _ _ | exact arraslaw6_wakes.F_lim | exact stamp_Cmp.F_lim _ _ _ _ | exact stamp_Next.F_lim _ _ | refine Go.Proofs.YtpmcojmhkpaoaaaLabel.Lim.ite ?_ ?_ | refine Go.Proofs.YtpmcojmhkpaoaaaLabel.Lim.bind ?_ (fun _ => ?_)))
theorem arraslaw6_StampNexts.J4_eq (x0 : List (S70)) (x3 : Int) (x70 : Bool) : arraslaw6_StampNexts.J4 x0 x3 x70 = (if x70 = true then (some false) else (arraslaw6_StampNexts.L0 x0 (wrap64 (x3 + 1)))) := by
  refine Go.Proofs.YtpmcojmhkpaoaaaLabel.Lim.unique (arraslaw6_StampNexts.J4_lim x0 x3 x70).shift ?_
  simp only [arraslaw6_StampNexts.j4]
  (repeat' (first | exact Go.Proofs.YtpmcojmhkpaoaaaLabel.Lim.const _ | exact arraslaw6_StampNexts.L0_lim _ _ | exact arraslaw6_StampNexts.J1_lim _ _ _ | exact arraslaw6_StampNexts.J2_lim _ _ _ _ _ _ _ _ _ _ _ | exact arraslaw6_StampNexts.J3_lim _ _ _ _ _ _ _ _ _ | exact arraslaw6_StampNexts.J4_lim _ _ _ | exact arraslaw6_wakes.F_lim | exact stamp_Cmp.F_lim _ _ _ _ | exact stamp_Next.F_lim _ _ | refine Go.Proofs.YtpmcojmhkpaoaaaLabel.Lim.ite ?_ ?_ | refine Go.Proofs.YtpmcojmhkpaoaaaLabel.Lim.bind ?_ (fun _ => ?_)))
noncomputable def arraslaw6_StampNexts.F (l0 : List (S70)) : Option (Bool) := Go.Proofs.YtpmcojmhkpaoaaaLabel.lim (fun k => arraslaw6_StampNexts.f k l0)
theorem arraslaw6_StampNexts.F_lim (l0 : List (S70)) : Go.Proofs.YtpmcojmhkpaoaaaLabel.Lim (fun k => arraslaw6_StampNexts.f k l0) (arraslaw6_StampNexts.F l0) := Go.Proofs.YtpmcojmhkpaoaaaLabel.lim_spec (arraslaw6_StampNexts.mono l0)
theorem arraslaw6_StampNexts.F_eq (l0 : List (S70)) : arraslaw6_StampNexts.F l0 = (arraslaw6_StampNexts.L0 l0 0) := by
  refine Go.Proofs.YtpmcojmhkpaoaaaLabel.Lim.unique (arraslaw6_StampNexts.F_lim l0) ?_
  simp only [arraslaw6_StampNexts.f]
  (repeat' (first | exact Go.Proofs.YtpmcojmhkpaoaaaLabel.Lim.const _ | exact arraslaw6_StampNexts.L0_lim _ _ | exact arraslaw6_StampNexts.J1_lim _ _ _ | exact arraslaw6_StampNexts.J2_lim _ _ _ _ _ _ _ _ _ _ _ | exact arraslaw6_StampNexts.J3_lim _ _ _ _ _ _ _ _ _ | exact arraslaw6_StampNexts.J4_lim _ _ _ | exact arraslaw6_wakes.F_lim | exact stamp_Cmp.F_lim _ _ _ _ | exact stamp_Next.F_lim _ _ | refine Go.Proofs.YtpmcojmhkpaoaaaLabel.Lim.ite ?_ ?_ | refine Go.Proofs.YtpmcojmhkpaoaaaLabel.Lim.bind ?_ (fun _ => ?_)))

/-! #### stamp_Is: function 76 -/
def stamp_Is.f (a0_0 : Int) (a0_1 : Int) : Option (Bool) := if a0_0 ≥ 1 then (if a0_0 ≤ 1099511627776 then (if a0_1 ≥ 0 then (some (decide (a0_1 < 16))) else (some false)) else (some false)) else (some false)

/-! #### stamp_Check: function 47 -/
def stamp_Check.f (a0_0 : Int) (a0_1 : Int) : Option (Int) := (stamp_Is.f a0_0 a0_1).bind fun t521 => (if t521 = true then (some 0) else (some 1))

/-! #### arrasref6_Stamp: function 48 -/
def arrasref6_Stamp.f (a0_0 : Int) (a0_1 : Int) : Option (Bool) := if a0_0 ≥ 1 then (if a0_0 ≤ 1099511627776 then ((arrasref0_Num.f a0_1 15).bind fun t523 => (some t523)) else (some false)) else (some false)

/-! #### stamp_Root: function 77 -/
def stamp_Root.f  : Option (Int × Int) := some (0, 0)

/-! #### stamp_Trash: function 78 -/
def stamp_Trash.f  : Option (Int × Int) := some (0, 1)

/-! #### stamp_Place: function 49 -/
def stamp_Place.f (a0_0 : Int) (a0_1 : Int) : Option (Bool) := (stamp_Is.f a0_0 a0_1).bind fun t527 => (if t527 = true then (some true) else ((stamp_Root.f).bind fun bt528 => (if (a0_0 == bt528.1 && (a0_1 == bt528.2)) = true then (some true) else ((stamp_Trash.f).bind fun bt530 => (some (a0_0 == bt530.1 && (a0_1 == bt530.2)))))))
def stamp_Place.T1 : Bool × List (List Nat × List Nat) := (true, [([], []), ([0], [0]), ([1, 1], [1]), ([2], [2]), ([2, 2], [2]), ([3, 4, 2], [2, 3, 4]), ([2, 5], [2, 5]), ([6, 4], [6]), ([7], [7]), ([7, 7], [7]), ([8, 9, 7], [7, 8, 9]), ([7, 10], [7, 10]), ([11, 9, 0, 1, 2, 3, 4, 5, 6, 7, 8, 9, 10, 11], [11])])
def stamp_Place.B1 : List Nat := [0, 1, 3, 7, 7, 31, 63, 127, 255, 255, 1023, 2047, 4095]
theorem stamp_Place.tab1 : rtab .any (opsOf Try.f49 1) = stamp_Place.T1 := by kernel_rfl
theorem stamp_Place.bits1 : waitsOk stamp_Place.T1.2 stamp_Place.B1 = true := by kernel_rfl

/-! #### arrasref6_Root: function 79 -/
def arrasref6_Root.f  : Option (Int × Int) := some (0, 0)

/-! #### arrasref6_Trash: function 80 -/
def arrasref6_Trash.f  : Option (Int × Int) := some (0, 1)

/-! #### arrasref6_Place: function 50 -/
def arrasref6_Place.f (a0_0 : Int) (a0_1 : Int) : Option (Bool) := (arrasref6_Stamp.f a0_0 a0_1).bind fun t535 => (if t535 = true then (some true) else ((arrasref6_Root.f).bind fun bt536 => (if (a0_0 == bt536.1 && (a0_1 == bt536.2)) = true then (some true) else ((arrasref6_Trash.f).bind fun bt538 => (some (a0_0 == bt538.1 && (a0_1 == bt538.2)))))))
def arrasref6_Place.T1 : Bool × List (List Nat × List Nat) := (true, [([], []), ([0], [0]), ([1, 1], [1]), ([2], [2]), ([2, 2], [2]), ([3, 4, 2], [2, 3, 4]), ([2, 5], [2, 5]), ([6, 4], [6]), ([7], [7]), ([7, 7], [7]), ([8, 9, 7], [7, 8, 9]), ([7, 10], [7, 10]), ([11, 9, 0, 1, 2, 3, 4, 5, 6, 7, 8, 9, 10, 11], [11])])
def arrasref6_Place.B1 : List Nat := [0, 1, 3, 7, 7, 31, 63, 127, 255, 255, 1023, 2047, 4095]
theorem arrasref6_Place.tab1 : rtab .any (opsOf Try.f50 1) = arrasref6_Place.T1 := by kernel_rfl
theorem arrasref6_Place.bits1 : waitsOk arrasref6_Place.T1.2 arrasref6_Place.B1 = true := by kernel_rfl

/-! #### arrasref6_Cmp: function 51 -/
def arrasref6_Cmp.j0 : Nat → Bool → Int → Int → Int → Int → Option (Int)
 | 0, _, _, _, _, _ => none
 | k + 1, x23, x541000, x541001, x542000, x542001 => if x23 = true then (some (-1)) else (if (!(x541000 == x542000) || (!(x541001 == x542001))) = true then (some 1) else (some 0))
def arrasref6_Cmp.f (k : Nat) (a0_0 : Int) (a0_1 : Int) (a1_0 : Int) (a1_1 : Int) : Option (Int) := if a0_0 < a1_0 then (arrasref6_Cmp.j0 k true a0_0 a0_1 a1_0 a1_1) else (if a0_0 = a1_0 then (arrasref6_Cmp.j0 k (decide (a0_1 < a1_1)) a0_0 a0_1 a1_0 a1_1) else (arrasref6_Cmp.j0 k false a0_0 a0_1 a1_0 a1_1))
theorem arrasref6_Cmp.mono_l : ∀ k, (∀ y0 y1 y2 y3 y4, LeO (arrasref6_Cmp.j0 k y0 y1 y2 y3 y4) (arrasref6_Cmp.j0 (k + 1) y0 y1 y2 y3 y4))
 | 0 => fun _ _ _ _ _ r h => by simp [arrasref6_Cmp.j0] at h
 | k + 1 => by
  have ih0 := arrasref6_Cmp.mono_l k
  ·intro y0 y1 y2 y3 y4
   unfold arrasref6_Cmp.j0
   repeat' first
   | (with_reducible exact ih0 _ _ _ _ _)
   | (with_reducible exact LeO.refl _)
   | (with_reducible exact LeO.none _)
   | (with_reducible refine LeO.ite ?_ ?_)
   | (with_reducible refine LeO.bind ?_ (fun _ => ?_))
   | exact ih0 _ _ _ _ _
   | exact LeO.none _
   | refine LeO.ite ?_ ?_
   | refine LeO.bind ?_ (fun _ => ?_)
theorem arrasref6_Cmp.mono : ∀ a0 a1 a2 a3 k, LeO (arrasref6_Cmp.f k a0 a1 a2 a3) (arrasref6_Cmp.f (k + 1) a0 a1 a2 a3) := by
 intro a0 a1 a2 a3 k
 have ih0 := arrasref6_Cmp.mono_l k
 unfold arrasref6_Cmp.f
 repeat' first
   | (with_reducible exact ih0 _ _ _ _ _)
   | (with_reducible exact LeO.refl _)
   | (with_reducible exact LeO.none _)
   | (with_reducible refine LeO.ite ?_ ?_)
   | (with_reducible refine LeO.bind ?_ (fun _ => ?_))
   | exact ih0 _ _ _ _ _
   | exact LeO.none _
   | refine LeO.ite ?_ ?_
   | refine LeO.bind ?_ (fun _ => ?_)
noncomputable def arrasref6_Cmp.J0 (x23 : Bool) (x541000 : Int) (x541001 : Int) (x542000 : Int) (x542001 : Int) : Option (Int) := Go.Proofs.YtpmcojmhkpaoaaaLabel.lim (fun k => arrasref6_Cmp.j0 k x23 x541000 x541001 x542000 x542001)
theorem arrasref6_Cmp.J0_lim (x23 : Bool) (x541000 : Int) (x541001 : Int) (x542000 : Int) (x542001 : Int) : Go.Proofs.YtpmcojmhkpaoaaaLabel.Lim (fun k => arrasref6_Cmp.j0 k x23 x541000 x541001 x542000 x542001) (arrasref6_Cmp.J0 x23 x541000 x541001 x542000 x542001) := Go.Proofs.YtpmcojmhkpaoaaaLabel.lim_spec (fun k => (arrasref6_Cmp.mono_l k) x23 x541000 x541001 x542000 x542001)
theorem arrasref6_Cmp.J0_eq (x23 : Bool) (x541000 : Int) (x541001 : Int) (x542000 : Int) (x542001 : Int) : arrasref6_Cmp.J0 x23 x541000 x541001 x542000 x542001 = (if x23 = true then (some (-1)) else (if (!(x541000 == x542000) || (!(x541001 == x542001))) = true then (some 1) else (some 0))) := by
  refine Go.Proofs.YtpmcojmhkpaoaaaLabel.Lim.unique (arrasref6_Cmp.J0_lim x23 x541000 x541001 x542000 x542001).shift ?_
  simp only [arrasref6_Cmp.j0]
  (repeat' (first | exact Go.Proofs.YtpmcojmhkpaoaaaLabel.Lim.const _ | exact arrasref6_Cmp.J0_lim _ _ _ _ _ | refine Go.Proofs.YtpmcojmhkpaoaaaLabel.Lim.ite ?_ ?_ | refine Go.Proofs.YtpmcojmhkpaoaaaLabel.Lim.bind ?_ (fun _ => ?_)))
noncomputable def arrasref6_Cmp.F (a0_0 : Int) (a0_1 : Int) (a1_0 : Int) (a1_1 : Int) : Option (Int) := Go.Proofs.YtpmcojmhkpaoaaaLabel.lim (fun k => arrasref6_Cmp.f k a0_0 a0_1 a1_0 a1_1)
theorem arrasref6_Cmp.F_lim (a0_0 : Int) (a0_1 : Int) (a1_0 : Int) (a1_1 : Int) : Go.Proofs.YtpmcojmhkpaoaaaLabel.Lim (fun k => arrasref6_Cmp.f k a0_0 a0_1 a1_0 a1_1) (arrasref6_Cmp.F a0_0 a0_1 a1_0 a1_1) := Go.Proofs.YtpmcojmhkpaoaaaLabel.lim_spec (arrasref6_Cmp.mono a0_0 a0_1 a1_0 a1_1)
theorem arrasref6_Cmp.F_eq (a0_0 : Int) (a0_1 : Int) (a1_0 : Int) (a1_1 : Int) : arrasref6_Cmp.F a0_0 a0_1 a1_0 a1_1 = (if a0_0 < a1_0 then (arrasref6_Cmp.J0 true a0_0 a0_1 a1_0 a1_1) else (if a0_0 = a1_0 then (arrasref6_Cmp.J0 (decide (a0_1 < a1_1)) a0_0 a0_1 a1_0 a1_1) else (arrasref6_Cmp.J0 false a0_0 a0_1 a1_0 a1_1))) := by
  refine Go.Proofs.YtpmcojmhkpaoaaaLabel.Lim.unique (arrasref6_Cmp.F_lim a0_0 a0_1 a1_0 a1_1) ?_
  simp only [arrasref6_Cmp.f]
  (repeat' (first | exact Go.Proofs.YtpmcojmhkpaoaaaLabel.Lim.const _ | exact arrasref6_Cmp.J0_lim _ _ _ _ _ | refine Go.Proofs.YtpmcojmhkpaoaaaLabel.Lim.ite ?_ ?_ | refine Go.Proofs.YtpmcojmhkpaoaaaLabel.Lim.bind ?_ (fun _ => ?_)))

/-! #### arraslaw6_StampOrders: function 11 -/
mutual
def arraslaw6_StampOrders.l0 : Nat → List (S70) → Int → Option (Bool)
 | 0, _, _ => none
 | k + 1, x0, x3 => if x3 < (x0.length : Int) then (arraslaw6_StampOrders.j1 k x0 x3 (decide (x3 < 20))) else (arraslaw6_StampOrders.j1 k x0 x3 false)
def arraslaw6_StampOrders.j1 : Nat → List (S70) → Int → Bool → Option (Bool)
 | 0, _, _, _ => none
 | k + 1, x0, x3, x15 => if x15 = true then (if 0 ≤ x3 then (if x3 < (x0.length : Int) then ((stamp_Check.f ((rd_T70 x0 x3).f0.f0) ((rd_T70 x0 x3).f0.f1)).bind fun t547 => ((arraslaw6_num.f t547).bind fun t548 => ((arrasref6_Stamp.f ((rd_T70 x0 x3).f0.f0) ((rd_T70 x0 x3).f0.f1)).bind fun t549 => (if ((t548 == 0) != t549) = true then (arraslaw6_StampOrders.j2 k x0 x3 true ((rd_T70 x0 x3).f0.f0) ((rd_T70 x0 x3).f0.f1) ((rd_T70 x0 x3).f1.f0) ((rd_T70 x0 x3).f1.f1)) else ((stamp_Place.f ((rd_T70 x0 x3).f0.f0) ((rd_T70 x0 x3).f0.f1)).bind fun t550 => ((arrasref6_Place.f ((rd_T70 x0 x3).f0.f0) ((rd_T70 x0 x3).f0.f1)).bind fun t551 => (if (t550 != t551) = true then (arraslaw6_StampOrders.j2 k x0 x3 true ((rd_T70 x0 x3).f0.f0) ((rd_T70 x0 x3).f0.f1) ((rd_T70 x0 x3).f1.f0) ((rd_T70 x0 x3).f1.f1)) else ((stamp_Cmp.f k ((rd_T70 x0 x3).f0.f0) ((rd_T70 x0 x3).f0.f1) ((rd_T70 x0 x3).f1.f0) ((rd_T70 x0 x3).f1.f1)).bind fun t552 => ((arrasref6_Cmp.f k ((rd_T70 x0 x3).f0.f0) ((rd_T70 x0 x3).f0.f1) ((rd_T70 x0 x3).f1.f0) ((rd_T70 x0 x3).f1.f1)).bind fun t553 => (if t552 = t553 then ((stamp_Cmp.f k ((rd_T70 x0 x3).f0.f0) ((rd_T70 x0 x3).f0.f1) ((rd_T70 x0 x3).f1.f0) ((rd_T70 x0 x3).f1.f1)).bind fun t554 => ((stamp_Cmp.f k ((rd_T70 x0 x3).f1.f0) ((rd_T70 x0 x3).f1.f1) ((rd_T70 x0 x3).f0.f0) ((rd_T70 x0 x3).f0.f1)).bind fun t555 => (arraslaw6_StampOrders.j2 k x0 x3 (t554 != (wrap64 (-t555))) ((rd_T70 x0 x3).f0.f0) ((rd_T70 x0 x3).f0.f1) ((rd_T70 x0 x3).f1.f0) ((rd_T70 x0 x3).f1.f1)))) else (arraslaw6_StampOrders.j2 k x0 x3 true ((rd_T70 x0 x3).f0.f0) ((rd_T70 x0 x3).f0.f1) ((rd_T70 x0 x3).f1.f0) ((rd_T70 x0 x3).f1.f1)))))))))))) else (none)) else (none)) else ((arraslaw6_wakes.f k).bind fun t542 => (some t542))
def arraslaw6_StampOrders.j2 : Nat → List (S70) → Int → Bool → Int → Int → Int → Int → Option (Bool)
 | 0, _, _, _, _, _, _, _ => none
 | k + 1, x0, x3, x60, x546000, x546001, x547000, x547001 => if x60 = true then (some false) else (arraslaw6_StampOrders.l1 k x0 x3 0 x546000 x546001 x547000 x547001)
def arraslaw6_StampOrders.l1 : Nat → List (S70) → Int → Int → Int → Int → Int → Int → Option (Bool)
 | 0, _, _, _, _, _, _, _ => none
 | k + 1, x0, x3, x6, x546000, x546001, x547000, x547001 => if x6 < x3 then (if 0 ≤ x6 then (if x6 < (x0.length : Int) then ((stamp_Cmp.f k x546000 x546001 x547000 x547001).bind fun t558 => (if t558 ≤ 0 then ((stamp_Cmp.f k x547000 x547001 ((rd_T70 x0 x6).f0.f0) ((rd_T70 x0 x6).f0.f1)).bind fun t559 => (if t559 ≤ 0 then ((stamp_Cmp.f k x546000 x546001 ((rd_T70 x0 x6).f0.f0) ((rd_T70 x0 x6).f0.f1)).bind fun t560 => (arraslaw6_StampOrders.j4 k x0 x3 x6 (decide (t560 > 0)) x546000 x546001 x547000 x547001)) else (arraslaw6_StampOrders.j4 k x0 x3 x6 false x546000 x546001 x547000 x547001))) else (arraslaw6_StampOrders.j4 k x0 x3 x6 false x546000 x546001 x547000 x547001))) else (none)) else (none)) else (arraslaw6_StampOrders.l0 k x0 (wrap64 (x3 + 1)))
def arraslaw6_StampOrders.j4 : Nat → List (S70) → Int → Int → Bool → Int → Int → Int → Int → Option (Bool)
 | 0, _, _, _, _, _, _, _, _ => none
 | k + 1, x0, x3, x6, x86, x546000, x546001, x547000, x547001 => if x86 = true then (some false) else (arraslaw6_StampOrders.l1 k x0 x3 (wrap64 (x6 + 1)) x546000 x546001 x547000 x547001)
end
def arraslaw6_StampOrders.f (k : Nat) (l0 : List (S70)) : Option (Bool) := arraslaw6_StampOrders.l0 k l0 0
theorem arraslaw6_StampOrders.mono_l : ∀ k, (∀ y0 y1, LeO (arraslaw6_StampOrders.l0 k y0 y1) (arraslaw6_StampOrders.l0 (k + 1) y0 y1)) ∧ (∀ y0 y1 y2, LeO (arraslaw6_StampOrders.j1 k y0 y1 y2) (arraslaw6_StampOrders.j1 (k + 1) y0 y1 y2)) ∧ (∀ y0 y1 y2 y3 y4 y5 y6, LeO (arraslaw6_StampOrders.j2 k y0 y1 y2 y3 y4 y5 y6) (arraslaw6_StampOrders.j2 (k + 1) y0 y1 y2 y3 y4 y5 y6)) ∧ (∀ y0 y1 y2 y3 y4 y5 y6, LeO (arraslaw6_StampOrders.l1 k y0 y1 y2 y3 y4 y5 y6) (arraslaw6_StampOrders.l1 (k + 1) y0 y1 y2 y3 y4 y5 y6)) ∧ (∀ y0 y1 y2 y3 y4 y5 y6 y7, LeO (arraslaw6_StampOrders.j4 k y0 y1 y2 y3 y4 y5 y6 y7) (arraslaw6_StampOrders.j4 (k + 1) y0 y1 y2 y3 y4 y5 y6 y7))
 | 0 => ⟨fun _ _ r h => by simp [arraslaw6_StampOrders.l0] at h, fun _ _ _ r h => by simp [arraslaw6_StampOrders.j1] at h, fun _ _ _ _ _ _ _ r h => by simp [arraslaw6_StampOrders.j2] at h, fun _ _ _ _ _ _ _ r h => by simp [arraslaw6_StampOrders.l1] at h, fun _ _ _ _ _ _ _ _ r h => by simp [arraslaw6_StampOrders.j4] at h⟩
 | k + 1 => by
  obtain ⟨ih0, ih1, ih2, ih3, ih4⟩ := arraslaw6_StampOrders.mono_l k
  refine ⟨?_, ?_, ?_, ?_, ?_⟩
  ·intro y0 y1
   unfold arraslaw6_StampOrders.l0
   repeat' first
   | (with_reducible exact ih0 _ _)
   | (with_reducible exact ih1 _ _ _)
   | (with_reducible exact ih2 _ _ _ _ _ _ _)
   | (with_reducible exact ih3 _ _ _ _ _ _ _)
   | (with_reducible exact ih4 _ _ _ _ _ _ _ _)
   | (with_reducible exact arraslaw6_wakes.mono _)
   | (with_reducible exact arrasref6_Cmp.mono _ _ _ _ _)
   | (with_reducible exact stamp_Cmp.mono _ _ _ _ _)
   | (with_reducible exact LeO.refl _)
   | (with_reducible exact LeO.none _)
   | (with_reducible refine LeO.ite ?_ ?_)
   | (with_reducible refine LeO.bind ?_ (fun _ => ?_))
   | exact ih0 _ _
   | exact ih1 _ _ _
   | exact ih2 _ _ _ _ _ _ _
   | exact ih3 _ _ _ _ _ _ _
   | exact ih4 _ _ _ _ _ _ _ _
   | exact arraslaw6_wakes.mono _
   | exact arrasref6_Cmp.mono _ _ _ _ _
   | exact stamp_Cmp.mono _ _ _ _ _
   | exact LeO.none _
   | refine LeO.ite ?_ ?_
   | refine LeO.bind ?_ (fun _ => ?_)
  ·intro y0 y1 y2
   unfold arraslaw6_StampOrders.j1
   repeat' first
   | (with_reducible exact ih0 _ _)
   | (with_reducible exact ih1 _ _ _)
   | (with_reducible exact ih2 _ _ _ _ _ _ _)
   | (with_reducible exact ih3 _ _ _ _ _ _ _)
   | (with_reducible exact ih4 _ _ _ _ _ _ _ _)
   | (with_reducible exact arraslaw6_wakes.mono _)
   | (with_reducible exact arrasref6_Cmp.mono _ _ _ _ _)
   | (with_reducible exact stamp_Cmp.mono _ _ _ _ _)
   | (with_reducible exact LeO.refl _)
   | (with_reducible exact LeO.none _)
   | (with_reducible refine LeO.ite ?_ ?_)
   | (with_reducible refine LeO.bind ?_ (fun _ => ?_))
   | exact ih0 _ _
   | exact ih1 _ _ _
   | exact ih2 _ _ _ _ _ _ _
   | exact ih3 _ _ _ _ _ _ _
   | exact ih4 _ _ _ _ _ _ _ _
   | exact arraslaw6_wakes.mono _
   | exact arrasref6_Cmp.mono _ _ _ _ _
   | exact stamp_Cmp.mono _ _ _ _ _
   | exact LeO.none _
   | refine LeO.ite ?_ ?_
   | refine LeO.bind ?_ (fun _ => ?_)
  ·intro y0 y1 y2 y3 y4 y5 y6
   unfold arraslaw6_StampOrders.j2
   repeat' first
   | (with_reducible exact ih0 _ _)
   | (with_reducible exact ih1 _ _ _)
   | (with_reducible exact ih2 _ _ _ _ _ _ _)
   | (with_reducible exact ih3 _ _ _ _ _ _ _)
   | (with_reducible exact ih4 _ _ _ _ _ _ _ _)
   | (with_reducible exact arraslaw6_wakes.mono _)
   | (with_reducible exact arrasref6_Cmp.mono _ _ _ _ _)
   | (with_reducible exact stamp_Cmp.mono _ _ _ _ _)
   | (with_reducible exact LeO.refl _)
   | (with_reducible exact LeO.none _)
   | (with_reducible refine LeO.ite ?_ ?_)
   | (with_reducible refine LeO.bind ?_ (fun _ => ?_))
   | exact ih0 _ _
   | exact ih1 _ _ _
   | exact ih2 _ _ _ _ _ _ _
   | exact ih3 _ _ _ _ _ _ _
   | exact ih4 _ _ _ _ _ _ _ _
   | exact arraslaw6_wakes.mono _
   | exact arrasref6_Cmp.mono _ _ _ _ _
   | exact stamp_Cmp.mono _ _ _ _ _
   | exact LeO.none _
   | refine LeO.ite ?_ ?_
   | refine LeO.bind ?_ (fun _ => ?_)
  ·intro y0 y1 y2 y3 y4 y5 y6
   unfold arraslaw6_StampOrders.l1
   repeat' first
   | (with_reducible exact ih0 _ _)
   | (with_reducible exact ih1 _ _ _)
   | (with_reducible exact ih2 _ _ _ _ _ _ _)
   | (with_reducible exact ih3 _ _ _ _ _ _ _)
   | (with_reducible exact ih4 _ _ _ _ _ _ _ _)
   | (with_reducible exact arraslaw6_wakes.mono _)
   | (with_reducible exact arrasref6_Cmp.mono _ _ _ _ _)
   | (with_reducible exact stamp_Cmp.mono _ _ _ _ _)
   | (with_reducible exact LeO.refl _)
   | (with_reducible exact LeO.none _)
   | (with_reducible refine LeO.ite ?_ ?_)
   | (with_reducible refine LeO.bind ?_ (fun _ => ?_))
   | exact ih0 _ _
   | exact ih1 _ _ _
   | exact ih2 _ _ _ _ _ _ _
   | exact ih3 _ _ _ _ _ _ _
   | exact ih4 _ _ _ _ _ _ _ _
   | exact arraslaw6_wakes.mono _
   | exact arrasref6_Cmp.mono _ _ _ _ _
   | exact stamp_Cmp.mono _ _ _ _ _
   | exact LeO.none _
   | refine LeO.ite ?_ ?_
   | refine LeO.bind ?_ (fun _ => ?_)
  ·intro y0 y1 y2 y3 y4 y5 y6 y7
   unfold arraslaw6_StampOrders.j4
   repeat' first
   | (with_reducible exact ih0 _ _)
   | (with_reducible exact ih1 _ _ _)
   | (with_reducible exact ih2 _ _ _ _ _ _ _)
   | (with_reducible exact ih3 _ _ _ _ _ _ _)
   | (with_reducible exact ih4 _ _ _ _ _ _ _ _)
   | (with_reducible exact arraslaw6_wakes.mono _)
   | (with_reducible exact arrasref6_Cmp.mono _ _ _ _ _)
   | (with_reducible exact stamp_Cmp.mono _ _ _ _ _)
   | (with_reducible exact LeO.refl _)
   | (with_reducible exact LeO.none _)
   | (with_reducible refine LeO.ite ?_ ?_)
   | (with_reducible refine LeO.bind ?_ (fun _ => ?_))
   | exact ih0 _ _
   | exact ih1 _ _ _
   | exact ih2 _ _ _ _ _ _ _
   | exact ih3 _ _ _ _ _ _ _
   | exact ih4 _ _ _ _ _ _ _ _
   | exact arraslaw6_wakes.mono _
   | exact arrasref6_Cmp.mono _ _ _ _ _
   | exact stamp_Cmp.mono _ _ _ _ _
   | exact LeO.none _
   | refine LeO.ite ?_ ?_
   | refine LeO.bind ?_ (fun _ => ?_)
theorem arraslaw6_StampOrders.mono : ∀ a0 k, LeO (arraslaw6_StampOrders.f k a0) (arraslaw6_StampOrders.f (k + 1) a0) := by
 intro a0 k
 obtain ⟨ih0, ih1, ih2, ih3, ih4⟩ := arraslaw6_StampOrders.mono_l k
 unfold arraslaw6_StampOrders.f
 repeat' first
   | (with_reducible exact ih0 _ _)
   | (with_reducible exact ih1 _ _ _)
   | (with_reducible exact ih2 _ _ _ _ _ _ _)
   | (with_reducible exact ih3 _ _ _ _ _ _ _)
   | (with_reducible exact ih4 _ _ _ _ _ _ _ _)
   | (with_reducible exact arraslaw6_wakes.mono _)
   | (with_reducible exact arrasref6_Cmp.mono _ _ _ _ _)
   | (with_reducible exact stamp_Cmp.mono _ _ _ _ _)
   | (with_reducible exact LeO.refl _)
   | (with_reducible exact LeO.none _)
   | (with_reducible refine LeO.ite ?_ ?_)
   | (with_reducible refine LeO.bind ?_ (fun _ => ?_))
   | exact ih0 _ _
   | exact ih1 _ _ _
   | exact ih2 _ _ _ _ _ _ _
   | exact ih3 _ _ _ _ _ _ _
   | exact ih4 _ _ _ _ _ _ _ _
   | exact arraslaw6_wakes.mono _
   | exact arrasref6_Cmp.mono _ _ _ _ _
   | exact stamp_Cmp.mono _ _ _ _ _
   | exact LeO.none _
   | refine LeO.ite ?_ ?_
   | refine LeO.bind ?_ (fun _ => ?_)
def arraslaw6_StampOrders.T4 : Bool × List (List Nat × List Nat) := (true, [([], []), ([], []), ([0, 1], [0, 1]), ([2], [2]), ([3], [3]), ([], []), ([], []), ([5, 6], [5, 6]), ([7], [7]), ([8], [8]), ([], []), ([], []), ([10, 4, 0, 1, 2, 3, 4, 10, 11], [4, 10]), ([11, 9, 12, 0, 1, 2, 3, 4, 5, 6, 7, 8, 9, 10, 11, 12], [9, 11])])
def arraslaw6_StampOrders.B4 : List Nat := [0, 0, 3, 7, 15, 0, 0, 96, 224, 480, 0, 0, 3103, 8191]
theorem arraslaw6_StampOrders.tab4 : rtab .any (opsOf Try.f11 4) = arraslaw6_StampOrders.T4 := by kernel_rfl
theorem arraslaw6_StampOrders.bits4 : waitsOk arraslaw6_StampOrders.T4.2 arraslaw6_StampOrders.B4 = true := by kernel_rfl
def arraslaw6_StampOrders.T5 : Bool × List (List Nat × List Nat) := (true, [([], []), ([0], [0]), ([1, 1], [1]), ([2], [2]), ([], []), ([4, 2], [4]), ([3, 5], [3, 5]), ([6, 5], [6]), ([7], [7]), ([8, 7, 7], [7, 8]), ([7], [7]), ([10, 9, 7], [7, 10]), ([9, 11, 7], [7, 9, 11]), ([7, 12], [7, 12]), ([13, 11], [13]), ([14], [14]), ([14], [14]), ([15, 16, 14, 14], [14, 15, 16]), ([14], [14]), ([14], [14]), ([18, 19, 17, 14], [14, 18, 19]), ([17, 20, 14], [14, 17, 20]), ([14, 21], [14, 21]), ([22, 20], [22]), ([23], [23]), ([23], [23]), ([24, 25, 23, 23], [23, 24, 25]), ([23], [23]), ([23], [23]), ([27, 28, 26, 23], [23, 27, 28]), ([29, 23], [23, 29]), ([26, 30, 23], [23, 26, 30]), ([23, 31], [23, 31])])
def arraslaw6_StampOrders.B5 : List Nat := [0, 1, 3, 7, 0, 23, 63, 127, 255, 511, 255, 2047, 4095, 8191, 16383, 32767, 32767, 131071, 32767, 32767, 1048575, 2097151, 4194303, 8388607, 16777215, 16777215, 67108863, 16777215, 16777215, 536870911, 1073741823, 2147483647, 4294967295]
theorem arraslaw6_StampOrders.tab5 : rtab .any (opsOf Try.f11 5) = arraslaw6_StampOrders.T5 := by kernel_rfl
theorem arraslaw6_StampOrders.bits5 : waitsOk arraslaw6_StampOrders.T5.2 arraslaw6_StampOrders.B5 = true := by kernel_rfl
noncomputable def arraslaw6_StampOrders.L0 (x0 : List (S70)) (x3 : Int) : Option (Bool) := Go.Proofs.YtpmcojmhkpaoaaaLabel.lim (fun k => arraslaw6_StampOrders.l0 k x0 x3)
noncomputable def arraslaw6_StampOrders.J1 (x0 : List (S70)) (x3 : Int) (x15 : Bool) : Option (Bool) := Go.Proofs.YtpmcojmhkpaoaaaLabel.lim (fun k => arraslaw6_StampOrders.j1 k x0 x3 x15)
noncomputable def arraslaw6_StampOrders.J2 (x0 : List (S70)) (x3 : Int) (x60 : Bool) (x546000 : Int) (x546001 : Int) (x547000 : Int) (x547001 : Int) : Option (Bool) := Go.Proofs.YtpmcojmhkpaoaaaLabel.lim (fun k => arraslaw6_StampOrders.j2 k x0 x3 x60 x546000 x546001 x547000 x547001)
noncomputable def arraslaw6_StampOrders.L1 (x0 : List (S70)) (x3 : Int) (x6 : Int) (x546000 : Int) (x546001 : Int) (x547000 : Int) (x547001 : Int) : Option (Bool) := Go.Proofs.YtpmcojmhkpaoaaaLabel.lim (fun k => arraslaw6_StampOrders.l1 k x0 x3 x6 x546000 x546001 x547000 x547001)
noncomputable def arraslaw6_StampOrders.J4 (x0 : List (S70)) (x3 : Int) (x6 : Int) (x86 : Bool) (x546000 : Int) (x546001 : Int) (x547000 : Int) (x547001 : Int) : Option (Bool) := Go.Proofs.YtpmcojmhkpaoaaaLabel.lim (fun k => arraslaw6_StampOrders.j4 k x0 x3 x6 x86 x546000 x546001 x547000 x547001)
theorem arraslaw6_StampOrders.L0_lim (x0 : List (S70)) (x3 : Int) : Go.Proofs.YtpmcojmhkpaoaaaLabel.Lim (fun k => arraslaw6_StampOrders.l0 k x0 x3) (arraslaw6_StampOrders.L0 x0 x3) := Go.Proofs.YtpmcojmhkpaoaaaLabel.lim_spec (fun k => (arraslaw6_StampOrders.mono_l k).1 x0 x3)
theorem arraslaw6_StampOrders.J1_lim (x0 : List (S70)) (x3 : Int) (x15 : Bool) : Go.Proofs.YtpmcojmhkpaoaaaLabel.Lim (fun k => arraslaw6_StampOrders.j1 k x0 x3 x15) (arraslaw6_StampOrders.J1 x0 x3 x15) := Go.Proofs.YtpmcojmhkpaoaaaLabel.lim_spec (fun k => (arraslaw6_StampOrders.mono_l k).2.1 x0 x3 x15)
theorem arraslaw6_StampOrders.J2_lim (x0 : List (S70)) (x3 : Int) (x60 : Bool) (x546000 : Int) (x546001 : Int) (x547000 : Int) (x547001 : Int) : Go.Proofs.YtpmcojmhkpaoaaaLabel.Lim (fun k => arraslaw6_StampOrders.j2 k x0 x3 x60 x546000 x546001 x547000 x547001) (arraslaw6_StampOrders.J2 x0 x3 x60 x546000 x546001 x547000 x547001) := Go.Proofs.YtpmcojmhkpaoaaaLabel.lim_spec (fun k => (arraslaw6_StampOrders.mono_l k).2.2.1 x0 x3 x60 x546000 x546001 x547000 x547001)
theorem arraslaw6_StampOrders.L1_lim (x0 : List (S70)) (x3 : Int) (x6 : Int) (x546000 : Int) (x546001 : Int) (x547000 : Int) (x547001 : Int) : Go.Proofs.YtpmcojmhkpaoaaaLabel.Lim (fun k => arraslaw6_StampOrders.l1 k x0 x3 x6 x546000 x546001 x547000 x547001) (arraslaw6_StampOrders.L1 x0 x3 x6 x546000 x546001 x547000 x547001) := Go.Proofs.YtpmcojmhkpaoaaaLabel.lim_spec (fun k => (arraslaw6_StampOrders.mono_l k).2.2.2.1 x0 x3 x6 x546000 x546001 x547000 x547001)
theorem arraslaw6_StampOrders.J4_lim (x0 : List (S70)) (x3 : Int) (x6 : Int) (x86 : Bool) (x546000 : Int) (x546001 : Int) (x547000 : Int) (x547001 : Int) : Go.Proofs.YtpmcojmhkpaoaaaLabel.Lim (fun k => arraslaw6_StampOrders.j4 k x0 x3 x6 x86 x546000 x546001 x547000 x547001) (arraslaw6_StampOrders.J4 x0 x3 x6 x86 x546000 x546001 x547000 x547001) := Go.Proofs.YtpmcojmhkpaoaaaLabel.lim_spec (fun k => (arraslaw6_StampOrders.mono_l k).2.2.2.2 x0 x3 x6 x86 x546000 x546001 x547000 x547001)
theorem arraslaw6_StampOrders.L0_eq (x0 : List (S70)) (x3 : Int) : arraslaw6_StampOrders.L0 x0 x3 = (if x3 < (x0.length : Int) then (arraslaw6_StampOrders.J1 x0 x3 (decide (x3 < 20))) else (arraslaw6_StampOrders.J1 x0 x3 false)) := by
  refine Go.Proofs.YtpmcojmhkpaoaaaLabel.Lim.unique (arraslaw6_StampOrders.L0_lim x0 x3).shift ?_
  simp only [arraslaw6_StampOrders.l0]
  (repeat' (first | exact Go.Proofs.YtpmcojmhkpaoaaaLabel.Lim.const _ | exact arraslaw6_StampOrders.L0_lim _ _ | exact arraslaw6_StampOrders.J1_lim _ _ _ | exact arraslaw6_StampOrders.J2_lim _ _ _ _ _ _ _ | exact arraslaw6_StampOrders.L1_lim _ _ _ _ _ _ _ | exact arraslaw6_StampOrders.J4_lim _ _ _ _ _ _ _ _ | exact arraslaw6_wakes.F_lim | exact arrasref6_Cmp.F_lim _ _ _ _ | exact stamp_Cmp.F_lim _ _ _ _ | refine Go.Proofs.YtpmcojmhkpaoaaaLabel.Lim.ite ?_ ?_ | refine Go.Proofs.YtpmcojmhkpaoaaaLabel.Lim.bind ?_ (fun _ => ?_)))
theorem arraslaw6_StampOrders.J1_eq (x0 : List (S70)) (x3 : Int) (x15 : Bool) : arraslaw6_StampOrders.J1 x0 x3 x15 = (if x15 = true then (if 0 ≤ x3 then (if x3 < (x0.length : Int) then ((stamp_Check.f ((rd_T70 x0 x3).f0.f0) ((rd_T70 x0 x3).f0.f1)).bind fun t547 => ((arraslaw6_num.f t547).bind fun t548 => ((arrasref6_Stamp.f ((rd_T70 x0 x3).f0.f0) ((rd_T70 x0 x3).f0.f1)).bind fun t549 => (if ((t548 == 0) != t549) = true then (arraslaw6_StampOrders.J2 x0 x3 true ((rd_T70 x0 x3).f0.f0) ((rd_T70 x0 x3).f0.f1) ((rd_T70 x0 x3).f1.f0) ((rd_T70 x0 x3).f1.f1)) else ((stamp_Place.f ((rd_T70 x0 x3).f0.f0) ((rd_T70 x0 x3).f0.f1)).bind fun t550 => ((arrasref6_Place.f ((rd_T70 x0 x3).f0.f0) ((rd_T70 x0 x3).f0.f1)).bind fun t551 => (if (t550 != t551) = true then (arraslaw6_StampOrders.J2 x0 x3 true ((rd_T70 x0 x3).f0.f0) ((rd_T70 x0 x3).f0.f1) ((rd_T70 x0 x3).f1.f0) ((rd_T70 x0 x3).f1.f1)) else ((stamp_Cmp.F ((rd_T70 x0 x3).f0.f0) ((rd_T70 x0 x3).f0.f1) ((rd_T70 x0 x3).f1.f0) ((rd_T70 x0 x3).f1.f1)).bind fun t552 => ((arrasref6_Cmp.F ((rd_T70 x0 x3).f0.f0) ((rd_T70 x0 x3).f0.f1) ((rd_T70 x0 x3).f1.f0) ((rd_T70 x0 x3).f1.f1)).bind fun t553 => (if t552 = t553 then ((stamp_Cmp.F ((rd_T70 x0 x3).f0.f0) ((rd_T70 x0 x3).f0.f1) ((rd_T70 x0 x3).f1.f0) ((rd_T70 x0 x3).f1.f1)).bind fun t554 => ((stamp_Cmp.F ((rd_T70 x0 x3).f1.f0) ((rd_T70 x0 x3).f1.f1) ((rd_T70 x0 x3).f0.f0) ((rd_T70 x0 x3).f0.f1)).bind fun t555 => (arraslaw6_StampOrders.J2 x0 x3 (t554 != (wrap64 (-t555))) ((rd_T70 x0 x3).f0.f0) ((rd_T70 x0 x3).f0.f1) ((rd_T70 x0 x3).f1.f0) ((rd_T70 x0 x3).f1.f1)))) else (arraslaw6_StampOrders.J2 x0 x3 true ((rd_T70 x0 x3).f0.f0) ((rd_T70 x0 x3).f0.f1) ((rd_T70 x0 x3).f1.f0) ((rd_T70 x0 x3).f1.f1)))))))))))) else (none)) else (none)) else ((arraslaw6_wakes.F).bind fun t542 => (some t542))) := by
  refine Go.Proofs.YtpmcojmhkpaoaaaLabel.Lim.unique (arraslaw6_StampOrders.J1_lim x0 x3 x15).shift ?_
  simp only [arraslaw6_StampOrders.j1]
  (repeat' (first | exact Go.Proofs.YtpmcojmhkpaoaaaLabel.Lim.const _ | exact arraslaw6_StampOrders.L0_lim _ _ | exact arraslaw6_StampOrders.J1_lim _ _ _ | exact arraslaw6_StampOrders.J2_lim _ _ _ _ _ _ _ | exact arraslaw6_StampOrders.L1_lim _ _ _ _ _ _ _ | exact arraslaw6_StampOrders.J4_lim _ _ _ _ _ _ _ _ | exact arraslaw6_wakes.F_lim | exact arrasref6_Cmp.F_lim _ _ _ _ | exact stamp_Cmp.F_lim _ _ _ _ | refine Go.Proofs.YtpmcojmhkpaoaaaLabel.Lim.ite ?_ ?_ | refine Go.Proofs.YtpmcojmhkpaoaaaLabel.Lim.bind ?_ (fun _ => ?_)))
theorem arraslaw6_StampOrders.J2_eq (x0 : List (S70)) (x3 : Int) (x60 : Bool) (x546000 : Int) (x546001 : Int) (x547000 : Int) (x547001 : Int) : arraslaw6_StampOrders.J2 x0 x3 x60 x546000 x546001 x547000 x547001 = (if x60 = true then (some false) else (arraslaw6_StampOrders.L1 x0 x3 0 x546000 x546001 x547000 x547001)) := by
  refine Go.Proofs.YtpmcojmhkpaoaaaLabel.Lim.unique (arraslaw6_StampOrders.J2_lim x0 x3 x60 x546000 x546001 x547000 x547001).shift ?_
  simp only [arraslaw6_StampOrders.j2]
  (repeat' (first | exact Go.Proofs.YtpmcojmhkpaoaaaLabel.Lim.const _ | exact arraslaw6_StampOrders.L0_lim _ _ | exact arraslaw6_StampOrders.J1_lim _ _ _ | exact arraslaw6_StampOrders.J2_lim _ _ _ _ _ _ _ | exact arraslaw6_StampOrders.L1_lim _ _ _ _ _ _ _ | exact arraslaw6_StampOrders.J4_lim _ _ _ _ _ _ _ _ | exact arraslaw6_wakes.F_lim | exact arrasref6_Cmp.F_lim _ _ _ _ | exact stamp_Cmp.F_lim _ _ _ _ | refine Go.Proofs.YtpmcojmhkpaoaaaLabel.Lim.ite ?_ ?_ | refine Go.Proofs.YtpmcojmhkpaoaaaLabel.Lim.bind ?_ (fun _ => ?_)))
theorem arraslaw6_StampOrders.L1_eq (x0 : List (S70)) (x3 : Int) (x6 : Int) (x546000 : Int) (x546001 : Int) (x547000 : Int) (x547001 : Int) : arraslaw6_StampOrders.L1 x0 x3 x6 x546000 x546001 x547000 x547001 = (if x6 < x3 then (if 0 ≤ x6 then (if x6 < (x0.length : Int) then ((stamp_Cmp.F x546000 x546001 x547000 x547001).bind fun t558 => (if t558 ≤ 0 then ((stamp_Cmp.F x547000 x547001 ((rd_T70 x0 x6).f0.f0) ((rd_T70 x0 x6).f0.f1)).bind fun t559 => (if t559 ≤ 0 then ((stamp_Cmp.F x546000 x546001 ((rd_T70 x0 x6).f0.f0) ((rd_T70 x0 x6).f0.f1)).bind fun t560 => (arraslaw6_StampOrders.J4 x0 x3 x6 (decide (t560 > 0)) x546000 x546001 x547000 x547001)) else (arraslaw6_StampOrders.J4 x0 x3 x6 false x546000 x546001 x547000 x547001))) else (arraslaw6_StampOrders.J4 x0 x3 x6 false x546000 x546001 x547000 x547001))) else (none)) else (none)) else (arraslaw6_StampOrders.L0 x0 (wrap64 (x3 + 1)))) := by
  refine Go.Proofs.YtpmcojmhkpaoaaaLabel.Lim.unique (arraslaw6_StampOrders.L1_lim x0 x3 x6 x546000 x546001 x547000 x547001).shift ?_
  simp only [arraslaw6_StampOrders.l1]
  (repeat' (first | exact Go.Proofs.YtpmcojmhkpaoaaaLabel.Lim.const _ | exact arraslaw6_StampOrders.L0_lim _ _ | exact arraslaw6_StampOrders.J1_lim _ _ _ | exact arraslaw6_StampOrders.J2_lim _ _ _ _ _ _ _ | exact arraslaw6_StampOrders.L1_lim _ _ _ _ _ _ _ | exact arraslaw6_StampOrders.J4_lim _ _ _ _ _ _ _ _ | exact arraslaw6_wakes.F_lim | exact arrasref6_Cmp.F_lim _ _ _ _ | exact stamp_Cmp.F_lim _ _ _ _ | refine Go.Proofs.YtpmcojmhkpaoaaaLabel.Lim.ite ?_ ?_ | refine Go.Proofs.YtpmcojmhkpaoaaaLabel.Lim.bind ?_ (fun _ => ?_)))
theorem arraslaw6_StampOrders.J4_eq (x0 : List (S70)) (x3 : Int) (x6 : Int) (x86 : Bool) (x546000 : Int) (x546001 : Int) (x547000 : Int) (x547001 : Int) : arraslaw6_StampOrders.J4 x0 x3 x6 x86 x546000 x546001 x547000 x547001 = (if x86 = true then (some false) else (arraslaw6_StampOrders.L1 x0 x3 (wrap64 (x6 + 1)) x546000 x546001 x547000 x547001)) := by
  refine Go.Proofs.YtpmcojmhkpaoaaaLabel.Lim.unique (arraslaw6_StampOrders.J4_lim x0 x3 x6 x86 x546000 x546001 x547000 x547001).shift ?_
  simp only [arraslaw6_StampOrders.j4]
  (repeat' (first | exact Go.Proofs.YtpmcojmhkpaoaaaLabel.Lim.const _ | exact arraslaw6_StampOrders.L0_lim _ _ | exact arraslaw6_StampOrders.J1_lim _ _ _ | exact arraslaw6_StampOrders.J2_lim _ _ _ _ _ _ _ | exact arraslaw6_StampOrders.L1_lim _ _ _ _ _ _ _ | exact arraslaw6_StampOrders.J4_lim _ _ _ _ _ _ _ _ | exact arraslaw6_wakes.F_lim | exact arrasref6_Cmp.F_lim _ _ _ _ | exact stamp_Cmp.F_lim _ _ _ _ | refine Go.Proofs.YtpmcojmhkpaoaaaLabel.Lim.ite ?_ ?_ | refine Go.Proofs.YtpmcojmhkpaoaaaLabel.Lim.bind ?_ (fun _ => ?_)))
noncomputable def arraslaw6_StampOrders.F (l0 : List (S70)) : Option (Bool) := Go.Proofs.YtpmcojmhkpaoaaaLabel.lim (fun k => arraslaw6_StampOrders.f k l0)
theorem arraslaw6_StampOrders.F_lim (l0 : List (S70)) : Go.Proofs.YtpmcojmhkpaoaaaLabel.Lim (fun k => arraslaw6_StampOrders.f k l0) (arraslaw6_StampOrders.F l0) := Go.Proofs.YtpmcojmhkpaoaaaLabel.lim_spec (arraslaw6_StampOrders.mono l0)
theorem arraslaw6_StampOrders.F_eq (l0 : List (S70)) : arraslaw6_StampOrders.F l0 = (arraslaw6_StampOrders.L0 l0 0) := by
  refine Go.Proofs.YtpmcojmhkpaoaaaLabel.Lim.unique (arraslaw6_StampOrders.F_lim l0) ?_
  simp only [arraslaw6_StampOrders.f]
  (repeat' (first | exact Go.Proofs.YtpmcojmhkpaoaaaLabel.Lim.const _ | exact arraslaw6_StampOrders.L0_lim _ _ | exact arraslaw6_StampOrders.J1_lim _ _ _ | exact arraslaw6_StampOrders.J2_lim _ _ _ _ _ _ _ | exact arraslaw6_StampOrders.L1_lim _ _ _ _ _ _ _ | exact arraslaw6_StampOrders.J4_lim _ _ _ _ _ _ _ _ | exact arraslaw6_wakes.F_lim | exact arrasref6_Cmp.F_lim _ _ _ _ | exact stamp_Cmp.F_lim _ _ _ _ | refine Go.Proofs.YtpmcojmhkpaoaaaLabel.Lim.ite ?_ ?_ | refine Go.Proofs.YtpmcojmhkpaoaaaLabel.Lim.bind ?_ (fun _ => ?_)))

/-! #### arrasref6_Bytes: function 52 -/
def arrasref6_Bytes.f (k : Nat) (a0_0 : Int) (a0_1 : Int) : Option (List Int) := (arrasref5_Num.f k a0_0).bind fun t562 => ((arrasref5_Num.f k a0_1).bind fun t565 => (if t562.length + t565.length < 140737488355328 then (some (t562 ++ t565)) else (none)))
theorem arrasref6_Bytes.mono : ∀ a0 a1 k, LeO (arrasref6_Bytes.f k a0 a1) (arrasref6_Bytes.f (k + 1) a0 a1) := by
 intro a0 a1 k
 unfold arrasref6_Bytes.f
 repeat' first
   | (with_reducible exact arrasref5_Num.mono _ _)
   | (with_reducible exact LeO.refl _)
   | (with_reducible exact LeO.none _)
   | (with_reducible refine LeO.ite ?_ ?_)
   | (with_reducible refine LeO.bind ?_ (fun _ => ?_))
   | exact arrasref5_Num.mono _ _
   | exact LeO.none _
   | refine LeO.ite ?_ ?_
   | refine LeO.bind ?_ (fun _ => ?_)
def arrasref6_Bytes.T1 : Bool × List (List Nat × List Nat) := (true, [([], []), ([0], [0]), ([1], [1]), ([], []), ([3], [3]), ([4, 2], [4]), ([2, 5, 5], [2, 5]), ([6, 6, 0, 1, 2, 3, 4, 5, 6], [6])])
def arrasref6_Bytes.B1 : List Nat := [0, 1, 3, 0, 8, 31, 63, 127]
theorem arrasref6_Bytes.tab1 : rtab .any (opsOf Try.f52 1) = arrasref6_Bytes.T1 := by kernel_rfl
theorem arrasref6_Bytes.bits1 : waitsOk arrasref6_Bytes.T1.2 arrasref6_Bytes.B1 = true := by kernel_rfl
noncomputable def arrasref6_Bytes.F (a0_0 : Int) (a0_1 : Int) : Option (List Int) := Go.Proofs.YtpmcojmhkpaoaaaLabel.lim (fun k => arrasref6_Bytes.f k a0_0 a0_1)
theorem arrasref6_Bytes.F_lim (a0_0 : Int) (a0_1 : Int) : Go.Proofs.YtpmcojmhkpaoaaaLabel.Lim (fun k => arrasref6_Bytes.f k a0_0 a0_1) (arrasref6_Bytes.F a0_0 a0_1) := Go.Proofs.YtpmcojmhkpaoaaaLabel.lim_spec (arrasref6_Bytes.mono a0_0 a0_1)
theorem arrasref6_Bytes.F_eq (a0_0 : Int) (a0_1 : Int) : arrasref6_Bytes.F a0_0 a0_1 = ((arrasref5_Num.F a0_0).bind fun t562 => ((arrasref5_Num.F a0_1).bind fun t565 => (if t562.length + t565.length < 140737488355328 then (some (t562 ++ t565)) else (none)))) := by
  refine Go.Proofs.YtpmcojmhkpaoaaaLabel.Lim.unique (arrasref6_Bytes.F_lim a0_0 a0_1) ?_
  simp only [arrasref6_Bytes.f]
  (repeat' (first | exact Go.Proofs.YtpmcojmhkpaoaaaLabel.Lim.const _ | exact arrasref5_Num.F_lim _ | refine Go.Proofs.YtpmcojmhkpaoaaaLabel.Lim.ite ?_ ?_ | refine Go.Proofs.YtpmcojmhkpaoaaaLabel.Lim.bind ?_ (fun _ => ?_)))

/-! #### stamp_Put: function 81 -/
def stamp_Put.f (k : Nat) (l0 : List Int) (a1_0 : Int) (a1_1 : Int) : Option (List Int) := (code_Put.f k l0 a1_0).bind fun t572 => ((code_Put.f k t572 a1_1).bind fun t575 => (some t575))
theorem stamp_Put.mono : ∀ a0 a1 a2 k, LeO (stamp_Put.f k a0 a1 a2) (stamp_Put.f (k + 1) a0 a1 a2) := by
 intro a0 a1 a2 k
 unfold stamp_Put.f
 repeat' first
   | (with_reducible exact code_Put.mono _ _ _)
   | (with_reducible exact LeO.refl _)
   | (with_reducible exact LeO.none _)
   | (with_reducible refine LeO.ite ?_ ?_)
   | (with_reducible refine LeO.bind ?_ (fun _ => ?_))
   | exact code_Put.mono _ _ _
   | exact LeO.none _
   | refine LeO.ite ?_ ?_
   | refine LeO.bind ?_ (fun _ => ?_)
def stamp_Put.T1 : Bool × List (List Nat × List Nat) := (true, [([], []), ([], []), ([1], [1]), ([0, 2], [0, 2]), ([], []), ([4], [4]), ([3, 5, 3], [3, 5]), ([6, 6, 0, 1, 2, 3, 4, 5, 6], [6])])
def stamp_Put.B1 : List Nat := [0, 0, 2, 7, 0, 16, 63, 127]
theorem stamp_Put.tab1 : rtab .any (opsOf Try.f81 1) = stamp_Put.T1 := by kernel_rfl
theorem stamp_Put.bits1 : waitsOk stamp_Put.T1.2 stamp_Put.B1 = true := by kernel_rfl
noncomputable def stamp_Put.F (l0 : List Int) (a1_0 : Int) (a1_1 : Int) : Option (List Int) := Go.Proofs.YtpmcojmhkpaoaaaLabel.lim (fun k => stamp_Put.f k l0 a1_0 a1_1)
theorem stamp_Put.F_lim (l0 : List Int) (a1_0 : Int) (a1_1 : Int) : Go.Proofs.YtpmcojmhkpaoaaaLabel.Lim (fun k => stamp_Put.f k l0 a1_0 a1_1) (stamp_Put.F l0 a1_0 a1_1) := Go.Proofs.YtpmcojmhkpaoaaaLabel.lim_spec (stamp_Put.mono l0 a1_0 a1_1)
theorem stamp_Put.F_eq (l0 : List Int) (a1_0 : Int) (a1_1 : Int) : stamp_Put.F l0 a1_0 a1_1 = ((code_Put.F l0 a1_0).bind fun t572 => ((code_Put.F t572 a1_1).bind fun t575 => (some t575))) := by
  refine Go.Proofs.YtpmcojmhkpaoaaaLabel.Lim.unique (stamp_Put.F_lim l0 a1_0 a1_1) ?_
  simp only [stamp_Put.f]
  (repeat' (first | exact Go.Proofs.YtpmcojmhkpaoaaaLabel.Lim.const _ | exact code_Put.F_lim _ _ | refine Go.Proofs.YtpmcojmhkpaoaaaLabel.Lim.ite ?_ ?_ | refine Go.Proofs.YtpmcojmhkpaoaaaLabel.Lim.bind ?_ (fun _ => ?_)))

/-! #### stamp_Bytes: function 53 -/
def stamp_Bytes.f (k : Nat) (a0_0 : Int) (a0_1 : Int) : Option (List Int × Int) := (stamp_Place.f a0_0 a0_1).bind fun t579 => (if t579 = true then ((stamp_Put.f k ([] : List Int) a0_0 a0_1).bind fun t580 => (some (t580, 0))) else (some (([] : List Int), 1)))
theorem stamp_Bytes.mono : ∀ a0 a1 k, LeO (stamp_Bytes.f k a0 a1) (stamp_Bytes.f (k + 1) a0 a1) := by
 intro a0 a1 k
 unfold stamp_Bytes.f
 repeat' first
   | (with_reducible exact stamp_Put.mono _ _ _ _)
   | (with_reducible exact LeO.refl _)
   | (with_reducible exact LeO.none _)
   | (with_reducible refine LeO.ite ?_ ?_)
   | (with_reducible refine LeO.bind ?_ (fun _ => ?_))
   | exact stamp_Put.mono _ _ _ _
   | exact LeO.none _
   | refine LeO.ite ?_ ?_
   | refine LeO.bind ?_ (fun _ => ?_)
noncomputable def stamp_Bytes.F (a0_0 : Int) (a0_1 : Int) : Option (List Int × Int) := Go.Proofs.YtpmcojmhkpaoaaaLabel.lim (fun k => stamp_Bytes.f k a0_0 a0_1)
theorem stamp_Bytes.F_lim (a0_0 : Int) (a0_1 : Int) : Go.Proofs.YtpmcojmhkpaoaaaLabel.Lim (fun k => stamp_Bytes.f k a0_0 a0_1) (stamp_Bytes.F a0_0 a0_1) := Go.Proofs.YtpmcojmhkpaoaaaLabel.lim_spec (stamp_Bytes.mono a0_0 a0_1)
theorem stamp_Bytes.F_eq (a0_0 : Int) (a0_1 : Int) : stamp_Bytes.F a0_0 a0_1 = ((stamp_Place.f a0_0 a0_1).bind fun t579 => (if t579 = true then ((stamp_Put.F ([] : List Int) a0_0 a0_1).bind fun t580 => (some (t580, 0))) else (some (([] : List Int), 1)))) := by
  refine Go.Proofs.YtpmcojmhkpaoaaaLabel.Lim.unique (stamp_Bytes.F_lim a0_0 a0_1) ?_
  simp only [stamp_Bytes.f]
  (repeat' (first | exact Go.Proofs.YtpmcojmhkpaoaaaLabel.Lim.const _ | exact stamp_Put.F_lim _ _ _ | refine Go.Proofs.YtpmcojmhkpaoaaaLabel.Lim.ite ?_ ?_ | refine Go.Proofs.YtpmcojmhkpaoaaaLabel.Lim.bind ?_ (fun _ => ?_)))

/-! #### stamp_Take: function 54 -/
def stamp_Take.f (k : Nat) (l0 : List Int) : Option (Int × Int × Int × Int) := (code_TakeNum.f k l0).bind fun bt584 => (if bt584.2.2 = 0 then (if 0 ≤ bt584.2.1 then (if bt584.2.1 ≤ (l0.length : Int) then ((code_TakeNum.f k (l0.drop (bt584.2.1 : Int).toNat)).bind fun bt588 => (if bt588.2.2 = 0 then ((stamp_Place.f bt584.1 bt588.1).bind fun t591 => (if t591 = true then (some (bt584.1, bt588.1, wrap64 (bt584.2.1 + bt588.2.1), 0)) else (some (0, 0, 0, 1)))) else (some (0, 0, 0, bt588.2.2)))) else (none)) else (none)) else (some (0, 0, 0, bt584.2.2)))
theorem stamp_Take.mono : ∀ a0 k, LeO (stamp_Take.f k a0) (stamp_Take.f (k + 1) a0) := by
 intro a0 k
 unfold stamp_Take.f
 repeat' first
   | (with_reducible exact code_TakeNum.mono _ _)
   | (with_reducible exact LeO.refl _)
   | (with_reducible exact LeO.none _)
   | (with_reducible refine LeO.ite ?_ ?_)
   | (with_reducible refine LeO.bind ?_ (fun _ => ?_))
   | exact code_TakeNum.mono _ _
   | exact LeO.none _
   | refine LeO.ite ?_ ?_
   | refine LeO.bind ?_ (fun _ => ?_)
noncomputable def stamp_Take.F (l0 : List Int) : Option (Int × Int × Int × Int) := Go.Proofs.YtpmcojmhkpaoaaaLabel.lim (fun k => stamp_Take.f k l0)
theorem stamp_Take.F_lim (l0 : List Int) : Go.Proofs.YtpmcojmhkpaoaaaLabel.Lim (fun k => stamp_Take.f k l0) (stamp_Take.F l0) := Go.Proofs.YtpmcojmhkpaoaaaLabel.lim_spec (stamp_Take.mono l0)
theorem stamp_Take.F_eq (l0 : List Int) : stamp_Take.F l0 = ((code_TakeNum.F l0).bind fun bt584 => (if bt584.2.2 = 0 then (if 0 ≤ bt584.2.1 then (if bt584.2.1 ≤ (l0.length : Int) then ((code_TakeNum.F (l0.drop (bt584.2.1 : Int).toNat)).bind fun bt588 => (if bt588.2.2 = 0 then ((stamp_Place.f bt584.1 bt588.1).bind fun t591 => (if t591 = true then (some (bt584.1, bt588.1, wrap64 (bt584.2.1 + bt588.2.1), 0)) else (some (0, 0, 0, 1)))) else (some (0, 0, 0, bt588.2.2)))) else (none)) else (none)) else (some (0, 0, 0, bt584.2.2)))) := by
  refine Go.Proofs.YtpmcojmhkpaoaaaLabel.Lim.unique (stamp_Take.F_lim l0) ?_
  simp only [stamp_Take.f]
  (repeat' (first | exact Go.Proofs.YtpmcojmhkpaoaaaLabel.Lim.const _ | exact code_TakeNum.F_lim _ | refine Go.Proofs.YtpmcojmhkpaoaaaLabel.Lim.ite ?_ ?_ | refine Go.Proofs.YtpmcojmhkpaoaaaLabel.Lim.bind ?_ (fun _ => ?_)))

/-! #### arrasref6_Take: function 55 -/
def arrasref6_Take.f (k : Nat) (l0 : List Int) : Option (Int × Int × Int × Int) := (arrasref5_TakeNum.f k l0).bind fun bt593 => (if bt593.2.2 = 0 then (if 0 ≤ bt593.2.1 then (if bt593.2.1 ≤ (l0.length : Int) then ((arrasref5_TakeNum.f k (l0.drop (bt593.2.1 : Int).toNat)).bind fun bt597 => (if bt597.2.2 = 0 then ((arrasref6_Place.f bt593.1 bt597.1).bind fun t601 => (if t601 = true then (some (bt593.1, bt597.1, wrap64 (bt593.2.1 + bt597.2.1), 0)) else (some (0, 0, 0, 1)))) else (some (0, 0, 0, bt597.2.2)))) else (none)) else (none)) else (some (0, 0, 0, bt593.2.2)))
theorem arrasref6_Take.mono : ∀ a0 k, LeO (arrasref6_Take.f k a0) (arrasref6_Take.f (k + 1) a0) := by
 intro a0 k
 unfold arrasref6_Take.f
 repeat' first
   | (with_reducible exact arrasref5_TakeNum.mono _ _)
   | (with_reducible exact LeO.refl _)
   | (with_reducible exact LeO.none _)
   | (with_reducible refine LeO.ite ?_ ?_)
   | (with_reducible refine LeO.bind ?_ (fun _ => ?_))
   | exact arrasref5_TakeNum.mono _ _
   | exact LeO.none _
   | refine LeO.ite ?_ ?_
   | refine LeO.bind ?_ (fun _ => ?_)
noncomputable def arrasref6_Take.F (l0 : List Int) : Option (Int × Int × Int × Int) := Go.Proofs.YtpmcojmhkpaoaaaLabel.lim (fun k => arrasref6_Take.f k l0)
theorem arrasref6_Take.F_lim (l0 : List Int) : Go.Proofs.YtpmcojmhkpaoaaaLabel.Lim (fun k => arrasref6_Take.f k l0) (arrasref6_Take.F l0) := Go.Proofs.YtpmcojmhkpaoaaaLabel.lim_spec (arrasref6_Take.mono l0)
theorem arrasref6_Take.F_eq (l0 : List Int) : arrasref6_Take.F l0 = ((arrasref5_TakeNum.F l0).bind fun bt593 => (if bt593.2.2 = 0 then (if 0 ≤ bt593.2.1 then (if bt593.2.1 ≤ (l0.length : Int) then ((arrasref5_TakeNum.F (l0.drop (bt593.2.1 : Int).toNat)).bind fun bt597 => (if bt597.2.2 = 0 then ((arrasref6_Place.f bt593.1 bt597.1).bind fun t601 => (if t601 = true then (some (bt593.1, bt597.1, wrap64 (bt593.2.1 + bt597.2.1), 0)) else (some (0, 0, 0, 1)))) else (some (0, 0, 0, bt597.2.2)))) else (none)) else (none)) else (some (0, 0, 0, bt593.2.2)))) := by
  refine Go.Proofs.YtpmcojmhkpaoaaaLabel.Lim.unique (arrasref6_Take.F_lim l0) ?_
  simp only [arrasref6_Take.f]
  (repeat' (first | exact Go.Proofs.YtpmcojmhkpaoaaaLabel.Lim.const _ | exact arrasref5_TakeNum.F_lim _ | refine Go.Proofs.YtpmcojmhkpaoaaaLabel.Lim.ite ?_ ?_ | refine Go.Proofs.YtpmcojmhkpaoaaaLabel.Lim.bind ?_ (fun _ => ?_)))

/-! #### arraslaw6_StampBytes: function 12 -/
mutual
def arraslaw6_StampBytes.l0 : Nat → List (S70) → Int → Option (Bool)
 | 0, _, _ => none
 | k + 1, x0, x3 => if x3 < (x0.length : Int) then (arraslaw6_StampBytes.j1 k x0 x3 (decide (x3 < 20))) else (arraslaw6_StampBytes.j1 k x0 x3 false)
def arraslaw6_StampBytes.j1 : Nat → List (S70) → Int → Bool → Option (Bool)
 | 0, _, _, _ => none
 | k + 1, x0, x3, x21 => if x21 = true then (if 0 ≤ x3 then (if x3 < (x0.length : Int) then (if (((rd_T70 x0 x3).f2).length : Int) > 3000 then (some true) else ((arrasref6_Place.f ((rd_T70 x0 x3).f0.f0) ((rd_T70 x0 x3).f0.f1)).bind fun t604 => (if t604 = true then ((arrasref6_Bytes.f k ((rd_T70 x0 x3).f0.f0) ((rd_T70 x0 x3).f0.f1)).bind fun t606 => (arraslaw6_StampBytes.j2 k x0 x3 0 t606)) else (arraslaw6_StampBytes.j2 k x0 x3 1 ([] : List Int))))) else (none)) else (none)) else ((arraslaw0_Within.f 5 3).bind fun t642 => (if t642 = 2 then ((arraslaw6_wakes.f k).bind fun t643 => (some t643)) else (some false)))
def arraslaw6_StampBytes.j2 : Nat → List (S70) → Int → Int → List Int → Option (Bool)
 | 0, _, _, _, _ => none
 | k + 1, x0, x3, x4, x5 => if 0 ≤ x3 then (if x3 < (x0.length : Int) then ((stamp_Bytes.f k ((rd_T70 x0 x3).f0.f0) ((rd_T70 x0 x3).f0.f1)).bind fun bt610 => ((arraslaw6_num.f bt610.2).bind fun t614 => (if t614 = x4 then ((arrasref0_EqBytes.f k bt610.1 x5).bind fun t615 => (arraslaw6_StampBytes.j3 k x0 x3 x4 bt610.1 (!t615))) else (arraslaw6_StampBytes.j3 k x0 x3 x4 bt610.1 true)))) else (none)) else (none)
def arraslaw6_StampBytes.j3 : Nat → List (S70) → Int → Int → List Int → Bool → Option (Bool)
 | 0, _, _, _, _, _ => none
 | k + 1, x0, x3, x4, x6, x61 => if x61 = true then (some false) else (if 0 ≤ x3 then (if x3 < (x0.length : Int) then ((stamp_Take.f k ((rd_T70 x0 x3).f2)).bind fun bt617 => ((arrasref6_Take.f k ((rd_T70 x0 x3).f2)).bind fun bt623 => (if (!(bt617.1 == bt623.1) || (!(bt617.2.1 == bt623.2.1))) = true then (arraslaw6_StampBytes.j4 k x0 x3 x4 x6 true) else (if bt617.2.2.1 = bt623.2.2.1 then ((arraslaw6_num.f bt617.2.2.2).bind fun t628 => (arraslaw6_StampBytes.j4 k x0 x3 x4 x6 (t628 != bt623.2.2.2))) else (arraslaw6_StampBytes.j4 k x0 x3 x4 x6 true))))) else (none)) else (none))
def arraslaw6_StampBytes.j4 : Nat → List (S70) → Int → Int → List Int → Bool → Option (Bool)
 | 0, _, _, _, _, _ => none
 | k + 1, x0, x3, x4, x6, x95 => if x95 = true then (some false) else (if x4 = 0 then ((arrasref0_CopyBytes.f k x6).bind fun t629 => (if 0 ≤ x3 then (if x3 < (x0.length : Int) then (if t629.length + ((rd_T70 x0 x3).f2).length < 140737488355328 then ((stamp_Take.f k (t629 ++ ((rd_T70 x0 x3).f2))).bind fun bt636 => ((arraslaw6_num.f bt636.2.2.2).bind fun t640 => (if t640 = 0 then (if (!(bt636.1 == ((rd_T70 x0 x3).f0.f0)) || (!(bt636.2.1 == ((rd_T70 x0 x3).f0.f1)))) = true then (arraslaw6_StampBytes.j5 k x0 x3 true) else (arraslaw6_StampBytes.j5 k x0 x3 (bt636.2.2.1 != (x6.length : Int)))) else (arraslaw6_StampBytes.j5 k x0 x3 true)))) else (none)) else (none)) else (none))) else (arraslaw6_StampBytes.l0 k x0 (wrap64 (x3 + 1))))
def arraslaw6_StampBytes.j5 : Nat → List (S70) → Int → Bool → Option (Bool)
 | 0, _, _, _ => none
 | k + 1, x0, x3, x128 => if x128 = true then (some false) else (arraslaw6_StampBytes.l0 k x0 (wrap64 (x3 + 1)))
end
def arraslaw6_StampBytes.f (k : Nat) (l0 : List (S70)) : Option (Bool) := arraslaw6_StampBytes.l0 k l0 0
theorem arraslaw6_StampBytes.mono_l : ∀ k, (∀ y0 y1, LeO (arraslaw6_StampBytes.l0 k y0 y1) (arraslaw6_StampBytes.l0 (k + 1) y0 y1)) ∧ (∀ y0 y1 y2, LeO (arraslaw6_StampBytes.j1 k y0 y1 y2) (arraslaw6_StampBytes.j1 (k + 1) y0 y1 y2)) ∧ (∀ y0 y1 y2 y3, LeO (arraslaw6_StampBytes.j2 k y0 y1 y2 y3) (arraslaw6_StampBytes.j2 (k + 1) y0 y1 y2 y3)) ∧ (∀ y0 y1 y2 y3 y4, LeO (arraslaw6_StampBytes.j3 k y0 y1 y2 y3 y4) (arraslaw6_StampBytes.j3 (k + 1) y0 y1 y2 y3 y4)) ∧ (∀ y0 y1 y2 y3 y4, LeO (arraslaw6_StampBytes.j4 k y0 y1 y2 y3 y4) (arraslaw6_StampBytes.j4 (k + 1) y0 y1 y2 y3 y4)) ∧ (∀ y0 y1 y2, LeO (arraslaw6_StampBytes.j5 k y0 y1 y2) (arraslaw6_StampBytes.j5 (k + 1) y0 y1 y2))
 | 0 => ⟨fun _ _ r h => by simp [arraslaw6_StampBytes.l0] at h, fun _ _ _ r h => by simp [arraslaw6_StampBytes.j1] at h, fun _ _ _ _ r h => by simp [arraslaw6_StampBytes.j2] at h, fun _ _ _ _ _ r h => by simp [arraslaw6_StampBytes.j3] at h, fun _ _ _ _ _ r h => by simp [arraslaw6_StampBytes.j4] at h, fun _ _ _ r h => by simp [arraslaw6_StampBytes.j5] at h⟩
 | k + 1 => by
  obtain ⟨ih0, ih1, ih2, ih3, ih4, ih5⟩ := arraslaw6_StampBytes.mono_l k
  refine ⟨?_, ?_, ?_, ?_, ?_, ?_⟩
  ·intro y0 y1
   unfold arraslaw6_StampBytes.l0
   repeat' first
   | (with_reducible exact ih0 _ _)
   | (with_reducible exact ih1 _ _ _)
   | (with_reducible exact ih2 _ _ _ _)
   | (with_reducible exact ih3 _ _ _ _ _)
   | (with_reducible exact ih4 _ _ _ _ _)
   | (with_reducible exact ih5 _ _ _)
   | (with_reducible exact arraslaw6_wakes.mono _)
   | (with_reducible exact arrasref0_CopyBytes.mono _ _)
   | (with_reducible exact arrasref0_EqBytes.mono _ _ _)
   | (with_reducible exact arrasref6_Bytes.mono _ _ _)
   | (with_reducible exact arrasref6_Take.mono _ _)
   | (with_reducible exact stamp_Bytes.mono _ _ _)
   | (with_reducible exact stamp_Take.mono _ _)
   | (with_reducible exact LeO.refl _)
   | (with_reducible exact LeO.none _)
   | (with_reducible refine LeO.ite ?_ ?_)
   | (with_reducible refine LeO.bind ?_ (fun _ => ?_))
   | exact ih0 _ _
   | exact ih1 _ _ _
   | exact ih2 _ _ _ _
   | exact ih3 _ _ _ _ _
   | exact ih4 _ _ _ _ _
   | exact ih5 _ _ _
   | exact arraslaw6_wakes.mono _
   | exact arrasref0_CopyBytes.mono _ _
   | exact arrasref0_EqBytes.mono _ _ _
   | exact arrasref6_Bytes.mono _ _ _
   | exact arrasref6_Take.mono _ _
   | exact stamp_Bytes.mono _ _ _
   | exact stamp_Take.mono _ _
   | exact LeO.none _
   | refine LeO.ite ?_ ?_
   | refine LeO.bind ?_ (fun _ => ?_)
  ·intro y0 y1 y2
   unfold arraslaw6_StampBytes.j1
   repeat' first
   | (with_reducible exact ih0 _ _)
   | (with_reducible exact ih1 _ _ _)
   | (with_reducible exact ih2 _ _ _ _)
   | (with_reducible exact ih3 _ _ _ _ _)
   | (with_reducible exact ih4 _ _ _ _ _)
   | (with_reducible exact ih5 _ _ _)
   | (with_reducible exact arraslaw6_wakes.mono _)
   | (with_reducible exact arrasref0_CopyBytes.mono _ _)
   | (with_reducible exact arrasref0_EqBytes.mono _ _ _)
   | (with_reducible exact arrasref6_Bytes.mono _ _ _)
   | (with_reducible exact arrasref6_Take.mono _ _)
   | (with_reducible exact stamp_Bytes.mono _ _ _)
   | (with_reducible exact stamp_Take.mono _ _)
   | (with_reducible exact LeO.refl _)
   | (with_reducible exact LeO.none _)
   | (with_reducible refine LeO.ite ?_ ?_)
   | (with_reducible refine LeO.bind ?_ (fun _ => ?_))
   | exact ih0 _ _
   | exact ih1 _ _ _
   | exact ih2 _ _ _ _
   | exact ih3 _ _ _ _ _
   | exact ih4 _ _ _ _ _
   | exact ih5 _ _ _
   | exact arraslaw6_wakes.mono _
   | exact arrasref0_CopyBytes.mono _ _
   | exact arrasref0_EqBytes.mono _ _ _
   | exact arrasref6_Bytes.mono _ _ _
   | exact arrasref6_Take.mono _ _
   | exact stamp_Bytes.mono _ _ _
   | exact stamp_Take.mono _ _
   | exact LeO.none _
   | refine LeO.ite ?_ ?_
   | refine LeO.bind ?_ (fun _ => ?_)
  ·intro y0 y1 y2 y3
   unfold arraslaw6_StampBytes.j2
   repeat' first
   | (with_reducible exact ih0 _ _)
   | (with_reducible exact ih1 _ _ _)
   | (with_reducible exact ih2 _ _ _ _)
   | (with_reducible exact ih3 _ _ _ _ _)
   | (with_reducible exact ih4 _ _ _ _ _)
   | (with_reducible exact ih5 _ _ _)
   | (with_reducible exact arraslaw6_wakes.mono _)
   | (with_reducible exact arrasref0_CopyBytes.mono _ _)
   | (with_reducible exact arrasref0_EqBytes.mono _ _ _)
   | (with_reducible exact arrasref6_Bytes.mono _ _ _)
   | (with_reducible exact arrasref6_Take.mono _ _)
   | (with_reducible exact stamp_Bytes.mono _ _ _)
   | (with_reducible exact stamp_Take.mono _ _)
   | (with_reducible exact LeO.refl _)
   | (with_reducible exact LeO.none _)
   | (with_reducible refine LeO.ite ?_ ?_)
   | (with_reducible refine LeO.bind ?_ (fun _ => ?_))
   | exact ih0 _ _
   | exact ih1 _ _ _
   | exact ih2 _ _ _ _
   | exact ih3 _ _ _ _ _
   | exact ih4 _ _ _ _ _
   | exact ih5 _ _ _
   | exact arraslaw6_wakes.mono _
   | exact arrasref0_CopyBytes.mono _ _
   | exact arrasref0_EqBytes.mono _ _ _
   | exact arrasref6_Bytes.mono _ _ _
   | exact arrasref6_Take.mono _ _
   | exact stamp_Bytes.mono _ _ _
   | exact stamp_Take.mono _ _
   | exact LeO.none _
   | refine LeO.ite ?_ ?_
   | refine LeO.bind ?_ (fun _ => ?_)
  ·intro y0 y1 y2 y3 y4
   unfold arraslaw6_StampBytes.j3
   repeat' first
   | (with_reducible exact ih0 _ _)
   | (with_reducible exact ih1 _ _ _)
   | (with_reducible exact ih2 _ _ _ _)
   | (with_reducible exact ih3 _ _ _ _ _)
   | (with_reducible exact ih4 _ _ _ _ _)
   | (with_reducible exact ih5 _ _ _)
   | (with_reducible exact arraslaw6_wakes.mono _)
   | (with_reducible exact arrasref0_CopyBytes.mono _ _)
   | (with_reducible exact arrasref0_EqBytes.mono _ _ _)
   | (with_reducible exact arrasref6_Bytes.mono _ _ _)
   | (with_reducible exact arrasref6_Take.mono _ _)
   | (with_reducible exact stamp_Bytes.mono _ _ _)
   | (with_reducible exact stamp_Take.mono _ _)
   | (with_reducible exact LeO.refl _)
   | (with_reducible exact LeO.none _)
   | (with_reducible refine LeO.ite ?_ ?_)
   | (with_reducible refine LeO.bind ?_ (fun _ => ?_))
   | exact ih0 _ _
   | exact ih1 _ _ _
   | exact ih2 _ _ _ _
   | exact ih3 _ _ _ _ _
   | exact ih4 _ _ _ _ _
   | exact ih5 _ _ _
   | exact arraslaw6_wakes.mono _
   | exact arrasref0_CopyBytes.mono _ _
   | exact arrasref0_EqBytes.mono _ _ _
   | exact arrasref6_Bytes.mono _ _ _
   | exact arrasref6_Take.mono _ _
   | exact stamp_Bytes.mono _ _ _
   | exact stamp_Take.mono _ _
   | exact LeO.none _
   | refine LeO.ite ?_ ?_
   | refine LeO.bind ?_ (fun _ => ?_)
  ·intro y0 y1 y2 y3 y4
   unfold arraslaw6_StampBytes.j4
   repeat' first
   | (with_reducible exact ih0 _ _)
   | (with_reducible exact ih1 _ _ _)
   | (with_reducible exact ih2 _ _ _ _)
   | (with_reducible exact ih3 _ _ _ _ _)
   | (with_reducible exact ih4 _ _ _ _ _)
   | (with_reducible exact ih5 _ _ _)
   | (with_reducible exact arraslaw6_wakes.mono _)
   | (with_reducible exact arrasref0_CopyBytes.mono _ _)
   | (with_reducible exact arrasref0_EqBytes.mono _ _ _)
   | (with_reducible exact arrasref6_Bytes.mono _ _ _)
   | (with_reducible exact arrasref6_Take.mono _ _)
   | (with_reducible exact stamp_Bytes.mono _ _ _)
   | (with_reducible exact stamp_Take.mono _ _)
   | (with_reducible exact LeO.refl _)
   | (with_reducible exact LeO.none _)
   | (with_reducible refine LeO.ite ?_ ?_)
   | (with_reducible refine LeO.bind ?_ (fun _ => ?_))
   | exact ih0 _ _
   | exact ih1 _ _ _
   | exact ih2 _ _ _ _
   | exact ih3 _ _ _ _ _
   | exact ih4 _ _ _ _ _
   | exact ih5 _ _ _
   | exact arraslaw6_wakes.mono _
   | exact arrasref0_CopyBytes.mono _ _
   | exact arrasref0_EqBytes.mono _ _ _
   | exact arrasref6_Bytes.mono _ _ _
   | exact arrasref6_Take.mono _ _
   | exact stamp_Bytes.mono _ _ _
   | exact stamp_Take.mono _ _
   | exact LeO.none _
   | refine LeO.ite ?_ ?_
   | refine LeO.bind ?_ (fun _ => ?_)
  ·intro y0 y1 y2
   unfold arraslaw6_StampBytes.j5
   repeat' first
   | (with_reducible exact ih0 _ _)
   | (with_reducible exact ih1 _ _ _)
   | (with_reducible exact ih2 _ _ _ _)
   | (with_reducible exact ih3 _ _ _ _ _)
   | (with_reducible exact ih4 _ _ _ _ _)
   | (with_reducible exact ih5 _ _ _)
   | (with_reducible exact arraslaw6_wakes.mono _)
   | (with_reducible exact arrasref0_CopyBytes.mono _ _)
   | (with_reducible exact arrasref0_EqBytes.mono _ _ _)
   | (with_reducible exact arrasref6_Bytes.mono _ _ _)
   | (with_reducible exact arrasref6_Take.mono _ _)
   | (with_reducible exact stamp_Bytes.mono _ _ _)
   | (with_reducible exact stamp_Take.mono _ _)
   | (with_reducible exact LeO.refl _)
   | (with_reducible exact LeO.none _)
   | (with_reducible refine LeO.ite ?_ ?_)
   | (with_reducible refine LeO.bind ?_ (fun _ => ?_))
   | exact ih0 _ _
   | exact ih1 _ _ _
   | exact ih2 _ _ _ _
   | exact ih3 _ _ _ _ _
   | exact ih4 _ _ _ _ _
   | exact ih5 _ _ _
   | exact arraslaw6_wakes.mono _
   | exact arrasref0_CopyBytes.mono _ _
   | exact arrasref0_EqBytes.mono _ _ _
   | exact arrasref6_Bytes.mono _ _ _
   | exact arrasref6_Take.mono _ _
   | exact stamp_Bytes.mono _ _ _
   | exact stamp_Take.mono _ _
   | exact LeO.none _
   | refine LeO.ite ?_ ?_
   | refine LeO.bind ?_ (fun _ => ?_)
theorem arraslaw6_StampBytes.mono : ∀ a0 k, LeO (arraslaw6_StampBytes.f k a0) (arraslaw6_StampBytes.f (k + 1) a0) := by
 intro a0 k
 obtain ⟨ih0, ih1, ih2, ih3, ih4, ih5⟩ := arraslaw6_StampBytes.mono_l k
 unfold arraslaw6_StampBytes.f
 repeat' first
   | (with_reducible exact ih0 _ _)
   | (with_reducible exact ih1 _ _ _)
   | (with_reducible exact ih2 _ _ _ _)
   | (with_reducible exact ih3 _ _ _ _ _)
   | (with_reducible exact ih4 _ _ _ _ _)
   | (with_reducible exact ih5 _ _ _)
   | (with_reducible exact arraslaw6_wakes.mono _)
   | (with_reducible exact arrasref0_CopyBytes.mono _ _)
   | (with_reducible exact arrasref0_EqBytes.mono _ _ _)
   | (with_reducible exact arrasref6_Bytes.mono _ _ _)
   | (with_reducible exact arrasref6_Take.mono _ _)
   | (with_reducible exact stamp_Bytes.mono _ _ _)
   | (with_reducible exact stamp_Take.mono _ _)
   | (with_reducible exact LeO.refl _)
   | (with_reducible exact LeO.none _)
   | (with_reducible refine LeO.ite ?_ ?_)
   | (with_reducible refine LeO.bind ?_ (fun _ => ?_))
   | exact ih0 _ _
   | exact ih1 _ _ _
   | exact ih2 _ _ _ _
   | exact ih3 _ _ _ _ _
   | exact ih4 _ _ _ _ _
   | exact ih5 _ _ _
   | exact arraslaw6_wakes.mono _
   | exact arrasref0_CopyBytes.mono _ _
   | exact arrasref0_EqBytes.mono _ _ _
   | exact arrasref6_Bytes.mono _ _ _
   | exact arrasref6_Take.mono _ _
   | exact stamp_Bytes.mono _ _ _
   | exact stamp_Take.mono _ _
   | exact LeO.none _
   | refine LeO.ite ?_ ?_
   | refine LeO.bind ?_ (fun _ => ?_)
def arraslaw6_StampBytes.T17 : Bool × List (List Nat × List Nat) := (true, [([], []), ([0], [0]), ([], []), ([], []), ([2, 3], [2, 3]), ([4], [4]), ([5], [5]), ([1, 6, 1], [1, 6]), ([7, 7], [7]), ([8], [8]), ([9], [9]), ([9], [9]), ([9], [9]), ([10, 8, 0, 1, 2, 3, 4, 5, 6, 7, 8, 9, 10], [10]), ([11, 13, 0, 1, 2, 3, 4, 5, 6, 7, 8, 9, 10, 11, 13], [11]), ([12, 14, 0, 1, 2, 3, 4, 5, 6, 7, 8, 9, 10, 11, 12, 13, 14], [12])])
def arraslaw6_StampBytes.B17 : List Nat := [0, 1, 0, 0, 12, 28, 60, 127, 255, 511, 1023, 1023, 1023, 2047, 12287, 32767]
theorem arraslaw6_StampBytes.tab17 : rtab .any (opsOf Try.f12 17) = arraslaw6_StampBytes.T17 := by kernel_rfl
theorem arraslaw6_StampBytes.bits17 : waitsOk arraslaw6_StampBytes.T17.2 arraslaw6_StampBytes.B17 = true := by kernel_rfl
def arraslaw6_StampBytes.T18 : Bool × List (List Nat × List Nat) := (true, [([], []), ([0], [0]), ([1], [1]), ([2, 1], [2]), ([3], [3]), ([3], [3]), ([3], [3]), ([5, 6, 3], [3, 5, 6]), ([7, 3], [3, 7]), ([8, 3], [3, 8]), ([4, 9, 3], [3, 4, 9]), ([3, 10], [3, 10]), ([11, 3], [11]), ([12], [12]), ([12], [12]), ([14, 12], [12, 14]), ([13, 15, 12], [12, 13, 15]), ([12, 16], [12, 16])])
def arraslaw6_StampBytes.B18 : List Nat := [0, 1, 3, 7, 15, 15, 15, 111, 239, 495, 1023, 2047, 4095, 8191, 8191, 24575, 65535, 131071]
theorem arraslaw6_StampBytes.tab18 : rtab .any (opsOf Try.f12 18) = arraslaw6_StampBytes.T18 := by kernel_rfl
theorem arraslaw6_StampBytes.bits18 : waitsOk arraslaw6_StampBytes.T18.2 arraslaw6_StampBytes.B18 = true := by kernel_rfl
noncomputable def arraslaw6_StampBytes.L0 (x0 : List (S70)) (x3 : Int) : Option (Bool) := Go.Proofs.YtpmcojmhkpaoaaaLabel.lim (fun k => arraslaw6_StampBytes.l0 k x0 x3)
noncomputable def arraslaw6_StampBytes.J1 (x0 : List (S70)) (x3 : Int) (x21 : Bool) : Option (Bool) := Go.Proofs.YtpmcojmhkpaoaaaLabel.lim (fun k => arraslaw6_StampBytes.j1 k x0 x3 x21)
noncomputable def arraslaw6_StampBytes.J2 (x0 : List (S70)) (x3 : Int) (x4 : Int) (x5 : List Int) : Option (Bool) := Go.Proofs.YtpmcojmhkpaoaaaLabel.lim (fun k => arraslaw6_StampBytes.j2 k x0 x3 x4 x5)
noncomputable def arraslaw6_StampBytes.J3 (x0 : List (S70)) (x3 : Int) (x4 : Int) (x6 : List Int) (x61 : Bool) : Option (Bool) := Go.Proofs.YtpmcojmhkpaoaaaLabel.lim (fun k => arraslaw6_StampBytes.j3 k x0 x3 x4 x6 x61)
noncomputable def arraslaw6_StampBytes.J4 (x0 : List (S70)) (x3 : Int) (x4 : Int) (x6 : List Int) (x95 : Bool) : Option (Bool) := Go.Proofs.YtpmcojmhkpaoaaaLabel.lim (fun k => arraslaw6_StampBytes.j4 k x0 x3 x4 x6 x95)
noncomputable def arraslaw6_StampBytes.J5 (x0 : List (S70)) (x3 : Int) (x128 : Bool) : Option (Bool) := Go.Proofs.YtpmcojmhkpaoaaaLabel.lim (fun k => arraslaw6_StampBytes.j5 k x0 x3 x128)
theorem arraslaw6_StampBytes.L0_lim (x0 : List (S70)) (x3 : Int) : Go.Proofs.YtpmcojmhkpaoaaaLabel.Lim (fun k => arraslaw6_StampBytes.l0 k x0 x3) (arraslaw6_StampBytes.L0 x0 x3) := Go.Proofs.YtpmcojmhkpaoaaaLabel.lim_spec (fun k => (arraslaw6_StampBytes.mono_l k).1 x0 x3)
theorem arraslaw6_StampBytes.J1_lim (x0 : List (S70)) (x3 : Int) (x21 : Bool) : Go.Proofs.YtpmcojmhkpaoaaaLabel.Lim (fun k => arraslaw6_StampBytes.j1 k x0 x3 x21) (arraslaw6_StampBytes.J1 x0 x3 x21) := Go.Proofs.YtpmcojmhkpaoaaaLabel.lim_spec (fun k => (arraslaw6_StampBytes.mono_l k).2.1 x0 x3 x21)
theorem arraslaw6_StampBytes.J2_lim (x0 : List (S70)) (x3 : Int) (x4 : Int) (x5 : List Int) : Go.Proofs.YtpmcojmhkpaoaaaLabel.Lim (fun k => arraslaw6_StampBytes.j2 k x0 x3 x4 x5) (arraslaw6_StampBytes.J2 x0 x3 x4 x5) := Go.Proofs.YtpmcojmhkpaoaaaLabel.lim_spec (fun k => (arraslaw6_StampBytes.mono_l k).2.2.1 x0 x3 x4 x5)
theorem arraslaw6_StampBytes.J3_lim (x0 : List (S70)) (x3 : Int) (x4 : Int) (x6 : List Int) (x61 : Bool) : Go.Proofs.YtpmcojmhkpaoaaaLabel.Lim (fun k => arraslaw6_StampBytes.j3 k x0 x3 x4 x6 x61) (arraslaw6_StampBytes.J3 x0 x3 x4 x6 x61) := Go.Proofs.YtpmcojmhkpaoaaaLabel.lim_spec (fun k => (arraslaw6_StampBytes.mono_l k).2.2.2.1 x0 x3 x4 x6 x61)
theorem arraslaw6_StampBytes.J4_lim (x0 : List (S70)) (x3 : Int) (x4 : Int) (x6 : List Int) (x95 : Bool) : Go.Proofs.YtpmcojmhkpaoaaaLabel.Lim (fun k => arraslaw6_StampBytes.j4 k x0 x3 x4 x6 x95) (arraslaw6_StampBytes.J4 x0 x3 x4 x6 x95) := Go.Proofs.YtpmcojmhkpaoaaaLabel.lim_spec (fun k => (arraslaw6_StampBytes.mono_l k).2.2.2.2.1 x0 x3 x4 x6 x95)
theorem arraslaw6_StampBytes.J5_lim (x0 : List (S70)) (x3 : Int) (x128 : Bool) : Go.Proofs.YtpmcojmhkpaoaaaLabel.Lim (fun k => arraslaw6_StampBytes.j5 k x0 x3 x128) (arraslaw6_StampBytes.J5 x0 x3 x128) := Go.Proofs.YtpmcojmhkpaoaaaLabel.lim_spec (fun k => (arraslaw6_StampBytes.mono_l k).2.2.2.2.2 x0 x3 x128)
theorem arraslaw6_StampBytes.L0_eq (x0 : List (S70)) (x3 : Int) : arraslaw6_StampBytes.L0 x0 x3 = (if x3 < (x0.length : Int) then (arraslaw6_StampBytes.J1 x0 x3 (decide (x3 < 20))) else (arraslaw6_StampBytes.J1 x0 x3 false)) := by
  refine Go.Proofs.YtpmcojmhkpaoaaaLabel.Lim.unique (arraslaw6_StampBytes.L0_lim x0 x3).shift ?_
  simp only [arraslaw6_StampBytes.l0]
  (repeat' (first | exact Go.Proofs.YtpmcojmhkpaoaaaLabel.Lim.const _ | exact arraslaw6_StampBytes.L0_lim _ _ | exact arraslaw6_StampBytes.J1_lim _ _ _ | exact arraslaw6_StampBytes.J2_lim _ _ _ _ | exact arraslaw6_StampBytes.J3_lim _ _ _ _ _ | exact arraslaw6_StampBytes.J4_lim _ _ _ _ _ | exact arraslaw6_StampBytes.J5_lim _ _ _ | exact arraslaw6_wakes.F_lim | exact arrasref0_CopyBytes.F_lim _ | exact arrasref0_EqBytes.F_lim _ _ | exact arrasref6_Bytes.F_lim _ _ | exact arrasref6_Take.F_lim _ | exact stamp_Bytes.F_lim _ _ | exact stamp_Take.F_lim _ | refine Go.Proofs.YtpmcojmhkpaoaaaLabel.Lim.ite ?_ ?_ | refine Go.Proofs.YtpmcojmhkpaoaaaLabel.Lim.bind ?_ (fun _ => ?_)))
theorem arraslaw6_StampBytes.J1_eq (x0 : List (S70)) (x3 : Int) (x21 : Bool) : arraslaw6_StampBytes.J1 x0 x3 x21 = (if x21 = true then (if 0 ≤ x3 then (if x3 < (x0.length : Int) then (if (((rd_T70 x0 x3).f2).length : Int) > 3000 then (some true) else ((arrasref6_Place.f ((rd_T70 x0 x3).f0.f0) ((rd_T70 x0 x3).f0.f1)).bind fun t604 => (if t604 = true then ((arrasref6_Bytes.F ((rd_T70 x0 x3).f0.f0) ((rd_T70 x0 x3).f0.f1)).bind fun t606 => (arraslaw6_StampBytes.J2 x0 x3 0 t606)) else (arraslaw6_StampBytes.J2 x0 x3 1 ([] : List Int))))) else (none)) else (none)) else ((arraslaw0_Within.f 5 3).bind fun t642 => (if t642 = 2 then ((arraslaw6_wakes.F).bind fun t643 => (some t643)) else (some false)))) := by
  refine Go.Proofs.YtpmcojmhkpaoaaaLabel.Lim.unique (arraslaw6_StampBytes.J1_lim x0 x3 x21).shift ?_
  simp only [arraslaw6_StampBytes.j1]
  (repeat' (first | exact Go.Proofs.YtpmcojmhkpaoaaaLabel.Lim.const _ | exact arraslaw6_StampBytes.L0_lim _ _ | exact arraslaw6_StampBytes.J1_lim _ _ _ | exact arraslaw6_StampBytes.J2_lim _ _ _ _ | exact arraslaw6_StampBytes.J3_lim _ _ _ _ _ | exact arraslaw6_StampBytes.J4_lim _ _ _ _ _ | exact arraslaw6_StampBytes.J5_lim _ _ _ | exact arraslaw6_wakes.F_lim | exact arrasref0_CopyBytes.F_lim _ | exact arrasref0_EqBytes.F_lim _ _ | exact arrasref6_Bytes.F_lim _ _ | exact arrasref6_Take.F_lim _ | exact stamp_Bytes.F_lim _ _ | exact stamp_Take.F_lim _ | refine Go.Proofs.YtpmcojmhkpaoaaaLabel.Lim.ite ?_ ?_ | refine Go.Proofs.YtpmcojmhkpaoaaaLabel.Lim.bind ?_ (fun _ => ?_)))
theorem arraslaw6_StampBytes.J2_eq (x0 : List (S70)) (x3 : Int) (x4 : Int) (x5 : List Int) : arraslaw6_StampBytes.J2 x0 x3 x4 x5 = (if 0 ≤ x3 then (if x3 < (x0.length : Int) then ((stamp_Bytes.F ((rd_T70 x0 x3).f0.f0) ((rd_T70 x0 x3).f0.f1)).bind fun bt610 => ((arraslaw6_num.f bt610.2).bind fun t614 => (if t614 = x4 then ((arrasref0_EqBytes.F bt610.1 x5).bind fun t615 => (arraslaw6_StampBytes.J3 x0 x3 x4 bt610.1 (!t615))) else (arraslaw6_StampBytes.J3 x0 x3 x4 bt610.1 true)))) else (none)) else (none)) := by
  refine Go.Proofs.YtpmcojmhkpaoaaaLabel.Lim.unique (arraslaw6_StampBytes.J2_lim x0 x3 x4 x5).shift ?_
  simp only [arraslaw6_StampBytes.j2]
  (repeat' (first | exact Go.Proofs.YtpmcojmhkpaoaaaLabel.Lim.const _ | exact arraslaw6_StampBytes.L0_lim _ _ | exact arraslaw6_StampBytes.J1_lim _ _ _ | exact arraslaw6_StampBytes.J2_lim _ _ _ _ | exact arraslaw6_StampBytes.J3_lim _ _ _ _ _ | exact arraslaw6_StampBytes.J4_lim _ _ _ _ _ | exact arraslaw6_StampBytes.J5_lim _ _ _ | exact arraslaw6_wakes.F_lim | exact arrasref0_CopyBytes.F_lim _ | exact arrasref0_EqBytes.F_lim _ _ | exact arrasref6_Bytes.F_lim _ _ | exact arrasref6_Take.F_lim _ | exact stamp_Bytes.F_lim _ _ | exact stamp_Take.F_lim _ | refine Go.Proofs.YtpmcojmhkpaoaaaLabel.Lim.ite ?_ ?_ | refine Go.Proofs.YtpmcojmhkpaoaaaLabel.Lim.bind ?_ (fun _ => ?_)))
theorem arraslaw6_StampBytes.J3_eq (x0 : List (S70)) (x3 : Int) (x4 : Int) (x6 : List Int) (x61 : Bool) : arraslaw6_StampBytes.J3 x0 x3 x4 x6 x61 = (if x61 = true then (some false) else (if 0 ≤ x3 then (if x3 < (x0.length : Int) then ((stamp_Take.F ((rd_T70 x0 x3).f2)).bind fun bt617 => ((arrasref6_Take.F ((rd_T70 x0 x3).f2)).bind fun bt623 => (if (!(bt617.1 == bt623.1) || (!(bt617.2.1 == bt623.2.1))) = true then (arraslaw6_StampBytes.J4 x0 x3 x4 x6 true) else (if bt617.2.2.1 = bt623.2.2.1 then ((arraslaw6_num.f bt617.2.2.2).bind fun t628 => (arraslaw6_StampBytes.J4 x0 x3 x4 x6 (t628 != bt623.2.2.2))) else (arraslaw6_StampBytes.J4 x0 x3 x4 x6 true))))) else (none)) else (none))) := by
  refine Go.Proofs.YtpmcojmhkpaoaaaLabel.Lim.unique (arraslaw6_StampBytes.J3_lim x0 x3 x4 x6 x61).shift ?_
  simp only [arraslaw6_StampBytes.j3]
  (repeat' (first | exact Go.Proofs.YtpmcojmhkpaoaaaLabel.Lim.const _ | exact arraslaw6_StampBytes.L0_lim _ _ | exact arraslaw6_StampBytes.J1_lim _ _ _ | exact arraslaw6_StampBytes.J2_lim _ _ _ _ | exact arraslaw6_StampBytes.J3_lim _ _ _ _ _ | exact arraslaw6_StampBytes.J4_lim _ _ _ _ _ | exact arraslaw6_StampBytes.J5_lim _ _ _ | exact arraslaw6_wakes.F_lim | exact arrasref0_CopyBytes.F_lim _ | exact arrasref0_EqBytes.F_lim _ _ | exact arrasref6_Bytes.F_lim _ _ | exact arrasref6_Take.F_lim _ | exact stamp_Bytes.F_lim _ _ | exact stamp_Take.F_lim _ | refine Go.Proofs.YtpmcojmhkpaoaaaLabel.Lim.ite ?_ ?_ | refine Go.Proofs.YtpmcojmhkpaoaaaLabel.Lim.bind ?_ (fun _ => ?_)))
theorem arraslaw6_StampBytes.J4_eq (x0 : List (S70)) (x3 : Int) (x4 : Int) (x6 : List Int) (x95 : Bool) : arraslaw6_StampBytes.J4 x0 x3 x4 x6 x95 = (if x95 = true then (some false) else (if x4 = 0 then ((arrasref0_CopyBytes.F x6).bind fun t629 => (if 0 ≤ x3 then (if x3 < (x0.length : Int) then (if t629.length + ((rd_T70 x0 x3).f2).length < 140737488355328 then ((stamp_Take.F (t629 ++ ((rd_T70 x0 x3).f2))).bind fun bt636 => ((arraslaw6_num.f bt636.2.2.2).bind fun t640 => (if t640 = 0 then (if (!(bt636.1 == ((rd_T70 x0 x3).f0.f0)) || (!(bt636.2.1 == ((rd_T70 x0 x3).f0.f1)))) = true then (arraslaw6_StampBytes.J5 x0 x3 true) else (arraslaw6_StampBytes.J5 x0 x3 (bt636.2.2.1 != (x6.length : Int)))) else (arraslaw6_StampBytes.J5 x0 x3 true)))) else (none)) else (none)) else (none))) else (arraslaw6_StampBytes.L0 x0 (wrap64 (x3 + 1))))) := by
  refine Go.Proofs.YtpmcojmhkpaoaaaLabel.Lim.unique (arraslaw6_StampBytes.J4_lim x0 x3 x4 x6 x95).shift ?_
  simp only [arraslaw6_StampBytes.j4]
  (repeat' (first | exact Go.Proofs.YtpmcojmhkpaoaaaLabel.Lim.const _ | exact arraslaw6_StampBytes.L0_lim _ _ | exact arraslaw6_StampBytes.J1_lim _ _ _ | exact arraslaw6_StampBytes.J2_lim _ _ _ _ | exact arraslaw6_StampBytes.J3_lim _ _ _ _ _ | exact arraslaw6_StampBytes.J4_lim _ _ _ _ _ | exact arraslaw6_StampBytes.J5_lim _ _ _ | exact arraslaw6_wakes.F_lim | exact arrasref0_CopyBytes.F_lim _ | exact arrasref0_EqBytes.F_lim _ _ | exact arrasref6_Bytes.F_lim _ _ | exact arrasref6_Take.F_lim _ | exact stamp_Bytes.F_lim _ _ | exact stamp_Take.F_lim _ | refine Go.Proofs.YtpmcojmhkpaoaaaLabel.Lim.ite ?_ ?_ | refine Go.Proofs.YtpmcojmhkpaoaaaLabel.Lim.bind ?_ (fun _ => ?_)))
theorem arraslaw6_StampBytes.J5_eq (x0 : List (S70)) (x3 : Int) (x128 : Bool) : arraslaw6_StampBytes.J5 x0 x3 x128 = (if x128 = true then (some false) else (arraslaw6_StampBytes.L0 x0 (wrap64 (x3 + 1)))) := by
  refine Go.Proofs.YtpmcojmhkpaoaaaLabel.Lim.unique (arraslaw6_StampBytes.J5_lim x0 x3 x128).shift ?_
  simp only [arraslaw6_StampBytes.j5]
  (repeat' (first | exact Go.Proofs.YtpmcojmhkpaoaaaLabel.Lim.const _ | exact arraslaw6_StampBytes.L0_lim _ _ | exact arraslaw6_StampBytes.J1_lim _ _ _ | exact arraslaw6_StampBytes.J2_lim _ _ _ _ | exact arraslaw6_StampBytes.J3_lim _ _ _ _ _ | exact arraslaw6_StampBytes.J4_lim _ _ _ _ _ | exact arraslaw6_StampBytes.J5_lim _ _ _ | exact arraslaw6_wakes.F_lim | exact arrasref0_CopyBytes.F_lim _ | exact arrasref0_EqBytes.F_lim _ _ | exact arrasref6_Bytes.F_lim _ _ | exact arrasref6_Take.F_lim _ | exact stamp_Bytes.F_lim _ _ | exact stamp_Take.F_lim _ | refine Go.Proofs.YtpmcojmhkpaoaaaLabel.Lim.ite ?_ ?_ | refine Go.Proofs.YtpmcojmhkpaoaaaLabel.Lim.bind ?_ (fun _ => ?_)))
noncomputable def arraslaw6_StampBytes.F (l0 : List (S70)) : Option (Bool) := Go.Proofs.YtpmcojmhkpaoaaaLabel.lim (fun k => arraslaw6_StampBytes.f k l0)
theorem arraslaw6_StampBytes.F_lim (l0 : List (S70)) : Go.Proofs.YtpmcojmhkpaoaaaLabel.Lim (fun k => arraslaw6_StampBytes.f k l0) (arraslaw6_StampBytes.F l0) := Go.Proofs.YtpmcojmhkpaoaaaLabel.lim_spec (arraslaw6_StampBytes.mono l0)
theorem arraslaw6_StampBytes.F_eq (l0 : List (S70)) : arraslaw6_StampBytes.F l0 = (arraslaw6_StampBytes.L0 l0 0) := by
  refine Go.Proofs.YtpmcojmhkpaoaaaLabel.Lim.unique (arraslaw6_StampBytes.F_lim l0) ?_
  simp only [arraslaw6_StampBytes.f]
  (repeat' (first | exact Go.Proofs.YtpmcojmhkpaoaaaLabel.Lim.const _ | exact arraslaw6_StampBytes.L0_lim _ _ | exact arraslaw6_StampBytes.J1_lim _ _ _ | exact arraslaw6_StampBytes.J2_lim _ _ _ _ | exact arraslaw6_StampBytes.J3_lim _ _ _ _ _ | exact arraslaw6_StampBytes.J4_lim _ _ _ _ _ | exact arraslaw6_StampBytes.J5_lim _ _ _ | exact arraslaw6_wakes.F_lim | exact arrasref0_CopyBytes.F_lim _ | exact arrasref0_EqBytes.F_lim _ _ | exact arrasref6_Bytes.F_lim _ _ | exact arrasref6_Take.F_lim _ | exact stamp_Bytes.F_lim _ _ | exact stamp_Take.F_lim _ | refine Go.Proofs.YtpmcojmhkpaoaaaLabel.Lim.ite ?_ ?_ | refine Go.Proofs.YtpmcojmhkpaoaaaLabel.Lim.bind ?_ (fun _ => ?_)))

/-! #### arraslaw7_heavy: function 56 -/
def arraslaw7_heavy.f (l0_0 : List Int) (l0_1 : List Int) (l0_2 : List Int) : Option (Bool) := if (wrap64 ((l0_0.length : Int) + (l0_1.length : Int))) > 2000 then (some true) else (some (decide ((l0_2.length : Int) > 3000)))

/-! #### arrasref6_Vector: function 65 -/
def arrasref6_Vector.l0 : Nat → List Int → Int → Option (Bool)
 | 0, _, _ => none
 | k + 1, x0, x3 => if x3 < (x0.length : Int) then (if 0 ≤ x3 then ((arrasref0_Num.f (rd x0 x3) 1099511627776).bind fun t646 => (if t646 = true then (arrasref6_Vector.l0 k x0 (wrap64 (x3 + 1))) else (some false))) else (none)) else (if (x0.length : Int) ≥ 1 then (some (decide ((x0.length : Int) ≤ 16))) else (some false))
def arrasref6_Vector.f (k : Nat) (l0 : List Int) : Option (Bool) := arrasref6_Vector.l0 k l0 0
theorem arrasref6_Vector.mono_l : ∀ k, (∀ y0 y1, LeO (arrasref6_Vector.l0 k y0 y1) (arrasref6_Vector.l0 (k + 1) y0 y1))
 | 0 => fun _ _ r h => by simp [arrasref6_Vector.l0] at h
 | k + 1 => by
  have ih0 := arrasref6_Vector.mono_l k
  ·intro y0 y1
   unfold arrasref6_Vector.l0
   repeat' first
   | (with_reducible exact ih0 _ _)
   | (with_reducible exact LeO.refl _)
   | (with_reducible exact LeO.none _)
   | (with_reducible refine LeO.ite ?_ ?_)
   | (with_reducible refine LeO.bind ?_ (fun _ => ?_))
   | exact ih0 _ _
   | exact LeO.none _
   | refine LeO.ite ?_ ?_
   | refine LeO.bind ?_ (fun _ => ?_)
theorem arrasref6_Vector.mono : ∀ a0 k, LeO (arrasref6_Vector.f k a0) (arrasref6_Vector.f (k + 1) a0) := by
 intro a0 k
 have ih0 := arrasref6_Vector.mono_l k
 unfold arrasref6_Vector.f
 repeat' first
   | (with_reducible exact ih0 _ _)
   | (with_reducible exact LeO.refl _)
   | (with_reducible exact LeO.none _)
   | (with_reducible refine LeO.ite ?_ ?_)
   | (with_reducible refine LeO.bind ?_ (fun _ => ?_))
   | exact ih0 _ _
   | exact LeO.none _
   | refine LeO.ite ?_ ?_
   | refine LeO.bind ?_ (fun _ => ?_)
noncomputable def arrasref6_Vector.L0 (x0 : List Int) (x3 : Int) : Option (Bool) := Go.Proofs.YtpmcojmhkpaoaaaLabel.lim (fun k => arrasref6_Vector.l0 k x0 x3)
theorem arrasref6_Vector.L0_lim (x0 : List Int) (x3 : Int) : Go.Proofs.YtpmcojmhkpaoaaaLabel.Lim (fun k => arrasref6_Vector.l0 k x0 x3) (arrasref6_Vector.L0 x0 x3) := Go.Proofs.YtpmcojmhkpaoaaaLabel.lim_spec (fun k => (arrasref6_Vector.mono_l k) x0 x3)
theorem arrasref6_Vector.L0_eq (x0 : List Int) (x3 : Int) : arrasref6_Vector.L0 x0 x3 = (if x3 < (x0.length : Int) then (if 0 ≤ x3 then ((arrasref0_Num.f (rd x0 x3) 1099511627776).bind fun t646 => (if t646 = true then (arrasref6_Vector.L0 x0 (wrap64 (x3 + 1))) else (some false))) else (none)) else (if (x0.length : Int) ≥ 1 then (some (decide ((x0.length : Int) ≤ 16))) else (some false))) := by
  refine Go.Proofs.YtpmcojmhkpaoaaaLabel.Lim.unique (arrasref6_Vector.L0_lim x0 x3).shift ?_
  simp only [arrasref6_Vector.l0]
  (repeat' (first | exact Go.Proofs.YtpmcojmhkpaoaaaLabel.Lim.const _ | exact arrasref6_Vector.L0_lim _ _ | refine Go.Proofs.YtpmcojmhkpaoaaaLabel.Lim.ite ?_ ?_ | refine Go.Proofs.YtpmcojmhkpaoaaaLabel.Lim.bind ?_ (fun _ => ?_)))
noncomputable def arrasref6_Vector.F (l0 : List Int) : Option (Bool) := Go.Proofs.YtpmcojmhkpaoaaaLabel.lim (fun k => arrasref6_Vector.f k l0)
theorem arrasref6_Vector.F_lim (l0 : List Int) : Go.Proofs.YtpmcojmhkpaoaaaLabel.Lim (fun k => arrasref6_Vector.f k l0) (arrasref6_Vector.F l0) := Go.Proofs.YtpmcojmhkpaoaaaLabel.lim_spec (arrasref6_Vector.mono l0)
theorem arrasref6_Vector.F_eq (l0 : List Int) : arrasref6_Vector.F l0 = (arrasref6_Vector.L0 l0 0) := by
  refine Go.Proofs.YtpmcojmhkpaoaaaLabel.Lim.unique (arrasref6_Vector.F_lim l0) ?_
  simp only [arrasref6_Vector.f]
  (repeat' (first | exact Go.Proofs.YtpmcojmhkpaoaaaLabel.Lim.const _ | exact arrasref6_Vector.L0_lim _ _ | refine Go.Proofs.YtpmcojmhkpaoaaaLabel.Lim.ite ?_ ?_ | refine Go.Proofs.YtpmcojmhkpaoaaaLabel.Lim.bind ?_ (fun _ => ?_)))

/-! #### arrasref6_Pair: function 57 -/
def arrasref6_Pair.f (k : Nat) (l0 : List Int) (l1 : List Int) : Option (Bool) := (arrasref6_Vector.f k l0).bind fun t647 => (if t647 = true then ((arrasref6_Vector.f k l1).bind fun t648 => (if t648 = true then (some ((l0.length : Int) == (l1.length : Int))) else (some false))) else (some false))
theorem arrasref6_Pair.mono : ∀ a0 a1 k, LeO (arrasref6_Pair.f k a0 a1) (arrasref6_Pair.f (k + 1) a0 a1) := by
 intro a0 a1 k
 unfold arrasref6_Pair.f
 repeat' first
   | (with_reducible exact arrasref6_Vector.mono _ _)
   | (with_reducible exact LeO.refl _)
   | (with_reducible exact LeO.none _)
   | (with_reducible refine LeO.ite ?_ ?_)
   | (with_reducible refine LeO.bind ?_ (fun _ => ?_))
   | exact arrasref6_Vector.mono _ _
   | exact LeO.none _
   | refine LeO.ite ?_ ?_
   | refine LeO.bind ?_ (fun _ => ?_)
noncomputable def arrasref6_Pair.F (l0 : List Int) (l1 : List Int) : Option (Bool) := Go.Proofs.YtpmcojmhkpaoaaaLabel.lim (fun k => arrasref6_Pair.f k l0 l1)
theorem arrasref6_Pair.F_lim (l0 : List Int) (l1 : List Int) : Go.Proofs.YtpmcojmhkpaoaaaLabel.Lim (fun k => arrasref6_Pair.f k l0 l1) (arrasref6_Pair.F l0 l1) := Go.Proofs.YtpmcojmhkpaoaaaLabel.lim_spec (arrasref6_Pair.mono l0 l1)
theorem arrasref6_Pair.F_eq (l0 : List Int) (l1 : List Int) : arrasref6_Pair.F l0 l1 = ((arrasref6_Vector.F l0).bind fun t647 => (if t647 = true then ((arrasref6_Vector.F l1).bind fun t648 => (if t648 = true then (some ((l0.length : Int) == (l1.length : Int))) else (some false))) else (some false))) := by
  refine Go.Proofs.YtpmcojmhkpaoaaaLabel.Lim.unique (arrasref6_Pair.F_lim l0 l1) ?_
  simp only [arrasref6_Pair.f]
  (repeat' (first | exact Go.Proofs.YtpmcojmhkpaoaaaLabel.Lim.const _ | exact arrasref6_Vector.F_lim _ | refine Go.Proofs.YtpmcojmhkpaoaaaLabel.Lim.ite ?_ ?_ | refine Go.Proofs.YtpmcojmhkpaoaaaLabel.Lim.bind ?_ (fun _ => ?_)))

/-! #### have_Is: function 84 -/
def have_Is.l0 : Nat → List Int → Int → Option (Bool)
 | 0, _, _ => none
 | k + 1, x0, x3 => if x3 = (x0.length : Int) then (if x3 ≥ 1 then (some (decide (x3 ≤ 16))) else (some false)) else (if 0 ≤ x3 then (if x3 < (x0.length : Int) then (if (rd x0 x3) ≥ 0 then (if (rd x0 x3) ≤ 1099511627776 then (have_Is.l0 k x0 (wrap64 (x3 + 1))) else (some false)) else (some false)) else (none)) else (none))
def have_Is.f (k : Nat) (l0 : List Int) : Option (Bool) := have_Is.l0 k l0 0
theorem have_Is.mono_l : ∀ k, (∀ y0 y1, LeO (have_Is.l0 k y0 y1) (have_Is.l0 (k + 1) y0 y1))
 | 0 => fun _ _ r h => by simp [have_Is.l0] at h
 | k + 1 => by
  have ih0 := have_Is.mono_l k
  ·intro y0 y1
   unfold have_Is.l0
   repeat' first
   | (with_reducible exact ih0 _ _)
   | (with_reducible exact LeO.refl _)
   | (with_reducible exact LeO.none _)
   | (with_reducible refine LeO.ite ?_ ?_)
   | (with_reducible refine LeO.bind ?_ (fun _ => ?_))
   | exact ih0 _ _
   | exact LeO.none _
   | refine LeO.ite ?_ ?_
   | refine LeO.bind ?_ (fun _ => ?_)
theorem have_Is.mono : ∀ a0 k, LeO (have_Is.f k a0) (have_Is.f (k + 1) a0) := by
 intro a0 k
 have ih0 := have_Is.mono_l k
 unfold have_Is.f
 repeat' first
   | (with_reducible exact ih0 _ _)
   | (with_reducible exact LeO.refl _)
   | (with_reducible exact LeO.none _)
   | (with_reducible refine LeO.ite ?_ ?_)
   | (with_reducible refine LeO.bind ?_ (fun _ => ?_))
   | exact ih0 _ _
   | exact LeO.none _
   | refine LeO.ite ?_ ?_
   | refine LeO.bind ?_ (fun _ => ?_)
noncomputable def have_Is.L0 (x0 : List Int) (x3 : Int) : Option (Bool) := Go.Proofs.YtpmcojmhkpaoaaaLabel.lim (fun k => have_Is.l0 k x0 x3)
theorem have_Is.L0_lim (x0 : List Int) (x3 : Int) : Go.Proofs.YtpmcojmhkpaoaaaLabel.Lim (fun k => have_Is.l0 k x0 x3) (have_Is.L0 x0 x3) := Go.Proofs.YtpmcojmhkpaoaaaLabel.lim_spec (fun k => (have_Is.mono_l k) x0 x3)
theorem have_Is.L0_eq (x0 : List Int) (x3 : Int) : have_Is.L0 x0 x3 = (if x3 = (x0.length : Int) then (if x3 ≥ 1 then (some (decide (x3 ≤ 16))) else (some false)) else (if 0 ≤ x3 then (if x3 < (x0.length : Int) then (if (rd x0 x3) ≥ 0 then (if (rd x0 x3) ≤ 1099511627776 then (have_Is.L0 x0 (wrap64 (x3 + 1))) else (some false)) else (some false)) else (none)) else (none))) := by
  refine Go.Proofs.YtpmcojmhkpaoaaaLabel.Lim.unique (have_Is.L0_lim x0 x3).shift ?_
  simp only [have_Is.l0]
  (repeat' (first | exact Go.Proofs.YtpmcojmhkpaoaaaLabel.Lim.const _ | exact have_Is.L0_lim _ _ | refine Go.Proofs.YtpmcojmhkpaoaaaLabel.Lim.ite ?_ ?_ | refine Go.Proofs.YtpmcojmhkpaoaaaLabel.Lim.bind ?_ (fun _ => ?_)))
noncomputable def have_Is.F (l0 : List Int) : Option (Bool) := Go.Proofs.YtpmcojmhkpaoaaaLabel.lim (fun k => have_Is.f k l0)
theorem have_Is.F_lim (l0 : List Int) : Go.Proofs.YtpmcojmhkpaoaaaLabel.Lim (fun k => have_Is.f k l0) (have_Is.F l0) := Go.Proofs.YtpmcojmhkpaoaaaLabel.lim_spec (have_Is.mono l0)
theorem have_Is.F_eq (l0 : List Int) : have_Is.F l0 = (have_Is.L0 l0 0) := by
  refine Go.Proofs.YtpmcojmhkpaoaaaLabel.Lim.unique (have_Is.F_lim l0) ?_
  simp only [have_Is.f]
  (repeat' (first | exact Go.Proofs.YtpmcojmhkpaoaaaLabel.Lim.const _ | exact have_Is.L0_lim _ _ | refine Go.Proofs.YtpmcojmhkpaoaaaLabel.Lim.ite ?_ ?_ | refine Go.Proofs.YtpmcojmhkpaoaaaLabel.Lim.bind ?_ (fun _ => ?_)))

/-! #### have_together: function 82 -/
def have_together.f (k : Nat) (l0 : List Int) (l1 : List Int) : Option (Bool) := (have_Is.f k l0).bind fun t651 => (if t651 = true then ((have_Is.f k l1).bind fun t652 => (if t652 = true then (some ((l0.length : Int) == (l1.length : Int))) else (some false))) else (some false))
theorem have_together.mono : ∀ a0 a1 k, LeO (have_together.f k a0 a1) (have_together.f (k + 1) a0 a1) := by
 intro a0 a1 k
 unfold have_together.f
 repeat' first
   | (with_reducible exact have_Is.mono _ _)
   | (with_reducible exact LeO.refl _)
   | (with_reducible exact LeO.none _)
   | (with_reducible refine LeO.ite ?_ ?_)
   | (with_reducible refine LeO.bind ?_ (fun _ => ?_))
   | exact have_Is.mono _ _
   | exact LeO.none _
   | refine LeO.ite ?_ ?_
   | refine LeO.bind ?_ (fun _ => ?_)
noncomputable def have_together.F (l0 : List Int) (l1 : List Int) : Option (Bool) := Go.Proofs.YtpmcojmhkpaoaaaLabel.lim (fun k => have_together.f k l0 l1)
theorem have_together.F_lim (l0 : List Int) (l1 : List Int) : Go.Proofs.YtpmcojmhkpaoaaaLabel.Lim (fun k => have_together.f k l0 l1) (have_together.F l0 l1) := Go.Proofs.YtpmcojmhkpaoaaaLabel.lim_spec (have_together.mono l0 l1)
theorem have_together.F_eq (l0 : List Int) (l1 : List Int) : have_together.F l0 l1 = ((have_Is.F l0).bind fun t651 => (if t651 = true then ((have_Is.F l1).bind fun t652 => (if t652 = true then (some ((l0.length : Int) == (l1.length : Int))) else (some false))) else (some false))) := by
  refine Go.Proofs.YtpmcojmhkpaoaaaLabel.Lim.unique (have_together.F_lim l0 l1) ?_
  simp only [have_together.f]
  (repeat' (first | exact Go.Proofs.YtpmcojmhkpaoaaaLabel.Lim.const _ | exact have_Is.F_lim _ | refine Go.Proofs.YtpmcojmhkpaoaaaLabel.Lim.ite ?_ ?_ | refine Go.Proofs.YtpmcojmhkpaoaaaLabel.Lim.bind ?_ (fun _ => ?_)))

/-! #### have_Join: function 58 -/
def have_Join.l0 : Nat → List Int → List Int → List Int → Int → Int → Option (List Int × Int)
 | 0, _, _, _, _, _ => none
 | k + 1, x0, x1, x4, x12, x13 => if x13 < x12 then (if 0 ≤ x13 then (if x13 < (x0.length : Int) then (if x13 < (x1.length : Int) then (if x4.length < 17592186044416 then (have_Join.l0 k x0 x1 (x4 ++ [mx (rd x0 x13) (rd x1 x13)]) x12 (wrap64 (x13 + 1))) else (none)) else (none)) else (none)) else (none)) else (some (x4, 0))
def have_Join.f (k : Nat) (l0 : List Int) (l1 : List Int) : Option (List Int × Int) := (have_together.f k l0 l1).bind fun t653 => (if t653 = true then (have_Join.l0 k l0 l1 ([] : List Int) (l0.length : Int) 0) else (some (([] : List Int), 1)))
theorem have_Join.mono_l : ∀ k, (∀ y0 y1 y2 y3 y4, LeO (have_Join.l0 k y0 y1 y2 y3 y4) (have_Join.l0 (k + 1) y0 y1 y2 y3 y4))
 | 0 => fun _ _ _ _ _ r h => by simp [have_Join.l0] at h
 | k + 1 => by
  have ih0 := have_Join.mono_l k
  ·intro y0 y1 y2 y3 y4
   unfold have_Join.l0
   repeat' first
   | (with_reducible exact ih0 _ _ _ _ _)
   | (with_reducible exact have_together.mono _ _ _)
   | (with_reducible exact LeO.refl _)
   | (with_reducible exact LeO.none _)
   | (with_reducible refine LeO.ite ?_ ?_)
   | (with_reducible refine LeO.bind ?_ (fun _ => ?_))
   | exact ih0 _ _ _ _ _
   | exact have_together.mono _ _ _
   | exact LeO.none _
   | refine LeO.ite ?_ ?_
   | refine LeO.bind ?_ (fun _ => ?_)
theorem have_Join.mono : ∀ a0 a1 k, LeO (have_Join.f k a0 a1) (have_Join.f (k + 1) a0 a1) := by
 intro a0 a1 k
 have ih0 := have_Join.mono_l k
 unfold have_Join.f
 repeat' first
   | (with_reducible exact ih0 _ _ _ _ _)
   | (with_reducible exact have_together.mono _ _ _)
   | (with_reducible exact LeO.refl _)
   | (with_reducible exact LeO.none _)
   | (with_reducible refine LeO.ite ?_ ?_)
   | (with_reducible refine LeO.bind ?_ (fun _ => ?_))
   | exact ih0 _ _ _ _ _
   | exact have_together.mono _ _ _
   | exact LeO.none _
   | refine LeO.ite ?_ ?_
   | refine LeO.bind ?_ (fun _ => ?_)
def have_Join.T6 : Bool × List (List Nat × List Nat) := (true, [([], []), ([], []), ([], []), ([1, 2], [1, 2]), ([3], [3]), ([], []), ([], []), ([5, 6], [5, 6]), ([7], [7]), ([4, 8], [4, 8]), ([9], [9]), ([0, 10], [0, 10]), ([11, 11, 0, 1, 2, 3, 4, 5, 6, 7, 8, 9, 10, 11], [0, 11])])
def have_Join.B6 : List Nat := [0, 0, 0, 6, 14, 0, 0, 96, 224, 510, 1022, 2047, 4095]
theorem have_Join.tab6 : rtab .any (opsOf Try.f58 6) = have_Join.T6 := by kernel_rfl
theorem have_Join.bits6 : waitsOk have_Join.T6.2 have_Join.B6 = true := by kernel_rfl
noncomputable def have_Join.L0 (x0 : List Int) (x1 : List Int) (x4 : List Int) (x12 : Int) (x13 : Int) : Option (List Int × Int) := Go.Proofs.YtpmcojmhkpaoaaaLabel.lim (fun k => have_Join.l0 k x0 x1 x4 x12 x13)
theorem have_Join.L0_lim (x0 : List Int) (x1 : List Int) (x4 : List Int) (x12 : Int) (x13 : Int) : Go.Proofs.YtpmcojmhkpaoaaaLabel.Lim (fun k => have_Join.l0 k x0 x1 x4 x12 x13) (have_Join.L0 x0 x1 x4 x12 x13) := Go.Proofs.YtpmcojmhkpaoaaaLabel.lim_spec (fun k => (have_Join.mono_l k) x0 x1 x4 x12 x13)
theorem have_Join.L0_eq (x0 : List Int) (x1 : List Int) (x4 : List Int) (x12 : Int) (x13 : Int) : have_Join.L0 x0 x1 x4 x12 x13 = (if x13 < x12 then (if 0 ≤ x13 then (if x13 < (x0.length : Int) then (if x13 < (x1.length : Int) then (if x4.length < 17592186044416 then (have_Join.L0 x0 x1 (x4 ++ [mx (rd x0 x13) (rd x1 x13)]) x12 (wrap64 (x13 + 1))) else (none)) else (none)) else (none)) else (none)) else (some (x4, 0))) := by
  refine Go.Proofs.YtpmcojmhkpaoaaaLabel.Lim.unique (have_Join.L0_lim x0 x1 x4 x12 x13).shift ?_
  simp only [have_Join.l0]
  (repeat' (first | exact Go.Proofs.YtpmcojmhkpaoaaaLabel.Lim.const _ | exact have_Join.L0_lim _ _ _ _ _ | exact have_together.F_lim _ _ | refine Go.Proofs.YtpmcojmhkpaoaaaLabel.Lim.ite ?_ ?_ | refine Go.Proofs.YtpmcojmhkpaoaaaLabel.Lim.bind ?_ (fun _ => ?_)))
noncomputable def have_Join.F (l0 : List Int) (l1 : List Int) : Option (List Int × Int) := Go.Proofs.YtpmcojmhkpaoaaaLabel.lim (fun k => have_Join.f k l0 l1)
theorem have_Join.F_lim (l0 : List Int) (l1 : List Int) : Go.Proofs.YtpmcojmhkpaoaaaLabel.Lim (fun k => have_Join.f k l0 l1) (have_Join.F l0 l1) := Go.Proofs.YtpmcojmhkpaoaaaLabel.lim_spec (have_Join.mono l0 l1)
theorem have_Join.F_eq (l0 : List Int) (l1 : List Int) : have_Join.F l0 l1 = ((have_together.F l0 l1).bind fun t653 => (if t653 = true then (have_Join.L0 l0 l1 ([] : List Int) (l0.length : Int) 0) else (some (([] : List Int), 1)))) := by
  refine Go.Proofs.YtpmcojmhkpaoaaaLabel.Lim.unique (have_Join.F_lim l0 l1) ?_
  simp only [have_Join.f]
  (repeat' (first | exact Go.Proofs.YtpmcojmhkpaoaaaLabel.Lim.const _ | exact have_Join.L0_lim _ _ _ _ _ | exact have_together.F_lim _ _ | refine Go.Proofs.YtpmcojmhkpaoaaaLabel.Lim.ite ?_ ?_ | refine Go.Proofs.YtpmcojmhkpaoaaaLabel.Lim.bind ?_ (fun _ => ?_)))

/-! #### have_Over: function 83 -/
def have_Over.l0 : Nat → List Int → List Int → Int → Int → Option (Bool)
 | 0, _, _, _, _ => none
 | k + 1, x0, x1, x7, x8 => if x8 < x7 then (if 0 ≤ x8 then (if x8 < (x1.length : Int) then (if x8 < (x0.length : Int) then (if (rd x1 x8) > (rd x0 x8) then (some false) else (have_Over.l0 k x0 x1 x7 (wrap64 (x8 + 1)))) else (none)) else (none)) else (none)) else (some true)
def have_Over.f (k : Nat) (l0 : List Int) (l1 : List Int) : Option (Bool) := have_Over.l0 k l0 l1 (l0.length : Int) 0
theorem have_Over.mono_l : ∀ k, (∀ y0 y1 y2 y3, LeO (have_Over.l0 k y0 y1 y2 y3) (have_Over.l0 (k + 1) y0 y1 y2 y3))
 | 0 => fun _ _ _ _ r h => by simp [have_Over.l0] at h
 | k + 1 => by
  have ih0 := have_Over.mono_l k
  ·intro y0 y1 y2 y3
   unfold have_Over.l0
   repeat' first
   | (with_reducible exact ih0 _ _ _ _)
   | (with_reducible exact LeO.refl _)
   | (with_reducible exact LeO.none _)
   | (with_reducible refine LeO.ite ?_ ?_)
   | (with_reducible refine LeO.bind ?_ (fun _ => ?_))
   | exact ih0 _ _ _ _
   | exact LeO.none _
   | refine LeO.ite ?_ ?_
   | refine LeO.bind ?_ (fun _ => ?_)
theorem have_Over.mono : ∀ a0 a1 k, LeO (have_Over.f k a0 a1) (have_Over.f (k + 1) a0 a1) := by
 intro a0 a1 k
 have ih0 := have_Over.mono_l k
 unfold have_Over.f
 repeat' first
   | (with_reducible exact ih0 _ _ _ _)
   | (with_reducible exact LeO.refl _)
   | (with_reducible exact LeO.none _)
   | (with_reducible refine LeO.ite ?_ ?_)
   | (with_reducible refine LeO.bind ?_ (fun _ => ?_))
   | exact ih0 _ _ _ _
   | exact LeO.none _
   | refine LeO.ite ?_ ?_
   | refine LeO.bind ?_ (fun _ => ?_)
noncomputable def have_Over.L0 (x0 : List Int) (x1 : List Int) (x7 : Int) (x8 : Int) : Option (Bool) := Go.Proofs.YtpmcojmhkpaoaaaLabel.lim (fun k => have_Over.l0 k x0 x1 x7 x8)
theorem have_Over.L0_lim (x0 : List Int) (x1 : List Int) (x7 : Int) (x8 : Int) : Go.Proofs.YtpmcojmhkpaoaaaLabel.Lim (fun k => have_Over.l0 k x0 x1 x7 x8) (have_Over.L0 x0 x1 x7 x8) := Go.Proofs.YtpmcojmhkpaoaaaLabel.lim_spec (fun k => (have_Over.mono_l k) x0 x1 x7 x8)
theorem have_Over.L0_eq (x0 : List Int) (x1 : List Int) (x7 : Int) (x8 : Int) : have_Over.L0 x0 x1 x7 x8 = (if x8 < x7 then (if 0 ≤ x8 then (if x8 < (x1.length : Int) then (if x8 < (x0.length : Int) then (if (rd x1 x8) > (rd x0 x8) then (some false) else (have_Over.L0 x0 x1 x7 (wrap64 (x8 + 1)))) else (none)) else (none)) else (none)) else (some true)) := by
  refine Go.Proofs.YtpmcojmhkpaoaaaLabel.Lim.unique (have_Over.L0_lim x0 x1 x7 x8).shift ?_
  simp only [have_Over.l0]
  (repeat' (first | exact Go.Proofs.YtpmcojmhkpaoaaaLabel.Lim.const _ | exact have_Over.L0_lim _ _ _ _ | refine Go.Proofs.YtpmcojmhkpaoaaaLabel.Lim.ite ?_ ?_ | refine Go.Proofs.YtpmcojmhkpaoaaaLabel.Lim.bind ?_ (fun _ => ?_)))
noncomputable def have_Over.F (l0 : List Int) (l1 : List Int) : Option (Bool) := Go.Proofs.YtpmcojmhkpaoaaaLabel.lim (fun k => have_Over.f k l0 l1)
theorem have_Over.F_lim (l0 : List Int) (l1 : List Int) : Go.Proofs.YtpmcojmhkpaoaaaLabel.Lim (fun k => have_Over.f k l0 l1) (have_Over.F l0 l1) := Go.Proofs.YtpmcojmhkpaoaaaLabel.lim_spec (have_Over.mono l0 l1)
theorem have_Over.F_eq (l0 : List Int) (l1 : List Int) : have_Over.F l0 l1 = (have_Over.L0 l0 l1 (l0.length : Int) 0) := by
  refine Go.Proofs.YtpmcojmhkpaoaaaLabel.Lim.unique (have_Over.F_lim l0 l1) ?_
  simp only [have_Over.f]
  (repeat' (first | exact Go.Proofs.YtpmcojmhkpaoaaaLabel.Lim.const _ | exact have_Over.L0_lim _ _ _ _ | refine Go.Proofs.YtpmcojmhkpaoaaaLabel.Lim.ite ?_ ?_ | refine Go.Proofs.YtpmcojmhkpaoaaaLabel.Lim.bind ?_ (fun _ => ?_)))

/-! #### have_Covers: function 59 -/
def have_Covers.f (k : Nat) (l0 : List Int) (l1 : List Int) : Option (Bool × Int) := (have_together.f k l0 l1).bind fun t661 => (if t661 = true then ((have_Over.f k l0 l1).bind fun t662 => (some (t662, 0))) else (some (false, 1)))
theorem have_Covers.mono : ∀ a0 a1 k, LeO (have_Covers.f k a0 a1) (have_Covers.f (k + 1) a0 a1) := by
 intro a0 a1 k
 unfold have_Covers.f
 repeat' first
   | (with_reducible exact have_Over.mono _ _ _)
   | (with_reducible exact have_together.mono _ _ _)
   | (with_reducible exact LeO.refl _)
   | (with_reducible exact LeO.none _)
   | (with_reducible refine LeO.ite ?_ ?_)
   | (with_reducible refine LeO.bind ?_ (fun _ => ?_))
   | exact have_Over.mono _ _ _
   | exact have_together.mono _ _ _
   | exact LeO.none _
   | refine LeO.ite ?_ ?_
   | refine LeO.bind ?_ (fun _ => ?_)
noncomputable def have_Covers.F (l0 : List Int) (l1 : List Int) : Option (Bool × Int) := Go.Proofs.YtpmcojmhkpaoaaaLabel.lim (fun k => have_Covers.f k l0 l1)
theorem have_Covers.F_lim (l0 : List Int) (l1 : List Int) : Go.Proofs.YtpmcojmhkpaoaaaLabel.Lim (fun k => have_Covers.f k l0 l1) (have_Covers.F l0 l1) := Go.Proofs.YtpmcojmhkpaoaaaLabel.lim_spec (have_Covers.mono l0 l1)
theorem have_Covers.F_eq (l0 : List Int) (l1 : List Int) : have_Covers.F l0 l1 = ((have_together.F l0 l1).bind fun t661 => (if t661 = true then ((have_Over.F l0 l1).bind fun t662 => (some (t662, 0))) else (some (false, 1)))) := by
  refine Go.Proofs.YtpmcojmhkpaoaaaLabel.Lim.unique (have_Covers.F_lim l0 l1) ?_
  simp only [have_Covers.f]
  (repeat' (first | exact Go.Proofs.YtpmcojmhkpaoaaaLabel.Lim.const _ | exact have_Over.F_lim _ _ | exact have_together.F_lim _ _ | refine Go.Proofs.YtpmcojmhkpaoaaaLabel.Lim.ite ?_ ?_ | refine Go.Proofs.YtpmcojmhkpaoaaaLabel.Lim.bind ?_ (fun _ => ?_)))

/-! #### have_Lacks: function 60 -/
def have_Lacks.l0 : Nat → List Int → List Int → List Int → Int → Int → Option (List Int × Int)
 | 0, _, _, _, _, _ => none
 | k + 1, x0, x1, x4, x12, x13 => if x13 < x12 then (if 0 ≤ x13 then (if x13 < (x1.length : Int) then (if x13 < (x0.length : Int) then (if x4.length < 17592186044416 then (have_Lacks.l0 k x0 x1 (x4 ++ [mx 0 (wrap64 ((rd x1 x13) - (rd x0 x13)))]) x12 (wrap64 (x13 + 1))) else (none)) else (none)) else (none)) else (none)) else (some (x4, 0))
def have_Lacks.f (k : Nat) (l0 : List Int) (l1 : List Int) : Option (List Int × Int) := (have_together.f k l0 l1).bind fun t663 => (if t663 = true then (have_Lacks.l0 k l0 l1 ([] : List Int) (l0.length : Int) 0) else (some (([] : List Int), 1)))
theorem have_Lacks.mono_l : ∀ k, (∀ y0 y1 y2 y3 y4, LeO (have_Lacks.l0 k y0 y1 y2 y3 y4) (have_Lacks.l0 (k + 1) y0 y1 y2 y3 y4))
 | 0 => fun _ _ _ _ _ r h => by simp [have_Lacks.l0] at h
 | k + 1 => by
  have ih0 := have_Lacks.mono_l k
  ·intro y0 y1 y2 y3 y4
   unfold have_Lacks.l0
   repeat' first
   | (with_reducible exact ih0 _ _ _ _ _)
   | (with_reducible exact have_together.mono _ _ _)
   | (with_reducible exact LeO.refl _)
   | (with_reducible exact LeO.none _)
   | (with_reducible refine LeO.ite ?_ ?_)
   | (with_reducible refine LeO.bind ?_ (fun _ => ?_))
   | exact ih0 _ _ _ _ _
   | exact have_together.mono _ _ _
   | exact LeO.none _
   | refine LeO.ite ?_ ?_
   | refine LeO.bind ?_ (fun _ => ?_)
theorem have_Lacks.mono : ∀ a0 a1 k, LeO (have_Lacks.f k a0 a1) (have_Lacks.f (k + 1) a0 a1) := by
 intro a0 a1 k
 have ih0 := have_Lacks.mono_l k
 unfold have_Lacks.f
 repeat' first
   | (with_reducible exact ih0 _ _ _ _ _)
   | (with_reducible exact have_together.mono _ _ _)
   | (with_reducible exact LeO.refl _)
   | (with_reducible exact LeO.none _)
   | (with_reducible refine LeO.ite ?_ ?_)
   | (with_reducible refine LeO.bind ?_ (fun _ => ?_))
   | exact ih0 _ _ _ _ _
   | exact have_together.mono _ _ _
   | exact LeO.none _
   | refine LeO.ite ?_ ?_
   | refine LeO.bind ?_ (fun _ => ?_)
def have_Lacks.T6 : Bool × List (List Nat × List Nat) := (true, [([], []), ([], []), ([], []), ([1, 2], [1, 2]), ([3], [3]), ([], []), ([], []), ([5, 6], [5, 6]), ([7], [7]), ([4, 8], [4, 8]), ([9], [9]), ([10], [10]), ([0, 11], [0, 11]), ([12, 12, 0, 1, 2, 3, 4, 5, 6, 7, 8, 9, 10, 11, 12], [0, 12])])
def have_Lacks.B6 : List Nat := [0, 0, 0, 6, 14, 0, 0, 96, 224, 510, 1022, 2046, 4095, 8191]
theorem have_Lacks.tab6 : rtab .any (opsOf Try.f60 6) = have_Lacks.T6 := by kernel_rfl
theorem have_Lacks.bits6 : waitsOk have_Lacks.T6.2 have_Lacks.B6 = true := by kernel_rfl
noncomputable def have_Lacks.L0 (x0 : List Int) (x1 : List Int) (x4 : List Int) (x12 : Int) (x13 : Int) : Option (List Int × Int) := Go.Proofs.YtpmcojmhkpaoaaaLabel.lim (fun k => have_Lacks.l0 k x0 x1 x4 x12 x13)
theorem have_Lacks.L0_lim (x0 : List Int) (x1 : List Int) (x4 : List Int) (x12 : Int) (x13 : Int) : Go.Proofs.YtpmcojmhkpaoaaaLabel.Lim (fun k => have_Lacks.l0 k x0 x1 x4 x12 x13) (have_Lacks.L0 x0 x1 x4 x12 x13) := Go.Proofs.YtpmcojmhkpaoaaaLabel.lim_spec (fun k => (have_Lacks.mono_l k) x0 x1 x4 x12 x13)
theorem have_Lacks.L0_eq (x0 : List Int) (x1 : List Int) (x4 : List Int) (x12 : Int) (x13 : Int) : have_Lacks.L0 x0 x1 x4 x12 x13 = (if x13 < x12 then (if 0 ≤ x13 then (if x13 < (x1.length : Int) then (if x13 < (x0.length : Int) then (if x4.length < 17592186044416 then (have_Lacks.L0 x0 x1 (x4 ++ [mx 0 (wrap64 ((rd x1 x13) - (rd x0 x13)))]) x12 (wrap64 (x13 + 1))) else (none)) else (none)) else (none)) else (none)) else (some (x4, 0))) := by
  refine Go.Proofs.YtpmcojmhkpaoaaaLabel.Lim.unique (have_Lacks.L0_lim x0 x1 x4 x12 x13).shift ?_
  simp only [have_Lacks.l0]
  (repeat' (first | exact Go.Proofs.YtpmcojmhkpaoaaaLabel.Lim.const _ | exact have_Lacks.L0_lim _ _ _ _ _ | exact have_together.F_lim _ _ | refine Go.Proofs.YtpmcojmhkpaoaaaLabel.Lim.ite ?_ ?_ | refine Go.Proofs.YtpmcojmhkpaoaaaLabel.Lim.bind ?_ (fun _ => ?_)))
noncomputable def have_Lacks.F (l0 : List Int) (l1 : List Int) : Option (List Int × Int) := Go.Proofs.YtpmcojmhkpaoaaaLabel.lim (fun k => have_Lacks.f k l0 l1)
theorem have_Lacks.F_lim (l0 : List Int) (l1 : List Int) : Go.Proofs.YtpmcojmhkpaoaaaLabel.Lim (fun k => have_Lacks.f k l0 l1) (have_Lacks.F l0 l1) := Go.Proofs.YtpmcojmhkpaoaaaLabel.lim_spec (have_Lacks.mono l0 l1)
theorem have_Lacks.F_eq (l0 : List Int) (l1 : List Int) : have_Lacks.F l0 l1 = ((have_together.F l0 l1).bind fun t663 => (if t663 = true then (have_Lacks.L0 l0 l1 ([] : List Int) (l0.length : Int) 0) else (some (([] : List Int), 1)))) := by
  refine Go.Proofs.YtpmcojmhkpaoaaaLabel.Lim.unique (have_Lacks.F_lim l0 l1) ?_
  simp only [have_Lacks.f]
  (repeat' (first | exact Go.Proofs.YtpmcojmhkpaoaaaLabel.Lim.const _ | exact have_Lacks.L0_lim _ _ _ _ _ | exact have_together.F_lim _ _ | refine Go.Proofs.YtpmcojmhkpaoaaaLabel.Lim.ite ?_ ?_ | refine Go.Proofs.YtpmcojmhkpaoaaaLabel.Lim.bind ?_ (fun _ => ?_)))

/-! #### arraslaw7_num: function 61 -/
def arraslaw7_num.f (a0 : Int) : Option (Int) := some a0

/-! #### arrasref0_CopyNumbers: function 62 -/
def arrasref0_CopyNumbers.l0 : Nat → List Int → List Int → Int → Option (List Int)
 | 0, _, _, _ => none
 | k + 1, x0, x3, x4 => if x4 < (x0.length : Int) then (if 0 ≤ x4 then (if x3.length < 17592186044416 then (arrasref0_CopyNumbers.l0 k x0 (x3 ++ [rd x0 x4]) (wrap64 (x4 + 1))) else (none)) else (none)) else (some x3)
def arrasref0_CopyNumbers.f (k : Nat) (l0 : List Int) : Option (List Int) := arrasref0_CopyNumbers.l0 k l0 ([] : List Int) 0
theorem arrasref0_CopyNumbers.mono_l : ∀ k, (∀ y0 y1 y2, LeO (arrasref0_CopyNumbers.l0 k y0 y1 y2) (arrasref0_CopyNumbers.l0 (k + 1) y0 y1 y2))
 | 0 => fun _ _ _ r h => by simp [arrasref0_CopyNumbers.l0] at h
 | k + 1 => by
  have ih0 := arrasref0_CopyNumbers.mono_l k
  ·intro y0 y1 y2
   unfold arrasref0_CopyNumbers.l0
   repeat' first
   | (with_reducible exact ih0 _ _ _)
   | (with_reducible exact LeO.refl _)
   | (with_reducible exact LeO.none _)
   | (with_reducible refine LeO.ite ?_ ?_)
   | (with_reducible refine LeO.bind ?_ (fun _ => ?_))
   | exact ih0 _ _ _
   | exact LeO.none _
   | refine LeO.ite ?_ ?_
   | refine LeO.bind ?_ (fun _ => ?_)
theorem arrasref0_CopyNumbers.mono : ∀ a0 k, LeO (arrasref0_CopyNumbers.f k a0) (arrasref0_CopyNumbers.f (k + 1) a0) := by
 intro a0 k
 have ih0 := arrasref0_CopyNumbers.mono_l k
 unfold arrasref0_CopyNumbers.f
 repeat' first
   | (with_reducible exact ih0 _ _ _)
   | (with_reducible exact LeO.refl _)
   | (with_reducible exact LeO.none _)
   | (with_reducible refine LeO.ite ?_ ?_)
   | (with_reducible refine LeO.bind ?_ (fun _ => ?_))
   | exact ih0 _ _ _
   | exact LeO.none _
   | refine LeO.ite ?_ ?_
   | refine LeO.bind ?_ (fun _ => ?_)
noncomputable def arrasref0_CopyNumbers.L0 (x0 : List Int) (x3 : List Int) (x4 : Int) : Option (List Int) := Go.Proofs.YtpmcojmhkpaoaaaLabel.lim (fun k => arrasref0_CopyNumbers.l0 k x0 x3 x4)
theorem arrasref0_CopyNumbers.L0_lim (x0 : List Int) (x3 : List Int) (x4 : Int) : Go.Proofs.YtpmcojmhkpaoaaaLabel.Lim (fun k => arrasref0_CopyNumbers.l0 k x0 x3 x4) (arrasref0_CopyNumbers.L0 x0 x3 x4) := Go.Proofs.YtpmcojmhkpaoaaaLabel.lim_spec (fun k => (arrasref0_CopyNumbers.mono_l k) x0 x3 x4)
theorem arrasref0_CopyNumbers.L0_eq (x0 : List Int) (x3 : List Int) (x4 : Int) : arrasref0_CopyNumbers.L0 x0 x3 x4 = (if x4 < (x0.length : Int) then (if 0 ≤ x4 then (if x3.length < 17592186044416 then (arrasref0_CopyNumbers.L0 x0 (x3 ++ [rd x0 x4]) (wrap64 (x4 + 1))) else (none)) else (none)) else (some x3)) := by
  refine Go.Proofs.YtpmcojmhkpaoaaaLabel.Lim.unique (arrasref0_CopyNumbers.L0_lim x0 x3 x4).shift ?_
  simp only [arrasref0_CopyNumbers.l0]
  (repeat' (first | exact Go.Proofs.YtpmcojmhkpaoaaaLabel.Lim.const _ | exact arrasref0_CopyNumbers.L0_lim _ _ _ | refine Go.Proofs.YtpmcojmhkpaoaaaLabel.Lim.ite ?_ ?_ | refine Go.Proofs.YtpmcojmhkpaoaaaLabel.Lim.bind ?_ (fun _ => ?_)))
noncomputable def arrasref0_CopyNumbers.F (l0 : List Int) : Option (List Int) := Go.Proofs.YtpmcojmhkpaoaaaLabel.lim (fun k => arrasref0_CopyNumbers.f k l0)
theorem arrasref0_CopyNumbers.F_lim (l0 : List Int) : Go.Proofs.YtpmcojmhkpaoaaaLabel.Lim (fun k => arrasref0_CopyNumbers.f k l0) (arrasref0_CopyNumbers.F l0) := Go.Proofs.YtpmcojmhkpaoaaaLabel.lim_spec (arrasref0_CopyNumbers.mono l0)
theorem arrasref0_CopyNumbers.F_eq (l0 : List Int) : arrasref0_CopyNumbers.F l0 = (arrasref0_CopyNumbers.L0 l0 ([] : List Int) 0) := by
  refine Go.Proofs.YtpmcojmhkpaoaaaLabel.Lim.unique (arrasref0_CopyNumbers.F_lim l0) ?_
  simp only [arrasref0_CopyNumbers.f]
  (repeat' (first | exact Go.Proofs.YtpmcojmhkpaoaaaLabel.Lim.const _ | exact arrasref0_CopyNumbers.L0_lim _ _ _ | refine Go.Proofs.YtpmcojmhkpaoaaaLabel.Lim.ite ?_ ?_ | refine Go.Proofs.YtpmcojmhkpaoaaaLabel.Lim.bind ?_ (fun _ => ?_)))

/-! #### arraslaw7_wakes: function 63 -/
def arraslaw7_wakes.f (k : Nat)  : Option (Bool) := (have_Join.f k (([1, 4] : List Int)) (([2, 3] : List Int))).bind fun bt679 => ((arraslaw7_num.f bt679.2).bind fun t683 => (if t683 = 0 then ((arrasref0_EqNumbers.f k bt679.1 (([2, 4] : List Int))).bind fun t687 => (some t687)) else (some false)))
theorem arraslaw7_wakes.mono : ∀ k, LeO (arraslaw7_wakes.f k ) (arraslaw7_wakes.f (k + 1) ) := by
 intro  k
 unfold arraslaw7_wakes.f
 repeat' first
   | (with_reducible exact arrasref0_EqNumbers.mono _ _ _)
   | (with_reducible exact have_Join.mono _ _ _)
   | (with_reducible exact LeO.refl _)
   | (with_reducible exact LeO.none _)
   | (with_reducible refine LeO.ite ?_ ?_)
   | (with_reducible refine LeO.bind ?_ (fun _ => ?_))
   | exact arrasref0_EqNumbers.mono _ _ _
   | exact have_Join.mono _ _ _
   | exact LeO.none _
   | refine LeO.ite ?_ ?_
   | refine LeO.bind ?_ (fun _ => ?_)
noncomputable def arraslaw7_wakes.F  : Option (Bool) := Go.Proofs.YtpmcojmhkpaoaaaLabel.lim (fun k => arraslaw7_wakes.f k )
theorem arraslaw7_wakes.F_lim  : Go.Proofs.YtpmcojmhkpaoaaaLabel.Lim (fun k => arraslaw7_wakes.f k ) (arraslaw7_wakes.F ) := Go.Proofs.YtpmcojmhkpaoaaaLabel.lim_spec (arraslaw7_wakes.mono )
theorem arraslaw7_wakes.F_eq  : arraslaw7_wakes.F  = ((have_Join.F (([1, 4] : List Int)) (([2, 3] : List Int))).bind fun bt679 => ((arraslaw7_num.f bt679.2).bind fun t683 => (if t683 = 0 then ((arrasref0_EqNumbers.F bt679.1 (([2, 4] : List Int))).bind fun t687 => (some t687)) else (some false)))) := by
  refine Go.Proofs.YtpmcojmhkpaoaaaLabel.Lim.unique (arraslaw7_wakes.F_lim ) ?_
  simp only [arraslaw7_wakes.f]
  (repeat' (first | exact Go.Proofs.YtpmcojmhkpaoaaaLabel.Lim.const _ | exact arrasref0_EqNumbers.F_lim _ _ | exact have_Join.F_lim _ _ | refine Go.Proofs.YtpmcojmhkpaoaaaLabel.Lim.ite ?_ ?_ | refine Go.Proofs.YtpmcojmhkpaoaaaLabel.Lim.bind ?_ (fun _ => ?_)))

end Go.Proofs.Ytpmcojmhkpaoaaa.PA
