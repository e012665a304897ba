-- Printed by this session's wip/myprint.py
import Derived.Test.YtpmcojmhkpaoaaaPNx0
namespace Go.Proofs.Ytpmcojmhkpaoaaa.PN
open Go.RowKit Go.Proofs.YtpmcojmhkpaoaaaW.PrintWords Go.Proofs.YtpmcojmhkpaoaaaW.PrintLast Go.Proofs.YtpmcojmhkpaoaaaW.PrintMore
attribute [local go_sem] max2_int min2_int max_two min_two max_three min_three max_four min_four   -- for this text's walks alone
set_option linter.unusedVariables false
set_option linter.unusedSimpArgs false

/-! #### arrasref0_EqBytes: function 20 -/
def arrasref0_EqBytes.l0 : Nat → List Int → List Int → Int → Option (Bool)
 | 0, _, _, _ => none
 | k + 1, x0, x1, x5 => if x5 < (x0.length : Int) then (if 0 ≤ x5 then (if x5 < (x1.length : Int) then (if (rd x0 x5) = (rd x1 x5) then (arrasref0_EqBytes.l0 k x0 x1 (wrap64 (x5 + 1))) else (some false)) else (none)) else (none)) else (some true)
def arrasref0_EqBytes.f (k : Nat) (l0 : List Int) (l1 : List Int) : Option (Bool) := if (l0.length : Int) = (l1.length : Int) then (arrasref0_EqBytes.l0 k l0 l1 0) else (some false)
theorem arrasref0_EqBytes.mono_l : ∀ k, (∀ y0 y1 y2, LeO (arrasref0_EqBytes.l0 k y0 y1 y2) (arrasref0_EqBytes.l0 (k + 1) y0 y1 y2))
 | 0 => fun _ _ _ r h => by simp [arrasref0_EqBytes.l0] at h
 | k + 1 => by
  have ih0 := arrasref0_EqBytes.mono_l k
  ·intro y0 y1 y2
   unfold arrasref0_EqBytes.l0
   repeat' first
   | (with_reducible exact ih0 _ _ _)
   | (with_reducible exact LeO.refl _)
   | (with_reducible exact LeO.none _)
   | (with_reducible refine LeO.ite ?_ ?_)
   | (with_reducible refine LeO.bind ?_ (fun _ => ?_))
   | exact ih0 _ _ _
   | exact LeO.none _
   | refine LeO.ite ?_ ?_
   | refine LeO.bind ?_ (fun _ => ?_)
theorem arrasref0_EqBytes.mono : ∀ a0 a1 k, LeO (arrasref0_EqBytes.f k a0 a1) (arrasref0_EqBytes.f (k + 1) a0 a1) := by
 intro a0 a1 k
 have ih0 := arrasref0_EqBytes.mono_l k
 unfold arrasref0_EqBytes.f
 repeat' first
   | (with_reducible exact ih0 _ _ _)
   | (with_reducible exact LeO.refl _)
   | (with_reducible exact LeO.none _)
   | (with_reducible refine LeO.ite ?_ ?_)
   | (with_reducible refine LeO.bind ?_ (fun _ => ?_))
   | exact ih0 _ _ _
   | exact LeO.none _
   | refine LeO.ite ?_ ?_
   | refine LeO.bind ?_ (fun _ => ?_)
noncomputable def arrasref0_EqBytes.L0 (x0 : List Int) (x1 : List Int) (x5 : Int) : Option (Bool) := Go.Proofs.YtpmcojmhkpaoaaaLabel.lim (fun k => arrasref0_EqBytes.l0 k x0 x1 x5)
theorem arrasref0_EqBytes.L0_lim (x0 : List Int) (x1 : List Int) (x5 : Int) : Go.Proofs.YtpmcojmhkpaoaaaLabel.Lim (fun k => arrasref0_EqBytes.l0 k x0 x1 x5) (arrasref0_EqBytes.L0 x0 x1 x5) := Go.Proofs.YtpmcojmhkpaoaaaLabel.lim_spec (fun k => (arrasref0_EqBytes.mono_l k) x0 x1 x5)
theorem arrasref0_EqBytes.L0_eq (x0 : List Int) (x1 : List Int) (x5 : Int) : arrasref0_EqBytes.L0 x0 x1 x5 = (if x5 < (x0.length : Int) then (if 0 ≤ x5 then (if x5 < (x1.length : Int) then (if (rd x0 x5) = (rd x1 x5) then (arrasref0_EqBytes.L0 x0 x1 (wrap64 (x5 + 1))) else (some false)) else (none)) else (none)) else (some true)) := by
  refine Go.Proofs.YtpmcojmhkpaoaaaLabel.Lim.unique (arrasref0_EqBytes.L0_lim x0 x1 x5).shift ?_
  simp only [arrasref0_EqBytes.l0]
  (repeat' (first | exact Go.Proofs.YtpmcojmhkpaoaaaLabel.Lim.const _ | exact arrasref0_EqBytes.L0_lim _ _ _ | refine Go.Proofs.YtpmcojmhkpaoaaaLabel.Lim.ite ?_ ?_ | refine Go.Proofs.YtpmcojmhkpaoaaaLabel.Lim.bind ?_ (fun _ => ?_)))
noncomputable def arrasref0_EqBytes.F (l0 : List Int) (l1 : List Int) : Option (Bool) := Go.Proofs.YtpmcojmhkpaoaaaLabel.lim (fun k => arrasref0_EqBytes.f k l0 l1)
theorem arrasref0_EqBytes.F_lim (l0 : List Int) (l1 : List Int) : Go.Proofs.YtpmcojmhkpaoaaaLabel.Lim (fun k => arrasref0_EqBytes.f k l0 l1) (arrasref0_EqBytes.F l0 l1) := Go.Proofs.YtpmcojmhkpaoaaaLabel.lim_spec (arrasref0_EqBytes.mono l0 l1)
theorem arrasref0_EqBytes.F_eq (l0 : List Int) (l1 : List Int) : arrasref0_EqBytes.F l0 l1 = (if (l0.length : Int) = (l1.length : Int) then (arrasref0_EqBytes.L0 l0 l1 0) else (some false)) := by
  refine Go.Proofs.YtpmcojmhkpaoaaaLabel.Lim.unique (arrasref0_EqBytes.F_lim l0 l1) ?_
  simp only [arrasref0_EqBytes.f]
  (repeat' (first | exact Go.Proofs.YtpmcojmhkpaoaaaLabel.Lim.const _ | exact arrasref0_EqBytes.L0_lim _ _ _ | refine Go.Proofs.YtpmcojmhkpaoaaaLabel.Lim.ite ?_ ?_ | refine Go.Proofs.YtpmcojmhkpaoaaaLabel.Lim.bind ?_ (fun _ => ?_)))

/-! #### code_Put: function 71 -/
def code_Put.l0 : Nat → List Int → Int → Option (List Int)
 | 0, _, _ => none
 | k + 1, x0, x1 => if x1 ≥ 128 then (if x0.length < 140737488355328 then (code_Put.l0 k (x0 ++ [Go.bits .or .u8 ((x1) % 256) 128]) (x1 / 128)) else (none)) else (if x0.length < 140737488355328 then (some (x0 ++ [(x1) % 256])) else (none))
def code_Put.f (k : Nat) (l0 : List Int) (a1 : Int) : Option (List Int) := code_Put.l0 k l0 a1
theorem code_Put.mono_l : ∀ k, (∀ y0 y1, LeO (code_Put.l0 k y0 y1) (code_Put.l0 (k + 1) y0 y1))
 | 0 => fun _ _ r h => by simp [code_Put.l0] at h
 | k + 1 => by
  have ih0 := code_Put.mono_l k
  ·intro y0 y1
   unfold code_Put.l0
   repeat' first
   | (with_reducible exact ih0 _ _)
   | (with_reducible exact LeO.refl _)
   | (with_reducible exact LeO.none _)
   | (with_reducible refine LeO.ite ?_ ?_)
   | (with_reducible refine LeO.bind ?_ (fun _ => ?_))
   | exact ih0 _ _
   | exact LeO.none _
   | refine LeO.ite ?_ ?_
   | refine LeO.bind ?_ (fun _ => ?_)
theorem code_Put.mono : ∀ a0 a1 k, LeO (code_Put.f k a0 a1) (code_Put.f (k + 1) a0 a1) := by
 intro a0 a1 k
 have ih0 := code_Put.mono_l k
 unfold code_Put.f
 repeat' first
   | (with_reducible exact ih0 _ _)
   | (with_reducible exact LeO.refl _)
   | (with_reducible exact LeO.none _)
   | (with_reducible refine LeO.ite ?_ ?_)
   | (with_reducible refine LeO.bind ?_ (fun _ => ?_))
   | exact ih0 _ _
   | exact LeO.none _
   | refine LeO.ite ?_ ?_
   | refine LeO.bind ?_ (fun _ => ?_)
noncomputable def code_Put.L0 (x0 : List Int) (x1 : Int) : Option (List Int) := Go.Proofs.YtpmcojmhkpaoaaaLabel.lim (fun k => code_Put.l0 k x0 x1)
theorem code_Put.L0_lim (x0 : List Int) (x1 : Int) : Go.Proofs.YtpmcojmhkpaoaaaLabel.Lim (fun k => code_Put.l0 k x0 x1) (code_Put.L0 x0 x1) := Go.Proofs.YtpmcojmhkpaoaaaLabel.lim_spec (fun k => (code_Put.mono_l k) x0 x1)
theorem code_Put.L0_eq (x0 : List Int) (x1 : Int) : code_Put.L0 x0 x1 = (if x1 ≥ 128 then (if x0.length < 140737488355328 then (code_Put.L0 (x0 ++ [Go.bits .or .u8 ((x1) % 256) 128]) (x1 / 128)) else (none)) else (if x0.length < 140737488355328 then (some (x0 ++ [(x1) % 256])) else (none))) := by
  refine Go.Proofs.YtpmcojmhkpaoaaaLabel.Lim.unique (code_Put.L0_lim x0 x1).shift ?_
  simp only [code_Put.l0]
  (repeat' (first | exact Go.Proofs.YtpmcojmhkpaoaaaLabel.Lim.const _ | exact code_Put.L0_lim _ _ | refine Go.Proofs.YtpmcojmhkpaoaaaLabel.Lim.ite ?_ ?_ | refine Go.Proofs.YtpmcojmhkpaoaaaLabel.Lim.bind ?_ (fun _ => ?_)))
noncomputable def code_Put.F (l0 : List Int) (a1 : Int) : Option (List Int) := Go.Proofs.YtpmcojmhkpaoaaaLabel.lim (fun k => code_Put.f k l0 a1)
theorem code_Put.F_lim (l0 : List Int) (a1 : Int) : Go.Proofs.YtpmcojmhkpaoaaaLabel.Lim (fun k => code_Put.f k l0 a1) (code_Put.F l0 a1) := Go.Proofs.YtpmcojmhkpaoaaaLabel.lim_spec (code_Put.mono l0 a1)
theorem code_Put.F_eq (l0 : List Int) (a1 : Int) : code_Put.F l0 a1 = (code_Put.L0 l0 a1) := by
  refine Go.Proofs.YtpmcojmhkpaoaaaLabel.Lim.unique (code_Put.F_lim l0 a1) ?_
  simp only [code_Put.f]
  (repeat' (first | exact Go.Proofs.YtpmcojmhkpaoaaaLabel.Lim.const _ | exact code_Put.L0_lim _ _ | refine Go.Proofs.YtpmcojmhkpaoaaaLabel.Lim.ite ?_ ?_ | refine Go.Proofs.YtpmcojmhkpaoaaaLabel.Lim.bind ?_ (fun _ => ?_)))

/-! #### code_Num: function 23 -/
def code_Num.f (k : Nat) (a0 : Int) : Option (List Int × Int) := if a0 < 0 then (some (([] : List Int), 1)) else (if a0 > 4611686018427387904 then (some (([] : List Int), 1)) else ((code_Put.f k ([] : List Int) a0).bind fun t109 => (some (t109, 0))))
theorem code_Num.mono : ∀ a0 k, LeO (code_Num.f k a0) (code_Num.f (k + 1) a0) := by
 intro a0 k
 unfold code_Num.f
 repeat' first
   | (with_reducible exact code_Put.mono _ _ _)
   | (with_reducible exact LeO.refl _)
   | (with_reducible exact LeO.none _)
   | (with_reducible refine LeO.ite ?_ ?_)
   | (with_reducible refine LeO.bind ?_ (fun _ => ?_))
   | exact code_Put.mono _ _ _
   | exact LeO.none _
   | refine LeO.ite ?_ ?_
   | refine LeO.bind ?_ (fun _ => ?_)
noncomputable def code_Num.F (a0 : Int) : Option (List Int × Int) := Go.Proofs.YtpmcojmhkpaoaaaLabel.lim (fun k => code_Num.f k a0)
theorem code_Num.F_lim (a0 : Int) : Go.Proofs.YtpmcojmhkpaoaaaLabel.Lim (fun k => code_Num.f k a0) (code_Num.F a0) := Go.Proofs.YtpmcojmhkpaoaaaLabel.lim_spec (code_Num.mono a0)
theorem code_Num.F_eq (a0 : Int) : code_Num.F a0 = (if a0 < 0 then (some (([] : List Int), 1)) else (if a0 > 4611686018427387904 then (some (([] : List Int), 1)) else ((code_Put.F ([] : List Int) a0).bind fun t109 => (some (t109, 0))))) := by
  refine Go.Proofs.YtpmcojmhkpaoaaaLabel.Lim.unique (code_Num.F_lim a0) ?_
  simp only [code_Num.f]
  (repeat' (first | exact Go.Proofs.YtpmcojmhkpaoaaaLabel.Lim.const _ | exact code_Put.F_lim _ _ | refine Go.Proofs.YtpmcojmhkpaoaaaLabel.Lim.ite ?_ ?_ | refine Go.Proofs.YtpmcojmhkpaoaaaLabel.Lim.bind ?_ (fun _ => ?_)))

/-! #### arraslaw5_num: function 25 -/
def arraslaw5_num.f (a0 : Int) : Option (Int) := some a0

/-! #### arraslaw5_wakes: function 26 -/
def arraslaw5_wakes.f (k : Nat)  : Option (Bool) := (code_Num.f k 300).bind fun bt112 => ((arraslaw5_num.f bt112.2).bind fun t116 => (if t116 = 0 then ((arrasref0_EqBytes.f k bt112.1 (([172, 2] : List Int))).bind fun t120 => (some t120)) else (some false)))
theorem arraslaw5_wakes.mono : ∀ k, LeO (arraslaw5_wakes.f k ) (arraslaw5_wakes.f (k + 1) ) := by
 intro  k
 unfold arraslaw5_wakes.f
 repeat' first
   | (with_reducible exact arrasref0_EqBytes.mono _ _ _)
   | (with_reducible exact code_Num.mono _ _)
   | (with_reducible exact LeO.refl _)
   | (with_reducible exact LeO.none _)
   | (with_reducible refine LeO.ite ?_ ?_)
   | (with_reducible refine LeO.bind ?_ (fun _ => ?_))
   | exact arrasref0_EqBytes.mono _ _ _
   | exact code_Num.mono _ _
   | exact LeO.none _
   | refine LeO.ite ?_ ?_
   | refine LeO.bind ?_ (fun _ => ?_)
noncomputable def arraslaw5_wakes.F  : Option (Bool) := Go.Proofs.YtpmcojmhkpaoaaaLabel.lim (fun k => arraslaw5_wakes.f k )
theorem arraslaw5_wakes.F_lim  : Go.Proofs.YtpmcojmhkpaoaaaLabel.Lim (fun k => arraslaw5_wakes.f k ) (arraslaw5_wakes.F ) := Go.Proofs.YtpmcojmhkpaoaaaLabel.lim_spec (arraslaw5_wakes.mono )
theorem arraslaw5_wakes.F_eq  : arraslaw5_wakes.F  = ((code_Num.F 300).bind fun bt112 => ((arraslaw5_num.f bt112.2).bind fun t116 => (if t116 = 0 then ((arrasref0_EqBytes.F bt112.1 (([172, 2] : List Int))).bind fun t120 => (some t120)) else (some false)))) := by
  refine Go.Proofs.YtpmcojmhkpaoaaaLabel.Lim.unique (arraslaw5_wakes.F_lim ) ?_
  simp only [arraslaw5_wakes.f]
  (repeat' (first | exact Go.Proofs.YtpmcojmhkpaoaaaLabel.Lim.const _ | exact arrasref0_EqBytes.F_lim _ _ | exact code_Num.F_lim _ | refine Go.Proofs.YtpmcojmhkpaoaaaLabel.Lim.ite ?_ ?_ | refine Go.Proofs.YtpmcojmhkpaoaaaLabel.Lim.bind ?_ (fun _ => ?_)))

/-! #### arraslaw5_heavy: function 27 -/
def arraslaw5_heavy.f (a0_0 : Int) (a0_1 : ByteArray) (l0_2 : List Int) (l0_3 : List Int) : Option (Bool) := if (a0_1.size : Int) > 65546 then (some true) else (if (l0_2.length : Int) > 2000 then (some true) else (some (decide ((l0_3.length : Int) > 3000))))

/-! #### code_PutText: function 72 -/
def code_PutText.f (k : Nat) (l0 : List Int) (a1 : ByteArray) : Option (List Int) := (code_Put.f k l0 (a1.size : Int)).bind fun t122 => (if t122.length + a1.size < 140737488355328 then (some (t122 ++ bytesOf a1)) else (none))
theorem code_PutText.mono : ∀ a0 a1 k, LeO (code_PutText.f k a0 a1) (code_PutText.f (k + 1) a0 a1) := by
 intro a0 a1 k
 unfold code_PutText.f
 repeat' first
   | (with_reducible exact code_Put.mono _ _ _)
   | (with_reducible exact LeO.refl _)
   | (with_reducible exact LeO.none _)
   | (with_reducible refine LeO.ite ?_ ?_)
   | (with_reducible refine LeO.bind ?_ (fun _ => ?_))
   | exact code_Put.mono _ _ _
   | exact LeO.none _
   | refine LeO.ite ?_ ?_
   | refine LeO.bind ?_ (fun _ => ?_)
noncomputable def code_PutText.F (l0 : List Int) (a1 : ByteArray) : Option (List Int) := Go.Proofs.YtpmcojmhkpaoaaaLabel.lim (fun k => code_PutText.f k l0 a1)
theorem code_PutText.F_lim (l0 : List Int) (a1 : ByteArray) : Go.Proofs.YtpmcojmhkpaoaaaLabel.Lim (fun k => code_PutText.f k l0 a1) (code_PutText.F l0 a1) := Go.Proofs.YtpmcojmhkpaoaaaLabel.lim_spec (code_PutText.mono l0 a1)
theorem code_PutText.F_eq (l0 : List Int) (a1 : ByteArray) : code_PutText.F l0 a1 = ((code_Put.F l0 (a1.size : Int)).bind fun t122 => (if t122.length + a1.size < 140737488355328 then (some (t122 ++ bytesOf a1)) else (none))) := by
  refine Go.Proofs.YtpmcojmhkpaoaaaLabel.Lim.unique (code_PutText.F_lim l0 a1) ?_
  simp only [code_PutText.f]
  (repeat' (first | exact Go.Proofs.YtpmcojmhkpaoaaaLabel.Lim.const _ | exact code_Put.F_lim _ _ | refine Go.Proofs.YtpmcojmhkpaoaaaLabel.Lim.ite ?_ ?_ | refine Go.Proofs.YtpmcojmhkpaoaaaLabel.Lim.bind ?_ (fun _ => ?_)))

/-! #### code_Text: function 28 -/
def code_Text.f (k : Nat) (a0 : ByteArray) : Option (List Int × Int) := if (a0.size : Int) > 65536 then (some (([] : List Int), 1)) else ((code_PutText.f k ([] : List Int) a0).bind fun t128 => (some (t128, 0)))
theorem code_Text.mono : ∀ a0 k, LeO (code_Text.f k a0) (code_Text.f (k + 1) a0) := by
 intro a0 k
 unfold code_Text.f
 repeat' first
   | (with_reducible exact code_PutText.mono _ _ _)
   | (with_reducible exact LeO.refl _)
   | (with_reducible exact LeO.none _)
   | (with_reducible refine LeO.ite ?_ ?_)
   | (with_reducible refine LeO.bind ?_ (fun _ => ?_))
   | exact code_PutText.mono _ _ _
   | exact LeO.none _
   | refine LeO.ite ?_ ?_
   | refine LeO.bind ?_ (fun _ => ?_)
noncomputable def code_Text.F (a0 : ByteArray) : Option (List Int × Int) := Go.Proofs.YtpmcojmhkpaoaaaLabel.lim (fun k => code_Text.f k a0)
theorem code_Text.F_lim (a0 : ByteArray) : Go.Proofs.YtpmcojmhkpaoaaaLabel.Lim (fun k => code_Text.f k a0) (code_Text.F a0) := Go.Proofs.YtpmcojmhkpaoaaaLabel.lim_spec (code_Text.mono a0)
theorem code_Text.F_eq (a0 : ByteArray) : code_Text.F a0 = (if (a0.size : Int) > 65536 then (some (([] : List Int), 1)) else ((code_PutText.F ([] : List Int) a0).bind fun t128 => (some (t128, 0)))) := by
  refine Go.Proofs.YtpmcojmhkpaoaaaLabel.Lim.unique (code_Text.F_lim a0) ?_
  simp only [code_Text.f]
  (repeat' (first | exact Go.Proofs.YtpmcojmhkpaoaaaLabel.Lim.const _ | exact code_PutText.F_lim _ _ | refine Go.Proofs.YtpmcojmhkpaoaaaLabel.Lim.ite ?_ ?_ | refine Go.Proofs.YtpmcojmhkpaoaaaLabel.Lim.bind ?_ (fun _ => ?_)))

/-! #### code_PutAll: function 73 -/
def code_PutAll.l0 : Nat → List Int → List Int → Int → Int → Option (List Int)
 | 0, _, _, _, _ => none
 | k + 1, x0, x11, x12, x13 => if x13 < x12 then (if 0 ≤ x13 then (if x13 < (x11.length : Int) then ((code_Put.f k x0 (rd x11 x13)).bind fun t135 => (code_PutAll.l0 k t135 x11 x12 (wrap64 (x13 + 1)))) else (none)) else (none)) else (some x0)
def code_PutAll.f (k : Nat) (l0 : List Int) (l1 : List Int) : Option (List Int) := (code_Put.f k l0 (l1.length : Int)).bind fun t131 => (code_PutAll.l0 k t131 l1 (l1.length : Int) 0)
theorem code_PutAll.mono_l : ∀ k, (∀ y0 y1 y2 y3, LeO (code_PutAll.l0 k y0 y1 y2 y3) (code_PutAll.l0 (k + 1) y0 y1 y2 y3))
 | 0 => fun _ _ _ _ r h => by simp [code_PutAll.l0] at h
 | k + 1 => by
  have ih0 := code_PutAll.mono_l k
  ·intro y0 y1 y2 y3
   unfold code_PutAll.l0
   repeat' first
   | (with_reducible exact ih0 _ _ _ _)
   | (with_reducible exact code_Put.mono _ _ _)
   | (with_reducible exact LeO.refl _)
   | (with_reducible exact LeO.none _)
   | (with_reducible refine LeO.ite ?_ ?_)
   | (with_reducible refine LeO.bind ?_ (fun _ => ?_))
   | exact ih0 _ _ _ _
   | exact code_Put.mono _ _ _
   | exact LeO.none _
   | refine LeO.ite ?_ ?_
   | refine LeO.bind ?_ (fun _ => ?_)
theorem code_PutAll.mono : ∀ a0 a1 k, LeO (code_PutAll.f k a0 a1) (code_PutAll.f (k + 1) a0 a1) := by
 intro a0 a1 k
 have ih0 := code_PutAll.mono_l k
 unfold code_PutAll.f
 repeat' first
   | (with_reducible exact ih0 _ _ _ _)
   | (with_reducible exact code_Put.mono _ _ _)
   | (with_reducible exact LeO.refl _)
   | (with_reducible exact LeO.none _)
   | (with_reducible refine LeO.ite ?_ ?_)
   | (with_reducible refine LeO.bind ?_ (fun _ => ?_))
   | exact ih0 _ _ _ _
   | exact code_Put.mono _ _ _
   | exact LeO.none _
   | refine LeO.ite ?_ ?_
   | refine LeO.bind ?_ (fun _ => ?_)
noncomputable def code_PutAll.L0 (x0 : List Int) (x11 : List Int) (x12 : Int) (x13 : Int) : Option (List Int) := Go.Proofs.YtpmcojmhkpaoaaaLabel.lim (fun k => code_PutAll.l0 k x0 x11 x12 x13)
theorem code_PutAll.L0_lim (x0 : List Int) (x11 : List Int) (x12 : Int) (x13 : Int) : Go.Proofs.YtpmcojmhkpaoaaaLabel.Lim (fun k => code_PutAll.l0 k x0 x11 x12 x13) (code_PutAll.L0 x0 x11 x12 x13) := Go.Proofs.YtpmcojmhkpaoaaaLabel.lim_spec (fun k => (code_PutAll.mono_l k) x0 x11 x12 x13)
theorem code_PutAll.L0_eq (x0 : List Int) (x11 : List Int) (x12 : Int) (x13 : Int) : code_PutAll.L0 x0 x11 x12 x13 = (if x13 < x12 then (if 0 ≤ x13 then (if x13 < (x11.length : Int) then ((code_Put.F x0 (rd x11 x13)).bind fun t135 => (code_PutAll.L0 t135 x11 x12 (wrap64 (x13 + 1)))) else (none)) else (none)) else (some x0)) := by
  refine Go.Proofs.YtpmcojmhkpaoaaaLabel.Lim.unique (code_PutAll.L0_lim x0 x11 x12 x13).shift ?_
  simp only [code_PutAll.l0]
  (repeat' (first | exact Go.Proofs.YtpmcojmhkpaoaaaLabel.Lim.const _ | exact code_PutAll.L0_lim _ _ _ _ | exact code_Put.F_lim _ _ | refine Go.Proofs.YtpmcojmhkpaoaaaLabel.Lim.ite ?_ ?_ | refine Go.Proofs.YtpmcojmhkpaoaaaLabel.Lim.bind ?_ (fun _ => ?_)))
noncomputable def code_PutAll.F (l0 : List Int) (l1 : List Int) : Option (List Int) := Go.Proofs.YtpmcojmhkpaoaaaLabel.lim (fun k => code_PutAll.f k l0 l1)
theorem code_PutAll.F_lim (l0 : List Int) (l1 : List Int) : Go.Proofs.YtpmcojmhkpaoaaaLabel.Lim (fun k => code_PutAll.f k l0 l1) (code_PutAll.F l0 l1) := Go.Proofs.YtpmcojmhkpaoaaaLabel.lim_spec (code_PutAll.mono l0 l1)
theorem code_PutAll.F_eq (l0 : List Int) (l1 : List Int) : code_PutAll.F l0 l1 = ((code_Put.F l0 (l1.length : Int)).bind fun t131 => (code_PutAll.L0 t131 l1 (l1.length : Int) 0)) := by
  refine Go.Proofs.YtpmcojmhkpaoaaaLabel.Lim.unique (code_PutAll.F_lim l0 l1) ?_
  simp only [code_PutAll.f]
  (repeat' (first | exact Go.Proofs.YtpmcojmhkpaoaaaLabel.Lim.const _ | exact code_PutAll.L0_lim _ _ _ _ | exact code_Put.F_lim _ _ | refine Go.Proofs.YtpmcojmhkpaoaaaLabel.Lim.ite ?_ ?_ | refine Go.Proofs.YtpmcojmhkpaoaaaLabel.Lim.bind ?_ (fun _ => ?_)))

/-! #### code_Nums: function 29 -/
def code_Nums.l0 : Nat → List Int → List Int → Int → Int → Option (List Int × Int)
 | 0, _, _, _, _ => none
 | k + 1, x0, x9, x10, x11 => if x11 < x10 then (if 0 ≤ x11 then (if x11 < (x9.length : Int) then (if (rd x9 x11) < 0 then (some (([] : List Int), 1)) else (if (rd x9 x11) > 4611686018427387904 then (some (([] : List Int), 1)) else (code_Nums.l0 k x0 x9 x10 (wrap64 (x11 + 1))))) else (none)) else (none)) else ((code_PutAll.f k ([] : List Int) x0).bind fun t138 => (some (t138, 0)))
def code_Nums.f (k : Nat) (l0 : List Int) : Option (List Int × Int) := if (l0.length : Int) > 1024 then (some (([] : List Int), 1)) else (code_Nums.l0 k l0 l0 (l0.length : Int) 0)
theorem code_Nums.mono_l : ∀ k, (∀ y0 y1 y2 y3, LeO (code_Nums.l0 k y0 y1 y2 y3) (code_Nums.l0 (k + 1) y0 y1 y2 y3))
 | 0 => fun _ _ _ _ r h => by simp [code_Nums.l0] at h
 | k + 1 => by
  have ih0 := code_Nums.mono_l k
  ·intro y0 y1 y2 y3
   unfold code_Nums.l0
   repeat' first
   | (with_reducible exact ih0 _ _ _ _)
   | (with_reducible exact code_PutAll.mono _ _ _)
   | (with_reducible exact LeO.refl _)
   | (with_reducible exact LeO.none _)
   | (with_reducible refine LeO.ite ?_ ?_)
   | (with_reducible refine LeO.bind ?_ (fun _ => ?_))
   | exact ih0 _ _ _ _
   | exact code_PutAll.mono _ _ _
   | exact LeO.none _
   | refine LeO.ite ?_ ?_
   | refine LeO.bind ?_ (fun _ => ?_)
theorem code_Nums.mono : ∀ a0 k, LeO (code_Nums.f k a0) (code_Nums.f (k + 1) a0) := by
 intro a0 k
 have ih0 := code_Nums.mono_l k
 unfold code_Nums.f
 repeat' first
   | (with_reducible exact ih0 _ _ _ _)
   | (with_reducible exact code_PutAll.mono _ _ _)
   | (with_reducible exact LeO.refl _)
   | (with_reducible exact LeO.none _)
   | (with_reducible refine LeO.ite ?_ ?_)
   | (with_reducible refine LeO.bind ?_ (fun _ => ?_))
   | exact ih0 _ _ _ _
   | exact code_PutAll.mono _ _ _
   | exact LeO.none _
   | refine LeO.ite ?_ ?_
   | refine LeO.bind ?_ (fun _ => ?_)
noncomputable def code_Nums.L0 (x0 : List Int) (x9 : List Int) (x10 : Int) (x11 : Int) : Option (List Int × Int) := Go.Proofs.YtpmcojmhkpaoaaaLabel.lim (fun k => code_Nums.l0 k x0 x9 x10 x11)
theorem code_Nums.L0_lim (x0 : List Int) (x9 : List Int) (x10 : Int) (x11 : Int) : Go.Proofs.YtpmcojmhkpaoaaaLabel.Lim (fun k => code_Nums.l0 k x0 x9 x10 x11) (code_Nums.L0 x0 x9 x10 x11) := Go.Proofs.YtpmcojmhkpaoaaaLabel.lim_spec (fun k => (code_Nums.mono_l k) x0 x9 x10 x11)
theorem code_Nums.L0_eq (x0 : List Int) (x9 : List Int) (x10 : Int) (x11 : Int) : code_Nums.L0 x0 x9 x10 x11 = (if x11 < x10 then (if 0 ≤ x11 then (if x11 < (x9.length : Int) then (if (rd x9 x11) < 0 then (some (([] : List Int), 1)) else (if (rd x9 x11) > 4611686018427387904 then (some (([] : List Int), 1)) else (code_Nums.L0 x0 x9 x10 (wrap64 (x11 + 1))))) else (none)) else (none)) else ((code_PutAll.F ([] : List Int) x0).bind fun t138 => (some (t138, 0)))) := by
  refine Go.Proofs.YtpmcojmhkpaoaaaLabel.Lim.unique (code_Nums.L0_lim x0 x9 x10 x11).shift ?_
  simp only [code_Nums.l0]
  (repeat' (first | exact Go.Proofs.YtpmcojmhkpaoaaaLabel.Lim.const _ | exact code_Nums.L0_lim _ _ _ _ | exact code_PutAll.F_lim _ _ | refine Go.Proofs.YtpmcojmhkpaoaaaLabel.Lim.ite ?_ ?_ | refine Go.Proofs.YtpmcojmhkpaoaaaLabel.Lim.bind ?_ (fun _ => ?_)))
noncomputable def code_Nums.F (l0 : List Int) : Option (List Int × Int) := Go.Proofs.YtpmcojmhkpaoaaaLabel.lim (fun k => code_Nums.f k l0)
theorem code_Nums.F_lim (l0 : List Int) : Go.Proofs.YtpmcojmhkpaoaaaLabel.Lim (fun k => code_Nums.f k l0) (code_Nums.F l0) := Go.Proofs.YtpmcojmhkpaoaaaLabel.lim_spec (code_Nums.mono l0)
theorem code_Nums.F_eq (l0 : List Int) : code_Nums.F l0 = (if (l0.length : Int) > 1024 then (some (([] : List Int), 1)) else (code_Nums.L0 l0 l0 (l0.length : Int) 0)) := by
  refine Go.Proofs.YtpmcojmhkpaoaaaLabel.Lim.unique (code_Nums.F_lim l0) ?_
  simp only [code_Nums.f]
  (repeat' (first | exact Go.Proofs.YtpmcojmhkpaoaaaLabel.Lim.const _ | exact code_Nums.L0_lim _ _ _ _ | exact code_PutAll.F_lim _ _ | refine Go.Proofs.YtpmcojmhkpaoaaaLabel.Lim.ite ?_ ?_ | refine Go.Proofs.YtpmcojmhkpaoaaaLabel.Lim.bind ?_ (fun _ => ?_)))

/-! #### arrasref5_Number: function 30 -/
def arrasref5_Number.f (a0 : Int) : Option (Bool) := if a0 ≥ 0 then (some (decide (a0 ≤ 4611686018427387904))) else (some false)

/-! #### arrasref5_Num: function 31 -/
def arrasref5_Num.l0 : Nat → Int → List Int → Option (List Int)
 | 0, _, _ => none
 | k + 1, x0, x3 => if x0 > 127 then (if x3.length < 140737488355328 then (arrasref5_Num.l0 k (x0 / 128) (x3 ++ [Go.bits .or .u8 ((Go.bits .and .i64 x0 127) % 256) 128])) else (none)) else (if x3.length < 140737488355328 then (some (x3 ++ [(x0) % 256])) else (none))
def arrasref5_Num.f (k : Nat) (a0 : Int) : Option (List Int) := arrasref5_Num.l0 k a0 ([] : List Int)
theorem arrasref5_Num.mono_l : ∀ k, (∀ y0 y1, LeO (arrasref5_Num.l0 k y0 y1) (arrasref5_Num.l0 (k + 1) y0 y1))
 | 0 => fun _ _ r h => by simp [arrasref5_Num.l0] at h
 | k + 1 => by
  have ih0 := arrasref5_Num.mono_l k
  ·intro y0 y1
   unfold arrasref5_Num.l0
   repeat' first
   | (with_reducible exact ih0 _ _)
   | (with_reducible exact LeO.refl _)
   | (with_reducible exact LeO.none _)
   | (with_reducible refine LeO.ite ?_ ?_)
   | (with_reducible refine LeO.bind ?_ (fun _ => ?_))
   | exact ih0 _ _
   | exact LeO.none _
   | refine LeO.ite ?_ ?_
   | refine LeO.bind ?_ (fun _ => ?_)
theorem arrasref5_Num.mono : ∀ a0 k, LeO (arrasref5_Num.f k a0) (arrasref5_Num.f (k + 1) a0) := by
 intro a0 k
 have ih0 := arrasref5_Num.mono_l k
 unfold arrasref5_Num.f
 repeat' first
   | (with_reducible exact ih0 _ _)
   | (with_reducible exact LeO.refl _)
   | (with_reducible exact LeO.none _)
   | (with_reducible refine LeO.ite ?_ ?_)
   | (with_reducible refine LeO.bind ?_ (fun _ => ?_))
   | exact ih0 _ _
   | exact LeO.none _
   | refine LeO.ite ?_ ?_
   | refine LeO.bind ?_ (fun _ => ?_)
noncomputable def arrasref5_Num.L0 (x0 : Int) (x3 : List Int) : Option (List Int) := Go.Proofs.YtpmcojmhkpaoaaaLabel.lim (fun k => arrasref5_Num.l0 k x0 x3)
theorem arrasref5_Num.L0_lim (x0 : Int) (x3 : List Int) : Go.Proofs.YtpmcojmhkpaoaaaLabel.Lim (fun k => arrasref5_Num.l0 k x0 x3) (arrasref5_Num.L0 x0 x3) := Go.Proofs.YtpmcojmhkpaoaaaLabel.lim_spec (fun k => (arrasref5_Num.mono_l k) x0 x3)
theorem arrasref5_Num.L0_eq (x0 : Int) (x3 : List Int) : arrasref5_Num.L0 x0 x3 = (if x0 > 127 then (if x3.length < 140737488355328 then (arrasref5_Num.L0 (x0 / 128) (x3 ++ [Go.bits .or .u8 ((Go.bits .and .i64 x0 127) % 256) 128])) else (none)) else (if x3.length < 140737488355328 then (some (x3 ++ [(x0) % 256])) else (none))) := by
  refine Go.Proofs.YtpmcojmhkpaoaaaLabel.Lim.unique (arrasref5_Num.L0_lim x0 x3).shift ?_
  simp only [arrasref5_Num.l0]
  (repeat' (first | exact Go.Proofs.YtpmcojmhkpaoaaaLabel.Lim.const _ | exact arrasref5_Num.L0_lim _ _ | refine Go.Proofs.YtpmcojmhkpaoaaaLabel.Lim.ite ?_ ?_ | refine Go.Proofs.YtpmcojmhkpaoaaaLabel.Lim.bind ?_ (fun _ => ?_)))
noncomputable def arrasref5_Num.F (a0 : Int) : Option (List Int) := Go.Proofs.YtpmcojmhkpaoaaaLabel.lim (fun k => arrasref5_Num.f k a0)
theorem arrasref5_Num.F_lim (a0 : Int) : Go.Proofs.YtpmcojmhkpaoaaaLabel.Lim (fun k => arrasref5_Num.f k a0) (arrasref5_Num.F a0) := Go.Proofs.YtpmcojmhkpaoaaaLabel.lim_spec (arrasref5_Num.mono a0)
theorem arrasref5_Num.F_eq (a0 : Int) : arrasref5_Num.F a0 = (arrasref5_Num.L0 a0 ([] : List Int)) := by
  refine Go.Proofs.YtpmcojmhkpaoaaaLabel.Lim.unique (arrasref5_Num.F_lim a0) ?_
  simp only [arrasref5_Num.f]
  (repeat' (first | exact Go.Proofs.YtpmcojmhkpaoaaaLabel.Lim.const _ | exact arrasref5_Num.L0_lim _ _ | refine Go.Proofs.YtpmcojmhkpaoaaaLabel.Lim.ite ?_ ?_ | refine Go.Proofs.YtpmcojmhkpaoaaaLabel.Lim.bind ?_ (fun _ => ?_)))

/-! #### arrasref5_Text: function 32 -/
def arrasref5_Text.f (k : Nat) (a0 : ByteArray) : Option (List Int) := (arrasref5_Num.f k (a0.size : Int)).bind fun t148 => (if t148.length + a0.size < 140737488355328 then (some (t148 ++ bytesOf a0)) else (none))
theorem arrasref5_Text.mono : ∀ a0 k, LeO (arrasref5_Text.f k a0) (arrasref5_Text.f (k + 1) a0) := by
 intro a0 k
 unfold arrasref5_Text.f
 repeat' first
   | (with_reducible exact arrasref5_Num.mono _ _)
   | (with_reducible exact LeO.refl _)
   | (with_reducible exact LeO.none _)
   | (with_reducible refine LeO.ite ?_ ?_)
   | (with_reducible refine LeO.bind ?_ (fun _ => ?_))
   | exact arrasref5_Num.mono _ _
   | exact LeO.none _
   | refine LeO.ite ?_ ?_
   | refine LeO.bind ?_ (fun _ => ?_)
noncomputable def arrasref5_Text.F (a0 : ByteArray) : Option (List Int) := Go.Proofs.YtpmcojmhkpaoaaaLabel.lim (fun k => arrasref5_Text.f k a0)
theorem arrasref5_Text.F_lim (a0 : ByteArray) : Go.Proofs.YtpmcojmhkpaoaaaLabel.Lim (fun k => arrasref5_Text.f k a0) (arrasref5_Text.F a0) := Go.Proofs.YtpmcojmhkpaoaaaLabel.lim_spec (arrasref5_Text.mono a0)
theorem arrasref5_Text.F_eq (a0 : ByteArray) : arrasref5_Text.F a0 = ((arrasref5_Num.F (a0.size : Int)).bind fun t148 => (if t148.length + a0.size < 140737488355328 then (some (t148 ++ bytesOf a0)) else (none))) := by
  refine Go.Proofs.YtpmcojmhkpaoaaaLabel.Lim.unique (arrasref5_Text.F_lim a0) ?_
  simp only [arrasref5_Text.f]
  (repeat' (first | exact Go.Proofs.YtpmcojmhkpaoaaaLabel.Lim.const _ | exact arrasref5_Num.F_lim _ | refine Go.Proofs.YtpmcojmhkpaoaaaLabel.Lim.ite ?_ ?_ | refine Go.Proofs.YtpmcojmhkpaoaaaLabel.Lim.bind ?_ (fun _ => ?_)))

/-! #### arrasref5_Numbers: function 33 -/
def arrasref5_Numbers.l0 : Nat → List Int → Int → Option (Bool)
 | 0, _, _ => none
 | k + 1, x0, x3 => if x3 < (x0.length : Int) then (if 0 ≤ x3 then ((arrasref5_Number.f (rd x0 x3)).bind fun t155 => (if t155 = true then (arrasref5_Numbers.l0 k x0 (wrap64 (x3 + 1))) else (some false))) else (none)) else (some (decide ((x0.length : Int) ≤ 1024)))
def arrasref5_Numbers.f (k : Nat) (l0 : List Int) : Option (Bool) := arrasref5_Numbers.l0 k l0 0
theorem arrasref5_Numbers.mono_l : ∀ k, (∀ y0 y1, LeO (arrasref5_Numbers.l0 k y0 y1) (arrasref5_Numbers.l0 (k + 1) y0 y1))
 | 0 => fun _ _ r h => by simp [arrasref5_Numbers.l0] at h
 | k + 1 => by
  have ih0 := arrasref5_Numbers.mono_l k
  ·intro y0 y1
   unfold arrasref5_Numbers.l0
   repeat' first
   | (with_reducible exact ih0 _ _)
   | (with_reducible exact LeO.refl _)
   | (with_reducible exact LeO.none _)
   | (with_reducible refine LeO.ite ?_ ?_)
   | (with_reducible refine LeO.bind ?_ (fun _ => ?_))
   | exact ih0 _ _
   | exact LeO.none _
   | refine LeO.ite ?_ ?_
   | refine LeO.bind ?_ (fun _ => ?_)
theorem arrasref5_Numbers.mono : ∀ a0 k, LeO (arrasref5_Numbers.f k a0) (arrasref5_Numbers.f (k + 1) a0) := by
 intro a0 k
 have ih0 := arrasref5_Numbers.mono_l k
 unfold arrasref5_Numbers.f
 repeat' first
   | (with_reducible exact ih0 _ _)
   | (with_reducible exact LeO.refl _)
   | (with_reducible exact LeO.none _)
   | (with_reducible refine LeO.ite ?_ ?_)
   | (with_reducible refine LeO.bind ?_ (fun _ => ?_))
   | exact ih0 _ _
   | exact LeO.none _
   | refine LeO.ite ?_ ?_
   | refine LeO.bind ?_ (fun _ => ?_)
noncomputable def arrasref5_Numbers.L0 (x0 : List Int) (x3 : Int) : Option (Bool) := Go.Proofs.YtpmcojmhkpaoaaaLabel.lim (fun k => arrasref5_Numbers.l0 k x0 x3)
theorem arrasref5_Numbers.L0_lim (x0 : List Int) (x3 : Int) : Go.Proofs.YtpmcojmhkpaoaaaLabel.Lim (fun k => arrasref5_Numbers.l0 k x0 x3) (arrasref5_Numbers.L0 x0 x3) := Go.Proofs.YtpmcojmhkpaoaaaLabel.lim_spec (fun k => (arrasref5_Numbers.mono_l k) x0 x3)
theorem arrasref5_Numbers.L0_eq (x0 : List Int) (x3 : Int) : arrasref5_Numbers.L0 x0 x3 = (if x3 < (x0.length : Int) then (if 0 ≤ x3 then ((arrasref5_Number.f (rd x0 x3)).bind fun t155 => (if t155 = true then (arrasref5_Numbers.L0 x0 (wrap64 (x3 + 1))) else (some false))) else (none)) else (some (decide ((x0.length : Int) ≤ 1024)))) := by
  refine Go.Proofs.YtpmcojmhkpaoaaaLabel.Lim.unique (arrasref5_Numbers.L0_lim x0 x3).shift ?_
  simp only [arrasref5_Numbers.l0]
  (repeat' (first | exact Go.Proofs.YtpmcojmhkpaoaaaLabel.Lim.const _ | exact arrasref5_Numbers.L0_lim _ _ | refine Go.Proofs.YtpmcojmhkpaoaaaLabel.Lim.ite ?_ ?_ | refine Go.Proofs.YtpmcojmhkpaoaaaLabel.Lim.bind ?_ (fun _ => ?_)))
noncomputable def arrasref5_Numbers.F (l0 : List Int) : Option (Bool) := Go.Proofs.YtpmcojmhkpaoaaaLabel.lim (fun k => arrasref5_Numbers.f k l0)
theorem arrasref5_Numbers.F_lim (l0 : List Int) : Go.Proofs.YtpmcojmhkpaoaaaLabel.Lim (fun k => arrasref5_Numbers.f k l0) (arrasref5_Numbers.F l0) := Go.Proofs.YtpmcojmhkpaoaaaLabel.lim_spec (arrasref5_Numbers.mono l0)
theorem arrasref5_Numbers.F_eq (l0 : List Int) : arrasref5_Numbers.F l0 = (arrasref5_Numbers.L0 l0 0) := by
  refine Go.Proofs.YtpmcojmhkpaoaaaLabel.Lim.unique (arrasref5_Numbers.F_lim l0) ?_
  simp only [arrasref5_Numbers.f]
  (repeat' (first | exact Go.Proofs.YtpmcojmhkpaoaaaLabel.Lim.const _ | exact arrasref5_Numbers.L0_lim _ _ | refine Go.Proofs.YtpmcojmhkpaoaaaLabel.Lim.ite ?_ ?_ | refine Go.Proofs.YtpmcojmhkpaoaaaLabel.Lim.bind ?_ (fun _ => ?_)))

/-! #### arrasref5_Nums: function 34 -/
def arrasref5_Nums.l0 : Nat → List Int → List Int → Int → Option (List Int)
 | 0, _, _, _ => none
 | k + 1, x0, x3, x4 => if x4 < (x0.length : Int) then (if 0 ≤ x4 then ((arrasref5_Num.f k (rd x0 x4)).bind fun t160 => (if x3.length + t160.length < 140737488355328 then (arrasref5_Nums.l0 k x0 (x3 ++ t160) (wrap64 (x4 + 1))) else (none))) else (none)) else (some x3)
def arrasref5_Nums.f (k : Nat) (l0 : List Int) : Option (List Int) := (arrasref5_Num.f k (l0.length : Int)).bind fun t156 => (arrasref5_Nums.l0 k l0 t156 0)
theorem arrasref5_Nums.mono_l : ∀ k, (∀ y0 y1 y2, LeO (arrasref5_Nums.l0 k y0 y1 y2) (arrasref5_Nums.l0 (k + 1) y0 y1 y2))
 | 0 => fun _ _ _ r h => by simp [arrasref5_Nums.l0] at h
 | k + 1 => by
  have ih0 := arrasref5_Nums.mono_l k
  ·intro y0 y1 y2
   unfold arrasref5_Nums.l0
   repeat' first
   | (with_reducible exact ih0 _ _ _)
   | (with_reducible exact arrasref5_Num.mono _ _)
   | (with_reducible exact LeO.refl _)
   | (with_reducible exact LeO.none _)
   | (with_reducible refine LeO.ite ?_ ?_)
   | (with_reducible refine LeO.bind ?_ (fun _ => ?_))
   | exact ih0 _ _ _
   | exact arrasref5_Num.mono _ _
   | exact LeO.none _
   | refine LeO.ite ?_ ?_
   | refine LeO.bind ?_ (fun _ => ?_)
theorem arrasref5_Nums.mono : ∀ a0 k, LeO (arrasref5_Nums.f k a0) (arrasref5_Nums.f (k + 1) a0) := by
 intro a0 k
 have ih0 := arrasref5_Nums.mono_l k
 unfold arrasref5_Nums.f
 repeat' first
   | (with_reducible exact ih0 _ _ _)
   | (with_reducible exact arrasref5_Num.mono _ _)
   | (with_reducible exact LeO.refl _)
   | (with_reducible exact LeO.none _)
   | (with_reducible refine LeO.ite ?_ ?_)
   | (with_reducible refine LeO.bind ?_ (fun _ => ?_))
   | exact ih0 _ _ _
   | exact arrasref5_Num.mono _ _
   | exact LeO.none _
   | refine LeO.ite ?_ ?_
   | refine LeO.bind ?_ (fun _ => ?_)
noncomputable def arrasref5_Nums.L0 (x0 : List Int) (x3 : List Int) (x4 : Int) : Option (List Int) := Go.Proofs.YtpmcojmhkpaoaaaLabel.lim (fun k => arrasref5_Nums.l0 k x0 x3 x4)
theorem arrasref5_Nums.L0_lim (x0 : List Int) (x3 : List Int) (x4 : Int) : Go.Proofs.YtpmcojmhkpaoaaaLabel.Lim (fun k => arrasref5_Nums.l0 k x0 x3 x4) (arrasref5_Nums.L0 x0 x3 x4) := Go.Proofs.YtpmcojmhkpaoaaaLabel.lim_spec (fun k => (arrasref5_Nums.mono_l k) x0 x3 x4)
theorem arrasref5_Nums.L0_eq (x0 : List Int) (x3 : List Int) (x4 : Int) : arrasref5_Nums.L0 x0 x3 x4 = (if x4 < (x0.length : Int) then (if 0 ≤ x4 then ((arrasref5_Num.F (rd x0 x4)).bind fun t160 => (if x3.length + t160.length < 140737488355328 then (arrasref5_Nums.L0 x0 (x3 ++ t160) (wrap64 (x4 + 1))) else (none))) else (none)) else (some x3)) := by
  refine Go.Proofs.YtpmcojmhkpaoaaaLabel.Lim.unique (arrasref5_Nums.L0_lim x0 x3 x4).shift ?_
  simp only [arrasref5_Nums.l0]
  (repeat' (first | exact Go.Proofs.YtpmcojmhkpaoaaaLabel.Lim.const _ | exact arrasref5_Nums.L0_lim _ _ _ | exact arrasref5_Num.F_lim _ | refine Go.Proofs.YtpmcojmhkpaoaaaLabel.Lim.ite ?_ ?_ | refine Go.Proofs.YtpmcojmhkpaoaaaLabel.Lim.bind ?_ (fun _ => ?_)))
noncomputable def arrasref5_Nums.F (l0 : List Int) : Option (List Int) := Go.Proofs.YtpmcojmhkpaoaaaLabel.lim (fun k => arrasref5_Nums.f k l0)
theorem arrasref5_Nums.F_lim (l0 : List Int) : Go.Proofs.YtpmcojmhkpaoaaaLabel.Lim (fun k => arrasref5_Nums.f k l0) (arrasref5_Nums.F l0) := Go.Proofs.YtpmcojmhkpaoaaaLabel.lim_spec (arrasref5_Nums.mono l0)
theorem arrasref5_Nums.F_eq (l0 : List Int) : arrasref5_Nums.F l0 = ((arrasref5_Num.F (l0.length : Int)).bind fun t156 => (arrasref5_Nums.L0 l0 t156 0)) := by
  refine Go.Proofs.YtpmcojmhkpaoaaaLabel.Lim.unique (arrasref5_Nums.F_lim l0) ?_
  simp only [arrasref5_Nums.f]
  (repeat' (first | exact Go.Proofs.YtpmcojmhkpaoaaaLabel.Lim.const _ | exact arrasref5_Nums.L0_lim _ _ _ | exact arrasref5_Num.F_lim _ | refine Go.Proofs.YtpmcojmhkpaoaaaLabel.Lim.ite ?_ ?_ | refine Go.Proofs.YtpmcojmhkpaoaaaLabel.Lim.bind ?_ (fun _ => ?_)))

/-! #### arraslaw5_CodeNums: function 6 -/
mutual
def arraslaw5_CodeNums.l0 : Nat → List (S43) → Int → Option (Bool)
 | 0, _, _ => none
 | k + 1, x0, x3 => if x3 < (x0.length : Int) then (arraslaw5_CodeNums.j1 k x0 x3 (decide (x3 < 20))) else (arraslaw5_CodeNums.j1 k x0 x3 false)
def arraslaw5_CodeNums.j1 : Nat → List (S43) → Int → Bool → Option (Bool)
 | 0, _, _, _ => none
 | k + 1, x0, x3, x20 => if x20 = true then (if 0 ≤ x3 then (if x3 < (x0.length : Int) then ((arraslaw5_heavy.f ((rd_T43 x0 x3).f0) ((rd_T43 x0 x3).f1) ((rd_T43 x0 x3).f2) ((rd_T43 x0 x3).f3)).bind fun t169 => (if t169 = true then (some true) else ((code_Num.f k ((rd_T43 x0 x3).f0)).bind fun bt170 => ((code_Text.f k ((rd_T43 x0 x3).f1)).bind fun bt174 => ((code_Nums.f k ((rd_T43 x0 x3).f2)).bind fun bt178 => ((arrasref5_Number.f ((rd_T43 x0 x3).f0)).bind fun t184 => (if t184 = true then ((arrasref5_Num.f k ((rd_T43 x0 x3).f0)).bind fun t185 => (arraslaw5_CodeNums.j2 k x0 x3 bt170.1 bt170.2 bt174.1 bt174.2 bt178.1 bt178.2 ((rd_T43 x0 x3).f0) ((rd_T43 x0 x3).f1) ((rd_T43 x0 x3).f2) ((rd_T43 x0 x3).f3) t185 0 1 1)) else (arraslaw5_CodeNums.j2 k x0 x3 bt170.1 bt170.2 bt174.1 bt174.2 bt178.1 bt178.2 ((rd_T43 x0 x3).f0) ((rd_T43 x0 x3).f1) ((rd_T43 x0 x3).f2) ((rd_T43 x0 x3).f3) ([] : List Int) 1 1 1)))))))) else (none)) else (none)) else ((arraslaw5_wakes.f k).bind fun t166 => (some t166))
def arraslaw5_CodeNums.j2 : Nat → List (S43) → Int → List Int → Int → List Int → Int → List Int → Int → Int → ByteArray → List Int → List Int → List Int → Int → Int → Int → Option (Bool)
 | 0, _, _, _, _, _, _, _, _, _, _, _, _, _, _, _, _ => none
 | k + 1, x0, x3, x5, x6, x7, x8, x9, x10, x169000, x169001, x169002, x169003, x183000, x184000, x184001, x184002 => if (x169001.size : Int) ≤ 65536 then ((arrasref5_Text.f k x169001).bind fun t188 => (arraslaw5_CodeNums.j3 k x0 x3 x5 x6 x7 x8 x9 x10 x169000 x169001 x169002 x169003 x183000 t188 x184000 0 x184002)) else (arraslaw5_CodeNums.j3 k x0 x3 x5 x6 x7 x8 x9 x10 x169000 x169001 x169002 x169003 x183000 ([] : List Int) x184000 x184001 x184002)
def arraslaw5_CodeNums.j3 : Nat → List (S43) → Int → List Int → Int → List Int → Int → List Int → Int → Int → ByteArray → List Int → List Int → List Int → List Int → Int → Int → Int → Option (Bool)
 | 0, _, _, _, _, _, _, _, _, _, _, _, _, _, _, _, _, _ => none
 | k + 1, x0, x3, x5, x6, x7, x8, x9, x10, x169000, x169001, x169002, x169003, x183000, x183001, x184000, x184001, x184002 => (arrasref5_Numbers.f k x169002).bind fun t191 => (if t191 = true then ((arrasref5_Nums.f k x169002).bind fun t192 => (arraslaw5_CodeNums.j4 k x0 x3 x5 x6 x7 x8 x9 x10 x183000 x183001 t192 x184000 x184001 0)) else (arraslaw5_CodeNums.j4 k x0 x3 x5 x6 x7 x8 x9 x10 x183000 x183001 ([] : List Int) x184000 x184001 x184002))
def arraslaw5_CodeNums.j4 : Nat → List (S43) → Int → List Int → Int → List Int → Int → List Int → Int → List Int → List Int → List Int → Int → Int → Int → Option (Bool)
 | 0, _, _, _, _, _, _, _, _, _, _, _, _, _, _ => none
 | k + 1, x0, x3, x5, x6, x7, x8, x9, x10, x183000, x183001, x183002, x184000, x184001, x184002 => (arraslaw5_num.f x6).bind fun t195 => (if t195 = x184000 then ((arraslaw5_num.f x8).bind fun t196 => (if t196 = x184001 then ((arraslaw5_num.f x10).bind fun t197 => (if t197 = x184002 then ((arrasref0_EqBytes.f k x5 x183000).bind fun t198 => (if t198 = true then ((arrasref0_EqBytes.f k x7 x183001).bind fun t199 => (if t199 = true then ((arrasref0_EqBytes.f k x9 x183002).bind fun t200 => (arraslaw5_CodeNums.j5 k x0 x3 (!t200))) else (arraslaw5_CodeNums.j5 k x0 x3 true))) else (arraslaw5_CodeNums.j5 k x0 x3 true))) else (arraslaw5_CodeNums.j5 k x0 x3 true))) else (arraslaw5_CodeNums.j5 k x0 x3 true))) else (arraslaw5_CodeNums.j5 k x0 x3 true))
def arraslaw5_CodeNums.j5 : Nat → List (S43) → Int → Bool → Option (Bool)
 | 0, _, _, _ => none
 | k + 1, x0, x3, x112 => if x112 = true then (some false) else (arraslaw5_CodeNums.l0 k x0 (wrap64 (x3 + 1)))
end
def arraslaw5_CodeNums.f (k : Nat) (l0 : List (S43)) : Option (Bool) := arraslaw5_CodeNums.l0 k l0 0
theorem arraslaw5_CodeNums.mono_l : ∀ k, (∀ y0 y1, LeO (arraslaw5_CodeNums.l0 k y0 y1) (arraslaw5_CodeNums.l0 (k + 1) y0 y1)) ∧ (∀ y0 y1 y2, LeO (arraslaw5_CodeNums.j1 k y0 y1 y2) (arraslaw5_CodeNums.j1 (k + 1) y0 y1 y2)) ∧ (∀ y0 y1 y2 y3 y4 y5 y6 y7 y8 y9 y10 y11 y12 y13 y14 y15, LeO (arraslaw5_CodeNums.j2 k y0 y1 y2 y3 y4 y5 y6 y7 y8 y9 y10 y11 y12 y13 y14 y15) (arraslaw5_CodeNums.j2 (k + 1) y0 y1 y2 y3 y4 y5 y6 y7 y8 y9 y10 y11 y12 y13 y14 y15)) ∧ (∀ y0 y1 y2 y3 y4 y5 y6 y7 y8 y9 y10 y11 y12 y13 y14 y15 y16, LeO (arraslaw5_CodeNums.j3 k y0 y1 y2 y3 y4 y5 y6 y7 y8 y9 y10 y11 y12 y13 y14 y15 y16) (arraslaw5_CodeNums.j3 (k + 1) y0 y1 y2 y3 y4 y5 y6 y7 y8 y9 y10 y11 y12 y13 y14 y15 y16)) ∧ (∀ y0 y1 y2 y3 y4 y5 y6 y7 y8 y9 y10 y11 y12 y13, LeO (arraslaw5_CodeNums.j4 k y0 y1 y2 y3 y4 y5 y6 y7 y8 y9 y10 y11 y12 y13) (arraslaw5_CodeNums.j4 (k + 1) y0 y1 y2 y3 y4 y5 y6 y7 y8 y9 y10 y11 y12 y13)) ∧ (∀ y0 y1 y2, LeO (arraslaw5_CodeNums.j5 k y0 y1 y2) (arraslaw5_CodeNums.j5 (k + 1) y0 y1 y2))
 | 0 => ⟨fun _ _ r h => by simp [arraslaw5_CodeNums.l0] at h, fun _ _ _ r h => by simp [arraslaw5_CodeNums.j1] at h, fun _ _ _ _ _ _ _ _ _ _ _ _ _ _ _ _ r h => by simp [arraslaw5_CodeNums.j2] at h, fun _ _ _ _ _ _ _ _ _ _ _ _ _ _ _ _ _ r h => by simp [arraslaw5_CodeNums.j3] at h, fun _ _ _ _ _ _ _ _ _ _ _ _ _ _ r h => by simp [arraslaw5_CodeNums.j4] at h, fun _ _ _ r h => by simp [arraslaw5_CodeNums.j5] at h⟩
 | k + 1 => by
  obtain ⟨ih0, ih1, ih2, ih3, ih4, ih5⟩ := arraslaw5_CodeNums.mono_l k
  refine ⟨?_, ?_, ?_, ?_, ?_, ?_⟩
  ·intro y0 y1
   unfold arraslaw5_CodeNums.l0
   repeat' first
   | (with_reducible exact ih0 _ _)
   | (with_reducible exact ih1 _ _ _)
   | (with_reducible exact ih2 _ _ _ _ _ _ _ _ _ _ _ _ _ _ _ _)
   | (with_reducible exact ih3 _ _ _ _ _ _ _ _ _ _ _ _ _ _ _ _ _)
   | (with_reducible exact ih4 _ _ _ _ _ _ _ _ _ _ _ _ _ _)
   | (with_reducible exact ih5 _ _ _)
   | (with_reducible exact arraslaw5_wakes.mono _)
   | (with_reducible exact arrasref0_EqBytes.mono _ _ _)
   | (with_reducible exact arrasref5_Num.mono _ _)
   | (with_reducible exact arrasref5_Numbers.mono _ _)
   | (with_reducible exact arrasref5_Nums.mono _ _)
   | (with_reducible exact arrasref5_Text.mono _ _)
   | (with_reducible exact code_Num.mono _ _)
   | (with_reducible exact code_Nums.mono _ _)
   | (with_reducible exact code_Text.mono _ _)
   | (with_reducible exact LeO.refl _)
   | (with_reducible exact LeO.none _)
   | (with_reducible refine LeO.ite ?_ ?_)
   | (with_reducible refine LeO.bind ?_ (fun _ => ?_))
   | exact ih0 _ _
   | exact ih1 _ _ _
   | exact ih2 _ _ _ _ _ _ _ _ _ _ _ _ _ _ _ _
   | exact ih3 _ _ _ _ _ _ _ _ _ _ _ _ _ _ _ _ _
   | exact ih4 _ _ _ _ _ _ _ _ _ _ _ _ _ _
   | exact ih5 _ _ _
   | exact arraslaw5_wakes.mono _
   | exact arrasref0_EqBytes.mono _ _ _
   | exact arrasref5_Num.mono _ _
   | exact arrasref5_Numbers.mono _ _
   | exact arrasref5_Nums.mono _ _
   | exact arrasref5_Text.mono _ _
   | exact code_Num.mono _ _
   | exact code_Nums.mono _ _
   | exact code_Text.mono _ _
   | exact LeO.none _
   | refine LeO.ite ?_ ?_
   | refine LeO.bind ?_ (fun _ => ?_)
  ·intro y0 y1 y2
   unfold arraslaw5_CodeNums.j1
   repeat' first
   | (with_reducible exact ih0 _ _)
   | (with_reducible exact ih1 _ _ _)
   | (with_reducible exact ih2 _ _ _ _ _ _ _ _ _ _ _ _ _ _ _ _)
   | (with_reducible exact ih3 _ _ _ _ _ _ _ _ _ _ _ _ _ _ _ _ _)
   | (with_reducible exact ih4 _ _ _ _ _ _ _ _ _ _ _ _ _ _)
   | (with_reducible exact ih5 _ _ _)
   | (with_reducible exact arraslaw5_wakes.mono _)
   | (with_reducible exact arrasref0_EqBytes.mono _ _ _)
   | (with_reducible exact arrasref5_Num.mono _ _)
   | (with_reducible exact arrasref5_Numbers.mono _ _)
   | (with_reducible exact arrasref5_Nums.mono _ _)
   | (with_reducible exact arrasref5_Text.mono _ _)
   | (with_reducible exact code_Num.mono _ _)
   | (with_reducible exact code_Nums.mono _ _)
   | (with_reducible exact code_Text.mono _ _)
   | (with_reducible exact LeO.refl _)
   | (with_reducible exact LeO.none _)
   | (with_reducible refine LeO.ite ?_ ?_)
   | (with_reducible refine LeO.bind ?_ (fun _ => ?_))
   | exact ih0 _ _
   | exact ih1 _ _ _
   | exact ih2 _ _ _ _ _ _ _ _ _ _ _ _ _ _ _ _
   | exact ih3 _ _ _ _ _ _ _ _ _ _ _ _ _ _ _ _ _
   | exact ih4 _ _ _ _ _ _ _ _ _ _ _ _ _ _
   | exact ih5 _ _ _
   | exact arraslaw5_wakes.mono _
   | exact arrasref0_EqBytes.mono _ _ _
   | exact arrasref5_Num.mono _ _
   | exact arrasref5_Numbers.mono _ _
   | exact arrasref5_Nums.mono _ _
   | exact arrasref5_Text.mono _ _
   | exact code_Num.mono _ _
   | exact code_Nums.mono _ _
   | exact code_Text.mono _ _
   | exact LeO.none _
   | refine LeO.ite ?_ ?_
   | refine LeO.bind ?_ (fun _ => ?_)
  ·intro y0 y1 y2 y3 y4 y5 y6 y7 y8 y9 y10 y11 y12 y13 y14 y15
   unfold arraslaw5_CodeNums.j2
   repeat' first
   | (with_reducible exact ih0 _ _)
   | (with_reducible exact ih1 _ _ _)
   | (with_reducible exact ih2 _ _ _ _ _ _ _ _ _ _ _ _ _ _ _ _)
   | (with_reducible exact ih3 _ _ _ _ _ _ _ _ _ _ _ _ _ _ _ _ _)
   | (with_reducible exact ih4 _ _ _ _ _ _ _ _ _ _ _ _ _ _)
   | (with_reducible exact ih5 _ _ _)
   | (with_reducible exact arraslaw5_wakes.mono _)
   | (with_reducible exact arrasref0_EqBytes.mono _ _ _)
   | (with_reducible exact arrasref5_Num.mono _ _)
   | (with_reducible exact arrasref5_Numbers.mono _ _)
   | (with_reducible exact arrasref5_Nums.mono _ _)
   | (with_reducible exact arrasref5_Text.mono _ _)
   | (with_reducible exact code_Num.mono _ _)
   | (with_reducible exact code_Nums.mono _ _)
   | (with_reducible exact code_Text.mono _ _)
   | (with_reducible exact LeO.refl _)
   | (with_reducible exact LeO.none _)
   | (with_reducible refine LeO.ite ?_ ?_)
   | (with_reducible refine LeO.bind ?_ (fun _ => ?_))
   | exact ih0 _ _
   | exact ih1 _ _ _
   | exact ih2 _ _ _ _ _ _ _ _ _ _ _ _ _ _ _ _
   | exact ih3 _ _ _ _ _ _ _ _ _ _ _ _ _ _ _ _ _
   | exact ih4 _ _ _ _ _ _ _ _ _ _ _ _ _ _
   | exact ih5 _ _ _
   | exact arraslaw5_wakes.mono _
   | exact arrasref0_EqBytes.mono _ _ _
   | exact arrasref5_Num.mono _ _
   | exact arrasref5_Numbers.mono _ _
   | exact arrasref5_Nums.mono _ _
   | exact arrasref5_Text.mono _ _
   | exact code_Num.mono _ _
   | exact code_Nums.mono _ _
   | exact code_Text.mono _ _
   | exact LeO.none _
   | refine LeO.ite ?_ ?_
   | refine LeO.bind ?_ (fun _ => ?_)
  ·intro y0 y1 y2 y3 y4 y5 y6 y7 y8 y9 y10 y11 y12 y13 y14 y15 y16
   unfold arraslaw5_CodeNums.j3
   repeat' first
   | (with_reducible exact ih0 _ _)
   | (with_reducible exact ih1 _ _ _)
   | (with_reducible exact ih2 _ _ _ _ _ _ _ _ _ _ _ _ _ _ _ _)
   | (with_reducible exact ih3 _ _ _ _ _ _ _ _ _ _ _ _ _ _ _ _ _)
   | (with_reducible exact ih4 _ _ _ _ _ _ _ _ _ _ _ _ _ _)
   | (with_reducible exact ih5 _ _ _)
   | (with_reducible exact arraslaw5_wakes.mono _)
   | (with_reducible exact arrasref0_EqBytes.mono _ _ _)
   | (with_reducible exact arrasref5_Num.mono _ _)
   | (with_reducible exact arrasref5_Numbers.mono _ _)
   | (with_reducible exact arrasref5_Nums.mono _ _)
   | (with_reducible exact arrasref5_Text.mono _ _)
   | (with_reducible exact code_Num.mono _ _)
   | (with_reducible exact code_Nums.mono _ _)
   | (with_reducible exact code_Text.mono _ _)
   | (with_reducible exact LeO.refl _)
   | (with_reducible exact LeO.none _)
   | (with_reducible refine LeO.ite ?_ ?_)
   | (with_reducible refine LeO.bind ?_ (fun _ => ?_))
   | exact ih0 _ _
   | exact ih1 _ _ _
   | exact ih2 _ _ _ _ _ _ _ _ _ _ _ _ _ _ _ _
   | exact ih3 _ _ _ _ _ _ _ _ _ _ _ _ _ _ _ _ _
   | exact ih4 _ _ _ _ _ _ _ _ _ _ _ _ _ _
   | exact ih5 _ _ _
   | exact arraslaw5_wakes.mono _
   | exact arrasref0_EqBytes.mono _ _ _
   | exact arrasref5_Num.mono _ _
   | exact arrasref5_Numbers.mono _ _
   | exact arrasref5_Nums.mono _ _
   | exact arrasref5_Text.mono _ _
   | exact code_Num.mono _ _
   | exact code_Nums.mono _ _
   | exact code_Text.mono _ _
   | exact LeO.none _
   | refine LeO.ite ?_ ?_
   | refine LeO.bind ?_ (fun _ => ?_)
  ·intro y0 y1 y2 y3 y4 y5 y6 y7 y8 y9 y10 y11 y12 y13
   unfold arraslaw5_CodeNums.j4
   repeat' first
   | (with_reducible exact ih0 _ _)
   | (with_reducible exact ih1 _ _ _)
   | (with_reducible exact ih2 _ _ _ _ _ _ _ _ _ _ _ _ _ _ _ _)
   | (with_reducible exact ih3 _ _ _ _ _ _ _ _ _ _ _ _ _ _ _ _ _)
   | (with_reducible exact ih4 _ _ _ _ _ _ _ _ _ _ _ _ _ _)
   | (with_reducible exact ih5 _ _ _)
   | (with_reducible exact arraslaw5_wakes.mono _)
   | (with_reducible exact arrasref0_EqBytes.mono _ _ _)
   | (with_reducible exact arrasref5_Num.mono _ _)
   | (with_reducible exact arrasref5_Numbers.mono _ _)
   | (with_reducible exact arrasref5_Nums.mono _ _)
   | (with_reducible exact arrasref5_Text.mono _ _)
   | (with_reducible exact code_Num.mono _ _)
   | (with_reducible exact code_Nums.mono _ _)
   | (with_reducible exact code_Text.mono _ _)
   | (with_reducible exact LeO.refl _)
   | (with_reducible exact LeO.none _)
   | (with_reducible refine LeO.ite ?_ ?_)
   | (with_reducible refine LeO.bind ?_ (fun _ => ?_))
   | exact ih0 _ _
   | exact ih1 _ _ _
   | exact ih2 _ _ _ _ _ _ _ _ _ _ _ _ _ _ _ _
   | exact ih3 _ _ _ _ _ _ _ _ _ _ _ _ _ _ _ _ _
   | exact ih4 _ _ _ _ _ _ _ _ _ _ _ _ _ _
   | exact ih5 _ _ _
   | exact arraslaw5_wakes.mono _
   | exact arrasref0_EqBytes.mono _ _ _
   | exact arrasref5_Num.mono _ _
   | exact arrasref5_Numbers.mono _ _
   | exact arrasref5_Nums.mono _ _
   | exact arrasref5_Text.mono _ _
   | exact code_Num.mono _ _
   | exact code_Nums.mono _ _
   | exact code_Text.mono _ _
   | exact LeO.none _
   | refine LeO.ite ?_ ?_
   | refine LeO.bind ?_ (fun _ => ?_)
  ·intro y0 y1 y2
   unfold arraslaw5_CodeNums.j5
   repeat' first
   | (with_reducible exact ih0 _ _)
   | (with_reducible exact ih1 _ _ _)
   | (with_reducible exact ih2 _ _ _ _ _ _ _ _ _ _ _ _ _ _ _ _)
   | (with_reducible exact ih3 _ _ _ _ _ _ _ _ _ _ _ _ _ _ _ _ _)
   | (with_reducible exact ih4 _ _ _ _ _ _ _ _ _ _ _ _ _ _)
   | (with_reducible exact ih5 _ _ _)
   | (with_reducible exact arraslaw5_wakes.mono _)
   | (with_reducible exact arrasref0_EqBytes.mono _ _ _)
   | (with_reducible exact arrasref5_Num.mono _ _)
   | (with_reducible exact arrasref5_Numbers.mono _ _)
   | (with_reducible exact arrasref5_Nums.mono _ _)
   | (with_reducible exact arrasref5_Text.mono _ _)
   | (with_reducible exact code_Num.mono _ _)
   | (with_reducible exact code_Nums.mono _ _)
   | (with_reducible exact code_Text.mono _ _)
   | (with_reducible exact LeO.refl _)
   | (with_reducible exact LeO.none _)
   | (with_reducible refine LeO.ite ?_ ?_)
   | (with_reducible refine LeO.bind ?_ (fun _ => ?_))
   | exact ih0 _ _
   | exact ih1 _ _ _
   | exact ih2 _ _ _ _ _ _ _ _ _ _ _ _ _ _ _ _
   | exact ih3 _ _ _ _ _ _ _ _ _ _ _ _ _ _ _ _ _
   | exact ih4 _ _ _ _ _ _ _ _ _ _ _ _ _ _
   | exact ih5 _ _ _
   | exact arraslaw5_wakes.mono _
   | exact arrasref0_EqBytes.mono _ _ _
   | exact arrasref5_Num.mono _ _
   | exact arrasref5_Numbers.mono _ _
   | exact arrasref5_Nums.mono _ _
   | exact arrasref5_Text.mono _ _
   | exact code_Num.mono _ _
   | exact code_Nums.mono _ _
   | exact code_Text.mono _ _
   | exact LeO.none _
   | refine LeO.ite ?_ ?_
   | refine LeO.bind ?_ (fun _ => ?_)
theorem arraslaw5_CodeNums.mono : ∀ a0 k, LeO (arraslaw5_CodeNums.f k a0) (arraslaw5_CodeNums.f (k + 1) a0) := by
 intro a0 k
 obtain ⟨ih0, ih1, ih2, ih3, ih4, ih5⟩ := arraslaw5_CodeNums.mono_l k
 unfold arraslaw5_CodeNums.f
 repeat' first
   | (with_reducible exact ih0 _ _)
   | (with_reducible exact ih1 _ _ _)
   | (with_reducible exact ih2 _ _ _ _ _ _ _ _ _ _ _ _ _ _ _ _)
   | (with_reducible exact ih3 _ _ _ _ _ _ _ _ _ _ _ _ _ _ _ _ _)
   | (with_reducible exact ih4 _ _ _ _ _ _ _ _ _ _ _ _ _ _)
   | (with_reducible exact ih5 _ _ _)
   | (with_reducible exact arraslaw5_wakes.mono _)
   | (with_reducible exact arrasref0_EqBytes.mono _ _ _)
   | (with_reducible exact arrasref5_Num.mono _ _)
   | (with_reducible exact arrasref5_Numbers.mono _ _)
   | (with_reducible exact arrasref5_Nums.mono _ _)
   | (with_reducible exact arrasref5_Text.mono _ _)
   | (with_reducible exact code_Num.mono _ _)
   | (with_reducible exact code_Nums.mono _ _)
   | (with_reducible exact code_Text.mono _ _)
   | (with_reducible exact LeO.refl _)
   | (with_reducible exact LeO.none _)
   | (with_reducible refine LeO.ite ?_ ?_)
   | (with_reducible refine LeO.bind ?_ (fun _ => ?_))
   | exact ih0 _ _
   | exact ih1 _ _ _
   | exact ih2 _ _ _ _ _ _ _ _ _ _ _ _ _ _ _ _
   | exact ih3 _ _ _ _ _ _ _ _ _ _ _ _ _ _ _ _ _
   | exact ih4 _ _ _ _ _ _ _ _ _ _ _ _ _ _
   | exact ih5 _ _ _
   | exact arraslaw5_wakes.mono _
   | exact arrasref0_EqBytes.mono _ _ _
   | exact arrasref5_Num.mono _ _
   | exact arrasref5_Numbers.mono _ _
   | exact arrasref5_Nums.mono _ _
   | exact arrasref5_Text.mono _ _
   | exact code_Num.mono _ _
   | exact code_Nums.mono _ _
   | exact code_Text.mono _ _
   | exact LeO.none _
   | refine LeO.ite ?_ ?_
   | refine LeO.bind ?_ (fun _ => ?_)
def arraslaw5_CodeNums.T18 : Bool × List (List Nat × List Nat) := (true, [([], []), ([0], [0]), ([], []), ([2], [2]), ([1, 3], [1, 3]), ([4, 1], [4]), ([5], [5]), ([6, 5, 5], [5, 6]), ([5], [5]), ([8, 5], [5, 8]), ([7, 9, 5], [5, 7, 9]), ([5, 10], [5, 10]), ([11, 7], [11]), ([12], [12]), ([13, 12, 12], [12, 13]), ([12], [12]), ([15, 12], [12, 15]), ([14, 16, 12], [12, 14, 16]), ([12, 17], [12, 17]), ([18, 14], [18]), ([19], [19]), ([19], [19]), ([21, 19], [19, 21]), ([20, 22, 19, 19], [19, 20, 22]), ([23, 19], [19, 23]), ([19, 24], [19, 24]), ([25, 23], [25]), ([26], [26]), ([26], [26]), ([28, 26], [26, 28]), ([27, 29, 26, 26], [26, 27, 29]), ([30, 26], [26, 30]), ([26, 31], [26, 31]), ([32, 30], [32]), ([33], [33]), ([33], [33]), ([35, 33], [33, 35]), ([34, 36, 33, 33], [33, 34, 36]), ([37, 33], [33, 37]), ([33, 38], [33, 38])])
def arraslaw5_CodeNums.B18 : List Nat := [0, 1, 0, 4, 15, 31, 63, 127, 63, 319, 1023, 2047, 4095, 8191, 16383, 8191, 40959, 131071, 262143, 524287, 1048575, 1048575, 3145727, 8388607, 16777215, 33554431, 67108863, 134217727, 134217727, 402653183, 1073741823, 2147483647, 4294967295, 8589934591, 17179869183, 17179869183, 51539607551, 137438953471, 274877906943, 549755813887]
theorem arraslaw5_CodeNums.tab18 : rtab .any (opsOf Try.f6 18) = arraslaw5_CodeNums.T18 := by kernel_rfl
theorem arraslaw5_CodeNums.bits18 : waitsOk arraslaw5_CodeNums.T18.2 arraslaw5_CodeNums.B18 = true := by kernel_rfl
noncomputable def arraslaw5_CodeNums.L0 (x0 : List (S43)) (x3 : Int) : Option (Bool) := Go.Proofs.YtpmcojmhkpaoaaaLabel.lim (fun k => arraslaw5_CodeNums.l0 k x0 x3)
noncomputable def arraslaw5_CodeNums.J1 (x0 : List (S43)) (x3 : Int) (x20 : Bool) : Option (Bool) := Go.Proofs.YtpmcojmhkpaoaaaLabel.lim (fun k => arraslaw5_CodeNums.j1 k x0 x3 x20)
noncomputable def arraslaw5_CodeNums.J2 (x0 : List (S43)) (x3 : Int) (x5 : List Int) (x6 : Int) (x7 : List Int) (x8 : Int) (x9 : List Int) (x10 : Int) (x169000 : Int) (x169001 : ByteArray) (x169002 : List Int) (x169003 : List Int) (x183000 : List Int) (x184000 : Int) (x184001 : Int) (x184002 : Int) : Option (Bool) := Go.Proofs.YtpmcojmhkpaoaaaLabel.lim (fun k => arraslaw5_CodeNums.j2 k x0 x3 x5 x6 x7 x8 x9 x10 x169000 x169001 x169002 x169003 x183000 x184000 x184001 x184002)
noncomputable def arraslaw5_CodeNums.J3 (x0 : List (S43)) (x3 : Int) (x5 : List Int) (x6 : Int) (x7 : List Int) (x8 : Int) (x9 : List Int) (x10 : Int) (x169000 : Int) (x169001 : ByteArray) (x169002 : List Int) (x169003 : List Int) (x183000 : List Int) (x183001 : List Int) (x184000 : Int) (x184001 : Int) (x184002 : Int) : Option (Bool) := Go.Proofs.YtpmcojmhkpaoaaaLabel.lim (fun k => arraslaw5_CodeNums.j3 k x0 x3 x5 x6 x7 x8 x9 x10 x169000 x169001 x169002 x169003 x183000 x183001 x184000 x184001 x184002)
noncomputable def arraslaw5_CodeNums.J4 (x0 : List (S43)) (x3 : Int) (x5 : List Int) (x6 : Int) (x7 : List Int) (x8 : Int) (x9 : List Int) (x10 : Int) (x183000 : List Int) (x183001 : List Int) (x183002 : List Int) (x184000 : Int) (x184001 : Int) (x184002 : Int) : Option (Bool) := Go.Proofs.YtpmcojmhkpaoaaaLabel.lim (fun k => arraslaw5_CodeNums.j4 k x0 x3 x5 x6 x7 x8 x9 x10 x183000 x183001 x183002 x184000 x184001 x184002)
noncomputable def arraslaw5_CodeNums.J5 (x0 : List (S43)) (x3 : Int) (x112 : Bool) : Option (Bool) := Go.Proofs.YtpmcojmhkpaoaaaLabel.lim (fun k => arraslaw5_CodeNums.j5 k x0 x3 x112)
theorem arraslaw5_CodeNums.L0_lim (x0 : List (S43)) (x3 : Int) : Go.Proofs.YtpmcojmhkpaoaaaLabel.Lim (fun k => arraslaw5_CodeNums.l0 k x0 x3) (arraslaw5_CodeNums.L0 x0 x3) := Go.Proofs.YtpmcojmhkpaoaaaLabel.lim_spec (fun k => (arraslaw5_CodeNums.mono_l k).1 x0 x3)
theorem arraslaw5_CodeNums.J1_lim (x0 : List (S43)) (x3 : Int) (x20 : Bool) : Go.Proofs.YtpmcojmhkpaoaaaLabel.Lim (fun k => arraslaw5_CodeNums.j1 k x0 x3 x20) (arraslaw5_CodeNums.J1 x0 x3 x20) := Go.Proofs.YtpmcojmhkpaoaaaLabel.lim_spec (fun k => (arraslaw5_CodeNums.mono_l k).2.1 x0 x3 x20)
theorem arraslaw5_CodeNums.J2_lim (x0 : List (S43)) (x3 : Int) (x5 : List Int) (x6 : Int) (x7 : List Int) (x8 : Int) (x9 : List Int) (x10 : Int) (x169000 : Int) (x169001 : ByteArray) (x169002 : List Int) (x169003 : List Int) (x183000 : List Int) (x184000 : Int) (x184001 : Int) (x184002 : Int) : Go.Proofs.YtpmcojmhkpaoaaaLabel.Lim (fun k => arraslaw5_CodeNums.j2 k x0 x3 x5 x6 x7 x8 x9 x10 x169000 x169001 x169002 x169003 x183000 x184000 x184001 x184002) (arraslaw5_CodeNums.J2 x0 x3 x5 x6 x7 x8 x9 x10 x169000 x169001 x169002 x169003 x183000 x184000 x184001 x184002) := Go.Proofs.YtpmcojmhkpaoaaaLabel.lim_spec (fun k => (arraslaw5_CodeNums.mono_l k).2.2.1 x0 x3 x5 x6 x7 x8 x9 x10 x169000 x169001 x169002 x169003 x183000 x184000 x184001 x184002)
theorem arraslaw5_CodeNums.J3_lim (x0 : List (S43)) (x3 : Int) (x5 : List Int) (x6 : Int) (x7 : List Int) (x8 : Int) (x9 : List Int) (x10 : Int) (x169000 : Int) (x169001 : ByteArray) (x169002 : List Int) (x169003 : List Int) (x183000 : List Int) (x183001 : List Int) (x184000 : Int) (x184001 : Int) (x184002 : Int) : Go.Proofs.YtpmcojmhkpaoaaaLabel.Lim (fun k => arraslaw5_CodeNums.j3 k x0 x3 x5 x6 x7 x8 x9 x10 x169000 x169001 x169002 x169003 x183000 x183001 x184000 x184001 x184002) (arraslaw5_CodeNums.J3 x0 x3 x5 x6 x7 x8 x9 x10 x169000 x169001 x169002 x169003 x183000 x183001 x184000 x184001 x184002) := Go.Proofs.YtpmcojmhkpaoaaaLabel.lim_spec (fun k => (arraslaw5_CodeNums.mono_l k).2.2.2.1 x0 x3 x5 x6 x7 x8 x9 x10 x169000 x169001 x169002 x169003 x183000 x183001 x184000 x184001 x184002)
theorem arraslaw5_CodeNums.J4_lim (x0 : List (S43)) (x3 : Int) (x5 : List Int) (x6 : Int) (x7 : List Int) (x8 : Int) (x9 : List Int) (x10 : Int) (x183000 : List Int) (x183001 : List Int) (x183002 : List Int) (x184000 : Int) (x184001 : Int) (x184002 : Int) : Go.Proofs.YtpmcojmhkpaoaaaLabel.Lim (fun k => arraslaw5_CodeNums.j4 k x0 x3 x5 x6 x7 x8 x9 x10 x183000 x183001 x183002 x184000 x184001 x184002) (arraslaw5_CodeNums.J4 x0 x3 x5 x6 x7 x8 x9 x10 x183000 x183001 x183002 x184000 x184001 x184002) := Go.Proofs.YtpmcojmhkpaoaaaLabel.lim_spec (fun k => (arraslaw5_CodeNums.mono_l k).2.2.2.2.1 x0 x3 x5 x6 x7 x8 x9 x10 x183000 x183001 x183002 x184000 x184001 x184002)
theorem arraslaw5_CodeNums.J5_lim (x0 : List (S43)) (x3 : Int) (x112 : Bool) : Go.Proofs.YtpmcojmhkpaoaaaLabel.Lim (fun k => arraslaw5_CodeNums.j5 k x0 x3 x112) (arraslaw5_CodeNums.J5 x0 x3 x112) := Go.Proofs.YtpmcojmhkpaoaaaLabel.lim_spec (fun k => (arraslaw5_CodeNums.mono_l k).2.2.2.2.2 x0 x3 x112)
theorem arraslaw5_CodeNums.L0_eq (x0 : List (S43)) (x3 : Int) : arraslaw5_CodeNums.L0 x0 x3 = (if x3 < (x0.length : Int) then (arraslaw5_CodeNums.J1 x0 x3 (decide (x3 < 20))) else (arraslaw5_CodeNums.J1 x0 x3 false)) := by
  refine Go.Proofs.YtpmcojmhkpaoaaaLabel.Lim.unique (arraslaw5_CodeNums.L0_lim x0 x3).shift ?_
  simp only [arraslaw5_CodeNums.l0]
  (repeat' (first | exact Go.Proofs.YtpmcojmhkpaoaaaLabel.Lim.const _ | exact arraslaw5_CodeNums.L0_lim _ _ | exact arraslaw5_CodeNums.J1_lim _ _ _ | exact arraslaw5_CodeNums.J2_lim _ _ _ _ _ _ _ _ _ _ _ _ _ _ _ _ | exact arraslaw5_CodeNums.J3_lim _ _ _ _ _ _ _ _ _ _ _ _ _ _ _ _ _ | exact arraslaw5_CodeNums.J4_lim _ _ _ _ _ _ _ _ _ _ _ _ _ _ | exact arraslaw5_CodeNums.J5_lim _ _ _ | exact arraslaw5_wakes.F_lim | exact arrasref0_EqBytes.F_lim _ _ | exact arrasref5_Num.F_lim _ | exact arrasref5_Numbers.F_lim _ | exact arrasref5_Nums.F_lim _ | exact arrasref5_Text.F_lim _ | exact code_Num.F_lim _ | exact code_Nums.F_lim _ | exact code_Text.F_lim _ | refine Go.Proofs.YtpmcojmhkpaoaaaLabel.Lim.ite ?_ ?_ | refine Go.Proofs.YtpmcojmhkpaoaaaLabel.Lim.bind ?_ (fun _ => ?_)))
theorem arraslaw5_CodeNums.J1_eq (x0 : List (S43)) (x3 : Int) (x20 : Bool) : arraslaw5_CodeNums.J1 x0 x3 x20 = (if x20 = true then (if 0 ≤ x3 then (if x3 < (x0.length : Int) then ((arraslaw5_heavy.f ((rd_T43 x0 x3).f0) ((rd_T43 x0 x3).f1) ((rd_T43 x0 x3).f2) ((rd_T43 x0 x3).f3)).bind fun t169 => (if t169 = true then (some true) else ((code_Num.F ((rd_T43 x0 x3).f0)).bind fun bt170 => ((code_Text.F ((rd_T43 x0 x3).f1)).bind fun bt174 => ((code_Nums.F ((rd_T43 x0 x3).f2)).bind fun bt178 => ((arrasref5_Number.f ((rd_T43 x0 x3).f0)).bind fun t184 => (if t184 = true then ((arrasref5_Num.F ((rd_T43 x0 x3).f0)).bind fun t185 => (arraslaw5_CodeNums.J2 x0 x3 bt170.1 bt170.2 bt174.1 bt174.2 bt178.1 bt178.2 ((rd_T43 x0 x3).f0) ((rd_T43 x0 x3).f1) ((rd_T43 x0 x3).f2) ((rd_T43 x0 x3).f3) t185 0 1 1)) else (arraslaw5_CodeNums.J2 x0 x3 bt170.1 bt170.2 bt174.1 bt174.2 bt178.1 bt178.2 ((rd_T43 x0 x3).f0) ((rd_T43 x0 x3).f1) ((rd_T43 x0 x3).f2) ((rd_T43 x0 x3).f3) ([] : List Int) 1 1 1)))))))) else (none)) else (none)) else ((arraslaw5_wakes.F).bind fun t166 => (some t166))) := by
  refine Go.Proofs.YtpmcojmhkpaoaaaLabel.Lim.unique (arraslaw5_CodeNums.J1_lim x0 x3 x20).shift ?_
  simp only [arraslaw5_CodeNums.j1]
  (repeat' (first | exact Go.Proofs.YtpmcojmhkpaoaaaLabel.Lim.const _ | exact arraslaw5_CodeNums.L0_lim _ _ | exact arraslaw5_CodeNums.J1_lim _ _ _ | exact arraslaw5_CodeNums.J2_lim _ _ _ _ _ _ _ _ _ _ _ _ _ _ _ _ | exact arraslaw5_CodeNums.J3_lim _ _ _ _ _ _ _ _ _ _ _ _ _ _ _ _ _ | exact arraslaw5_CodeNums.J4_lim _ _ _ _ _ _ _ _ _ _ _ _ _ _ | exact arraslaw5_CodeNums.J5_lim _ _ _ | exact arraslaw5_wakes.F_lim | exact arrasref0_EqBytes.F_lim _ _ | exact arrasref5_Num.F_lim _ | exact arrasref5_Numbers.F_lim _ | exact arrasref5_Nums.F_lim _ | exact arrasref5_Text.F_lim _ | exact code_Num.F_lim _ | exact code_Nums.F_lim _ | exact code_Text.F_lim _ | refine Go.Proofs.YtpmcojmhkpaoaaaLabel.Lim.ite ?_ ?_ | refine Go.Proofs.YtpmcojmhkpaoaaaLabel.Lim.bind ?_ (fun _ => ?_)))
theorem arraslaw5_CodeNums.J2_eq (x0 : List (S43)) (x3 : Int) (x5 : List Int) (x6 : Int) (x7 : List Int) (x8 : Int) (x9 : List Int) (x10 : Int) (x169000 : Int) (x169001 : ByteArray) (x169002 : List Int) (x169003 : List Int) (x183000 : List Int) (x184000 : Int) (x184001 : Int) (x184002 : Int) : arraslaw5_CodeNums.J2 x0 x3 x5 x6 x7 x8 x9 x10 x169000 x169001 x169002 x169003 x183000 x184000 x184001 x184002 = (if (x169001.size : Int) ≤ 65536 then ((arrasref5_Text.F x169001).bind fun t188 => (arraslaw5_CodeNums.J3 x0 x3 x5 x6 x7 x8 x9 x10 x169000 x169001 x169002 x169003 x183000 t188 x184000 0 x184002)) else (arraslaw5_CodeNums.J3 x0 x3 x5 x6 x7 x8 x9 x10 x169000 x169001 x169002 x169003 x183000 ([] : List Int) x184000 x184001 x184002)) := by
  refine Go.Proofs.YtpmcojmhkpaoaaaLabel.Lim.unique (arraslaw5_CodeNums.J2_lim x0 x3 x5 x6 x7 x8 x9 x10 x169000 x169001 x169002 x169003 x183000 x184000 x184001 x184002).shift ?_
  simp only [arraslaw5_CodeNums.j2]
  (repeat' (first | exact Go.Proofs.YtpmcojmhkpaoaaaLabel.Lim.const _ | exact arraslaw5_CodeNums.L0_lim _ _ | exact arraslaw5_CodeNums.J1_lim _ _ _ | exact arraslaw5_CodeNums.J2_lim _ _ _ _ _ _ _ _ _ _ _ _ _ _ _ _ | exact arraslaw5_CodeNums.J3_lim _ _ _ _ _ _ _ _ _ _ _ _ _ _ _ _ _ | exact arraslaw5_CodeNums.J4_lim _ _ _ _ _ _ _ _ _ _ _ _ _ _ | exact arraslaw5_CodeNums.J5_lim _ _ _ | exact arraslaw5_wakes.F_lim | exact arrasref0_EqBytes.F_lim _ _ | exact arrasref5_Num.F_lim _ | exact arrasref5_Numbers.F_lim _ | exact arrasref5_Nums.F_lim _ | exact arrasref5_Text.F_lim _ | exact code_Num.F_lim _ | exact code_Nums.F_lim _ | exact code_Text.F_lim _ | refine Go.Proofs.YtpmcojmhkpaoaaaLabel.Lim.ite ?_ ?_ | refine Go.Proofs.YtpmcojmhkpaoaaaLabel.Lim.bind ?_ (fun _ => ?_)))
theorem arraslaw5_CodeNums.J3_eq (x0 : List (S43)) (x3 : Int) (x5 : List Int) (x6 : Int) (x7 : List Int) (x8 : Int) (x9 : List Int) (x10 : Int) (x169000 : Int) (x169001 : ByteArray) (x169002 : List Int) (x169003 : List Int) (x183000 : List Int) (x183001 : List Int) (x184000 : Int) (x184001 : Int) (x184002 : Int) : arraslaw5_CodeNums.J3 x0 x3 x5 x6 x7 x8 x9 x10 x169000 x169001 x169002 x169003 x183000 x183001 x184000 x184001 x184002 = ((arrasref5_Numbers.F x169002).bind fun t191 => (if t191 = true then ((arrasref5_Nums.F x169002).bind fun t192 => (arraslaw5_CodeNums.J4 x0 x3 x5 x6 x7 x8 x9 x10 x183000 x183001 t192 x184000 x184001 0)) else (arraslaw5_CodeNums.J4 x0 x3 x5 x6 x7 x8 x9 x10 x183000 x183001 ([] : List Int) x184000 x184001 x184002))) := by
  refine Go.Proofs.YtpmcojmhkpaoaaaLabel.Lim.unique (arraslaw5_CodeNums.J3_lim x0 x3 x5 x6 x7 x8 x9 x10 x169000 x169001 x169002 x169003 x183000 x183001 x184000 x184001 x184002).shift ?_
  simp only [arraslaw5_CodeNums.j3]
  (repeat' (first | exact Go.Proofs.YtpmcojmhkpaoaaaLabel.Lim.const _ | exact arraslaw5_CodeNums.L0_lim _ _ | exact arraslaw5_CodeNums.J1_lim _ _ _ | exact arraslaw5_CodeNums.J2_lim _ _ _ _ _ _ _ _ _ _ _ _ _ _ _ _ | exact arraslaw5_CodeNums.J3_lim _ _ _ _ _ _ _ _ _ _ _ _ _ _ _ _ _ | exact arraslaw5_CodeNums.J4_lim _ _ _ _ _ _ _ _ _ _ _ _ _ _ | exact arraslaw5_CodeNums.J5_lim _ _ _ | exact arraslaw5_wakes.F_lim | exact arrasref0_EqBytes.F_lim _ _ | exact arrasref5_Num.F_lim _ | exact arrasref5_Numbers.F_lim _ | exact arrasref5_Nums.F_lim _ | exact arrasref5_Text.F_lim _ | exact code_Num.F_lim _ | exact code_Nums.F_lim _ | exact code_Text.F_lim _ | refine Go.Proofs.YtpmcojmhkpaoaaaLabel.Lim.ite ?_ ?_ | refine Go.Proofs.YtpmcojmhkpaoaaaLabel.Lim.bind ?_ (fun _ => ?_)))
theorem arraslaw5_CodeNums.J4_eq (x0 : List (S43)) (x3 : Int) (x5 : List Int) (x6 : Int) (x7 : List Int) (x8 : Int) (x9 : List Int) (x10 : Int) (x183000 : List Int) (x183001 : List Int) (x183002 : List Int) (x184000 : Int) (x184001 : Int) (x184002 : Int) : arraslaw5_CodeNums.J4 x0 x3 x5 x6 x7 x8 x9 x10 x183000 x183001 x183002 x184000 x184001 x184002 = ((arraslaw5_num.f x6).bind fun t195 => (if t195 = x184000 then ((arraslaw5_num.f x8).bind fun t196 => (if t196 = x184001 then ((arraslaw5_num.f x10).bind fun t197 => (if t197 = x184002 then ((arrasref0_EqBytes.F x5 x183000).bind fun t198 => (if t198 = true then ((arrasref0_EqBytes.F x7 x183001).bind fun t199 => (if t199 = true then ((arrasref0_EqBytes.F x9 x183002).bind fun t200 => (arraslaw5_CodeNums.J5 x0 x3 (!t200))) else (arraslaw5_CodeNums.J5 x0 x3 true))) else (arraslaw5_CodeNums.J5 x0 x3 true))) else (arraslaw5_CodeNums.J5 x0 x3 true))) else (arraslaw5_CodeNums.J5 x0 x3 true))) else (arraslaw5_CodeNums.J5 x0 x3 true))) := by
  refine Go.Proofs.YtpmcojmhkpaoaaaLabel.Lim.unique (arraslaw5_CodeNums.J4_lim x0 x3 x5 x6 x7 x8 x9 x10 x183000 x183001 x183002 x184000 x184001 x184002).shift ?_
  simp only [arraslaw5_CodeNums.j4]
  (repeat' (first | exact Go.Proofs.YtpmcojmhkpaoaaaLabel.Lim.const _ | exact arraslaw5_CodeNums.L0_lim _ _ | exact arraslaw5_CodeNums.J1_lim _ _ _ | exact arraslaw5_CodeNums.J2_lim _ _ _ _ _ _ _ _ _ _ _ _ _ _ _ _ | exact arraslaw5_CodeNums.J3_lim _ _ _ _ _ _ _ _ _ _ _ _ _ _ _ _ _ | exact arraslaw5_CodeNums.J4_lim _ _ _ _ _ _ _ _ _ _ _ _ _ _ | exact arraslaw5_CodeNums.J5_lim _ _ _ | exact arraslaw5_wakes.F_lim | exact arrasref0_EqBytes.F_lim _ _ | exact arrasref5_Num.F_lim _ | exact arrasref5_Numbers.F_lim _ | exact arrasref5_Nums.F_lim _ | exact arrasref5_Text.F_lim _ | exact code_Num.F_lim _ | exact code_Nums.F_lim _ | exact code_Text.F_lim _ | refine Go.Proofs.YtpmcojmhkpaoaaaLabel.Lim.ite ?_ ?_ | refine Go.Proofs.YtpmcojmhkpaoaaaLabel.Lim.bind ?_ (fun _ => ?_)))
theorem arraslaw5_CodeNums.J5_eq (x0 : List (S43)) (x3 : Int) (x112 : Bool) : arraslaw5_CodeNums.J5 x0 x3 x112 = (if x112 = true then (some false) else (arraslaw5_CodeNums.L0 x0 (wrap64 (x3 + 1)))) := by
  refine Go.Proofs.YtpmcojmhkpaoaaaLabel.Lim.unique (arraslaw5_CodeNums.J5_lim x0 x3 x112).shift ?_
  simp only [arraslaw5_CodeNums.j5]
  (repeat' (first | exact Go.Proofs.YtpmcojmhkpaoaaaLabel.Lim.const _ | exact arraslaw5_CodeNums.L0_lim _ _ | exact arraslaw5_CodeNums.J1_lim _ _ _ | exact arraslaw5_CodeNums.J2_lim _ _ _ _ _ _ _ _ _ _ _ _ _ _ _ _ | exact arraslaw5_CodeNums.J3_lim _ _ _ _ _ _ _ _ _ _ _ _ _ _ _ _ _ | exact arraslaw5_CodeNums.J4_lim _ _ _ _ _ _ _ _ _ _ _ _ _ _ | exact arraslaw5_CodeNums.J5_lim _ _ _ | exact arraslaw5_wakes.F_lim | exact arrasref0_EqBytes.F_lim _ _ | exact arrasref5_Num.F_lim _ | exact arrasref5_Numbers.F_lim _ | exact arrasref5_Nums.F_lim _ | exact arrasref5_Text.F_lim _ | exact code_Num.F_lim _ | exact code_Nums.F_lim _ | exact code_Text.F_lim _ | refine Go.Proofs.YtpmcojmhkpaoaaaLabel.Lim.ite ?_ ?_ | refine Go.Proofs.YtpmcojmhkpaoaaaLabel.Lim.bind ?_ (fun _ => ?_)))
noncomputable def arraslaw5_CodeNums.F (l0 : List (S43)) : Option (Bool) := Go.Proofs.YtpmcojmhkpaoaaaLabel.lim (fun k => arraslaw5_CodeNums.f k l0)
theorem arraslaw5_CodeNums.F_lim (l0 : List (S43)) : Go.Proofs.YtpmcojmhkpaoaaaLabel.Lim (fun k => arraslaw5_CodeNums.f k l0) (arraslaw5_CodeNums.F l0) := Go.Proofs.YtpmcojmhkpaoaaaLabel.lim_spec (arraslaw5_CodeNums.mono l0)
theorem arraslaw5_CodeNums.F_eq (l0 : List (S43)) : arraslaw5_CodeNums.F l0 = (arraslaw5_CodeNums.L0 l0 0) := by
  refine Go.Proofs.YtpmcojmhkpaoaaaLabel.Lim.unique (arraslaw5_CodeNums.F_lim l0) ?_
  simp only [arraslaw5_CodeNums.f]
  (repeat' (first | exact Go.Proofs.YtpmcojmhkpaoaaaLabel.Lim.const _ | exact arraslaw5_CodeNums.L0_lim _ _ | exact arraslaw5_CodeNums.J1_lim _ _ _ | exact arraslaw5_CodeNums.J2_lim _ _ _ _ _ _ _ _ _ _ _ _ _ _ _ _ | exact arraslaw5_CodeNums.J3_lim _ _ _ _ _ _ _ _ _ _ _ _ _ _ _ _ _ | exact arraslaw5_CodeNums.J4_lim _ _ _ _ _ _ _ _ _ _ _ _ _ _ | exact arraslaw5_CodeNums.J5_lim _ _ _ | exact arraslaw5_wakes.F_lim | exact arrasref0_EqBytes.F_lim _ _ | exact arrasref5_Num.F_lim _ | exact arrasref5_Numbers.F_lim _ | exact arrasref5_Nums.F_lim _ | exact arrasref5_Text.F_lim _ | exact code_Num.F_lim _ | exact code_Nums.F_lim _ | exact code_Text.F_lim _ | refine Go.Proofs.YtpmcojmhkpaoaaaLabel.Lim.ite ?_ ?_ | refine Go.Proofs.YtpmcojmhkpaoaaaLabel.Lim.bind ?_ (fun _ => ?_)))

end Go.Proofs.Ytpmcojmhkpaoaaa.PN
