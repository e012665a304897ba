-- Printed by this session's wip/myprint.py
import Derived.Test.YtpmcojmhkpaoaaaPAx0
namespace Go.Proofs.Ytpmcojmhkpaoaaa.PA
open Go.RowKit Go.Proofs.YtpmcojmhkpaoaaaW.PrintWords Go.Proofs.YtpmcojmhkpaoaaaW.PrintLast Go.Proofs.YtpmcojmhkpaoaaaW.PrintMore
attribute [local go_sem] max2_int min2_int max_two min_two max_three min_three max_four min_four   -- for this text's walks alone
set_option linter.unusedVariables false
set_option linter.unusedSimpArgs false

/-! #### arrasref0_CopyBytes: function 17 -/
def arrasref0_CopyBytes.l0 : Nat → List Int → List Int → Int → Option (List Int)
 | 0, _, _, _ => none
 | k + 1, x0, x3, x4 => if x4 < (x0.length : Int) then (if 0 ≤ x4 then (if x3.length < 140737488355328 then (arrasref0_CopyBytes.l0 k x0 (x3 ++ [rd x0 x4]) (wrap64 (x4 + 1))) else (none)) else (none)) else (some x3)
def arrasref0_CopyBytes.f (k : Nat) (l0 : List Int) : Option (List Int) := arrasref0_CopyBytes.l0 k l0 ([] : List Int) 0
theorem arrasref0_CopyBytes.mono_l : ∀ k, (∀ y0 y1 y2, LeO (arrasref0_CopyBytes.l0 k y0 y1 y2) (arrasref0_CopyBytes.l0 (k + 1) y0 y1 y2))
 | 0 => fun _ _ _ r h => by simp [arrasref0_CopyBytes.l0] at h
 | k + 1 => by
  have ih0 := arrasref0_CopyBytes.mono_l k
  ·intro y0 y1 y2
   unfold arrasref0_CopyBytes.l0
   repeat' first
   | (with_reducible exact ih0 _ _ _)
   | (with_reducible exact LeO.refl _)
   | (with_reducible exact LeO.none _)
   | (with_reducible refine LeO.ite ?_ ?_)
   | (with_reducible refine LeO.bind ?_ (fun _ => ?_))
   | exact ih0 _ _ _
   | exact LeO.none _
   | refine LeO.ite ?_ ?_
   | refine LeO.bind ?_ (fun _ => ?_)
theorem arrasref0_CopyBytes.mono : ∀ a0 k, LeO (arrasref0_CopyBytes.f k a0) (arrasref0_CopyBytes.f (k + 1) a0) := by
 intro a0 k
 have ih0 := arrasref0_CopyBytes.mono_l k
 unfold arrasref0_CopyBytes.f
 repeat' first
   | (with_reducible exact ih0 _ _ _)
   | (with_reducible exact LeO.refl _)
   | (with_reducible exact LeO.none _)
   | (with_reducible refine LeO.ite ?_ ?_)
   | (with_reducible refine LeO.bind ?_ (fun _ => ?_))
   | exact ih0 _ _ _
   | exact LeO.none _
   | refine LeO.ite ?_ ?_
   | refine LeO.bind ?_ (fun _ => ?_)
noncomputable def arrasref0_CopyBytes.L0 (x0 : List Int) (x3 : List Int) (x4 : Int) : Option (List Int) := Go.Proofs.YtpmcojmhkpaoaaaLabel.lim (fun k => arrasref0_CopyBytes.l0 k x0 x3 x4)
theorem arrasref0_CopyBytes.L0_lim (x0 : List Int) (x3 : List Int) (x4 : Int) : Go.Proofs.YtpmcojmhkpaoaaaLabel.Lim (fun k => arrasref0_CopyBytes.l0 k x0 x3 x4) (arrasref0_CopyBytes.L0 x0 x3 x4) := Go.Proofs.YtpmcojmhkpaoaaaLabel.lim_spec (fun k => (arrasref0_CopyBytes.mono_l k) x0 x3 x4)
theorem arrasref0_CopyBytes.L0_eq (x0 : List Int) (x3 : List Int) (x4 : Int) : arrasref0_CopyBytes.L0 x0 x3 x4 = (if x4 < (x0.length : Int) then (if 0 ≤ x4 then (if x3.length < 140737488355328 then (arrasref0_CopyBytes.L0 x0 (x3 ++ [rd x0 x4]) (wrap64 (x4 + 1))) else (none)) else (none)) else (some x3)) := by
  refine Go.Proofs.YtpmcojmhkpaoaaaLabel.Lim.unique (arrasref0_CopyBytes.L0_lim x0 x3 x4).shift ?_
  simp only [arrasref0_CopyBytes.l0]
  (repeat' (first | exact Go.Proofs.YtpmcojmhkpaoaaaLabel.Lim.const _ | exact arrasref0_CopyBytes.L0_lim _ _ _ | refine Go.Proofs.YtpmcojmhkpaoaaaLabel.Lim.ite ?_ ?_ | refine Go.Proofs.YtpmcojmhkpaoaaaLabel.Lim.bind ?_ (fun _ => ?_)))
noncomputable def arrasref0_CopyBytes.F (l0 : List Int) : Option (List Int) := Go.Proofs.YtpmcojmhkpaoaaaLabel.lim (fun k => arrasref0_CopyBytes.f k l0)
theorem arrasref0_CopyBytes.F_lim (l0 : List Int) : Go.Proofs.YtpmcojmhkpaoaaaLabel.Lim (fun k => arrasref0_CopyBytes.f k l0) (arrasref0_CopyBytes.F l0) := Go.Proofs.YtpmcojmhkpaoaaaLabel.lim_spec (arrasref0_CopyBytes.mono l0)
theorem arrasref0_CopyBytes.F_eq (l0 : List Int) : arrasref0_CopyBytes.F l0 = (arrasref0_CopyBytes.L0 l0 ([] : List Int) 0) := by
  refine Go.Proofs.YtpmcojmhkpaoaaaLabel.Lim.unique (arrasref0_CopyBytes.F_lim l0) ?_
  simp only [arrasref0_CopyBytes.f]
  (repeat' (first | exact Go.Proofs.YtpmcojmhkpaoaaaLabel.Lim.const _ | exact arrasref0_CopyBytes.L0_lim _ _ _ | refine Go.Proofs.YtpmcojmhkpaoaaaLabel.Lim.ite ?_ ?_ | refine Go.Proofs.YtpmcojmhkpaoaaaLabel.Lim.bind ?_ (fun _ => ?_)))

/-! #### sum_Sum: function 18 -/
def sum_Sum.l0 : Nat → Int → List Int → Int → Int → Option (Int)
 | 0, _, _, _, _ => none
 | k + 1, x0, x1, x5, x6 => if x6 < 8 then (sum_Sum.l0 k (Go.bits .xor .u32 (x0 / 2) ((3988292384 * (Go.bits .and .u32 x0 1)) % 4294967296)) x1 x5 (wrap64 (x6 + 1))) else (if x5 < (x1.length : Int) then (if 0 ≤ x5 then (sum_Sum.l0 k (Go.bits .xor .u32 x0 ((rd x1 x5) % 4294967296)) x1 (wrap64 (x5 + 1)) 0) else (none)) else (some (Go.bits .xor .u32 4294967295 x0)))
def sum_Sum.f (k : Nat) (a0 : Int) (l1 : List Int) : Option (Int) := sum_Sum.l0 k (Go.bits .xor .u32 4294967295 a0) l1 0 8
theorem sum_Sum.mono_l : ∀ k, (∀ y0 y1 y2 y3, LeO (sum_Sum.l0 k y0 y1 y2 y3) (sum_Sum.l0 (k + 1) y0 y1 y2 y3))
 | 0 => fun _ _ _ _ r h => by simp [sum_Sum.l0] at h
 | k + 1 => by
  have ih0 := sum_Sum.mono_l k
  ·intro y0 y1 y2 y3
   unfold sum_Sum.l0
   repeat' first
   | (with_reducible exact ih0 _ _ _ _)
   | (with_reducible exact LeO.refl _)
   | (with_reducible exact LeO.none _)
   | (with_reducible refine LeO.ite ?_ ?_)
   | (with_reducible refine LeO.bind ?_ (fun _ => ?_))
   | exact ih0 _ _ _ _
   | exact LeO.none _
   | refine LeO.ite ?_ ?_
   | refine LeO.bind ?_ (fun _ => ?_)
theorem sum_Sum.mono : ∀ a0 a1 k, LeO (sum_Sum.f k a0 a1) (sum_Sum.f (k + 1) a0 a1) := by
 intro a0 a1 k
 have ih0 := sum_Sum.mono_l k
 unfold sum_Sum.f
 repeat' first
   | (with_reducible exact ih0 _ _ _ _)
   | (with_reducible exact LeO.refl _)
   | (with_reducible exact LeO.none _)
   | (with_reducible refine LeO.ite ?_ ?_)
   | (with_reducible refine LeO.bind ?_ (fun _ => ?_))
   | exact ih0 _ _ _ _
   | exact LeO.none _
   | refine LeO.ite ?_ ?_
   | refine LeO.bind ?_ (fun _ => ?_)
noncomputable def sum_Sum.L0 (x0 : Int) (x1 : List Int) (x5 : Int) (x6 : Int) : Option (Int) := Go.Proofs.YtpmcojmhkpaoaaaLabel.lim (fun k => sum_Sum.l0 k x0 x1 x5 x6)
theorem sum_Sum.L0_lim (x0 : Int) (x1 : List Int) (x5 : Int) (x6 : Int) : Go.Proofs.YtpmcojmhkpaoaaaLabel.Lim (fun k => sum_Sum.l0 k x0 x1 x5 x6) (sum_Sum.L0 x0 x1 x5 x6) := Go.Proofs.YtpmcojmhkpaoaaaLabel.lim_spec (fun k => (sum_Sum.mono_l k) x0 x1 x5 x6)
theorem sum_Sum.L0_eq (x0 : Int) (x1 : List Int) (x5 : Int) (x6 : Int) : sum_Sum.L0 x0 x1 x5 x6 = (if x6 < 8 then (sum_Sum.L0 (Go.bits .xor .u32 (x0 / 2) ((3988292384 * (Go.bits .and .u32 x0 1)) % 4294967296)) x1 x5 (wrap64 (x6 + 1))) else (if x5 < (x1.length : Int) then (if 0 ≤ x5 then (sum_Sum.L0 (Go.bits .xor .u32 x0 ((rd x1 x5) % 4294967296)) x1 (wrap64 (x5 + 1)) 0) else (none)) else (some (Go.bits .xor .u32 4294967295 x0)))) := by
  refine Go.Proofs.YtpmcojmhkpaoaaaLabel.Lim.unique (sum_Sum.L0_lim x0 x1 x5 x6).shift ?_
  simp only [sum_Sum.l0]
  (repeat' (first | exact Go.Proofs.YtpmcojmhkpaoaaaLabel.Lim.const _ | exact sum_Sum.L0_lim _ _ _ _ | refine Go.Proofs.YtpmcojmhkpaoaaaLabel.Lim.ite ?_ ?_ | refine Go.Proofs.YtpmcojmhkpaoaaaLabel.Lim.bind ?_ (fun _ => ?_)))
noncomputable def sum_Sum.F (a0 : Int) (l1 : List Int) : Option (Int) := Go.Proofs.YtpmcojmhkpaoaaaLabel.lim (fun k => sum_Sum.f k a0 l1)
theorem sum_Sum.F_lim (a0 : Int) (l1 : List Int) : Go.Proofs.YtpmcojmhkpaoaaaLabel.Lim (fun k => sum_Sum.f k a0 l1) (sum_Sum.F a0 l1) := Go.Proofs.YtpmcojmhkpaoaaaLabel.lim_spec (sum_Sum.mono a0 l1)
theorem sum_Sum.F_eq (a0 : Int) (l1 : List Int) : sum_Sum.F a0 l1 = (sum_Sum.L0 (Go.bits .xor .u32 4294967295 a0) l1 0 8) := by
  refine Go.Proofs.YtpmcojmhkpaoaaaLabel.Lim.unique (sum_Sum.F_lim a0 l1) ?_
  simp only [sum_Sum.f]
  (repeat' (first | exact Go.Proofs.YtpmcojmhkpaoaaaLabel.Lim.const _ | exact sum_Sum.L0_lim _ _ _ _ | refine Go.Proofs.YtpmcojmhkpaoaaaLabel.Lim.ite ?_ ?_ | refine Go.Proofs.YtpmcojmhkpaoaaaLabel.Lim.bind ?_ (fun _ => ?_)))

/-! #### arrasref5_Sum: function 19 -/
mutual
def arrasref5_Sum.l0 : Nat → Int → List Int → Int → Option (Int)
 | 0, _, _, _ => none
 | k + 1, x0, x1, x5 => if x5 < (x1.length : Int) then (if 0 ≤ x5 then (arrasref5_Sum.l1 k (Go.bits .xor .u32 x0 ((rd x1 x5) % 4294967296)) x1 x5 0) else (none)) else (some (Go.bits .xor .u32 x0 4294967295))
def arrasref5_Sum.l1 : Nat → Int → List Int → Int → Int → Option (Int)
 | 0, _, _, _, _ => none
 | k + 1, x0, x1, x5, x6 => if x6 < 8 then (if (Go.bits .and .u32 x0 1) = 1 then (arrasref5_Sum.l1 k (Go.bits .xor .u32 (x0 / 2) 3988292384) x1 x5 (wrap64 (x6 + 1))) else (arrasref5_Sum.l1 k (x0 / 2) x1 x5 (wrap64 (x6 + 1)))) else (arrasref5_Sum.l0 k x0 x1 (wrap64 (x5 + 1)))
end
def arrasref5_Sum.f (k : Nat) (a0 : Int) (l1 : List Int) : Option (Int) := arrasref5_Sum.l0 k (Go.bits .xor .u32 a0 4294967295) l1 0
theorem arrasref5_Sum.mono_l : ∀ k, (∀ y0 y1 y2, LeO (arrasref5_Sum.l0 k y0 y1 y2) (arrasref5_Sum.l0 (k + 1) y0 y1 y2)) ∧ (∀ y0 y1 y2 y3, LeO (arrasref5_Sum.l1 k y0 y1 y2 y3) (arrasref5_Sum.l1 (k + 1) y0 y1 y2 y3))
 | 0 => ⟨fun _ _ _ r h => by simp [arrasref5_Sum.l0] at h, fun _ _ _ _ r h => by simp [arrasref5_Sum.l1] at h⟩
 | k + 1 => by
  obtain ⟨ih0, ih1⟩ := arrasref5_Sum.mono_l k
  refine ⟨?_, ?_⟩
  ·intro y0 y1 y2
   unfold arrasref5_Sum.l0
   repeat' first
   | (with_reducible exact ih0 _ _ _)
   | (with_reducible exact ih1 _ _ _ _)
   | (with_reducible exact LeO.refl _)
   | (with_reducible exact LeO.none _)
   | (with_reducible refine LeO.ite ?_ ?_)
   | (with_reducible refine LeO.bind ?_ (fun _ => ?_))
   | exact ih0 _ _ _
   | exact ih1 _ _ _ _
   | exact LeO.none _
   | refine LeO.ite ?_ ?_
   | refine LeO.bind ?_ (fun _ => ?_)
  ·intro y0 y1 y2 y3
   unfold arrasref5_Sum.l1
   repeat' first
   | (with_reducible exact ih0 _ _ _)
   | (with_reducible exact ih1 _ _ _ _)
   | (with_reducible exact LeO.refl _)
   | (with_reducible exact LeO.none _)
   | (with_reducible refine LeO.ite ?_ ?_)
   | (with_reducible refine LeO.bind ?_ (fun _ => ?_))
   | exact ih0 _ _ _
   | exact ih1 _ _ _ _
   | exact LeO.none _
   | refine LeO.ite ?_ ?_
   | refine LeO.bind ?_ (fun _ => ?_)
theorem arrasref5_Sum.mono : ∀ a0 a1 k, LeO (arrasref5_Sum.f k a0 a1) (arrasref5_Sum.f (k + 1) a0 a1) := by
 intro a0 a1 k
 obtain ⟨ih0, ih1⟩ := arrasref5_Sum.mono_l k
 unfold arrasref5_Sum.f
 repeat' first
   | (with_reducible exact ih0 _ _ _)
   | (with_reducible exact ih1 _ _ _ _)
   | (with_reducible exact LeO.refl _)
   | (with_reducible exact LeO.none _)
   | (with_reducible refine LeO.ite ?_ ?_)
   | (with_reducible refine LeO.bind ?_ (fun _ => ?_))
   | exact ih0 _ _ _
   | exact ih1 _ _ _ _
   | exact LeO.none _
   | refine LeO.ite ?_ ?_
   | refine LeO.bind ?_ (fun _ => ?_)
noncomputable def arrasref5_Sum.L0 (x0 : Int) (x1 : List Int) (x5 : Int) : Option (Int) := Go.Proofs.YtpmcojmhkpaoaaaLabel.lim (fun k => arrasref5_Sum.l0 k x0 x1 x5)
noncomputable def arrasref5_Sum.L1 (x0 : Int) (x1 : List Int) (x5 : Int) (x6 : Int) : Option (Int) := Go.Proofs.YtpmcojmhkpaoaaaLabel.lim (fun k => arrasref5_Sum.l1 k x0 x1 x5 x6)
theorem arrasref5_Sum.L0_lim (x0 : Int) (x1 : List Int) (x5 : Int) : Go.Proofs.YtpmcojmhkpaoaaaLabel.Lim (fun k => arrasref5_Sum.l0 k x0 x1 x5) (arrasref5_Sum.L0 x0 x1 x5) := Go.Proofs.YtpmcojmhkpaoaaaLabel.lim_spec (fun k => (arrasref5_Sum.mono_l k).1 x0 x1 x5)
theorem arrasref5_Sum.L1_lim (x0 : Int) (x1 : List Int) (x5 : Int) (x6 : Int) : Go.Proofs.YtpmcojmhkpaoaaaLabel.Lim (fun k => arrasref5_Sum.l1 k x0 x1 x5 x6) (arrasref5_Sum.L1 x0 x1 x5 x6) := Go.Proofs.YtpmcojmhkpaoaaaLabel.lim_spec (fun k => (arrasref5_Sum.mono_l k).2 x0 x1 x5 x6)
theorem arrasref5_Sum.L0_eq (x0 : Int) (x1 : List Int) (x5 : Int) : arrasref5_Sum.L0 x0 x1 x5 = (if x5 < (x1.length : Int) then (if 0 ≤ x5 then (arrasref5_Sum.L1 (Go.bits .xor .u32 x0 ((rd x1 x5) % 4294967296)) x1 x5 0) else (none)) else (some (Go.bits .xor .u32 x0 4294967295))) := by
  refine Go.Proofs.YtpmcojmhkpaoaaaLabel.Lim.unique (arrasref5_Sum.L0_lim x0 x1 x5).shift ?_
  simp only [arrasref5_Sum.l0]
  (repeat' (first | exact Go.Proofs.YtpmcojmhkpaoaaaLabel.Lim.const _ | exact arrasref5_Sum.L0_lim _ _ _ | exact arrasref5_Sum.L1_lim _ _ _ _ | refine Go.Proofs.YtpmcojmhkpaoaaaLabel.Lim.ite ?_ ?_ | refine Go.Proofs.YtpmcojmhkpaoaaaLabel.Lim.bind ?_ (fun _ => ?_)))
theorem arrasref5_Sum.L1_eq (x0 : Int) (x1 : List Int) (x5 : Int) (x6 : Int) : arrasref5_Sum.L1 x0 x1 x5 x6 = (if x6 < 8 then (if (Go.bits .and .u32 x0 1) = 1 then (arrasref5_Sum.L1 (Go.bits .xor .u32 (x0 / 2) 3988292384) x1 x5 (wrap64 (x6 + 1))) else (arrasref5_Sum.L1 (x0 / 2) x1 x5 (wrap64 (x6 + 1)))) else (arrasref5_Sum.L0 x0 x1 (wrap64 (x5 + 1)))) := by
  refine Go.Proofs.YtpmcojmhkpaoaaaLabel.Lim.unique (arrasref5_Sum.L1_lim x0 x1 x5 x6).shift ?_
  simp only [arrasref5_Sum.l1]
  (repeat' (first | exact Go.Proofs.YtpmcojmhkpaoaaaLabel.Lim.const _ | exact arrasref5_Sum.L0_lim _ _ _ | exact arrasref5_Sum.L1_lim _ _ _ _ | refine Go.Proofs.YtpmcojmhkpaoaaaLabel.Lim.ite ?_ ?_ | refine Go.Proofs.YtpmcojmhkpaoaaaLabel.Lim.bind ?_ (fun _ => ?_)))
noncomputable def arrasref5_Sum.F (a0 : Int) (l1 : List Int) : Option (Int) := Go.Proofs.YtpmcojmhkpaoaaaLabel.lim (fun k => arrasref5_Sum.f k a0 l1)
theorem arrasref5_Sum.F_lim (a0 : Int) (l1 : List Int) : Go.Proofs.YtpmcojmhkpaoaaaLabel.Lim (fun k => arrasref5_Sum.f k a0 l1) (arrasref5_Sum.F a0 l1) := Go.Proofs.YtpmcojmhkpaoaaaLabel.lim_spec (arrasref5_Sum.mono a0 l1)
theorem arrasref5_Sum.F_eq (a0 : Int) (l1 : List Int) : arrasref5_Sum.F a0 l1 = (arrasref5_Sum.L0 (Go.bits .xor .u32 a0 4294967295) l1 0) := by
  refine Go.Proofs.YtpmcojmhkpaoaaaLabel.Lim.unique (arrasref5_Sum.F_lim a0 l1) ?_
  simp only [arrasref5_Sum.f]
  (repeat' (first | exact Go.Proofs.YtpmcojmhkpaoaaaLabel.Lim.const _ | exact arrasref5_Sum.L0_lim _ _ _ | exact arrasref5_Sum.L1_lim _ _ _ _ | refine Go.Proofs.YtpmcojmhkpaoaaaLabel.Lim.ite ?_ ?_ | refine Go.Proofs.YtpmcojmhkpaoaaaLabel.Lim.bind ?_ (fun _ => ?_)))

/-! #### arrasref0_EqBytes: function 20 -/
def arrasref0_EqBytes.l0 : Nat → List Int → List Int → Int → Option (Bool)
 | 0, _, _, _ => none
 | k + 1, x0, x1, x5 => if x5 < (x0.length : Int) then (if 0 ≤ x5 then (if x5 < (x1.length : Int) then (if (rd x0 x5) = (rd x1 x5) then (arrasref0_EqBytes.l0 k x0 x1 (wrap64 (x5 + 1))) else (some false)) else (none)) else (none)) else (some true)
def arrasref0_EqBytes.f (k : Nat) (l0 : List Int) (l1 : List Int) : Option (Bool) := if (l0.length : Int) = (l1.length : Int) then (arrasref0_EqBytes.l0 k l0 l1 0) else (some false)
theorem arrasref0_EqBytes.mono_l : ∀ k, (∀ y0 y1 y2, LeO (arrasref0_EqBytes.l0 k y0 y1 y2) (arrasref0_EqBytes.l0 (k + 1) y0 y1 y2))
 | 0 => fun _ _ _ r h => by simp [arrasref0_EqBytes.l0] at h
 | k + 1 => by
  have ih0 := arrasref0_EqBytes.mono_l k
  ·intro y0 y1 y2
   unfold arrasref0_EqBytes.l0
   repeat' first
   | (with_reducible exact ih0 _ _ _)
   | (with_reducible exact LeO.refl _)
   | (with_reducible exact LeO.none _)
   | (with_reducible refine LeO.ite ?_ ?_)
   | (with_reducible refine LeO.bind ?_ (fun _ => ?_))
   | exact ih0 _ _ _
   | exact LeO.none _
   | refine LeO.ite ?_ ?_
   | refine LeO.bind ?_ (fun _ => ?_)
theorem arrasref0_EqBytes.mono : ∀ a0 a1 k, LeO (arrasref0_EqBytes.f k a0 a1) (arrasref0_EqBytes.f (k + 1) a0 a1) := by
 intro a0 a1 k
 have ih0 := arrasref0_EqBytes.mono_l k
 unfold arrasref0_EqBytes.f
 repeat' first
   | (with_reducible exact ih0 _ _ _)
   | (with_reducible exact LeO.refl _)
   | (with_reducible exact LeO.none _)
   | (with_reducible refine LeO.ite ?_ ?_)
   | (with_reducible refine LeO.bind ?_ (fun _ => ?_))
   | exact ih0 _ _ _
   | exact LeO.none _
   | refine LeO.ite ?_ ?_
   | refine LeO.bind ?_ (fun _ => ?_)
noncomputable def arrasref0_EqBytes.L0 (x0 : List Int) (x1 : List Int) (x5 : Int) : Option (Bool) := Go.Proofs.YtpmcojmhkpaoaaaLabel.lim (fun k => arrasref0_EqBytes.l0 k x0 x1 x5)
theorem arrasref0_EqBytes.L0_lim (x0 : List Int) (x1 : List Int) (x5 : Int) : Go.Proofs.YtpmcojmhkpaoaaaLabel.Lim (fun k => arrasref0_EqBytes.l0 k x0 x1 x5) (arrasref0_EqBytes.L0 x0 x1 x5) := Go.Proofs.YtpmcojmhkpaoaaaLabel.lim_spec (fun k => (arrasref0_EqBytes.mono_l k) x0 x1 x5)
theorem arrasref0_EqBytes.L0_eq (x0 : List Int) (x1 : List Int) (x5 : Int) : arrasref0_EqBytes.L0 x0 x1 x5 = (if x5 < (x0.length : Int) then (if 0 ≤ x5 then (if x5 < (x1.length : Int) then (if (rd x0 x5) = (rd x1 x5) then (arrasref0_EqBytes.L0 x0 x1 (wrap64 (x5 + 1))) else (some false)) else (none)) else (none)) else (some true)) := by
  refine Go.Proofs.YtpmcojmhkpaoaaaLabel.Lim.unique (arrasref0_EqBytes.L0_lim x0 x1 x5).shift ?_
  simp only [arrasref0_EqBytes.l0]
  (repeat' (first | exact Go.Proofs.YtpmcojmhkpaoaaaLabel.Lim.const _ | exact arrasref0_EqBytes.L0_lim _ _ _ | refine Go.Proofs.YtpmcojmhkpaoaaaLabel.Lim.ite ?_ ?_ | refine Go.Proofs.YtpmcojmhkpaoaaaLabel.Lim.bind ?_ (fun _ => ?_)))
noncomputable def arrasref0_EqBytes.F (l0 : List Int) (l1 : List Int) : Option (Bool) := Go.Proofs.YtpmcojmhkpaoaaaLabel.lim (fun k => arrasref0_EqBytes.f k l0 l1)
theorem arrasref0_EqBytes.F_lim (l0 : List Int) (l1 : List Int) : Go.Proofs.YtpmcojmhkpaoaaaLabel.Lim (fun k => arrasref0_EqBytes.f k l0 l1) (arrasref0_EqBytes.F l0 l1) := Go.Proofs.YtpmcojmhkpaoaaaLabel.lim_spec (arrasref0_EqBytes.mono l0 l1)
theorem arrasref0_EqBytes.F_eq (l0 : List Int) (l1 : List Int) : arrasref0_EqBytes.F l0 l1 = (if (l0.length : Int) = (l1.length : Int) then (arrasref0_EqBytes.L0 l0 l1 0) else (some false)) := by
  refine Go.Proofs.YtpmcojmhkpaoaaaLabel.Lim.unique (arrasref0_EqBytes.F_lim l0 l1) ?_
  simp only [arrasref0_EqBytes.f]
  (repeat' (first | exact Go.Proofs.YtpmcojmhkpaoaaaLabel.Lim.const _ | exact arrasref0_EqBytes.L0_lim _ _ _ | refine Go.Proofs.YtpmcojmhkpaoaaaLabel.Lim.ite ?_ ?_ | refine Go.Proofs.YtpmcojmhkpaoaaaLabel.Lim.bind ?_ (fun _ => ?_)))


/-! #### arraslaw4_wakes: function 21 -/
def arraslaw4_wakes.f (k : Nat) : Option (Bool) := (sum_Sum.f k 0 (([49, 50, 51, 52, 53, 54, 55, 56, 57] : List Int))).bind fun t112 => (some (t112 == 3421780262))
theorem arraslaw4_wakes.mono : ∀ k, LeO (arraslaw4_wakes.f k) (arraslaw4_wakes.f (k + 1)) := by
  intro k
  unfold arraslaw4_wakes.f
  exact LeO.bind (sum_Sum.mono _ _ _) (fun _ => LeO.refl _)
noncomputable def arraslaw4_wakes.F  : Option (Bool) := Go.Proofs.YtpmcojmhkpaoaaaLabel.lim (fun k => arraslaw4_wakes.f k )
theorem arraslaw4_wakes.F_lim  : Go.Proofs.YtpmcojmhkpaoaaaLabel.Lim (fun k => arraslaw4_wakes.f k ) (arraslaw4_wakes.F ) := Go.Proofs.YtpmcojmhkpaoaaaLabel.lim_spec (arraslaw4_wakes.mono )
theorem arraslaw4_wakes.F_eq  : arraslaw4_wakes.F  = ((sum_Sum.F 0 (([49, 50, 51, 52, 53, 54, 55, 56, 57] : List Int))).bind fun t112 => (some (t112 == 3421780262))) := by
  refine Go.Proofs.YtpmcojmhkpaoaaaLabel.Lim.unique (arraslaw4_wakes.F_lim ) ?_
  simp only [arraslaw4_wakes.f]
  (repeat' (first | exact Go.Proofs.YtpmcojmhkpaoaaaLabel.Lim.const _ | exact sum_Sum.F_lim _ _ | refine Go.Proofs.YtpmcojmhkpaoaaaLabel.Lim.ite ?_ ?_ | refine Go.Proofs.YtpmcojmhkpaoaaaLabel.Lim.bind ?_ (fun _ => ?_)))

/-! #### arraslaw4_SumSums: function 3 -/
mutual
def arraslaw4_SumSums.l0 : Nat → List (S26) → Int → Option (Bool)
 | 0, _, _ => none
 | k + 1, x0, x3 => if x3 < (x0.length : Int) then (arraslaw4_SumSums.j1 k x0 x3 (decide (x3 < 15))) else (arraslaw4_SumSums.j1 k x0 x3 false)
def arraslaw4_SumSums.j1 : Nat → List (S26) → Int → Bool → Option (Bool)
 | 0, _, _, _ => none
 | k + 1, x0, x3, x12 => if x12 = true then (if 0 ≤ x3 then (if x3 < (x0.length : Int) then (if (((rd_T26 x0 x3).f1).length : Int) > 3000 then (some true) else ((arrasref0_CopyBytes.f k ((rd_T26 x0 x3).f1)).bind fun t112 => ((sum_Sum.f k ((rd_T26 x0 x3).f0) t112).bind fun t116 => ((arrasref5_Sum.f k ((rd_T26 x0 x3).f0) ((rd_T26 x0 x3).f1)).bind fun t119 => (if t116 = t119 then ((arrasref0_EqBytes.f k t112 ((rd_T26 x0 x3).f1)).bind fun t121 => (if t121 = true then (arraslaw4_SumSums.l0 k x0 (wrap64 (x3 + 1))) else (some false))) else (some false)))))) else (none)) else (none)) else ((arraslaw4_wakes.f k).bind fun t109 => (some t109))
end
def arraslaw4_SumSums.f (k : Nat) (l0 : List (S26)) : Option (Bool) := arraslaw4_SumSums.l0 k l0 0
theorem arraslaw4_SumSums.mono_l : ∀ k, (∀ y0 y1, LeO (arraslaw4_SumSums.l0 k y0 y1) (arraslaw4_SumSums.l0 (k + 1) y0 y1)) ∧ (∀ y0 y1 y2, LeO (arraslaw4_SumSums.j1 k y0 y1 y2) (arraslaw4_SumSums.j1 (k + 1) y0 y1 y2))
 | 0 => ⟨fun _ _ r h => by simp [arraslaw4_SumSums.l0] at h, fun _ _ _ r h => by simp [arraslaw4_SumSums.j1] at h⟩
 | k + 1 => by
  obtain ⟨ih0, ih1⟩ := arraslaw4_SumSums.mono_l k
  refine ⟨?_, ?_⟩
  ·intro y0 y1
   unfold arraslaw4_SumSums.l0
   repeat' first
   | (with_reducible exact ih0 _ _)
   | (with_reducible exact ih1 _ _ _)
   | (with_reducible exact arraslaw4_wakes.mono _)
   | (with_reducible exact arrasref0_CopyBytes.mono _ _)
   | (with_reducible exact arrasref0_EqBytes.mono _ _ _)
   | (with_reducible exact arrasref5_Sum.mono _ _ _)
   | (with_reducible exact sum_Sum.mono _ _ _)
   | (with_reducible exact LeO.refl _)
   | (with_reducible exact LeO.none _)
   | (with_reducible refine LeO.ite ?_ ?_)
   | (with_reducible refine LeO.bind ?_ (fun _ => ?_))
   | exact ih0 _ _
   | exact ih1 _ _ _
   | exact arraslaw4_wakes.mono _
   | exact arrasref0_CopyBytes.mono _ _
   | exact arrasref0_EqBytes.mono _ _ _
   | exact arrasref5_Sum.mono _ _ _
   | exact sum_Sum.mono _ _ _
   | exact LeO.none _
   | refine LeO.ite ?_ ?_
   | refine LeO.bind ?_ (fun _ => ?_)
  ·intro y0 y1 y2
   unfold arraslaw4_SumSums.j1
   repeat' first
   | (with_reducible exact ih0 _ _)
   | (with_reducible exact ih1 _ _ _)
   | (with_reducible exact arraslaw4_wakes.mono _)
   | (with_reducible exact arrasref0_CopyBytes.mono _ _)
   | (with_reducible exact arrasref0_EqBytes.mono _ _ _)
   | (with_reducible exact arrasref5_Sum.mono _ _ _)
   | (with_reducible exact sum_Sum.mono _ _ _)
   | (with_reducible exact LeO.refl _)
   | (with_reducible exact LeO.none _)
   | (with_reducible refine LeO.ite ?_ ?_)
   | (with_reducible refine LeO.bind ?_ (fun _ => ?_))
   | exact ih0 _ _
   | exact ih1 _ _ _
   | exact arraslaw4_wakes.mono _
   | exact arrasref0_CopyBytes.mono _ _
   | exact arrasref0_EqBytes.mono _ _ _
   | exact arrasref5_Sum.mono _ _ _
   | exact sum_Sum.mono _ _ _
   | exact LeO.none _
   | refine LeO.ite ?_ ?_
   | refine LeO.bind ?_ (fun _ => ?_)
theorem arraslaw4_SumSums.mono : ∀ a0 k, LeO (arraslaw4_SumSums.f k a0) (arraslaw4_SumSums.f (k + 1) a0) := by
 intro a0 k
 obtain ⟨ih0, ih1⟩ := arraslaw4_SumSums.mono_l k
 unfold arraslaw4_SumSums.f
 repeat' first
   | (with_reducible exact ih0 _ _)
   | (with_reducible exact ih1 _ _ _)
   | (with_reducible exact arraslaw4_wakes.mono _)
   | (with_reducible exact arrasref0_CopyBytes.mono _ _)
   | (with_reducible exact arrasref0_EqBytes.mono _ _ _)
   | (with_reducible exact arrasref5_Sum.mono _ _ _)
   | (with_reducible exact sum_Sum.mono _ _ _)
   | (with_reducible exact LeO.refl _)
   | (with_reducible exact LeO.none _)
   | (with_reducible refine LeO.ite ?_ ?_)
   | (with_reducible refine LeO.bind ?_ (fun _ => ?_))
   | exact ih0 _ _
   | exact ih1 _ _ _
   | exact arraslaw4_wakes.mono _
   | exact arrasref0_CopyBytes.mono _ _
   | exact arrasref0_EqBytes.mono _ _ _
   | exact arrasref5_Sum.mono _ _ _
   | exact sum_Sum.mono _ _ _
   | exact LeO.none _
   | refine LeO.ite ?_ ?_
   | refine LeO.bind ?_ (fun _ => ?_)
noncomputable def arraslaw4_SumSums.L0 (x0 : List (S26)) (x3 : Int) : Option (Bool) := Go.Proofs.YtpmcojmhkpaoaaaLabel.lim (fun k => arraslaw4_SumSums.l0 k x0 x3)
noncomputable def arraslaw4_SumSums.J1 (x0 : List (S26)) (x3 : Int) (x12 : Bool) : Option (Bool) := Go.Proofs.YtpmcojmhkpaoaaaLabel.lim (fun k => arraslaw4_SumSums.j1 k x0 x3 x12)
theorem arraslaw4_SumSums.L0_lim (x0 : List (S26)) (x3 : Int) : Go.Proofs.YtpmcojmhkpaoaaaLabel.Lim (fun k => arraslaw4_SumSums.l0 k x0 x3) (arraslaw4_SumSums.L0 x0 x3) := Go.Proofs.YtpmcojmhkpaoaaaLabel.lim_spec (fun k => (arraslaw4_SumSums.mono_l k).1 x0 x3)
theorem arraslaw4_SumSums.J1_lim (x0 : List (S26)) (x3 : Int) (x12 : Bool) : Go.Proofs.YtpmcojmhkpaoaaaLabel.Lim (fun k => arraslaw4_SumSums.j1 k x0 x3 x12) (arraslaw4_SumSums.J1 x0 x3 x12) := Go.Proofs.YtpmcojmhkpaoaaaLabel.lim_spec (fun k => (arraslaw4_SumSums.mono_l k).2 x0 x3 x12)
theorem arraslaw4_SumSums.L0_eq (x0 : List (S26)) (x3 : Int) : arraslaw4_SumSums.L0 x0 x3 = (if x3 < (x0.length : Int) then (arraslaw4_SumSums.J1 x0 x3 (decide (x3 < 15))) else (arraslaw4_SumSums.J1 x0 x3 false)) := by
  refine Go.Proofs.YtpmcojmhkpaoaaaLabel.Lim.unique (arraslaw4_SumSums.L0_lim x0 x3).shift ?_
  simp only [arraslaw4_SumSums.l0]
  (repeat' (first | exact Go.Proofs.YtpmcojmhkpaoaaaLabel.Lim.const _ | exact arraslaw4_SumSums.L0_lim _ _ | exact arraslaw4_SumSums.J1_lim _ _ _ | exact arraslaw4_wakes.F_lim | exact arrasref0_CopyBytes.F_lim _ | exact arrasref0_EqBytes.F_lim _ _ | exact arrasref5_Sum.F_lim _ _ | exact sum_Sum.F_lim _ _ | refine Go.Proofs.YtpmcojmhkpaoaaaLabel.Lim.ite ?_ ?_ | refine Go.Proofs.YtpmcojmhkpaoaaaLabel.Lim.bind ?_ (fun _ => ?_)))
theorem arraslaw4_SumSums.J1_eq (x0 : List (S26)) (x3 : Int) (x12 : Bool) : arraslaw4_SumSums.J1 x0 x3 x12 = (if x12 = true then (if 0 ≤ x3 then (if x3 < (x0.length : Int) then (if (((rd_T26 x0 x3).f1).length : Int) > 3000 then (some true) else ((arrasref0_CopyBytes.F ((rd_T26 x0 x3).f1)).bind fun t112 => ((sum_Sum.F ((rd_T26 x0 x3).f0) t112).bind fun t116 => ((arrasref5_Sum.F ((rd_T26 x0 x3).f0) ((rd_T26 x0 x3).f1)).bind fun t119 => (if t116 = t119 then ((arrasref0_EqBytes.F t112 ((rd_T26 x0 x3).f1)).bind fun t121 => (if t121 = true then (arraslaw4_SumSums.L0 x0 (wrap64 (x3 + 1))) else (some false))) else (some false)))))) else (none)) else (none)) else ((arraslaw4_wakes.F).bind fun t109 => (some t109))) := by
  refine Go.Proofs.YtpmcojmhkpaoaaaLabel.Lim.unique (arraslaw4_SumSums.J1_lim x0 x3 x12).shift ?_
  simp only [arraslaw4_SumSums.j1]
  (repeat' (first | exact Go.Proofs.YtpmcojmhkpaoaaaLabel.Lim.const _ | exact arraslaw4_SumSums.L0_lim _ _ | exact arraslaw4_SumSums.J1_lim _ _ _ | exact arraslaw4_wakes.F_lim | exact arrasref0_CopyBytes.F_lim _ | exact arrasref0_EqBytes.F_lim _ _ | exact arrasref5_Sum.F_lim _ _ | exact sum_Sum.F_lim _ _ | refine Go.Proofs.YtpmcojmhkpaoaaaLabel.Lim.ite ?_ ?_ | refine Go.Proofs.YtpmcojmhkpaoaaaLabel.Lim.bind ?_ (fun _ => ?_)))
noncomputable def arraslaw4_SumSums.F (l0 : List (S26)) : Option (Bool) := Go.Proofs.YtpmcojmhkpaoaaaLabel.lim (fun k => arraslaw4_SumSums.f k l0)
theorem arraslaw4_SumSums.F_lim (l0 : List (S26)) : Go.Proofs.YtpmcojmhkpaoaaaLabel.Lim (fun k => arraslaw4_SumSums.f k l0) (arraslaw4_SumSums.F l0) := Go.Proofs.YtpmcojmhkpaoaaaLabel.lim_spec (arraslaw4_SumSums.mono l0)
theorem arraslaw4_SumSums.F_eq (l0 : List (S26)) : arraslaw4_SumSums.F l0 = (arraslaw4_SumSums.L0 l0 0) := by
  refine Go.Proofs.YtpmcojmhkpaoaaaLabel.Lim.unique (arraslaw4_SumSums.F_lim l0) ?_
  simp only [arraslaw4_SumSums.f]
  (repeat' (first | exact Go.Proofs.YtpmcojmhkpaoaaaLabel.Lim.const _ | exact arraslaw4_SumSums.L0_lim _ _ | exact arraslaw4_SumSums.J1_lim _ _ _ | exact arraslaw4_wakes.F_lim | exact arrasref0_CopyBytes.F_lim _ | exact arrasref0_EqBytes.F_lim _ _ | exact arrasref5_Sum.F_lim _ _ | exact sum_Sum.F_lim _ _ | refine Go.Proofs.YtpmcojmhkpaoaaaLabel.Lim.ite ?_ ?_ | refine Go.Proofs.YtpmcojmhkpaoaaaLabel.Lim.bind ?_ (fun _ => ?_)))

/-! #### arraslaw0_Within: function 22 -/
def arraslaw0_Within.f (a0 : Int) (a1 : Int) : Option (Int) := if (IntKind.u64.wrap (a1)) = 0 then (none) else (some (wrap64 (Int.tmod (IntKind.u64.wrap (a0)) (IntKind.u64.wrap (a1)))))

/-! #### arraslaw4_SumParts: function 4 -/
mutual
def arraslaw4_SumParts.l0 : Nat → List (S26) → Int → Option (Bool)
 | 0, _, _ => none
 | k + 1, x0, x3 => if x3 < (x0.length : Int) then (arraslaw4_SumParts.j1 k x0 x3 (decide (x3 < 15))) else (arraslaw4_SumParts.j1 k x0 x3 false)
def arraslaw4_SumParts.j1 : Nat → List (S26) → Int → Bool → Option (Bool)
 | 0, _, _, _ => none
 | k + 1, x0, x3, x16 => if x16 = true then (if 0 ≤ x3 then (if x3 < (x0.length : Int) then (if (((rd_T26 x0 x3).f1).length : Int) > 3000 then (some true) else ((arraslaw0_Within.f ((rd_T26 x0 x3).f2) (wrap64 ((((rd_T26 x0 x3).f1).length : Int) + 1))).bind fun t125 => ((sum_Sum.f k ((rd_T26 x0 x3).f0) ((rd_T26 x0 x3).f1)).bind fun t127 => (if 0 ≤ t125 then (if t125 ≤ (((rd_T26 x0 x3).f1).length : Int) then ((sum_Sum.f k ((rd_T26 x0 x3).f0) (((rd_T26 x0 x3).f1).take (t125 : Int).toNat)).bind fun t130 => ((sum_Sum.f k t130 (((rd_T26 x0 x3).f1).drop (t125 : Int).toNat)).bind fun t132 => (if t132 = t127 then ((sum_Sum.f k ((rd_T26 x0 x3).f0) ([] : List Int)).bind fun t134 => (arraslaw4_SumParts.j2 k x0 x3 ((rd_T26 x0 x3).f1) t127 (t134 != ((rd_T26 x0 x3).f0)))) else (arraslaw4_SumParts.j2 k x0 x3 ((rd_T26 x0 x3).f1) t127 true)))) else (none)) else (none))))) else (none)) else (none)) else ((arraslaw4_wakes.f k).bind fun t122 => (some t122))
def arraslaw4_SumParts.j2 : Nat → List (S26) → Int → List Int → Int → Bool → Option (Bool)
 | 0, _, _, _, _, _ => none
 | k + 1, x0, x3, x4, x6, x71 => if x71 = true then (some false) else (if (x4.length : Int) = 0 then (arraslaw4_SumParts.l0 k x0 (wrap64 (x3 + 1))) else ((arrasref0_CopyBytes.f k x4).bind fun t136 => (if 0 ≤ x3 then (if x3 < (x0.length : Int) then ((arraslaw0_Within.f ((rd_T26 x0 x3).f2) (x4.length : Int)).bind fun t140 => (if 0 ≤ t140 then (if t140 < (t136.length : Int) then ((arraslaw0_Within.f ((rd_T26 x0 x3).f2) 8).bind fun t143 => (if 0 ≤ t143 then ((some (t136.set (t140 : Int).toNat (Go.bits .xor .u8 (rd t136 t140) (shl .u8 1 t143)) : List Int)).bind fun y144 => ((sum_Sum.f k ((rd_T26 x0 x3).f0) y144).bind fun t146 => (if t146 = x6 then (some false) else (if (wrap64 (t140 + 1)) < (x4.length : Int) then (if 0 ≤ (wrap64 (t140 + 1)) then (if (wrap64 (t140 + 1)) < (t136.length : Int) then ((sum_Sum.f k ((rd_T26 x0 x3).f0) (y144.set ((wrap64 (t140 + 1)) : Int).toNat (Go.bits .xor .u8 (rd y144 (wrap64 (t140 + 1))) (((rd_T26 x0 x3).f2) % 256)))).bind fun t151 => (if t151 = x6 then (some false) else (arraslaw4_SumParts.l0 k x0 (wrap64 (x3 + 1))))) else (none)) else (none)) else (arraslaw4_SumParts.l0 k x0 (wrap64 (x3 + 1))))))) else (none))) else (none)) else (none))) else (none)) else (none))))
end
def arraslaw4_SumParts.f (k : Nat) (l0 : List (S26)) : Option (Bool) := arraslaw4_SumParts.l0 k l0 0
theorem arraslaw4_SumParts.mono_l : ∀ k, (∀ y0 y1, LeO (arraslaw4_SumParts.l0 k y0 y1) (arraslaw4_SumParts.l0 (k + 1) y0 y1)) ∧ (∀ y0 y1 y2, LeO (arraslaw4_SumParts.j1 k y0 y1 y2) (arraslaw4_SumParts.j1 (k + 1) y0 y1 y2)) ∧ (∀ y0 y1 y2 y3 y4, LeO (arraslaw4_SumParts.j2 k y0 y1 y2 y3 y4) (arraslaw4_SumParts.j2 (k + 1) y0 y1 y2 y3 y4))
 | 0 => ⟨fun _ _ r h => by simp [arraslaw4_SumParts.l0] at h, fun _ _ _ r h => by simp [arraslaw4_SumParts.j1] at h, fun _ _ _ _ _ r h => by simp [arraslaw4_SumParts.j2] at h⟩
 | k + 1 => by
  obtain ⟨ih0, ih1, ih2⟩ := arraslaw4_SumParts.mono_l k
  refine ⟨?_, ?_, ?_⟩
  ·intro y0 y1
   unfold arraslaw4_SumParts.l0
   repeat' first
   | (with_reducible exact ih0 _ _)
   | (with_reducible exact ih1 _ _ _)
   | (with_reducible exact ih2 _ _ _ _ _)
   | (with_reducible exact arraslaw4_wakes.mono _)
   | (with_reducible exact arrasref0_CopyBytes.mono _ _)
   | (with_reducible exact sum_Sum.mono _ _ _)
   | (with_reducible exact LeO.refl _)
   | (with_reducible exact LeO.none _)
   | (with_reducible refine LeO.ite ?_ ?_)
   | (with_reducible refine LeO.bind ?_ (fun _ => ?_))
   | exact ih0 _ _
   | exact ih1 _ _ _
   | exact ih2 _ _ _ _ _
   | exact arraslaw4_wakes.mono _
   | exact arrasref0_CopyBytes.mono _ _
   | exact sum_Sum.mono _ _ _
   | exact LeO.none _
   | refine LeO.ite ?_ ?_
   | refine LeO.bind ?_ (fun _ => ?_)
  ·intro y0 y1 y2
   unfold arraslaw4_SumParts.j1
   repeat' first
   | (with_reducible exact ih0 _ _)
   | (with_reducible exact ih1 _ _ _)
   | (with_reducible exact ih2 _ _ _ _ _)
   | (with_reducible exact arraslaw4_wakes.mono _)
   | (with_reducible exact arrasref0_CopyBytes.mono _ _)
   | (with_reducible exact sum_Sum.mono _ _ _)
   | (with_reducible exact LeO.refl _)
   | (with_reducible exact LeO.none _)
   | (with_reducible refine LeO.ite ?_ ?_)
   | (with_reducible refine LeO.bind ?_ (fun _ => ?_))
   | exact ih0 _ _
   | exact ih1 _ _ _
   | exact ih2 _ _ _ _ _
   | exact arraslaw4_wakes.mono _
   | exact arrasref0_CopyBytes.mono _ _
   | exact sum_Sum.mono _ _ _
   | exact LeO.none _
   | refine LeO.ite ?_ ?_
   | refine LeO.bind ?_ (fun _ => ?_)
  ·intro y0 y1 y2 y3 y4
   unfold arraslaw4_SumParts.j2
   repeat' first
   | (with_reducible exact ih0 _ _)
   | (with_reducible exact ih1 _ _ _)
   | (with_reducible exact ih2 _ _ _ _ _)
   | (with_reducible exact arraslaw4_wakes.mono _)
   | (with_reducible exact arrasref0_CopyBytes.mono _ _)
   | (with_reducible exact sum_Sum.mono _ _ _)
   | (with_reducible exact LeO.refl _)
   | (with_reducible exact LeO.none _)
   | (with_reducible refine LeO.ite ?_ ?_)
   | (with_reducible refine LeO.bind ?_ (fun _ => ?_))
   | exact ih0 _ _
   | exact ih1 _ _ _
   | exact ih2 _ _ _ _ _
   | exact arraslaw4_wakes.mono _
   | exact arrasref0_CopyBytes.mono _ _
   | exact sum_Sum.mono _ _ _
   | exact LeO.none _
   | refine LeO.ite ?_ ?_
   | refine LeO.bind ?_ (fun _ => ?_)
theorem arraslaw4_SumParts.mono : ∀ a0 k, LeO (arraslaw4_SumParts.f k a0) (arraslaw4_SumParts.f (k + 1) a0) := by
 intro a0 k
 obtain ⟨ih0, ih1, ih2⟩ := arraslaw4_SumParts.mono_l k
 unfold arraslaw4_SumParts.f
 repeat' first
   | (with_reducible exact ih0 _ _)
   | (with_reducible exact ih1 _ _ _)
   | (with_reducible exact ih2 _ _ _ _ _)
   | (with_reducible exact arraslaw4_wakes.mono _)
   | (with_reducible exact arrasref0_CopyBytes.mono _ _)
   | (with_reducible exact sum_Sum.mono _ _ _)
   | (with_reducible exact LeO.refl _)
   | (with_reducible exact LeO.none _)
   | (with_reducible refine LeO.ite ?_ ?_)
   | (with_reducible refine LeO.bind ?_ (fun _ => ?_))
   | exact ih0 _ _
   | exact ih1 _ _ _
   | exact ih2 _ _ _ _ _
   | exact arraslaw4_wakes.mono _
   | exact arrasref0_CopyBytes.mono _ _
   | exact sum_Sum.mono _ _ _
   | exact LeO.none _
   | refine LeO.ite ?_ ?_
   | refine LeO.bind ?_ (fun _ => ?_)
def arraslaw4_SumParts.T9 : Bool × List (List Nat × List Nat) := (true, [([], []), ([], []), ([0, 1], [0, 1]), ([2], [2]), ([3], [3]), ([], []), ([], []), ([5, 6], [5, 6]), ([4, 7], [4, 7]), ([], []), ([], []), ([9, 10], [9, 10]), ([8, 11, 8], [8, 11]), ([], []), ([12, 13], [12, 13]), ([14, 12], [14]), ([15], [15]), ([15], [15]), ([16, 17, 15], [15, 16, 17]), ([18, 15], [15, 18]), ([19, 15], [15, 19]), ([20, 15, 15], [15, 20]), ([15], [15]), ([15], [15]), ([22, 23, 15], [15, 22, 23]), ([24, 15], [15, 24]), ([25, 15], [15, 25]), ([21, 26, 15], [15, 21, 26]), ([15, 27], [15, 27])])
def arraslaw4_SumParts.B9 : List Nat := [0, 0, 3, 7, 15, 0, 0, 96, 255, 0, 0, 1536, 4095, 0, 16383, 32767, 65535, 65535, 262143, 524287, 1048575, 2097151, 65535, 65535, 12648447, 29425663, 62980095, 134217727, 268435455]
theorem arraslaw4_SumParts.tab9 : rtab .any (opsOf Try.f4 9) = arraslaw4_SumParts.T9 := by kernel_rfl
theorem arraslaw4_SumParts.bits9 : waitsOk arraslaw4_SumParts.T9.2 arraslaw4_SumParts.B9 = true := by kernel_rfl
def arraslaw4_SumParts.T14 : Bool × List (List Nat × List Nat) := (true, [([], []), ([], []), ([], []), ([], []), ([2, 3], [2, 3]), ([4], [4]), ([], []), ([], []), ([6, 7], [6, 7]), ([8], [8]), ([9], [9]), ([10], [10]), ([11], [11]), ([5, 12], [5, 12]), ([0, 1, 0, 1, 2, 3, 4, 5, 6, 7, 8, 9, 10, 11, 12, 13], [0, 1]), ([14, 13, 11, 0, 1, 2, 3, 4, 5, 6, 7, 8, 9, 10, 11, 12, 13], [13, 14])])
def arraslaw4_SumParts.B14 : List Nat := [0, 0, 0, 0, 12, 28, 0, 0, 192, 448, 960, 1984, 4032, 8188, 16383, 32767]
theorem arraslaw4_SumParts.tab14 : rtab .any (opsOf Try.f4 14) = arraslaw4_SumParts.T14 := by kernel_rfl
theorem arraslaw4_SumParts.bits14 : waitsOk arraslaw4_SumParts.T14.2 arraslaw4_SumParts.B14 = true := by kernel_rfl
def arraslaw4_SumParts.T18 : Bool × List (List Nat × List Nat) := (true, [([], []), ([], []), ([1], [1]), ([], []), ([], []), ([4], [4]), ([3, 5], [3, 5]), ([6], [6]), ([], []), ([], []), ([8, 9], [8, 9]), ([10], [10]), ([11], [11]), ([12], [12]), ([7, 13], [7, 13]), ([0, 2, 0, 1, 2, 3, 4, 5, 6, 7, 8, 9, 10, 11, 12, 13, 14], [0, 2]), ([15, 14, 0, 1, 2, 3, 4, 5, 6, 7, 8, 9, 10, 11, 12, 13, 14], [14, 15])])
def arraslaw4_SumParts.B18 : List Nat := [0, 0, 2, 0, 0, 16, 56, 120, 0, 0, 768, 1792, 3840, 7936, 16376, 32767, 65535]
theorem arraslaw4_SumParts.tab18 : rtab .any (opsOf Try.f4 18) = arraslaw4_SumParts.T18 := by kernel_rfl
theorem arraslaw4_SumParts.bits18 : waitsOk arraslaw4_SumParts.T18.2 arraslaw4_SumParts.B18 = true := by kernel_rfl
noncomputable def arraslaw4_SumParts.L0 (x0 : List (S26)) (x3 : Int) : Option (Bool) := Go.Proofs.YtpmcojmhkpaoaaaLabel.lim (fun k => arraslaw4_SumParts.l0 k x0 x3)
noncomputable def arraslaw4_SumParts.J1 (x0 : List (S26)) (x3 : Int) (x16 : Bool) : Option (Bool) := Go.Proofs.YtpmcojmhkpaoaaaLabel.lim (fun k => arraslaw4_SumParts.j1 k x0 x3 x16)
noncomputable def arraslaw4_SumParts.J2 (x0 : List (S26)) (x3 : Int) (x4 : List Int) (x6 : Int) (x71 : Bool) : Option (Bool) := Go.Proofs.YtpmcojmhkpaoaaaLabel.lim (fun k => arraslaw4_SumParts.j2 k x0 x3 x4 x6 x71)
theorem arraslaw4_SumParts.L0_lim (x0 : List (S26)) (x3 : Int) : Go.Proofs.YtpmcojmhkpaoaaaLabel.Lim (fun k => arraslaw4_SumParts.l0 k x0 x3) (arraslaw4_SumParts.L0 x0 x3) := Go.Proofs.YtpmcojmhkpaoaaaLabel.lim_spec (fun k => (arraslaw4_SumParts.mono_l k).1 x0 x3)
theorem arraslaw4_SumParts.J1_lim (x0 : List (S26)) (x3 : Int) (x16 : Bool) : Go.Proofs.YtpmcojmhkpaoaaaLabel.Lim (fun k => arraslaw4_SumParts.j1 k x0 x3 x16) (arraslaw4_SumParts.J1 x0 x3 x16) := Go.Proofs.YtpmcojmhkpaoaaaLabel.lim_spec (fun k => (arraslaw4_SumParts.mono_l k).2.1 x0 x3 x16)
theorem arraslaw4_SumParts.J2_lim (x0 : List (S26)) (x3 : Int) (x4 : List Int) (x6 : Int) (x71 : Bool) : Go.Proofs.YtpmcojmhkpaoaaaLabel.Lim (fun k => arraslaw4_SumParts.j2 k x0 x3 x4 x6 x71) (arraslaw4_SumParts.J2 x0 x3 x4 x6 x71) := Go.Proofs.YtpmcojmhkpaoaaaLabel.lim_spec (fun k => (arraslaw4_SumParts.mono_l k).2.2 x0 x3 x4 x6 x71)
theorem arraslaw4_SumParts.L0_eq (x0 : List (S26)) (x3 : Int) : arraslaw4_SumParts.L0 x0 x3 = (if x3 < (x0.length : Int) then (arraslaw4_SumParts.J1 x0 x3 (decide (x3 < 15))) else (arraslaw4_SumParts.J1 x0 x3 false)) := by
  refine Go.Proofs.YtpmcojmhkpaoaaaLabel.Lim.unique (arraslaw4_SumParts.L0_lim x0 x3).shift ?_
  simp only [arraslaw4_SumParts.l0]
  (repeat' (first | exact Go.Proofs.YtpmcojmhkpaoaaaLabel.Lim.const _ | exact arraslaw4_SumParts.L0_lim _ _ | exact arraslaw4_SumParts.J1_lim _ _ _ | exact arraslaw4_SumParts.J2_lim _ _ _ _ _ | exact arraslaw4_wakes.F_lim | exact arrasref0_CopyBytes.F_lim _ | exact sum_Sum.F_lim _ _ | refine Go.Proofs.YtpmcojmhkpaoaaaLabel.Lim.ite ?_ ?_ | refine Go.Proofs.YtpmcojmhkpaoaaaLabel.Lim.bind ?_ (fun _ => ?_)))
theorem arraslaw4_SumParts.J1_eq (x0 : List (S26)) (x3 : Int) (x16 : Bool) : arraslaw4_SumParts.J1 x0 x3 x16 = (if x16 = true then (if 0 ≤ x3 then (if x3 < (x0.length : Int) then (if (((rd_T26 x0 x3).f1).length : Int) > 3000 then (some true) else ((arraslaw0_Within.f ((rd_T26 x0 x3).f2) (wrap64 ((((rd_T26 x0 x3).f1).length : Int) + 1))).bind fun t125 => ((sum_Sum.F ((rd_T26 x0 x3).f0) ((rd_T26 x0 x3).f1)).bind fun t127 => (if 0 ≤ t125 then (if t125 ≤ (((rd_T26 x0 x3).f1).length : Int) then ((sum_Sum.F ((rd_T26 x0 x3).f0) (((rd_T26 x0 x3).f1).take (t125 : Int).toNat)).bind fun t130 => ((sum_Sum.F t130 (((rd_T26 x0 x3).f1).drop (t125 : Int).toNat)).bind fun t132 => (if t132 = t127 then ((sum_Sum.F ((rd_T26 x0 x3).f0) ([] : List Int)).bind fun t134 => (arraslaw4_SumParts.J2 x0 x3 ((rd_T26 x0 x3).f1) t127 (t134 != ((rd_T26 x0 x3).f0)))) else (arraslaw4_SumParts.J2 x0 x3 ((rd_T26 x0 x3).f1) t127 true)))) else (none)) else (none))))) else (none)) else (none)) else ((arraslaw4_wakes.F).bind fun t122 => (some t122))) := by
  refine Go.Proofs.YtpmcojmhkpaoaaaLabel.Lim.unique (arraslaw4_SumParts.J1_lim x0 x3 x16).shift ?_
  simp only [arraslaw4_SumParts.j1]
  (repeat' (first | exact Go.Proofs.YtpmcojmhkpaoaaaLabel.Lim.const _ | exact arraslaw4_SumParts.L0_lim _ _ | exact arraslaw4_SumParts.J1_lim _ _ _ | exact arraslaw4_SumParts.J2_lim _ _ _ _ _ | exact arraslaw4_wakes.F_lim | exact arrasref0_CopyBytes.F_lim _ | exact sum_Sum.F_lim _ _ | refine Go.Proofs.YtpmcojmhkpaoaaaLabel.Lim.ite ?_ ?_ | refine Go.Proofs.YtpmcojmhkpaoaaaLabel.Lim.bind ?_ (fun _ => ?_)))
theorem arraslaw4_SumParts.J2_eq (x0 : List (S26)) (x3 : Int) (x4 : List Int) (x6 : Int) (x71 : Bool) : arraslaw4_SumParts.J2 x0 x3 x4 x6 x71 = (if x71 = true then (some false) else (if (x4.length : Int) = 0 then (arraslaw4_SumParts.L0 x0 (wrap64 (x3 + 1))) else ((arrasref0_CopyBytes.F x4).bind fun t136 => (if 0 ≤ x3 then (if x3 < (x0.length : Int) then ((arraslaw0_Within.f ((rd_T26 x0 x3).f2) (x4.length : Int)).bind fun t140 => (if 0 ≤ t140 then (if t140 < (t136.length : Int) then ((arraslaw0_Within.f ((rd_T26 x0 x3).f2) 8).bind fun t143 => (if 0 ≤ t143 then ((some (t136.set (t140 : Int).toNat (Go.bits .xor .u8 (rd t136 t140) (shl .u8 1 t143)) : List Int)).bind fun y144 => ((sum_Sum.F ((rd_T26 x0 x3).f0) y144).bind fun t146 => (if t146 = x6 then (some false) else (if (wrap64 (t140 + 1)) < (x4.length : Int) then (if 0 ≤ (wrap64 (t140 + 1)) then (if (wrap64 (t140 + 1)) < (t136.length : Int) then ((sum_Sum.F ((rd_T26 x0 x3).f0) (y144.set ((wrap64 (t140 + 1)) : Int).toNat (Go.bits .xor .u8 (rd y144 (wrap64 (t140 + 1))) (((rd_T26 x0 x3).f2) % 256)))).bind fun t151 => (if t151 = x6 then (some false) else (arraslaw4_SumParts.L0 x0 (wrap64 (x3 + 1))))) else (none)) else (none)) else (arraslaw4_SumParts.L0 x0 (wrap64 (x3 + 1))))))) else (none))) else (none)) else (none))) else (none)) else (none))))) := by
  refine Go.Proofs.YtpmcojmhkpaoaaaLabel.Lim.unique (arraslaw4_SumParts.J2_lim x0 x3 x4 x6 x71).shift ?_
  simp only [arraslaw4_SumParts.j2]
  (repeat' (first | exact Go.Proofs.YtpmcojmhkpaoaaaLabel.Lim.const _ | exact arraslaw4_SumParts.L0_lim _ _ | exact arraslaw4_SumParts.J1_lim _ _ _ | exact arraslaw4_SumParts.J2_lim _ _ _ _ _ | exact arraslaw4_wakes.F_lim | exact arrasref0_CopyBytes.F_lim _ | exact sum_Sum.F_lim _ _ | refine Go.Proofs.YtpmcojmhkpaoaaaLabel.Lim.ite ?_ ?_ | refine Go.Proofs.YtpmcojmhkpaoaaaLabel.Lim.bind ?_ (fun _ => ?_)))
noncomputable def arraslaw4_SumParts.F (l0 : List (S26)) : Option (Bool) := Go.Proofs.YtpmcojmhkpaoaaaLabel.lim (fun k => arraslaw4_SumParts.f k l0)
theorem arraslaw4_SumParts.F_lim (l0 : List (S26)) : Go.Proofs.YtpmcojmhkpaoaaaLabel.Lim (fun k => arraslaw4_SumParts.f k l0) (arraslaw4_SumParts.F l0) := Go.Proofs.YtpmcojmhkpaoaaaLabel.lim_spec (arraslaw4_SumParts.mono l0)
theorem arraslaw4_SumParts.F_eq (l0 : List (S26)) : arraslaw4_SumParts.F l0 = (arraslaw4_SumParts.L0 l0 0) := by
  refine Go.Proofs.YtpmcojmhkpaoaaaLabel.Lim.unique (arraslaw4_SumParts.F_lim l0) ?_
  simp only [arraslaw4_SumParts.f]
  (repeat' (first | exact Go.Proofs.YtpmcojmhkpaoaaaLabel.Lim.const _ | exact arraslaw4_SumParts.L0_lim _ _ | exact arraslaw4_SumParts.J1_lim _ _ _ | exact arraslaw4_SumParts.J2_lim _ _ _ _ _ | exact arraslaw4_wakes.F_lim | exact arrasref0_CopyBytes.F_lim _ | exact sum_Sum.F_lim _ _ | refine Go.Proofs.YtpmcojmhkpaoaaaLabel.Lim.ite ?_ ?_ | refine Go.Proofs.YtpmcojmhkpaoaaaLabel.Lim.bind ?_ (fun _ => ?_)))

/-! #### code_Put: function 71 -/
def code_Put.l0 : Nat → List Int → Int → Option (List Int)
 | 0, _, _ => none
 | k + 1, x0, x1 => if x1 ≥ 128 then (if x0.length < 140737488355328 then (code_Put.l0 k (x0 ++ [Go.bits .or .u8 ((x1) % 256) 128]) (x1 / 128)) else (none)) else (if x0.length < 140737488355328 then (some (x0 ++ [(x1) % 256])) else (none))
def code_Put.f (k : Nat) (l0 : List Int) (a1 : Int) : Option (List Int) := code_Put.l0 k l0 a1
theorem code_Put.mono_l : ∀ k, (∀ y0 y1, LeO (code_Put.l0 k y0 y1) (code_Put.l0 (k + 1) y0 y1))
 | 0 => fun _ _ r h => by simp [code_Put.l0] at h
 | k + 1 => by
  have ih0 := code_Put.mono_l k
  ·intro y0 y1
   unfold code_Put.l0
   repeat' first
   | (with_reducible exact ih0 _ _)
   | (with_reducible exact LeO.refl _)
   | (with_reducible exact LeO.none _)
   | (with_reducible refine LeO.ite ?_ ?_)
   | (with_reducible refine LeO.bind ?_ (fun _ => ?_))
   | exact ih0 _ _
   | exact LeO.none _
   | refine LeO.ite ?_ ?_
   | refine LeO.bind ?_ (fun _ => ?_)
theorem code_Put.mono : ∀ a0 a1 k, LeO (code_Put.f k a0 a1) (code_Put.f (k + 1) a0 a1) := by
 intro a0 a1 k
 have ih0 := code_Put.mono_l k
 unfold code_Put.f
 repeat' first
   | (with_reducible exact ih0 _ _)
   | (with_reducible exact LeO.refl _)
   | (with_reducible exact LeO.none _)
   | (with_reducible refine LeO.ite ?_ ?_)
   | (with_reducible refine LeO.bind ?_ (fun _ => ?_))
   | exact ih0 _ _
   | exact LeO.none _
   | refine LeO.ite ?_ ?_
   | refine LeO.bind ?_ (fun _ => ?_)
noncomputable def code_Put.L0 (x0 : List Int) (x1 : Int) : Option (List Int) := Go.Proofs.YtpmcojmhkpaoaaaLabel.lim (fun k => code_Put.l0 k x0 x1)
theorem code_Put.L0_lim (x0 : List Int) (x1 : Int) : Go.Proofs.YtpmcojmhkpaoaaaLabel.Lim (fun k => code_Put.l0 k x0 x1) (code_Put.L0 x0 x1) := Go.Proofs.YtpmcojmhkpaoaaaLabel.lim_spec (fun k => (code_Put.mono_l k) x0 x1)
theorem code_Put.L0_eq (x0 : List Int) (x1 : Int) : code_Put.L0 x0 x1 = (if x1 ≥ 128 then (if x0.length < 140737488355328 then (code_Put.L0 (x0 ++ [Go.bits .or .u8 ((x1) % 256) 128]) (x1 / 128)) else (none)) else (if x0.length < 140737488355328 then (some (x0 ++ [(x1) % 256])) else (none))) := by
  refine Go.Proofs.YtpmcojmhkpaoaaaLabel.Lim.unique (code_Put.L0_lim x0 x1).shift ?_
  simp only [code_Put.l0]
  (repeat' (first | exact Go.Proofs.YtpmcojmhkpaoaaaLabel.Lim.const _ | exact code_Put.L0_lim _ _ | refine Go.Proofs.YtpmcojmhkpaoaaaLabel.Lim.ite ?_ ?_ | refine Go.Proofs.YtpmcojmhkpaoaaaLabel.Lim.bind ?_ (fun _ => ?_)))
noncomputable def code_Put.F (l0 : List Int) (a1 : Int) : Option (List Int) := Go.Proofs.YtpmcojmhkpaoaaaLabel.lim (fun k => code_Put.f k l0 a1)
theorem code_Put.F_lim (l0 : List Int) (a1 : Int) : Go.Proofs.YtpmcojmhkpaoaaaLabel.Lim (fun k => code_Put.f k l0 a1) (code_Put.F l0 a1) := Go.Proofs.YtpmcojmhkpaoaaaLabel.lim_spec (code_Put.mono l0 a1)
theorem code_Put.F_eq (l0 : List Int) (a1 : Int) : code_Put.F l0 a1 = (code_Put.L0 l0 a1) := by
  refine Go.Proofs.YtpmcojmhkpaoaaaLabel.Lim.unique (code_Put.F_lim l0 a1) ?_
  simp only [code_Put.f]
  (repeat' (first | exact Go.Proofs.YtpmcojmhkpaoaaaLabel.Lim.const _ | exact code_Put.L0_lim _ _ | refine Go.Proofs.YtpmcojmhkpaoaaaLabel.Lim.ite ?_ ?_ | refine Go.Proofs.YtpmcojmhkpaoaaaLabel.Lim.bind ?_ (fun _ => ?_)))

/-! #### code_Num: function 23 -/
def code_Num.f (k : Nat) (a0 : Int) : Option (List Int × Int) := if a0 < 0 then (some (([] : List Int), 1)) else (if a0 > 4611686018427387904 then (some (([] : List Int), 1)) else ((code_Put.f k ([] : List Int) a0).bind fun t158 => (some (t158, 0))))
theorem code_Num.mono : ∀ a0 k, LeO (code_Num.f k a0) (code_Num.f (k + 1) a0) := by
 intro a0 k
 unfold code_Num.f
 repeat' first
   | (with_reducible exact code_Put.mono _ _ _)
   | (with_reducible exact LeO.refl _)
   | (with_reducible exact LeO.none _)
   | (with_reducible refine LeO.ite ?_ ?_)
   | (with_reducible refine LeO.bind ?_ (fun _ => ?_))
   | exact code_Put.mono _ _ _
   | exact LeO.none _
   | refine LeO.ite ?_ ?_
   | refine LeO.bind ?_ (fun _ => ?_)
noncomputable def code_Num.F (a0 : Int) : Option (List Int × Int) := Go.Proofs.YtpmcojmhkpaoaaaLabel.lim (fun k => code_Num.f k a0)
theorem code_Num.F_lim (a0 : Int) : Go.Proofs.YtpmcojmhkpaoaaaLabel.Lim (fun k => code_Num.f k a0) (code_Num.F a0) := Go.Proofs.YtpmcojmhkpaoaaaLabel.lim_spec (code_Num.mono a0)
theorem code_Num.F_eq (a0 : Int) : code_Num.F a0 = (if a0 < 0 then (some (([] : List Int), 1)) else (if a0 > 4611686018427387904 then (some (([] : List Int), 1)) else ((code_Put.F ([] : List Int) a0).bind fun t158 => (some (t158, 0))))) := by
  refine Go.Proofs.YtpmcojmhkpaoaaaLabel.Lim.unique (code_Num.F_lim a0) ?_
  simp only [code_Num.f]
  (repeat' (first | exact Go.Proofs.YtpmcojmhkpaoaaaLabel.Lim.const _ | exact code_Put.F_lim _ _ | refine Go.Proofs.YtpmcojmhkpaoaaaLabel.Lim.ite ?_ ?_ | refine Go.Proofs.YtpmcojmhkpaoaaaLabel.Lim.bind ?_ (fun _ => ?_)))

/-! #### code_TakeNum: function 24 -/
mutual
def code_TakeNum.l0 : Nat → List Int → Int → Int → Option (Int × Int × Int)
 | 0, _, _, _ => none
 | k + 1, x0, x2, x5 => if x5 = (x0.length : Int) then (some (0, 0, 7)) else (if 0 ≤ x5 then (if x5 < (x0.length : Int) then (if (rd x0 x5) ≥ 128 then (code_TakeNum.j1 k x0 x2 x5 (x5 == 8)) else (code_TakeNum.j1 k x0 x2 x5 false)) else (none)) else (none))
def code_TakeNum.j1 : Nat → List Int → Int → Int → Bool → Option (Int × Int × Int)
 | 0, _, _, _, _ => none
 | k + 1, x0, x2, x5, x18 => if x18 = true then (some (0, 0, 1)) else (if 0 ≤ x5 then (if x5 < (x0.length : Int) then (if 0 ≤ (wrap64 (7 * x5)) then (if (rd x0 x5) ≥ 128 then (code_TakeNum.l0 k x0 (Go.bits .or .i64 x2 (shl .i64 (wrap64 (Go.bits .and .u8 (rd x0 x5) 127)) (wrap64 (7 * x5)))) (wrap64 (x5 + 1))) else (if (rd x0 x5) = 0 then (if x5 > 0 then (code_TakeNum.j2 k (Go.bits .or .i64 x2 (shl .i64 (wrap64 (Go.bits .and .u8 (rd x0 x5) 127)) (wrap64 (7 * x5)))) x5 true) else (code_TakeNum.j2 k (Go.bits .or .i64 x2 (shl .i64 (wrap64 (Go.bits .and .u8 (rd x0 x5) 127)) (wrap64 (7 * x5)))) x5 (decide ((Go.bits .or .i64 x2 (shl .i64 (wrap64 (Go.bits .and .u8 (rd x0 x5) 127)) (wrap64 (7 * x5)))) > 4611686018427387904)))) else (code_TakeNum.j2 k (Go.bits .or .i64 x2 (shl .i64 (wrap64 (Go.bits .and .u8 (rd x0 x5) 127)) (wrap64 (7 * x5)))) x5 (decide ((Go.bits .or .i64 x2 (shl .i64 (wrap64 (Go.bits .and .u8 (rd x0 x5) 127)) (wrap64 (7 * x5)))) > 4611686018427387904))))) else (none)) else (none)) else (none))
def code_TakeNum.j2 : Nat → Int → Int → Bool → Option (Int × Int × Int)
 | 0, _, _, _ => none
 | k + 1, x2, x5, x49 => if x49 = true then (some (0, 0, 1)) else (some (x2, wrap64 (x5 + 1), 0))
end
def code_TakeNum.f (k : Nat) (l0 : List Int) : Option (Int × Int × Int) := code_TakeNum.l0 k l0 0 0
theorem code_TakeNum.mono_l : ∀ k, (∀ y0 y1 y2, LeO (code_TakeNum.l0 k y0 y1 y2) (code_TakeNum.l0 (k + 1) y0 y1 y2)) ∧ (∀ y0 y1 y2 y3, LeO (code_TakeNum.j1 k y0 y1 y2 y3) (code_TakeNum.j1 (k + 1) y0 y1 y2 y3)) ∧ (∀ y0 y1 y2, LeO (code_TakeNum.j2 k y0 y1 y2) (code_TakeNum.j2 (k + 1) y0 y1 y2))
 | 0 => ⟨fun _ _ _ r h => by simp [code_TakeNum.l0] at h, fun _ _ _ _ r h => by simp [code_TakeNum.j1] at h, fun _ _ _ r h => by simp [code_TakeNum.j2] at h⟩
 | k + 1 => by
  obtain ⟨ih0, ih1, ih2⟩ := code_TakeNum.mono_l k
  refine ⟨?_, ?_, ?_⟩
  ·intro y0 y1 y2
   unfold code_TakeNum.l0
   repeat' first
   | (with_reducible exact ih0 _ _ _)
   | (with_reducible exact ih1 _ _ _ _)
   | (with_reducible exact ih2 _ _ _)
   | (with_reducible exact LeO.refl _)
   | (with_reducible exact LeO.none _)
   | (with_reducible refine LeO.ite ?_ ?_)
   | (with_reducible refine LeO.bind ?_ (fun _ => ?_))
   | exact ih0 _ _ _
   | exact ih1 _ _ _ _
   | exact ih2 _ _ _
   | exact LeO.none _
   | refine LeO.ite ?_ ?_
   | refine LeO.bind ?_ (fun _ => ?_)
  ·intro y0 y1 y2 y3
   unfold code_TakeNum.j1
   repeat' first
   | (with_reducible exact ih0 _ _ _)
   | (with_reducible exact ih1 _ _ _ _)
   | (with_reducible exact ih2 _ _ _)
   | (with_reducible exact LeO.refl _)
   | (with_reducible exact LeO.none _)
   | (with_reducible refine LeO.ite ?_ ?_)
   | (with_reducible refine LeO.bind ?_ (fun _ => ?_))
   | exact ih0 _ _ _
   | exact ih1 _ _ _ _
   | exact ih2 _ _ _
   | exact LeO.none _
   | refine LeO.ite ?_ ?_
   | refine LeO.bind ?_ (fun _ => ?_)
  ·intro y0 y1 y2
   unfold code_TakeNum.j2
   repeat' first
   | (with_reducible exact ih0 _ _ _)
   | (with_reducible exact ih1 _ _ _ _)
   | (with_reducible exact ih2 _ _ _)
   | (with_reducible exact LeO.refl _)
   | (with_reducible exact LeO.none _)
   | (with_reducible refine LeO.ite ?_ ?_)
   | (with_reducible refine LeO.bind ?_ (fun _ => ?_))
   | exact ih0 _ _ _
   | exact ih1 _ _ _ _
   | exact ih2 _ _ _
   | exact LeO.none _
   | refine LeO.ite ?_ ?_
   | refine LeO.bind ?_ (fun _ => ?_)
theorem code_TakeNum.mono : ∀ a0 k, LeO (code_TakeNum.f k a0) (code_TakeNum.f (k + 1) a0) := by
 intro a0 k
 obtain ⟨ih0, ih1, ih2⟩ := code_TakeNum.mono_l k
 unfold code_TakeNum.f
 repeat' first
   | (with_reducible exact ih0 _ _ _)
   | (with_reducible exact ih1 _ _ _ _)
   | (with_reducible exact ih2 _ _ _)
   | (with_reducible exact LeO.refl _)
   | (with_reducible exact LeO.none _)
   | (with_reducible refine LeO.ite ?_ ?_)
   | (with_reducible refine LeO.bind ?_ (fun _ => ?_))
   | exact ih0 _ _ _
   | exact ih1 _ _ _ _
   | exact ih2 _ _ _
   | exact LeO.none _
   | refine LeO.ite ?_ ?_
   | refine LeO.bind ?_ (fun _ => ?_)
noncomputable def code_TakeNum.L0 (x0 : List Int) (x2 : Int) (x5 : Int) : Option (Int × Int × Int) := Go.Proofs.YtpmcojmhkpaoaaaLabel.lim (fun k => code_TakeNum.l0 k x0 x2 x5)
noncomputable def code_TakeNum.J1 (x0 : List Int) (x2 : Int) (x5 : Int) (x18 : Bool) : Option (Int × Int × Int) := Go.Proofs.YtpmcojmhkpaoaaaLabel.lim (fun k => code_TakeNum.j1 k x0 x2 x5 x18)
noncomputable def code_TakeNum.J2 (x2 : Int) (x5 : Int) (x49 : Bool) : Option (Int × Int × Int) := Go.Proofs.YtpmcojmhkpaoaaaLabel.lim (fun k => code_TakeNum.j2 k x2 x5 x49)
theorem code_TakeNum.L0_lim (x0 : List Int) (x2 : Int) (x5 : Int) : Go.Proofs.YtpmcojmhkpaoaaaLabel.Lim (fun k => code_TakeNum.l0 k x0 x2 x5) (code_TakeNum.L0 x0 x2 x5) := Go.Proofs.YtpmcojmhkpaoaaaLabel.lim_spec (fun k => (code_TakeNum.mono_l k).1 x0 x2 x5)
theorem code_TakeNum.J1_lim (x0 : List Int) (x2 : Int) (x5 : Int) (x18 : Bool) : Go.Proofs.YtpmcojmhkpaoaaaLabel.Lim (fun k => code_TakeNum.j1 k x0 x2 x5 x18) (code_TakeNum.J1 x0 x2 x5 x18) := Go.Proofs.YtpmcojmhkpaoaaaLabel.lim_spec (fun k => (code_TakeNum.mono_l k).2.1 x0 x2 x5 x18)
theorem code_TakeNum.J2_lim (x2 : Int) (x5 : Int) (x49 : Bool) : Go.Proofs.YtpmcojmhkpaoaaaLabel.Lim (fun k => code_TakeNum.j2 k x2 x5 x49) (code_TakeNum.J2 x2 x5 x49) := Go.Proofs.YtpmcojmhkpaoaaaLabel.lim_spec (fun k => (code_TakeNum.mono_l k).2.2 x2 x5 x49)
theorem code_TakeNum.L0_eq (x0 : List Int) (x2 : Int) (x5 : Int) : code_TakeNum.L0 x0 x2 x5 = (if x5 = (x0.length : Int) then (some (0, 0, 7)) else (if 0 ≤ x5 then (if x5 < (x0.length : Int) then (if (rd x0 x5) ≥ 128 then (code_TakeNum.J1 x0 x2 x5 (x5 == 8)) else (code_TakeNum.J1 x0 x2 x5 false)) else (none)) else (none))) := by
  refine Go.Proofs.YtpmcojmhkpaoaaaLabel.Lim.unique (code_TakeNum.L0_lim x0 x2 x5).shift ?_
  simp only [code_TakeNum.l0]
  (repeat' (first | exact Go.Proofs.YtpmcojmhkpaoaaaLabel.Lim.const _ | exact code_TakeNum.L0_lim _ _ _ | exact code_TakeNum.J1_lim _ _ _ _ | exact code_TakeNum.J2_lim _ _ _ | refine Go.Proofs.YtpmcojmhkpaoaaaLabel.Lim.ite ?_ ?_ | refine Go.Proofs.YtpmcojmhkpaoaaaLabel.Lim.bind ?_ (fun _ => ?_)))
theorem code_TakeNum.J1_eq (x0 : List Int) (x2 : Int) (x5 : Int) (x18 : Bool) : code_TakeNum.J1 x0 x2 x5 x18 = (if x18 = true then (some (0, 0, 1)) else (if 0 ≤ x5 then (if x5 < (x0.length : Int) then (if 0 ≤ (wrap64 (7 * x5)) then (if (rd x0 x5) ≥ 128 then (code_TakeNum.L0 x0 (Go.bits .or .i64 x2 (shl .i64 (wrap64 (Go.bits .and .u8 (rd x0 x5) 127)) (wrap64 (7 * x5)))) (wrap64 (x5 + 1))) else (if (rd x0 x5) = 0 then (if x5 > 0 then (code_TakeNum.J2 (Go.bits .or .i64 x2 (shl .i64 (wrap64 (Go.bits .and .u8 (rd x0 x5) 127)) (wrap64 (7 * x5)))) x5 true) else (code_TakeNum.J2 (Go.bits .or .i64 x2 (shl .i64 (wrap64 (Go.bits .and .u8 (rd x0 x5) 127)) (wrap64 (7 * x5)))) x5 (decide ((Go.bits .or .i64 x2 (shl .i64 (wrap64 (Go.bits .and .u8 (rd x0 x5) 127)) (wrap64 (7 * x5)))) > 4611686018427387904)))) else (code_TakeNum.J2 (Go.bits .or .i64 x2 (shl .i64 (wrap64 (Go.bits .and .u8 (rd x0 x5) 127)) (wrap64 (7 * x5)))) x5 (decide ((Go.bits .or .i64 x2 (shl .i64 (wrap64 (Go.bits .and .u8 (rd x0 x5) 127)) (wrap64 (7 * x5)))) > 4611686018427387904))))) else (none)) else (none)) else (none))) := by
  refine Go.Proofs.YtpmcojmhkpaoaaaLabel.Lim.unique (code_TakeNum.J1_lim x0 x2 x5 x18).shift ?_
  simp only [code_TakeNum.j1]
  (repeat' (first | exact Go.Proofs.YtpmcojmhkpaoaaaLabel.Lim.const _ | exact code_TakeNum.L0_lim _ _ _ | exact code_TakeNum.J1_lim _ _ _ _ | exact code_TakeNum.J2_lim _ _ _ | refine Go.Proofs.YtpmcojmhkpaoaaaLabel.Lim.ite ?_ ?_ | refine Go.Proofs.YtpmcojmhkpaoaaaLabel.Lim.bind ?_ (fun _ => ?_)))
theorem code_TakeNum.J2_eq (x2 : Int) (x5 : Int) (x49 : Bool) : code_TakeNum.J2 x2 x5 x49 = (if x49 = true then (some (0, 0, 1)) else (some (x2, wrap64 (x5 + 1), 0))) := by
  refine Go.Proofs.YtpmcojmhkpaoaaaLabel.Lim.unique (code_TakeNum.J2_lim x2 x5 x49).shift ?_
  simp only [code_TakeNum.j2]
  (repeat' (first | exact Go.Proofs.YtpmcojmhkpaoaaaLabel.Lim.const _ | exact code_TakeNum.L0_lim _ _ _ | exact code_TakeNum.J1_lim _ _ _ _ | exact code_TakeNum.J2_lim _ _ _ | refine Go.Proofs.YtpmcojmhkpaoaaaLabel.Lim.ite ?_ ?_ | refine Go.Proofs.YtpmcojmhkpaoaaaLabel.Lim.bind ?_ (fun _ => ?_)))
noncomputable def code_TakeNum.F (l0 : List Int) : Option (Int × Int × Int) := Go.Proofs.YtpmcojmhkpaoaaaLabel.lim (fun k => code_TakeNum.f k l0)
theorem code_TakeNum.F_lim (l0 : List Int) : Go.Proofs.YtpmcojmhkpaoaaaLabel.Lim (fun k => code_TakeNum.f k l0) (code_TakeNum.F l0) := Go.Proofs.YtpmcojmhkpaoaaaLabel.lim_spec (code_TakeNum.mono l0)
theorem code_TakeNum.F_eq (l0 : List Int) : code_TakeNum.F l0 = (code_TakeNum.L0 l0 0 0) := by
  refine Go.Proofs.YtpmcojmhkpaoaaaLabel.Lim.unique (code_TakeNum.F_lim l0) ?_
  simp only [code_TakeNum.f]
  (repeat' (first | exact Go.Proofs.YtpmcojmhkpaoaaaLabel.Lim.const _ | exact code_TakeNum.L0_lim _ _ _ | exact code_TakeNum.J1_lim _ _ _ _ | exact code_TakeNum.J2_lim _ _ _ | refine Go.Proofs.YtpmcojmhkpaoaaaLabel.Lim.ite ?_ ?_ | refine Go.Proofs.YtpmcojmhkpaoaaaLabel.Lim.bind ?_ (fun _ => ?_)))

/-! #### arraslaw5_num: function 25 -/
def arraslaw5_num.f (a0 : Int) : Option (Int) := some a0

/-! #### arraslaw5_wakes: function 26 -/
def arraslaw5_wakes.f (k : Nat)  : Option (Bool) := (code_Num.f k 300).bind fun bt165 => ((arraslaw5_num.f bt165.2).bind fun t169 => (if t169 = 0 then ((arrasref0_EqBytes.f k bt165.1 (([172, 2] : List Int))).bind fun t173 => (some t173)) else (some false)))
theorem arraslaw5_wakes.mono : ∀ k, LeO (arraslaw5_wakes.f k ) (arraslaw5_wakes.f (k + 1) ) := by
 intro  k
 unfold arraslaw5_wakes.f
 repeat' first
   | (with_reducible exact arrasref0_EqBytes.mono _ _ _)
   | (with_reducible exact code_Num.mono _ _)
   | (with_reducible exact LeO.refl _)
   | (with_reducible exact LeO.none _)
   | (with_reducible refine LeO.ite ?_ ?_)
   | (with_reducible refine LeO.bind ?_ (fun _ => ?_))
   | exact arrasref0_EqBytes.mono _ _ _
   | exact code_Num.mono _ _
   | exact LeO.none _
   | refine LeO.ite ?_ ?_
   | refine LeO.bind ?_ (fun _ => ?_)
noncomputable def arraslaw5_wakes.F  : Option (Bool) := Go.Proofs.YtpmcojmhkpaoaaaLabel.lim (fun k => arraslaw5_wakes.f k )
theorem arraslaw5_wakes.F_lim  : Go.Proofs.YtpmcojmhkpaoaaaLabel.Lim (fun k => arraslaw5_wakes.f k ) (arraslaw5_wakes.F ) := Go.Proofs.YtpmcojmhkpaoaaaLabel.lim_spec (arraslaw5_wakes.mono )
theorem arraslaw5_wakes.F_eq  : arraslaw5_wakes.F  = ((code_Num.F 300).bind fun bt165 => ((arraslaw5_num.f bt165.2).bind fun t169 => (if t169 = 0 then ((arrasref0_EqBytes.F bt165.1 (([172, 2] : List Int))).bind fun t173 => (some t173)) else (some false)))) := by
  refine Go.Proofs.YtpmcojmhkpaoaaaLabel.Lim.unique (arraslaw5_wakes.F_lim ) ?_
  simp only [arraslaw5_wakes.f]
  (repeat' (first | exact Go.Proofs.YtpmcojmhkpaoaaaLabel.Lim.const _ | exact arrasref0_EqBytes.F_lim _ _ | exact code_Num.F_lim _ | refine Go.Proofs.YtpmcojmhkpaoaaaLabel.Lim.ite ?_ ?_ | refine Go.Proofs.YtpmcojmhkpaoaaaLabel.Lim.bind ?_ (fun _ => ?_)))

/-! #### arraslaw5_CodeEdges: function 5 -/
mutual
def arraslaw5_CodeEdges.j0 : Nat → List (S43) → List Int → Bool → Option (Bool)
 | 0, _, _, _ => none
 | k + 1, x0, x3, x74 => if x74 = true then (some false) else (arraslaw5_CodeEdges.l0 k x0 x3 (([128, 128, 128, 128, 128, 128, 128, 128, 128] : List Int)) 0)
def arraslaw5_CodeEdges.l0 : Nat → List (S43) → List Int → List Int → Int → Option (Bool)
 | 0, _, _, _, _ => none
 | k + 1, x0, x3, x12, x13 => if x13 ≤ 9 then (if 0 ≤ x13 then (if x13 ≤ (x12.length : Int) then ((code_TakeNum.f k (x12.take (x13 : Int).toNat)).bind fun bt200 => (if x13 = 9 then (arraslaw5_CodeEdges.j2 k x0 x3 x12 x13 bt200.2.2 1) else (arraslaw5_CodeEdges.j2 k x0 x3 x12 x13 bt200.2.2 7))) else (none)) else (none)) else ((code_TakeNum.f k (([128, 0] : List Int))).bind fun bt207 => ((code_TakeNum.f k (([0, 5] : List Int))).bind fun bt213 => (if 0 < (x3.length : Int) then ((code_TakeNum.f k (x3.set (0 : Int).toNat (((rd x3 0) + 1) % 256))).bind fun bt218 => ((arraslaw5_num.f bt207.2.2).bind fun t221 => (if t221 = 1 then ((arraslaw5_num.f bt213.2.2).bind fun t222 => (if t222 = 0 then (if bt213.1 = 0 then (if bt213.2.1 = 1 then ((arraslaw5_num.f bt218.2.2).bind fun t223 => (if t223 = 1 then (if (x0.length : Int) ≥ 0 then ((arraslaw5_wakes.f k).bind fun t224 => (some t224)) else (some false)) else (some false))) else (some false)) else (some false)) else (some false))) else (some false)))) else (none))))
def arraslaw5_CodeEdges.j2 : Nat → List (S43) → List Int → List Int → Int → Int → Int → Option (Bool)
 | 0, _, _, _, _, _, _ => none
 | k + 1, x0, x3, x12, x13, x16, x17 => (arraslaw5_num.f x16).bind fun t203 => (if t203 = x17 then (arraslaw5_CodeEdges.l0 k x0 x3 x12 (wrap64 (x13 + 1))) else (some false))
end
def arraslaw5_CodeEdges.f (k : Nat) (l0 : List (S43)) : Option (Bool) := (code_Num.f k 4611686018427387904).bind fun bt174 => ((code_Num.f k 4611686018427387905).bind fun bt178 => ((code_Num.f k (-1)).bind fun bt182 => ((code_TakeNum.f k bt174.1).bind fun bt186 => ((arraslaw5_num.f bt174.2).bind fun t189 => (if t189 = 0 then ((arraslaw5_num.f bt178.2).bind fun t190 => (if t190 = 1 then ((arraslaw5_num.f bt182.2).bind fun t191 => (if t191 = 1 then ((arraslaw5_num.f bt186.2.2).bind fun t192 => (if t192 = 0 then (if bt186.1 = 4611686018427387904 then (if bt186.2.1 = 9 then (arraslaw5_CodeEdges.j0 k l0 bt174.1 ((bt174.1.length : Int) != 9)) else (arraslaw5_CodeEdges.j0 k l0 bt174.1 true)) else (arraslaw5_CodeEdges.j0 k l0 bt174.1 true)) else (arraslaw5_CodeEdges.j0 k l0 bt174.1 true))) else (arraslaw5_CodeEdges.j0 k l0 bt174.1 true))) else (arraslaw5_CodeEdges.j0 k l0 bt174.1 true))) else (arraslaw5_CodeEdges.j0 k l0 bt174.1 true))))))
theorem arraslaw5_CodeEdges.mono_l : ∀ k, (∀ y0 y1 y2, LeO (arraslaw5_CodeEdges.j0 k y0 y1 y2) (arraslaw5_CodeEdges.j0 (k + 1) y0 y1 y2)) ∧ (∀ y0 y1 y2 y3, LeO (arraslaw5_CodeEdges.l0 k y0 y1 y2 y3) (arraslaw5_CodeEdges.l0 (k + 1) y0 y1 y2 y3)) ∧ (∀ y0 y1 y2 y3 y4 y5, LeO (arraslaw5_CodeEdges.j2 k y0 y1 y2 y3 y4 y5) (arraslaw5_CodeEdges.j2 (k + 1) y0 y1 y2 y3 y4 y5))
 | 0 => ⟨fun _ _ _ r h => by simp [arraslaw5_CodeEdges.j0] at h, fun _ _ _ _ r h => by simp [arraslaw5_CodeEdges.l0] at h, fun _ _ _ _ _ _ r h => by simp [arraslaw5_CodeEdges.j2] at h⟩
 | k + 1 => by
  obtain ⟨ih0, ih1, ih2⟩ := arraslaw5_CodeEdges.mono_l k
  refine ⟨?_, ?_, ?_⟩
  ·intro y0 y1 y2
   unfold arraslaw5_CodeEdges.j0
   repeat' first
   | (with_reducible exact ih0 _ _ _)
   | (with_reducible exact ih1 _ _ _ _)
   | (with_reducible exact ih2 _ _ _ _ _ _)
   | (with_reducible exact arraslaw5_wakes.mono _)
   | (with_reducible exact code_Num.mono _ _)
   | (with_reducible exact code_TakeNum.mono _ _)
   | (with_reducible exact LeO.refl _)
   | (with_reducible exact LeO.none _)
   | (with_reducible refine LeO.ite ?_ ?_)
   | (with_reducible refine LeO.bind ?_ (fun _ => ?_))
   | exact ih0 _ _ _
   | exact ih1 _ _ _ _
   | exact ih2 _ _ _ _ _ _
   | exact arraslaw5_wakes.mono _
   | exact code_Num.mono _ _
   | exact code_TakeNum.mono _ _
   | exact LeO.none _
   | refine LeO.ite ?_ ?_
   | refine LeO.bind ?_ (fun _ => ?_)
  ·intro y0 y1 y2 y3
   unfold arraslaw5_CodeEdges.l0
   repeat' first
   | (with_reducible exact ih0 _ _ _)
   | (with_reducible exact ih1 _ _ _ _)
   | (with_reducible exact ih2 _ _ _ _ _ _)
   | (with_reducible exact arraslaw5_wakes.mono _)
   | (with_reducible exact code_Num.mono _ _)
   | (with_reducible exact code_TakeNum.mono _ _)
   | (with_reducible exact LeO.refl _)
   | (with_reducible exact LeO.none _)
   | (with_reducible refine LeO.ite ?_ ?_)
   | (with_reducible refine LeO.bind ?_ (fun _ => ?_))
   | exact ih0 _ _ _
   | exact ih1 _ _ _ _
   | exact ih2 _ _ _ _ _ _
   | exact arraslaw5_wakes.mono _
   | exact code_Num.mono _ _
   | exact code_TakeNum.mono _ _
   | exact LeO.none _
   | refine LeO.ite ?_ ?_
   | refine LeO.bind ?_ (fun _ => ?_)
  ·intro y0 y1 y2 y3 y4 y5
   unfold arraslaw5_CodeEdges.j2
   repeat' first
   | (with_reducible exact ih0 _ _ _)
   | (with_reducible exact ih1 _ _ _ _)
   | (with_reducible exact ih2 _ _ _ _ _ _)
   | (with_reducible exact arraslaw5_wakes.mono _)
   | (with_reducible exact code_Num.mono _ _)
   | (with_reducible exact code_TakeNum.mono _ _)
   | (with_reducible exact LeO.refl _)
   | (with_reducible exact LeO.none _)
   | (with_reducible refine LeO.ite ?_ ?_)
   | (with_reducible refine LeO.bind ?_ (fun _ => ?_))
   | exact ih0 _ _ _
   | exact ih1 _ _ _ _
   | exact ih2 _ _ _ _ _ _
   | exact arraslaw5_wakes.mono _
   | exact code_Num.mono _ _
   | exact code_TakeNum.mono _ _
   | exact LeO.none _
   | refine LeO.ite ?_ ?_
   | refine LeO.bind ?_ (fun _ => ?_)
theorem arraslaw5_CodeEdges.mono : ∀ a0 k, LeO (arraslaw5_CodeEdges.f k a0) (arraslaw5_CodeEdges.f (k + 1) a0) := by
 intro a0 k
 obtain ⟨ih0, ih1, ih2⟩ := arraslaw5_CodeEdges.mono_l k
 unfold arraslaw5_CodeEdges.f
 repeat' first
   | (with_reducible exact ih0 _ _ _)
   | (with_reducible exact ih1 _ _ _ _)
   | (with_reducible exact ih2 _ _ _ _ _ _)
   | (with_reducible exact arraslaw5_wakes.mono _)
   | (with_reducible exact code_Num.mono _ _)
   | (with_reducible exact code_TakeNum.mono _ _)
   | (with_reducible exact LeO.refl _)
   | (with_reducible exact LeO.none _)
   | (with_reducible refine LeO.ite ?_ ?_)
   | (with_reducible refine LeO.bind ?_ (fun _ => ?_))
   | exact ih0 _ _ _
   | exact ih1 _ _ _ _
   | exact ih2 _ _ _ _ _ _
   | exact arraslaw5_wakes.mono _
   | exact code_Num.mono _ _
   | exact code_TakeNum.mono _ _
   | exact LeO.none _
   | refine LeO.ite ?_ ?_
   | refine LeO.bind ?_ (fun _ => ?_)
noncomputable def arraslaw5_CodeEdges.J0 (x0 : List (S43)) (x3 : List Int) (x74 : Bool) : Option (Bool) := Go.Proofs.YtpmcojmhkpaoaaaLabel.lim (fun k => arraslaw5_CodeEdges.j0 k x0 x3 x74)
noncomputable def arraslaw5_CodeEdges.L0 (x0 : List (S43)) (x3 : List Int) (x12 : List Int) (x13 : Int) : Option (Bool) := Go.Proofs.YtpmcojmhkpaoaaaLabel.lim (fun k => arraslaw5_CodeEdges.l0 k x0 x3 x12 x13)
noncomputable def arraslaw5_CodeEdges.J2 (x0 : List (S43)) (x3 : List Int) (x12 : List Int) (x13 : Int) (x16 : Int) (x17 : Int) : Option (Bool) := Go.Proofs.YtpmcojmhkpaoaaaLabel.lim (fun k => arraslaw5_CodeEdges.j2 k x0 x3 x12 x13 x16 x17)
theorem arraslaw5_CodeEdges.J0_lim (x0 : List (S43)) (x3 : List Int) (x74 : Bool) : Go.Proofs.YtpmcojmhkpaoaaaLabel.Lim (fun k => arraslaw5_CodeEdges.j0 k x0 x3 x74) (arraslaw5_CodeEdges.J0 x0 x3 x74) := Go.Proofs.YtpmcojmhkpaoaaaLabel.lim_spec (fun k => (arraslaw5_CodeEdges.mono_l k).1 x0 x3 x74)
theorem arraslaw5_CodeEdges.L0_lim (x0 : List (S43)) (x3 : List Int) (x12 : List Int) (x13 : Int) : Go.Proofs.YtpmcojmhkpaoaaaLabel.Lim (fun k => arraslaw5_CodeEdges.l0 k x0 x3 x12 x13) (arraslaw5_CodeEdges.L0 x0 x3 x12 x13) := Go.Proofs.YtpmcojmhkpaoaaaLabel.lim_spec (fun k => (arraslaw5_CodeEdges.mono_l k).2.1 x0 x3 x12 x13)
theorem arraslaw5_CodeEdges.J2_lim (x0 : List (S43)) (x3 : List Int) (x12 : List Int) (x13 : Int) (x16 : Int) (x17 : Int) : Go.Proofs.YtpmcojmhkpaoaaaLabel.Lim (fun k => arraslaw5_CodeEdges.j2 k x0 x3 x12 x13 x16 x17) (arraslaw5_CodeEdges.J2 x0 x3 x12 x13 x16 x17) := Go.Proofs.YtpmcojmhkpaoaaaLabel.lim_spec (fun k => (arraslaw5_CodeEdges.mono_l k).2.2 x0 x3 x12 x13 x16 x17)
theorem arraslaw5_CodeEdges.J0_eq (x0 : List (S43)) (x3 : List Int) (x74 : Bool) : arraslaw5_CodeEdges.J0 x0 x3 x74 = (if x74 = true then (some false) else (arraslaw5_CodeEdges.L0 x0 x3 (([128, 128, 128, 128, 128, 128, 128, 128, 128] : List Int)) 0)) := by
  refine Go.Proofs.YtpmcojmhkpaoaaaLabel.Lim.unique (arraslaw5_CodeEdges.J0_lim x0 x3 x74).shift ?_
  simp only [arraslaw5_CodeEdges.j0]
  (repeat' (first | exact Go.Proofs.YtpmcojmhkpaoaaaLabel.Lim.const _ | exact arraslaw5_CodeEdges.J0_lim _ _ _ | exact arraslaw5_CodeEdges.L0_lim _ _ _ _ | exact arraslaw5_CodeEdges.J2_lim _ _ _ _ _ _ | exact arraslaw5_wakes.F_lim | exact code_Num.F_lim _ | exact code_TakeNum.F_lim _ | refine Go.Proofs.YtpmcojmhkpaoaaaLabel.Lim.ite ?_ ?_ | refine Go.Proofs.YtpmcojmhkpaoaaaLabel.Lim.bind ?_ (fun _ => ?_)))
theorem arraslaw5_CodeEdges.L0_eq (x0 : List (S43)) (x3 : List Int) (x12 : List Int) (x13 : Int) : arraslaw5_CodeEdges.L0 x0 x3 x12 x13 = (if x13 ≤ 9 then (if 0 ≤ x13 then (if x13 ≤ (x12.length : Int) then ((code_TakeNum.F (x12.take (x13 : Int).toNat)).bind fun bt200 => (if x13 = 9 then (arraslaw5_CodeEdges.J2 x0 x3 x12 x13 bt200.2.2 1) else (arraslaw5_CodeEdges.J2 x0 x3 x12 x13 bt200.2.2 7))) else (none)) else (none)) else ((code_TakeNum.F (([128, 0] : List Int))).bind fun bt207 => ((code_TakeNum.F (([0, 5] : List Int))).bind fun bt213 => (if 0 < (x3.length : Int) then ((code_TakeNum.F (x3.set (0 : Int).toNat (((rd x3 0) + 1) % 256))).bind fun bt218 => ((arraslaw5_num.f bt207.2.2).bind fun t221 => (if t221 = 1 then ((arraslaw5_num.f bt213.2.2).bind fun t222 => (if t222 = 0 then (if bt213.1 = 0 then (if bt213.2.1 = 1 then ((arraslaw5_num.f bt218.2.2).bind fun t223 => (if t223 = 1 then (if (x0.length : Int) ≥ 0 then ((arraslaw5_wakes.F).bind fun t224 => (some t224)) else (some false)) else (some false))) else (some false)) else (some false)) else (some false))) else (some false)))) else (none))))) := by
  refine Go.Proofs.YtpmcojmhkpaoaaaLabel.Lim.unique (arraslaw5_CodeEdges.L0_lim x0 x3 x12 x13).shift ?_
  simp only [arraslaw5_CodeEdges.l0]
  (repeat' (first | exact Go.Proofs.YtpmcojmhkpaoaaaLabel.Lim.const _ | exact arraslaw5_CodeEdges.J0_lim _ _ _ | exact arraslaw5_CodeEdges.L0_lim _ _ _ _ | exact arraslaw5_CodeEdges.J2_lim _ _ _ _ _ _ | exact arraslaw5_wakes.F_lim | exact code_Num.F_lim _ | exact code_TakeNum.F_lim _ | refine Go.Proofs.YtpmcojmhkpaoaaaLabel.Lim.ite ?_ ?_ | refine Go.Proofs.YtpmcojmhkpaoaaaLabel.Lim.bind ?_ (fun _ => ?_)))
theorem arraslaw5_CodeEdges.J2_eq (x0 : List (S43)) (x3 : List Int) (x12 : List Int) (x13 : Int) (x16 : Int) (x17 : Int) : arraslaw5_CodeEdges.J2 x0 x3 x12 x13 x16 x17 = ((arraslaw5_num.f x16).bind fun t203 => (if t203 = x17 then (arraslaw5_CodeEdges.L0 x0 x3 x12 (wrap64 (x13 + 1))) else (some false))) := by
  refine Go.Proofs.YtpmcojmhkpaoaaaLabel.Lim.unique (arraslaw5_CodeEdges.J2_lim x0 x3 x12 x13 x16 x17).shift ?_
  simp only [arraslaw5_CodeEdges.j2]
  (repeat' (first | exact Go.Proofs.YtpmcojmhkpaoaaaLabel.Lim.const _ | exact arraslaw5_CodeEdges.J0_lim _ _ _ | exact arraslaw5_CodeEdges.L0_lim _ _ _ _ | exact arraslaw5_CodeEdges.J2_lim _ _ _ _ _ _ | exact arraslaw5_wakes.F_lim | exact code_Num.F_lim _ | exact code_TakeNum.F_lim _ | refine Go.Proofs.YtpmcojmhkpaoaaaLabel.Lim.ite ?_ ?_ | refine Go.Proofs.YtpmcojmhkpaoaaaLabel.Lim.bind ?_ (fun _ => ?_)))
noncomputable def arraslaw5_CodeEdges.F (l0 : List (S43)) : Option (Bool) := Go.Proofs.YtpmcojmhkpaoaaaLabel.lim (fun k => arraslaw5_CodeEdges.f k l0)
theorem arraslaw5_CodeEdges.F_lim (l0 : List (S43)) : Go.Proofs.YtpmcojmhkpaoaaaLabel.Lim (fun k => arraslaw5_CodeEdges.f k l0) (arraslaw5_CodeEdges.F l0) := Go.Proofs.YtpmcojmhkpaoaaaLabel.lim_spec (arraslaw5_CodeEdges.mono l0)
theorem arraslaw5_CodeEdges.F_eq (l0 : List (S43)) : arraslaw5_CodeEdges.F l0 = ((code_Num.F 4611686018427387904).bind fun bt174 => ((code_Num.F 4611686018427387905).bind fun bt178 => ((code_Num.F (-1)).bind fun bt182 => ((code_TakeNum.F bt174.1).bind fun bt186 => ((arraslaw5_num.f bt174.2).bind fun t189 => (if t189 = 0 then ((arraslaw5_num.f bt178.2).bind fun t190 => (if t190 = 1 then ((arraslaw5_num.f bt182.2).bind fun t191 => (if t191 = 1 then ((arraslaw5_num.f bt186.2.2).bind fun t192 => (if t192 = 0 then (if bt186.1 = 4611686018427387904 then (if bt186.2.1 = 9 then (arraslaw5_CodeEdges.J0 l0 bt174.1 ((bt174.1.length : Int) != 9)) else (arraslaw5_CodeEdges.J0 l0 bt174.1 true)) else (arraslaw5_CodeEdges.J0 l0 bt174.1 true)) else (arraslaw5_CodeEdges.J0 l0 bt174.1 true))) else (arraslaw5_CodeEdges.J0 l0 bt174.1 true))) else (arraslaw5_CodeEdges.J0 l0 bt174.1 true))) else (arraslaw5_CodeEdges.J0 l0 bt174.1 true))))))) := by
  refine Go.Proofs.YtpmcojmhkpaoaaaLabel.Lim.unique (arraslaw5_CodeEdges.F_lim l0) ?_
  simp only [arraslaw5_CodeEdges.f]
  (repeat' (first | exact Go.Proofs.YtpmcojmhkpaoaaaLabel.Lim.const _ | exact arraslaw5_CodeEdges.J0_lim _ _ _ | exact arraslaw5_CodeEdges.L0_lim _ _ _ _ | exact arraslaw5_CodeEdges.J2_lim _ _ _ _ _ _ | exact arraslaw5_wakes.F_lim | exact code_Num.F_lim _ | exact code_TakeNum.F_lim _ | refine Go.Proofs.YtpmcojmhkpaoaaaLabel.Lim.ite ?_ ?_ | refine Go.Proofs.YtpmcojmhkpaoaaaLabel.Lim.bind ?_ (fun _ => ?_)))

/-! #### arraslaw5_heavy: function 27 -/
def arraslaw5_heavy.f (a0_0 : Int) (a0_1 : ByteArray) (l0_2 : List Int) (l0_3 : List Int) : Option (Bool) := if (a0_1.size : Int) > 65546 then (some true) else (if (l0_2.length : Int) > 2000 then (some true) else (some (decide ((l0_3.length : Int) > 3000))))

/-! #### code_PutText: function 72 -/
def code_PutText.f (k : Nat) (l0 : List Int) (a1 : ByteArray) : Option (List Int) := (code_Put.f k l0 (a1.size : Int)).bind fun t226 => (if t226.length + a1.size < 140737488355328 then (some (t226 ++ bytesOf a1)) else (none))
theorem code_PutText.mono : ∀ a0 a1 k, LeO (code_PutText.f k a0 a1) (code_PutText.f (k + 1) a0 a1) := by
 intro a0 a1 k
 unfold code_PutText.f
 repeat' first
   | (with_reducible exact code_Put.mono _ _ _)
   | (with_reducible exact LeO.refl _)
   | (with_reducible exact LeO.none _)
   | (with_reducible refine LeO.ite ?_ ?_)
   | (with_reducible refine LeO.bind ?_ (fun _ => ?_))
   | exact code_Put.mono _ _ _
   | exact LeO.none _
   | refine LeO.ite ?_ ?_
   | refine LeO.bind ?_ (fun _ => ?_)
noncomputable def code_PutText.F (l0 : List Int) (a1 : ByteArray) : Option (List Int) := Go.Proofs.YtpmcojmhkpaoaaaLabel.lim (fun k => code_PutText.f k l0 a1)
theorem code_PutText.F_lim (l0 : List Int) (a1 : ByteArray) : Go.Proofs.YtpmcojmhkpaoaaaLabel.Lim (fun k => code_PutText.f k l0 a1) (code_PutText.F l0 a1) := Go.Proofs.YtpmcojmhkpaoaaaLabel.lim_spec (code_PutText.mono l0 a1)
theorem code_PutText.F_eq (l0 : List Int) (a1 : ByteArray) : code_PutText.F l0 a1 = ((code_Put.F l0 (a1.size : Int)).bind fun t226 => (if t226.length + a1.size < 140737488355328 then (some (t226 ++ bytesOf a1)) else (none))) := by
  refine Go.Proofs.YtpmcojmhkpaoaaaLabel.Lim.unique (code_PutText.F_lim l0 a1) ?_
  simp only [code_PutText.f]
  (repeat' (first | exact Go.Proofs.YtpmcojmhkpaoaaaLabel.Lim.const _ | exact code_Put.F_lim _ _ | refine Go.Proofs.YtpmcojmhkpaoaaaLabel.Lim.ite ?_ ?_ | refine Go.Proofs.YtpmcojmhkpaoaaaLabel.Lim.bind ?_ (fun _ => ?_)))

/-! #### code_Text: function 28 -/
def code_Text.f (k : Nat) (a0 : ByteArray) : Option (List Int × Int) := if (a0.size : Int) > 65536 then (some (([] : List Int), 1)) else ((code_PutText.f k ([] : List Int) a0).bind fun t232 => (some (t232, 0)))
theorem code_Text.mono : ∀ a0 k, LeO (code_Text.f k a0) (code_Text.f (k + 1) a0) := by
 intro a0 k
 unfold code_Text.f
 repeat' first
   | (with_reducible exact code_PutText.mono _ _ _)
   | (with_reducible exact LeO.refl _)
   | (with_reducible exact LeO.none _)
   | (with_reducible refine LeO.ite ?_ ?_)
   | (with_reducible refine LeO.bind ?_ (fun _ => ?_))
   | exact code_PutText.mono _ _ _
   | exact LeO.none _
   | refine LeO.ite ?_ ?_
   | refine LeO.bind ?_ (fun _ => ?_)
noncomputable def code_Text.F (a0 : ByteArray) : Option (List Int × Int) := Go.Proofs.YtpmcojmhkpaoaaaLabel.lim (fun k => code_Text.f k a0)
theorem code_Text.F_lim (a0 : ByteArray) : Go.Proofs.YtpmcojmhkpaoaaaLabel.Lim (fun k => code_Text.f k a0) (code_Text.F a0) := Go.Proofs.YtpmcojmhkpaoaaaLabel.lim_spec (code_Text.mono a0)
theorem code_Text.F_eq (a0 : ByteArray) : code_Text.F a0 = (if (a0.size : Int) > 65536 then (some (([] : List Int), 1)) else ((code_PutText.F ([] : List Int) a0).bind fun t232 => (some (t232, 0)))) := by
  refine Go.Proofs.YtpmcojmhkpaoaaaLabel.Lim.unique (code_Text.F_lim a0) ?_
  simp only [code_Text.f]
  (repeat' (first | exact Go.Proofs.YtpmcojmhkpaoaaaLabel.Lim.const _ | exact code_PutText.F_lim _ _ | refine Go.Proofs.YtpmcojmhkpaoaaaLabel.Lim.ite ?_ ?_ | refine Go.Proofs.YtpmcojmhkpaoaaaLabel.Lim.bind ?_ (fun _ => ?_)))

/-! #### code_PutAll: function 73 -/
def code_PutAll.l0 : Nat → List Int → List Int → Int → Int → Option (List Int)
 | 0, _, _, _, _ => none
 | k + 1, x0, x11, x12, x13 => if x13 < x12 then (if 0 ≤ x13 then (if x13 < (x11.length : Int) then ((code_Put.f k x0 (rd x11 x13)).bind fun t239 => (code_PutAll.l0 k t239 x11 x12 (wrap64 (x13 + 1)))) else (none)) else (none)) else (some x0)
def code_PutAll.f (k : Nat) (l0 : List Int) (l1 : List Int) : Option (List Int) := (code_Put.f k l0 (l1.length : Int)).bind fun t235 => (code_PutAll.l0 k t235 l1 (l1.length : Int) 0)
theorem code_PutAll.mono_l : ∀ k, (∀ y0 y1 y2 y3, LeO (code_PutAll.l0 k y0 y1 y2 y3) (code_PutAll.l0 (k + 1) y0 y1 y2 y3))
 | 0 => fun _ _ _ _ r h => by simp [code_PutAll.l0] at h
 | k + 1 => by
  have ih0 := code_PutAll.mono_l k
  ·intro y0 y1 y2 y3
   unfold code_PutAll.l0
   repeat' first
   | (with_reducible exact ih0 _ _ _ _)
   | (with_reducible exact code_Put.mono _ _ _)
   | (with_reducible exact LeO.refl _)
   | (with_reducible exact LeO.none _)
   | (with_reducible refine LeO.ite ?_ ?_)
   | (with_reducible refine LeO.bind ?_ (fun _ => ?_))
   | exact ih0 _ _ _ _
   | exact code_Put.mono _ _ _
   | exact LeO.none _
   | refine LeO.ite ?_ ?_
   | refine LeO.bind ?_ (fun _ => ?_)
theorem code_PutAll.mono : ∀ a0 a1 k, LeO (code_PutAll.f k a0 a1) (code_PutAll.f (k + 1) a0 a1) := by
 intro a0 a1 k
 have ih0 := code_PutAll.mono_l k
 unfold code_PutAll.f
 repeat' first
   | (with_reducible exact ih0 _ _ _ _)
   | (with_reducible exact code_Put.mono _ _ _)
   | (with_reducible exact LeO.refl _)
   | (with_reducible exact LeO.none _)
   | (with_reducible refine LeO.ite ?_ ?_)
   | (with_reducible refine LeO.bind ?_ (fun _ => ?_))
   | exact ih0 _ _ _ _
   | exact code_Put.mono _ _ _
   | exact LeO.none _
   | refine LeO.ite ?_ ?_
   | refine LeO.bind ?_ (fun _ => ?_)
noncomputable def code_PutAll.L0 (x0 : List Int) (x11 : List Int) (x12 : Int) (x13 : Int) : Option (List Int) := Go.Proofs.YtpmcojmhkpaoaaaLabel.lim (fun k => code_PutAll.l0 k x0 x11 x12 x13)
theorem code_PutAll.L0_lim (x0 : List Int) (x11 : List Int) (x12 : Int) (x13 : Int) : Go.Proofs.YtpmcojmhkpaoaaaLabel.Lim (fun k => code_PutAll.l0 k x0 x11 x12 x13) (code_PutAll.L0 x0 x11 x12 x13) := Go.Proofs.YtpmcojmhkpaoaaaLabel.lim_spec (fun k => (code_PutAll.mono_l k) x0 x11 x12 x13)
theorem code_PutAll.L0_eq (x0 : List Int) (x11 : List Int) (x12 : Int) (x13 : Int) : code_PutAll.L0 x0 x11 x12 x13 = (if x13 < x12 then (if 0 ≤ x13 then (if x13 < (x11.length : Int) then ((code_Put.F x0 (rd x11 x13)).bind fun t239 => (code_PutAll.L0 t239 x11 x12 (wrap64 (x13 + 1)))) else (none)) else (none)) else (some x0)) := by
  refine Go.Proofs.YtpmcojmhkpaoaaaLabel.Lim.unique (code_PutAll.L0_lim x0 x11 x12 x13).shift ?_
  simp only [code_PutAll.l0]
  (repeat' (first | exact Go.Proofs.YtpmcojmhkpaoaaaLabel.Lim.const _ | exact code_PutAll.L0_lim _ _ _ _ | exact code_Put.F_lim _ _ | refine Go.Proofs.YtpmcojmhkpaoaaaLabel.Lim.ite ?_ ?_ | refine Go.Proofs.YtpmcojmhkpaoaaaLabel.Lim.bind ?_ (fun _ => ?_)))
noncomputable def code_PutAll.F (l0 : List Int) (l1 : List Int) : Option (List Int) := Go.Proofs.YtpmcojmhkpaoaaaLabel.lim (fun k => code_PutAll.f k l0 l1)
theorem code_PutAll.F_lim (l0 : List Int) (l1 : List Int) : Go.Proofs.YtpmcojmhkpaoaaaLabel.Lim (fun k => code_PutAll.f k l0 l1) (code_PutAll.F l0 l1) := Go.Proofs.YtpmcojmhkpaoaaaLabel.lim_spec (code_PutAll.mono l0 l1)
theorem code_PutAll.F_eq (l0 : List Int) (l1 : List Int) : code_PutAll.F l0 l1 = ((code_Put.F l0 (l1.length : Int)).bind fun t235 => (code_PutAll.L0 t235 l1 (l1.length : Int) 0)) := by
  refine Go.Proofs.YtpmcojmhkpaoaaaLabel.Lim.unique (code_PutAll.F_lim l0 l1) ?_
  simp only [code_PutAll.f]
  (repeat' (first | exact Go.Proofs.YtpmcojmhkpaoaaaLabel.Lim.const _ | exact code_PutAll.L0_lim _ _ _ _ | exact code_Put.F_lim _ _ | refine Go.Proofs.YtpmcojmhkpaoaaaLabel.Lim.ite ?_ ?_ | refine Go.Proofs.YtpmcojmhkpaoaaaLabel.Lim.bind ?_ (fun _ => ?_)))

/-! #### code_Nums: function 29 -/
def code_Nums.l0 : Nat → List Int → List Int → Int → Int → Option (List Int × Int)
 | 0, _, _, _, _ => none
 | k + 1, x0, x9, x10, x11 => if x11 < x10 then (if 0 ≤ x11 then (if x11 < (x9.length : Int) then (if (rd x9 x11) < 0 then (some (([] : List Int), 1)) else (if (rd x9 x11) > 4611686018427387904 then (some (([] : List Int), 1)) else (code_Nums.l0 k x0 x9 x10 (wrap64 (x11 + 1))))) else (none)) else (none)) else ((code_PutAll.f k ([] : List Int) x0).bind fun t242 => (some (t242, 0)))
def code_Nums.f (k : Nat) (l0 : List Int) : Option (List Int × Int) := if (l0.length : Int) > 1024 then (some (([] : List Int), 1)) else (code_Nums.l0 k l0 l0 (l0.length : Int) 0)
theorem code_Nums.mono_l : ∀ k, (∀ y0 y1 y2 y3, LeO (code_Nums.l0 k y0 y1 y2 y3) (code_Nums.l0 (k + 1) y0 y1 y2 y3))
 | 0 => fun _ _ _ _ r h => by simp [code_Nums.l0] at h
 | k + 1 => by
  have ih0 := code_Nums.mono_l k
  ·intro y0 y1 y2 y3
   unfold code_Nums.l0
   repeat' first
   | (with_reducible exact ih0 _ _ _ _)
   | (with_reducible exact code_PutAll.mono _ _ _)
   | (with_reducible exact LeO.refl _)
   | (with_reducible exact LeO.none _)
   | (with_reducible refine LeO.ite ?_ ?_)
   | (with_reducible refine LeO.bind ?_ (fun _ => ?_))
   | exact ih0 _ _ _ _
   | exact code_PutAll.mono _ _ _
   | exact LeO.none _
   | refine LeO.ite ?_ ?_
   | refine LeO.bind ?_ (fun _ => ?_)
theorem code_Nums.mono : ∀ a0 k, LeO (code_Nums.f k a0) (code_Nums.f (k + 1) a0) := by
 intro a0 k
 have ih0 := code_Nums.mono_l k
 unfold code_Nums.f
 repeat' first
   | (with_reducible exact ih0 _ _ _ _)
   | (with_reducible exact code_PutAll.mono _ _ _)
   | (with_reducible exact LeO.refl _)
   | (with_reducible exact LeO.none _)
   | (with_reducible refine LeO.ite ?_ ?_)
   | (with_reducible refine LeO.bind ?_ (fun _ => ?_))
   | exact ih0 _ _ _ _
   | exact code_PutAll.mono _ _ _
   | exact LeO.none _
   | refine LeO.ite ?_ ?_
   | refine LeO.bind ?_ (fun _ => ?_)
noncomputable def code_Nums.L0 (x0 : List Int) (x9 : List Int) (x10 : Int) (x11 : Int) : Option (List Int × Int) := Go.Proofs.YtpmcojmhkpaoaaaLabel.lim (fun k => code_Nums.l0 k x0 x9 x10 x11)
theorem code_Nums.L0_lim (x0 : List Int) (x9 : List Int) (x10 : Int) (x11 : Int) : Go.Proofs.YtpmcojmhkpaoaaaLabel.Lim (fun k => code_Nums.l0 k x0 x9 x10 x11) (code_Nums.L0 x0 x9 x10 x11) := Go.Proofs.YtpmcojmhkpaoaaaLabel.lim_spec (fun k => (code_Nums.mono_l k) x0 x9 x10 x11)
theorem code_Nums.L0_eq (x0 : List Int) (x9 : List Int) (x10 : Int) (x11 : Int) : code_Nums.L0 x0 x9 x10 x11 = (if x11 < x10 then (if 0 ≤ x11 then (if x11 < (x9.length : Int) then (if (rd x9 x11) < 0 then (some (([] : List Int), 1)) else (if (rd x9 x11) > 4611686018427387904 then (some (([] : List Int), 1)) else (code_Nums.L0 x0 x9 x10 (wrap64 (x11 + 1))))) else (none)) else (none)) else ((code_PutAll.F ([] : List Int) x0).bind fun t242 => (some (t242, 0)))) := by
  refine Go.Proofs.YtpmcojmhkpaoaaaLabel.Lim.unique (code_Nums.L0_lim x0 x9 x10 x11).shift ?_
  simp only [code_Nums.l0]
  (repeat' (first | exact Go.Proofs.YtpmcojmhkpaoaaaLabel.Lim.const _ | exact code_Nums.L0_lim _ _ _ _ | exact code_PutAll.F_lim _ _ | refine Go.Proofs.YtpmcojmhkpaoaaaLabel.Lim.ite ?_ ?_ | refine Go.Proofs.YtpmcojmhkpaoaaaLabel.Lim.bind ?_ (fun _ => ?_)))
noncomputable def code_Nums.F (l0 : List Int) : Option (List Int × Int) := Go.Proofs.YtpmcojmhkpaoaaaLabel.lim (fun k => code_Nums.f k l0)
theorem code_Nums.F_lim (l0 : List Int) : Go.Proofs.YtpmcojmhkpaoaaaLabel.Lim (fun k => code_Nums.f k l0) (code_Nums.F l0) := Go.Proofs.YtpmcojmhkpaoaaaLabel.lim_spec (code_Nums.mono l0)
theorem code_Nums.F_eq (l0 : List Int) : code_Nums.F l0 = (if (l0.length : Int) > 1024 then (some (([] : List Int), 1)) else (code_Nums.L0 l0 l0 (l0.length : Int) 0)) := by
  refine Go.Proofs.YtpmcojmhkpaoaaaLabel.Lim.unique (code_Nums.F_lim l0) ?_
  simp only [code_Nums.f]
  (repeat' (first | exact Go.Proofs.YtpmcojmhkpaoaaaLabel.Lim.const _ | exact code_Nums.L0_lim _ _ _ _ | exact code_PutAll.F_lim _ _ | refine Go.Proofs.YtpmcojmhkpaoaaaLabel.Lim.ite ?_ ?_ | refine Go.Proofs.YtpmcojmhkpaoaaaLabel.Lim.bind ?_ (fun _ => ?_)))

/-! #### arrasref5_Number: function 30 -/
def arrasref5_Number.f (a0 : Int) : Option (Bool) := if a0 ≥ 0 then (some (decide (a0 ≤ 4611686018427387904))) else (some false)

/-! #### arrasref5_Num: function 31 -/
def arrasref5_Num.l0 : Nat → Int → List Int → Option (List Int)
 | 0, _, _ => none
 | k + 1, x0, x3 => if x0 > 127 then (if x3.length < 140737488355328 then (arrasref5_Num.l0 k (x0 / 128) (x3 ++ [Go.bits .or .u8 ((Go.bits .and .i64 x0 127) % 256) 128])) else (none)) else (if x3.length < 140737488355328 then (some (x3 ++ [(x0) % 256])) else (none))
def arrasref5_Num.f (k : Nat) (a0 : Int) : Option (List Int) := arrasref5_Num.l0 k a0 ([] : List Int)
theorem arrasref5_Num.mono_l : ∀ k, (∀ y0 y1, LeO (arrasref5_Num.l0 k y0 y1) (arrasref5_Num.l0 (k + 1) y0 y1))
 | 0 => fun _ _ r h => by simp [arrasref5_Num.l0] at h
 | k + 1 => by
  have ih0 := arrasref5_Num.mono_l k
  ·intro y0 y1
   unfold arrasref5_Num.l0
   repeat' first
   | (with_reducible exact ih0 _ _)
   | (with_reducible exact LeO.refl _)
   | (with_reducible exact LeO.none _)
   | (with_reducible refine LeO.ite ?_ ?_)
   | (with_reducible refine LeO.bind ?_ (fun _ => ?_))
   | exact ih0 _ _
   | exact LeO.none _
   | refine LeO.ite ?_ ?_
   | refine LeO.bind ?_ (fun _ => ?_)
theorem arrasref5_Num.mono : ∀ a0 k, LeO (arrasref5_Num.f k a0) (arrasref5_Num.f (k + 1) a0) := by
 intro a0 k
 have ih0 := arrasref5_Num.mono_l k
 unfold arrasref5_Num.f
 repeat' first
   | (with_reducible exact ih0 _ _)
   | (with_reducible exact LeO.refl _)
   | (with_reducible exact LeO.none _)
   | (with_reducible refine LeO.ite ?_ ?_)
   | (with_reducible refine LeO.bind ?_ (fun _ => ?_))
   | exact ih0 _ _
   | exact LeO.none _
   | refine LeO.ite ?_ ?_
   | refine LeO.bind ?_ (fun _ => ?_)
noncomputable def arrasref5_Num.L0 (x0 : Int) (x3 : List Int) : Option (List Int) := Go.Proofs.YtpmcojmhkpaoaaaLabel.lim (fun k => arrasref5_Num.l0 k x0 x3)
theorem arrasref5_Num.L0_lim (x0 : Int) (x3 : List Int) : Go.Proofs.YtpmcojmhkpaoaaaLabel.Lim (fun k => arrasref5_Num.l0 k x0 x3) (arrasref5_Num.L0 x0 x3) := Go.Proofs.YtpmcojmhkpaoaaaLabel.lim_spec (fun k => (arrasref5_Num.mono_l k) x0 x3)
theorem arrasref5_Num.L0_eq (x0 : Int) (x3 : List Int) : arrasref5_Num.L0 x0 x3 = (if x0 > 127 then (if x3.length < 140737488355328 then (arrasref5_Num.L0 (x0 / 128) (x3 ++ [Go.bits .or .u8 ((Go.bits .and .i64 x0 127) % 256) 128])) else (none)) else (if x3.length < 140737488355328 then (some (x3 ++ [(x0) % 256])) else (none))) := by
  refine Go.Proofs.YtpmcojmhkpaoaaaLabel.Lim.unique (arrasref5_Num.L0_lim x0 x3).shift ?_
  simp only [arrasref5_Num.l0]
  (repeat' (first | exact Go.Proofs.YtpmcojmhkpaoaaaLabel.Lim.const _ | exact arrasref5_Num.L0_lim _ _ | refine Go.Proofs.YtpmcojmhkpaoaaaLabel.Lim.ite ?_ ?_ | refine Go.Proofs.YtpmcojmhkpaoaaaLabel.Lim.bind ?_ (fun _ => ?_)))
noncomputable def arrasref5_Num.F (a0 : Int) : Option (List Int) := Go.Proofs.YtpmcojmhkpaoaaaLabel.lim (fun k => arrasref5_Num.f k a0)
theorem arrasref5_Num.F_lim (a0 : Int) : Go.Proofs.YtpmcojmhkpaoaaaLabel.Lim (fun k => arrasref5_Num.f k a0) (arrasref5_Num.F a0) := Go.Proofs.YtpmcojmhkpaoaaaLabel.lim_spec (arrasref5_Num.mono a0)
theorem arrasref5_Num.F_eq (a0 : Int) : arrasref5_Num.F a0 = (arrasref5_Num.L0 a0 ([] : List Int)) := by
  refine Go.Proofs.YtpmcojmhkpaoaaaLabel.Lim.unique (arrasref5_Num.F_lim a0) ?_
  simp only [arrasref5_Num.f]
  (repeat' (first | exact Go.Proofs.YtpmcojmhkpaoaaaLabel.Lim.const _ | exact arrasref5_Num.L0_lim _ _ | refine Go.Proofs.YtpmcojmhkpaoaaaLabel.Lim.ite ?_ ?_ | refine Go.Proofs.YtpmcojmhkpaoaaaLabel.Lim.bind ?_ (fun _ => ?_)))

/-! #### arrasref5_Text: function 32 -/
def arrasref5_Text.f (k : Nat) (a0 : ByteArray) : Option (List Int) := (arrasref5_Num.f k (a0.size : Int)).bind fun t252 => (if t252.length + a0.size < 140737488355328 then (some (t252 ++ bytesOf a0)) else (none))
theorem arrasref5_Text.mono : ∀ a0 k, LeO (arrasref5_Text.f k a0) (arrasref5_Text.f (k + 1) a0) := by
 intro a0 k
 unfold arrasref5_Text.f
 repeat' first
   | (with_reducible exact arrasref5_Num.mono _ _)
   | (with_reducible exact LeO.refl _)
   | (with_reducible exact LeO.none _)
   | (with_reducible refine LeO.ite ?_ ?_)
   | (with_reducible refine LeO.bind ?_ (fun _ => ?_))
   | exact arrasref5_Num.mono _ _
   | exact LeO.none _
   | refine LeO.ite ?_ ?_
   | refine LeO.bind ?_ (fun _ => ?_)
noncomputable def arrasref5_Text.F (a0 : ByteArray) : Option (List Int) := Go.Proofs.YtpmcojmhkpaoaaaLabel.lim (fun k => arrasref5_Text.f k a0)
theorem arrasref5_Text.F_lim (a0 : ByteArray) : Go.Proofs.YtpmcojmhkpaoaaaLabel.Lim (fun k => arrasref5_Text.f k a0) (arrasref5_Text.F a0) := Go.Proofs.YtpmcojmhkpaoaaaLabel.lim_spec (arrasref5_Text.mono a0)
theorem arrasref5_Text.F_eq (a0 : ByteArray) : arrasref5_Text.F a0 = ((arrasref5_Num.F (a0.size : Int)).bind fun t252 => (if t252.length + a0.size < 140737488355328 then (some (t252 ++ bytesOf a0)) else (none))) := by
  refine Go.Proofs.YtpmcojmhkpaoaaaLabel.Lim.unique (arrasref5_Text.F_lim a0) ?_
  simp only [arrasref5_Text.f]
  (repeat' (first | exact Go.Proofs.YtpmcojmhkpaoaaaLabel.Lim.const _ | exact arrasref5_Num.F_lim _ | refine Go.Proofs.YtpmcojmhkpaoaaaLabel.Lim.ite ?_ ?_ | refine Go.Proofs.YtpmcojmhkpaoaaaLabel.Lim.bind ?_ (fun _ => ?_)))

/-! #### arrasref5_Numbers: function 33 -/
def arrasref5_Numbers.l0 : Nat → List Int → Int → Option (Bool)
 | 0, _, _ => none
 | k + 1, x0, x3 => if x3 < (x0.length : Int) then (if 0 ≤ x3 then ((arrasref5_Number.f (rd x0 x3)).bind fun t259 => (if t259 = true then (arrasref5_Numbers.l0 k x0 (wrap64 (x3 + 1))) else (some false))) else (none)) else (some (decide ((x0.length : Int) ≤ 1024)))
def arrasref5_Numbers.f (k : Nat) (l0 : List Int) : Option (Bool) := arrasref5_Numbers.l0 k l0 0
theorem arrasref5_Numbers.mono_l : ∀ k, (∀ y0 y1, LeO (arrasref5_Numbers.l0 k y0 y1) (arrasref5_Numbers.l0 (k + 1) y0 y1))
 | 0 => fun _ _ r h => by simp [arrasref5_Numbers.l0] at h
 | k + 1 => by
  have ih0 := arrasref5_Numbers.mono_l k
  ·intro y0 y1
   unfold arrasref5_Numbers.l0
   repeat' first
   | (with_reducible exact ih0 _ _)
   | (with_reducible exact LeO.refl _)
   | (with_reducible exact LeO.none _)
   | (with_reducible refine LeO.ite ?_ ?_)
   | (with_reducible refine LeO.bind ?_ (fun _ => ?_))
   | exact ih0 _ _
   | exact LeO.none _
   | refine LeO.ite ?_ ?_
   | refine LeO.bind ?_ (fun _ => ?_)
theorem arrasref5_Numbers.mono : ∀ a0 k, LeO (arrasref5_Numbers.f k a0) (arrasref5_Numbers.f (k + 1) a0) := by
 intro a0 k
 have ih0 := arrasref5_Numbers.mono_l k
 unfold arrasref5_Numbers.f
 repeat' first
   | (with_reducible exact ih0 _ _)
   | (with_reducible exact LeO.refl _)
   | (with_reducible exact LeO.none _)
   | (with_reducible refine LeO.ite ?_ ?_)
   | (with_reducible refine LeO.bind ?_ (fun _ => ?_))
   | exact ih0 _ _
   | exact LeO.none _
   | refine LeO.ite ?_ ?_
   | refine LeO.bind ?_ (fun _ => ?_)
noncomputable def arrasref5_Numbers.L0 (x0 : List Int) (x3 : Int) : Option (Bool) := Go.Proofs.YtpmcojmhkpaoaaaLabel.lim (fun k => arrasref5_Numbers.l0 k x0 x3)
theorem arrasref5_Numbers.L0_lim (x0 : List Int) (x3 : Int) : Go.Proofs.YtpmcojmhkpaoaaaLabel.Lim (fun k => arrasref5_Numbers.l0 k x0 x3) (arrasref5_Numbers.L0 x0 x3) := Go.Proofs.YtpmcojmhkpaoaaaLabel.lim_spec (fun k => (arrasref5_Numbers.mono_l k) x0 x3)
theorem arrasref5_Numbers.L0_eq (x0 : List Int) (x3 : Int) : arrasref5_Numbers.L0 x0 x3 = (if x3 < (x0.length : Int) then (if 0 ≤ x3 then ((arrasref5_Number.f (rd x0 x3)).bind fun t259 => (if t259 = true then (arrasref5_Numbers.L0 x0 (wrap64 (x3 + 1))) else (some false))) else (none)) else (some (decide ((x0.length : Int) ≤ 1024)))) := by
  refine Go.Proofs.YtpmcojmhkpaoaaaLabel.Lim.unique (arrasref5_Numbers.L0_lim x0 x3).shift ?_
  simp only [arrasref5_Numbers.l0]
  (repeat' (first | exact Go.Proofs.YtpmcojmhkpaoaaaLabel.Lim.const _ | exact arrasref5_Numbers.L0_lim _ _ | refine Go.Proofs.YtpmcojmhkpaoaaaLabel.Lim.ite ?_ ?_ | refine Go.Proofs.YtpmcojmhkpaoaaaLabel.Lim.bind ?_ (fun _ => ?_)))
noncomputable def arrasref5_Numbers.F (l0 : List Int) : Option (Bool) := Go.Proofs.YtpmcojmhkpaoaaaLabel.lim (fun k => arrasref5_Numbers.f k l0)
theorem arrasref5_Numbers.F_lim (l0 : List Int) : Go.Proofs.YtpmcojmhkpaoaaaLabel.Lim (fun k => arrasref5_Numbers.f k l0) (arrasref5_Numbers.F l0) := Go.Proofs.YtpmcojmhkpaoaaaLabel.lim_spec (arrasref5_Numbers.mono l0)
theorem arrasref5_Numbers.F_eq (l0 : List Int) : arrasref5_Numbers.F l0 = (arrasref5_Numbers.L0 l0 0) := by
  refine Go.Proofs.YtpmcojmhkpaoaaaLabel.Lim.unique (arrasref5_Numbers.F_lim l0) ?_
  simp only [arrasref5_Numbers.f]
  (repeat' (first | exact Go.Proofs.YtpmcojmhkpaoaaaLabel.Lim.const _ | exact arrasref5_Numbers.L0_lim _ _ | refine Go.Proofs.YtpmcojmhkpaoaaaLabel.Lim.ite ?_ ?_ | refine Go.Proofs.YtpmcojmhkpaoaaaLabel.Lim.bind ?_ (fun _ => ?_)))

/-! #### arrasref5_Nums: function 34 -/
def arrasref5_Nums.l0 : Nat → List Int → List Int → Int → Option (List Int)
 | 0, _, _, _ => none
 | k + 1, x0, x3, x4 => if x4 < (x0.length : Int) then (if 0 ≤ x4 then ((arrasref5_Num.f k (rd x0 x4)).bind fun t264 => (if x3.length + t264.length < 140737488355328 then (arrasref5_Nums.l0 k x0 (x3 ++ t264) (wrap64 (x4 + 1))) else (none))) else (none)) else (some x3)
def arrasref5_Nums.f (k : Nat) (l0 : List Int) : Option (List Int) := (arrasref5_Num.f k (l0.length : Int)).bind fun t260 => (arrasref5_Nums.l0 k l0 t260 0)
theorem arrasref5_Nums.mono_l : ∀ k, (∀ y0 y1 y2, LeO (arrasref5_Nums.l0 k y0 y1 y2) (arrasref5_Nums.l0 (k + 1) y0 y1 y2))
 | 0 => fun _ _ _ r h => by simp [arrasref5_Nums.l0] at h
 | k + 1 => by
  have ih0 := arrasref5_Nums.mono_l k
  ·intro y0 y1 y2
   unfold arrasref5_Nums.l0
   repeat' first
   | (with_reducible exact ih0 _ _ _)
   | (with_reducible exact arrasref5_Num.mono _ _)
   | (with_reducible exact LeO.refl _)
   | (with_reducible exact LeO.none _)
   | (with_reducible refine LeO.ite ?_ ?_)
   | (with_reducible refine LeO.bind ?_ (fun _ => ?_))
   | exact ih0 _ _ _
   | exact arrasref5_Num.mono _ _
   | exact LeO.none _
   | refine LeO.ite ?_ ?_
   | refine LeO.bind ?_ (fun _ => ?_)
theorem arrasref5_Nums.mono : ∀ a0 k, LeO (arrasref5_Nums.f k a0) (arrasref5_Nums.f (k + 1) a0) := by
 intro a0 k
 have ih0 := arrasref5_Nums.mono_l k
 unfold arrasref5_Nums.f
 repeat' first
   | (with_reducible exact ih0 _ _ _)
   | (with_reducible exact arrasref5_Num.mono _ _)
   | (with_reducible exact LeO.refl _)
   | (with_reducible exact LeO.none _)
   | (with_reducible refine LeO.ite ?_ ?_)
   | (with_reducible refine LeO.bind ?_ (fun _ => ?_))
   | exact ih0 _ _ _
   | exact arrasref5_Num.mono _ _
   | exact LeO.none _
   | refine LeO.ite ?_ ?_
   | refine LeO.bind ?_ (fun _ => ?_)
noncomputable def arrasref5_Nums.L0 (x0 : List Int) (x3 : List Int) (x4 : Int) : Option (List Int) := Go.Proofs.YtpmcojmhkpaoaaaLabel.lim (fun k => arrasref5_Nums.l0 k x0 x3 x4)
theorem arrasref5_Nums.L0_lim (x0 : List Int) (x3 : List Int) (x4 : Int) : Go.Proofs.YtpmcojmhkpaoaaaLabel.Lim (fun k => arrasref5_Nums.l0 k x0 x3 x4) (arrasref5_Nums.L0 x0 x3 x4) := Go.Proofs.YtpmcojmhkpaoaaaLabel.lim_spec (fun k => (arrasref5_Nums.mono_l k) x0 x3 x4)
theorem arrasref5_Nums.L0_eq (x0 : List Int) (x3 : List Int) (x4 : Int) : arrasref5_Nums.L0 x0 x3 x4 = (if x4 < (x0.length : Int) then (if 0 ≤ x4 then ((arrasref5_Num.F (rd x0 x4)).bind fun t264 => (if x3.length + t264.length < 140737488355328 then (arrasref5_Nums.L0 x0 (x3 ++ t264) (wrap64 (x4 + 1))) else (none))) else (none)) else (some x3)) := by
  refine Go.Proofs.YtpmcojmhkpaoaaaLabel.Lim.unique (arrasref5_Nums.L0_lim x0 x3 x4).shift ?_
  simp only [arrasref5_Nums.l0]
  (repeat' (first | exact Go.Proofs.YtpmcojmhkpaoaaaLabel.Lim.const _ | exact arrasref5_Nums.L0_lim _ _ _ | exact arrasref5_Num.F_lim _ | refine Go.Proofs.YtpmcojmhkpaoaaaLabel.Lim.ite ?_ ?_ | refine Go.Proofs.YtpmcojmhkpaoaaaLabel.Lim.bind ?_ (fun _ => ?_)))
noncomputable def arrasref5_Nums.F (l0 : List Int) : Option (List Int) := Go.Proofs.YtpmcojmhkpaoaaaLabel.lim (fun k => arrasref5_Nums.f k l0)
theorem arrasref5_Nums.F_lim (l0 : List Int) : Go.Proofs.YtpmcojmhkpaoaaaLabel.Lim (fun k => arrasref5_Nums.f k l0) (arrasref5_Nums.F l0) := Go.Proofs.YtpmcojmhkpaoaaaLabel.lim_spec (arrasref5_Nums.mono l0)
theorem arrasref5_Nums.F_eq (l0 : List Int) : arrasref5_Nums.F l0 = ((arrasref5_Num.F (l0.length : Int)).bind fun t260 => (arrasref5_Nums.L0 l0 t260 0)) := by
  refine Go.Proofs.YtpmcojmhkpaoaaaLabel.Lim.unique (arrasref5_Nums.F_lim l0) ?_
  simp only [arrasref5_Nums.f]
  (repeat' (first | exact Go.Proofs.YtpmcojmhkpaoaaaLabel.Lim.const _ | exact arrasref5_Nums.L0_lim _ _ _ | exact arrasref5_Num.F_lim _ | refine Go.Proofs.YtpmcojmhkpaoaaaLabel.Lim.ite ?_ ?_ | refine Go.Proofs.YtpmcojmhkpaoaaaLabel.Lim.bind ?_ (fun _ => ?_)))

-- NOT PRINTED: function 6 (arraslaw5_CodeNums)

/-! #### arrasref5_TakeNum: function 35 -/
mutual
def arrasref5_TakeNum.l0 : Nat → List Int → Int → Int → Option (Int × Int × Int)
 | 0, _, _, _ => none
 | k + 1, x0, x5, x6 => if x6 ≥ (x0.length : Int) then (some (0, 0, 7)) else (if 0 ≤ x6 then (if x6 < (x0.length : Int) then (if 0 ≤ (wrap64 (7 * x6)) then (if (rd x0 x6) ≥ 128 then (if x6 = 8 then (some (0, 0, 1)) else (arrasref5_TakeNum.l0 k x0 (Go.bits .or .u64 x5 (shl .u64 (IntKind.u64.wrap (Go.bits .and .u8 (rd x0 x6) 127)) (wrap64 (7 * x6)))) (wrap64 (x6 + 1)))) else (if (rd x0 x6) = 0 then (if x6 > 0 then (arrasref5_TakeNum.j1 k (Go.bits .or .u64 x5 (shl .u64 (IntKind.u64.wrap (Go.bits .and .u8 (rd x0 x6) 127)) (wrap64 (7 * x6)))) x6 true) else (arrasref5_TakeNum.j1 k (Go.bits .or .u64 x5 (shl .u64 (IntKind.u64.wrap (Go.bits .and .u8 (rd x0 x6) 127)) (wrap64 (7 * x6)))) x6 (decide ((Go.bits .or .u64 x5 (shl .u64 (IntKind.u64.wrap (Go.bits .and .u8 (rd x0 x6) 127)) (wrap64 (7 * x6)))) > 4611686018427387904)))) else (arrasref5_TakeNum.j1 k (Go.bits .or .u64 x5 (shl .u64 (IntKind.u64.wrap (Go.bits .and .u8 (rd x0 x6) 127)) (wrap64 (7 * x6)))) x6 (decide ((Go.bits .or .u64 x5 (shl .u64 (IntKind.u64.wrap (Go.bits .and .u8 (rd x0 x6) 127)) (wrap64 (7 * x6)))) > 4611686018427387904))))) else (none)) else (none)) else (none))
def arrasref5_TakeNum.j1 : Nat → Int → Int → Bool → Option (Int × Int × Int)
 | 0, _, _, _ => none
 | k + 1, x5, x6, x39 => if x39 = true then (some (0, 0, 1)) else (some (wrap64 (x5), wrap64 (x6 + 1), 0))
end
def arrasref5_TakeNum.f (k : Nat) (l0 : List Int) : Option (Int × Int × Int) := arrasref5_TakeNum.l0 k l0 0 0
theorem arrasref5_TakeNum.mono_l : ∀ k, (∀ y0 y1 y2, LeO (arrasref5_TakeNum.l0 k y0 y1 y2) (arrasref5_TakeNum.l0 (k + 1) y0 y1 y2)) ∧ (∀ y0 y1 y2, LeO (arrasref5_TakeNum.j1 k y0 y1 y2) (arrasref5_TakeNum.j1 (k + 1) y0 y1 y2))
 | 0 => ⟨fun _ _ _ r h => by simp [arrasref5_TakeNum.l0] at h, fun _ _ _ r h => by simp [arrasref5_TakeNum.j1] at h⟩
 | k + 1 => by
  obtain ⟨ih0, ih1⟩ := arrasref5_TakeNum.mono_l k
  refine ⟨?_, ?_⟩
  ·intro y0 y1 y2
   unfold arrasref5_TakeNum.l0
   repeat' first
   | (with_reducible exact ih0 _ _ _)
   | (with_reducible exact ih1 _ _ _)
   | (with_reducible exact LeO.refl _)
   | (with_reducible exact LeO.none _)
   | (with_reducible refine LeO.ite ?_ ?_)
   | (with_reducible refine LeO.bind ?_ (fun _ => ?_))
   | exact ih0 _ _ _
   | exact ih1 _ _ _
   | exact LeO.none _
   | refine LeO.ite ?_ ?_
   | refine LeO.bind ?_ (fun _ => ?_)
  ·intro y0 y1 y2
   unfold arrasref5_TakeNum.j1
   repeat' first
   | (with_reducible exact ih0 _ _ _)
   | (with_reducible exact ih1 _ _ _)
   | (with_reducible exact LeO.refl _)
   | (with_reducible exact LeO.none _)
   | (with_reducible refine LeO.ite ?_ ?_)
   | (with_reducible refine LeO.bind ?_ (fun _ => ?_))
   | exact ih0 _ _ _
   | exact ih1 _ _ _
   | exact LeO.none _
   | refine LeO.ite ?_ ?_
   | refine LeO.bind ?_ (fun _ => ?_)
theorem arrasref5_TakeNum.mono : ∀ a0 k, LeO (arrasref5_TakeNum.f k a0) (arrasref5_TakeNum.f (k + 1) a0) := by
 intro a0 k
 obtain ⟨ih0, ih1⟩ := arrasref5_TakeNum.mono_l k
 unfold arrasref5_TakeNum.f
 repeat' first
   | (with_reducible exact ih0 _ _ _)
   | (with_reducible exact ih1 _ _ _)
   | (with_reducible exact LeO.refl _)
   | (with_reducible exact LeO.none _)
   | (with_reducible refine LeO.ite ?_ ?_)
   | (with_reducible refine LeO.bind ?_ (fun _ => ?_))
   | exact ih0 _ _ _
   | exact ih1 _ _ _
   | exact LeO.none _
   | refine LeO.ite ?_ ?_
   | refine LeO.bind ?_ (fun _ => ?_)
noncomputable def arrasref5_TakeNum.L0 (x0 : List Int) (x5 : Int) (x6 : Int) : Option (Int × Int × Int) := Go.Proofs.YtpmcojmhkpaoaaaLabel.lim (fun k => arrasref5_TakeNum.l0 k x0 x5 x6)
noncomputable def arrasref5_TakeNum.J1 (x5 : Int) (x6 : Int) (x39 : Bool) : Option (Int × Int × Int) := Go.Proofs.YtpmcojmhkpaoaaaLabel.lim (fun k => arrasref5_TakeNum.j1 k x5 x6 x39)
theorem arrasref5_TakeNum.L0_lim (x0 : List Int) (x5 : Int) (x6 : Int) : Go.Proofs.YtpmcojmhkpaoaaaLabel.Lim (fun k => arrasref5_TakeNum.l0 k x0 x5 x6) (arrasref5_TakeNum.L0 x0 x5 x6) := Go.Proofs.YtpmcojmhkpaoaaaLabel.lim_spec (fun k => (arrasref5_TakeNum.mono_l k).1 x0 x5 x6)
theorem arrasref5_TakeNum.J1_lim (x5 : Int) (x6 : Int) (x39 : Bool) : Go.Proofs.YtpmcojmhkpaoaaaLabel.Lim (fun k => arrasref5_TakeNum.j1 k x5 x6 x39) (arrasref5_TakeNum.J1 x5 x6 x39) := Go.Proofs.YtpmcojmhkpaoaaaLabel.lim_spec (fun k => (arrasref5_TakeNum.mono_l k).2 x5 x6 x39)
theorem arrasref5_TakeNum.L0_eq (x0 : List Int) (x5 : Int) (x6 : Int) : arrasref5_TakeNum.L0 x0 x5 x6 = (if x6 ≥ (x0.length : Int) then (some (0, 0, 7)) else (if 0 ≤ x6 then (if x6 < (x0.length : Int) then (if 0 ≤ (wrap64 (7 * x6)) then (if (rd x0 x6) ≥ 128 then (if x6 = 8 then (some (0, 0, 1)) else (arrasref5_TakeNum.L0 x0 (Go.bits .or .u64 x5 (shl .u64 (IntKind.u64.wrap (Go.bits .and .u8 (rd x0 x6) 127)) (wrap64 (7 * x6)))) (wrap64 (x6 + 1)))) else (if (rd x0 x6) = 0 then (if x6 > 0 then (arrasref5_TakeNum.J1 (Go.bits .or .u64 x5 (shl .u64 (IntKind.u64.wrap (Go.bits .and .u8 (rd x0 x6) 127)) (wrap64 (7 * x6)))) x6 true) else (arrasref5_TakeNum.J1 (Go.bits .or .u64 x5 (shl .u64 (IntKind.u64.wrap (Go.bits .and .u8 (rd x0 x6) 127)) (wrap64 (7 * x6)))) x6 (decide ((Go.bits .or .u64 x5 (shl .u64 (IntKind.u64.wrap (Go.bits .and .u8 (rd x0 x6) 127)) (wrap64 (7 * x6)))) > 4611686018427387904)))) else (arrasref5_TakeNum.J1 (Go.bits .or .u64 x5 (shl .u64 (IntKind.u64.wrap (Go.bits .and .u8 (rd x0 x6) 127)) (wrap64 (7 * x6)))) x6 (decide ((Go.bits .or .u64 x5 (shl .u64 (IntKind.u64.wrap (Go.bits .and .u8 (rd x0 x6) 127)) (wrap64 (7 * x6)))) > 4611686018427387904))))) else (none)) else (none)) else (none))) := by
  refine Go.Proofs.YtpmcojmhkpaoaaaLabel.Lim.unique (arrasref5_TakeNum.L0_lim x0 x5 x6).shift ?_
  simp only [arrasref5_TakeNum.l0]
  (repeat' (first | exact Go.Proofs.YtpmcojmhkpaoaaaLabel.Lim.const _ | exact arrasref5_TakeNum.L0_lim _ _ _ | exact arrasref5_TakeNum.J1_lim _ _ _ | refine Go.Proofs.YtpmcojmhkpaoaaaLabel.Lim.ite ?_ ?_ | refine Go.Proofs.YtpmcojmhkpaoaaaLabel.Lim.bind ?_ (fun _ => ?_)))
theorem arrasref5_TakeNum.J1_eq (x5 : Int) (x6 : Int) (x39 : Bool) : arrasref5_TakeNum.J1 x5 x6 x39 = (if x39 = true then (some (0, 0, 1)) else (some (wrap64 (x5), wrap64 (x6 + 1), 0))) := by
  refine Go.Proofs.YtpmcojmhkpaoaaaLabel.Lim.unique (arrasref5_TakeNum.J1_lim x5 x6 x39).shift ?_
  simp only [arrasref5_TakeNum.j1]
  (repeat' (first | exact Go.Proofs.YtpmcojmhkpaoaaaLabel.Lim.const _ | exact arrasref5_TakeNum.L0_lim _ _ _ | exact arrasref5_TakeNum.J1_lim _ _ _ | refine Go.Proofs.YtpmcojmhkpaoaaaLabel.Lim.ite ?_ ?_ | refine Go.Proofs.YtpmcojmhkpaoaaaLabel.Lim.bind ?_ (fun _ => ?_)))
noncomputable def arrasref5_TakeNum.F (l0 : List Int) : Option (Int × Int × Int) := Go.Proofs.YtpmcojmhkpaoaaaLabel.lim (fun k => arrasref5_TakeNum.f k l0)
theorem arrasref5_TakeNum.F_lim (l0 : List Int) : Go.Proofs.YtpmcojmhkpaoaaaLabel.Lim (fun k => arrasref5_TakeNum.f k l0) (arrasref5_TakeNum.F l0) := Go.Proofs.YtpmcojmhkpaoaaaLabel.lim_spec (arrasref5_TakeNum.mono l0)
theorem arrasref5_TakeNum.F_eq (l0 : List Int) : arrasref5_TakeNum.F l0 = (arrasref5_TakeNum.L0 l0 0 0) := by
  refine Go.Proofs.YtpmcojmhkpaoaaaLabel.Lim.unique (arrasref5_TakeNum.F_lim l0) ?_
  simp only [arrasref5_TakeNum.f]
  (repeat' (first | exact Go.Proofs.YtpmcojmhkpaoaaaLabel.Lim.const _ | exact arrasref5_TakeNum.L0_lim _ _ _ | exact arrasref5_TakeNum.J1_lim _ _ _ | refine Go.Proofs.YtpmcojmhkpaoaaaLabel.Lim.ite ?_ ?_ | refine Go.Proofs.YtpmcojmhkpaoaaaLabel.Lim.bind ?_ (fun _ => ?_)))

/-! #### code_TakeText: function 36 -/
def code_TakeText.f (k : Nat) (l0 : List Int) : Option (ByteArray × Int × Int) := (code_TakeNum.f k l0).bind fun bt287 => (if bt287.2.2 = 0 then (if bt287.1 > 65536 then (some ((⟨#[]⟩ : ByteArray), 0, 1)) else (if bt287.1 > (wrap64 ((l0.length : Int) - bt287.2.1)) then (some ((⟨#[]⟩ : ByteArray), 0, 7)) else (if 0 ≤ bt287.2.1 then (if bt287.2.1 ≤ (wrap64 (bt287.2.1 + bt287.1)) then (if (wrap64 (bt287.2.1 + bt287.1)) ≤ (l0.length : Int) then (some (strOfNums ((l0.take ((wrap64 (bt287.2.1 + bt287.1)) : Int).toNat).drop (bt287.2.1 : Int).toNat), wrap64 (bt287.2.1 + bt287.1), 0)) else (none)) else (none)) else (none)))) else (some ((⟨#[]⟩ : ByteArray), 0, bt287.2.2)))
theorem code_TakeText.mono : ∀ a0 k, LeO (code_TakeText.f k a0) (code_TakeText.f (k + 1) a0) := by
 intro a0 k
 unfold code_TakeText.f
 repeat' first
   | (with_reducible exact code_TakeNum.mono _ _)
   | (with_reducible exact LeO.refl _)
   | (with_reducible exact LeO.none _)
   | (with_reducible refine LeO.ite ?_ ?_)
   | (with_reducible refine LeO.bind ?_ (fun _ => ?_))
   | exact code_TakeNum.mono _ _
   | exact LeO.none _
   | refine LeO.ite ?_ ?_
   | refine LeO.bind ?_ (fun _ => ?_)
noncomputable def code_TakeText.F (l0 : List Int) : Option (ByteArray × Int × Int) := Go.Proofs.YtpmcojmhkpaoaaaLabel.lim (fun k => code_TakeText.f k l0)
theorem code_TakeText.F_lim (l0 : List Int) : Go.Proofs.YtpmcojmhkpaoaaaLabel.Lim (fun k => code_TakeText.f k l0) (code_TakeText.F l0) := Go.Proofs.YtpmcojmhkpaoaaaLabel.lim_spec (code_TakeText.mono l0)
theorem code_TakeText.F_eq (l0 : List Int) : code_TakeText.F l0 = ((code_TakeNum.F l0).bind fun bt287 => (if bt287.2.2 = 0 then (if bt287.1 > 65536 then (some ((⟨#[]⟩ : ByteArray), 0, 1)) else (if bt287.1 > (wrap64 ((l0.length : Int) - bt287.2.1)) then (some ((⟨#[]⟩ : ByteArray), 0, 7)) else (if 0 ≤ bt287.2.1 then (if bt287.2.1 ≤ (wrap64 (bt287.2.1 + bt287.1)) then (if (wrap64 (bt287.2.1 + bt287.1)) ≤ (l0.length : Int) then (some (strOfNums ((l0.take ((wrap64 (bt287.2.1 + bt287.1)) : Int).toNat).drop (bt287.2.1 : Int).toNat), wrap64 (bt287.2.1 + bt287.1), 0)) else (none)) else (none)) else (none)))) else (some ((⟨#[]⟩ : ByteArray), 0, bt287.2.2)))) := by
  refine Go.Proofs.YtpmcojmhkpaoaaaLabel.Lim.unique (code_TakeText.F_lim l0) ?_
  simp only [code_TakeText.f]
  (repeat' (first | exact Go.Proofs.YtpmcojmhkpaoaaaLabel.Lim.const _ | exact code_TakeNum.F_lim _ | refine Go.Proofs.YtpmcojmhkpaoaaaLabel.Lim.ite ?_ ?_ | refine Go.Proofs.YtpmcojmhkpaoaaaLabel.Lim.bind ?_ (fun _ => ?_)))

/-! #### arrasref5_TakeText: function 37 -/
def arrasref5_TakeText.f (k : Nat) (l0 : List Int) : Option (ByteArray × Int × Int) := (arrasref5_TakeNum.f k l0).bind fun bt291 => (if bt291.2.2 = 0 then (if bt291.1 > 65536 then (some ((⟨#[]⟩ : ByteArray), 0, 1)) else (if bt291.1 > (wrap64 ((l0.length : Int) - bt291.2.1)) then (some ((⟨#[]⟩ : ByteArray), 0, 7)) else (if 0 ≤ bt291.2.1 then (if bt291.2.1 ≤ (wrap64 (bt291.2.1 + bt291.1)) then (if (wrap64 (bt291.2.1 + bt291.1)) ≤ (l0.length : Int) then (some (strOfNums ((l0.take ((wrap64 (bt291.2.1 + bt291.1)) : Int).toNat).drop (bt291.2.1 : Int).toNat), wrap64 (bt291.2.1 + bt291.1), 0)) else (none)) else (none)) else (none)))) else (some ((⟨#[]⟩ : ByteArray), 0, bt291.2.2)))
theorem arrasref5_TakeText.mono : ∀ a0 k, LeO (arrasref5_TakeText.f k a0) (arrasref5_TakeText.f (k + 1) a0) := by
 intro a0 k
 unfold arrasref5_TakeText.f
 repeat' first
   | (with_reducible exact arrasref5_TakeNum.mono _ _)
   | (with_reducible exact LeO.refl _)
   | (with_reducible exact LeO.none _)
   | (with_reducible refine LeO.ite ?_ ?_)
   | (with_reducible refine LeO.bind ?_ (fun _ => ?_))
   | exact arrasref5_TakeNum.mono _ _
   | exact LeO.none _
   | refine LeO.ite ?_ ?_
   | refine LeO.bind ?_ (fun _ => ?_)
noncomputable def arrasref5_TakeText.F (l0 : List Int) : Option (ByteArray × Int × Int) := Go.Proofs.YtpmcojmhkpaoaaaLabel.lim (fun k => arrasref5_TakeText.f k l0)
theorem arrasref5_TakeText.F_lim (l0 : List Int) : Go.Proofs.YtpmcojmhkpaoaaaLabel.Lim (fun k => arrasref5_TakeText.f k l0) (arrasref5_TakeText.F l0) := Go.Proofs.YtpmcojmhkpaoaaaLabel.lim_spec (arrasref5_TakeText.mono l0)
theorem arrasref5_TakeText.F_eq (l0 : List Int) : arrasref5_TakeText.F l0 = ((arrasref5_TakeNum.F l0).bind fun bt291 => (if bt291.2.2 = 0 then (if bt291.1 > 65536 then (some ((⟨#[]⟩ : ByteArray), 0, 1)) else (if bt291.1 > (wrap64 ((l0.length : Int) - bt291.2.1)) then (some ((⟨#[]⟩ : ByteArray), 0, 7)) else (if 0 ≤ bt291.2.1 then (if bt291.2.1 ≤ (wrap64 (bt291.2.1 + bt291.1)) then (if (wrap64 (bt291.2.1 + bt291.1)) ≤ (l0.length : Int) then (some (strOfNums ((l0.take ((wrap64 (bt291.2.1 + bt291.1)) : Int).toNat).drop (bt291.2.1 : Int).toNat), wrap64 (bt291.2.1 + bt291.1), 0)) else (none)) else (none)) else (none)))) else (some ((⟨#[]⟩ : ByteArray), 0, bt291.2.2)))) := by
  refine Go.Proofs.YtpmcojmhkpaoaaaLabel.Lim.unique (arrasref5_TakeText.F_lim l0) ?_
  simp only [arrasref5_TakeText.f]
  (repeat' (first | exact Go.Proofs.YtpmcojmhkpaoaaaLabel.Lim.const _ | exact arrasref5_TakeNum.F_lim _ | refine Go.Proofs.YtpmcojmhkpaoaaaLabel.Lim.ite ?_ ?_ | refine Go.Proofs.YtpmcojmhkpaoaaaLabel.Lim.bind ?_ (fun _ => ?_)))

/-! #### code_TakeNums: function 38 -/
def code_TakeNums.l0 : Nat → List Int → List Int → Int → Int → Int → Option (List Int × Int × Int)
 | 0, _, _, _, _, _ => none
 | k + 1, x0, x2, x3, x20, x21 => if x21 < x20 then (if 0 ≤ x3 then (if x3 ≤ (x0.length : Int) then ((code_TakeNum.f k (x0.drop (x3 : Int).toNat)).bind fun bt299 => (if bt299.2.2 = 0 then (if x2.length < 17592186044416 then (code_TakeNums.l0 k x0 (x2 ++ [bt299.1]) (wrap64 (x3 + bt299.2.1)) x20 (wrap64 (x21 + 1))) else (none)) else (some (([] : List Int), 0, bt299.2.2)))) else (none)) else (none)) else (some (x2, x3, 0))
def code_TakeNums.f (k : Nat) (l0 : List Int) : Option (List Int × Int × Int) := (code_TakeNum.f k l0).bind fun bt295 => (if bt295.2.2 = 0 then (if bt295.1 > 1024 then (some (([] : List Int), 0, 1)) else (code_TakeNums.l0 k l0 ([] : List Int) bt295.2.1 bt295.1 0)) else (some (([] : List Int), 0, bt295.2.2)))
theorem code_TakeNums.mono_l : ∀ k, (∀ y0 y1 y2 y3 y4, LeO (code_TakeNums.l0 k y0 y1 y2 y3 y4) (code_TakeNums.l0 (k + 1) y0 y1 y2 y3 y4))
 | 0 => fun _ _ _ _ _ r h => by simp [code_TakeNums.l0] at h
 | k + 1 => by
  have ih0 := code_TakeNums.mono_l k
  ·intro y0 y1 y2 y3 y4
   unfold code_TakeNums.l0
   repeat' first
   | (with_reducible exact ih0 _ _ _ _ _)
   | (with_reducible exact code_TakeNum.mono _ _)
   | (with_reducible exact LeO.refl _)
   | (with_reducible exact LeO.none _)
   | (with_reducible refine LeO.ite ?_ ?_)
   | (with_reducible refine LeO.bind ?_ (fun _ => ?_))
   | exact ih0 _ _ _ _ _
   | exact code_TakeNum.mono _ _
   | exact LeO.none _
   | refine LeO.ite ?_ ?_
   | refine LeO.bind ?_ (fun _ => ?_)
theorem code_TakeNums.mono : ∀ a0 k, LeO (code_TakeNums.f k a0) (code_TakeNums.f (k + 1) a0) := by
 intro a0 k
 have ih0 := code_TakeNums.mono_l k
 unfold code_TakeNums.f
 repeat' first
   | (with_reducible exact ih0 _ _ _ _ _)
   | (with_reducible exact code_TakeNum.mono _ _)
   | (with_reducible exact LeO.refl _)
   | (with_reducible exact LeO.none _)
   | (with_reducible refine LeO.ite ?_ ?_)
   | (with_reducible refine LeO.bind ?_ (fun _ => ?_))
   | exact ih0 _ _ _ _ _
   | exact code_TakeNum.mono _ _
   | exact LeO.none _
   | refine LeO.ite ?_ ?_
   | refine LeO.bind ?_ (fun _ => ?_)
noncomputable def code_TakeNums.L0 (x0 : List Int) (x2 : List Int) (x3 : Int) (x20 : Int) (x21 : Int) : Option (List Int × Int × Int) := Go.Proofs.YtpmcojmhkpaoaaaLabel.lim (fun k => code_TakeNums.l0 k x0 x2 x3 x20 x21)
theorem code_TakeNums.L0_lim (x0 : List Int) (x2 : List Int) (x3 : Int) (x20 : Int) (x21 : Int) : Go.Proofs.YtpmcojmhkpaoaaaLabel.Lim (fun k => code_TakeNums.l0 k x0 x2 x3 x20 x21) (code_TakeNums.L0 x0 x2 x3 x20 x21) := Go.Proofs.YtpmcojmhkpaoaaaLabel.lim_spec (fun k => (code_TakeNums.mono_l k) x0 x2 x3 x20 x21)
theorem code_TakeNums.L0_eq (x0 : List Int) (x2 : List Int) (x3 : Int) (x20 : Int) (x21 : Int) : code_TakeNums.L0 x0 x2 x3 x20 x21 = (if x21 < x20 then (if 0 ≤ x3 then (if x3 ≤ (x0.length : Int) then ((code_TakeNum.F (x0.drop (x3 : Int).toNat)).bind fun bt299 => (if bt299.2.2 = 0 then (if x2.length < 17592186044416 then (code_TakeNums.L0 x0 (x2 ++ [bt299.1]) (wrap64 (x3 + bt299.2.1)) x20 (wrap64 (x21 + 1))) else (none)) else (some (([] : List Int), 0, bt299.2.2)))) else (none)) else (none)) else (some (x2, x3, 0))) := by
  refine Go.Proofs.YtpmcojmhkpaoaaaLabel.Lim.unique (code_TakeNums.L0_lim x0 x2 x3 x20 x21).shift ?_
  simp only [code_TakeNums.l0]
  (repeat' (first | exact Go.Proofs.YtpmcojmhkpaoaaaLabel.Lim.const _ | exact code_TakeNums.L0_lim _ _ _ _ _ | exact code_TakeNum.F_lim _ | refine Go.Proofs.YtpmcojmhkpaoaaaLabel.Lim.ite ?_ ?_ | refine Go.Proofs.YtpmcojmhkpaoaaaLabel.Lim.bind ?_ (fun _ => ?_)))
noncomputable def code_TakeNums.F (l0 : List Int) : Option (List Int × Int × Int) := Go.Proofs.YtpmcojmhkpaoaaaLabel.lim (fun k => code_TakeNums.f k l0)
theorem code_TakeNums.F_lim (l0 : List Int) : Go.Proofs.YtpmcojmhkpaoaaaLabel.Lim (fun k => code_TakeNums.f k l0) (code_TakeNums.F l0) := Go.Proofs.YtpmcojmhkpaoaaaLabel.lim_spec (code_TakeNums.mono l0)
theorem code_TakeNums.F_eq (l0 : List Int) : code_TakeNums.F l0 = ((code_TakeNum.F l0).bind fun bt295 => (if bt295.2.2 = 0 then (if bt295.1 > 1024 then (some (([] : List Int), 0, 1)) else (code_TakeNums.L0 l0 ([] : List Int) bt295.2.1 bt295.1 0)) else (some (([] : List Int), 0, bt295.2.2)))) := by
  refine Go.Proofs.YtpmcojmhkpaoaaaLabel.Lim.unique (code_TakeNums.F_lim l0) ?_
  simp only [code_TakeNums.f]
  (repeat' (first | exact Go.Proofs.YtpmcojmhkpaoaaaLabel.Lim.const _ | exact code_TakeNums.L0_lim _ _ _ _ _ | exact code_TakeNum.F_lim _ | refine Go.Proofs.YtpmcojmhkpaoaaaLabel.Lim.ite ?_ ?_ | refine Go.Proofs.YtpmcojmhkpaoaaaLabel.Lim.bind ?_ (fun _ => ?_)))

/-! #### arrasref5_TakeNums: function 39 -/
def arrasref5_TakeNums.l0 : Nat → List Int → Int → Int → List Int → Int → Option (List Int × Int × Int)
 | 0, _, _, _, _, _ => none
 | k + 1, x0, x5, x6, x8, x9 => if x9 < x5 then (if 0 ≤ x6 then (if x6 ≤ (x0.length : Int) then ((arrasref5_TakeNum.f k (x0.drop (x6 : Int).toNat)).bind fun bt309 => (if bt309.2.2 = 0 then (if x8.length < 17592186044416 then (arrasref5_TakeNums.l0 k x0 x5 (wrap64 (x6 + bt309.2.1)) (x8 ++ [bt309.1]) (wrap64 (x9 + 1))) else (none)) else (some (([] : List Int), 0, bt309.2.2)))) else (none)) else (none)) else (some (x8, x6, 0))
def arrasref5_TakeNums.f (k : Nat) (l0 : List Int) : Option (List Int × Int × Int) := (arrasref5_TakeNum.f k l0).bind fun bt305 => (if bt305.2.2 = 0 then (if bt305.1 > 1024 then (some (([] : List Int), 0, 1)) else (arrasref5_TakeNums.l0 k l0 bt305.1 bt305.2.1 ([] : List Int) 0)) else (some (([] : List Int), 0, bt305.2.2)))
theorem arrasref5_TakeNums.mono_l : ∀ k, (∀ y0 y1 y2 y3 y4, LeO (arrasref5_TakeNums.l0 k y0 y1 y2 y3 y4) (arrasref5_TakeNums.l0 (k + 1) y0 y1 y2 y3 y4))
 | 0 => fun _ _ _ _ _ r h => by simp [arrasref5_TakeNums.l0] at h
 | k + 1 => by
  have ih0 := arrasref5_TakeNums.mono_l k
  ·intro y0 y1 y2 y3 y4
   unfold arrasref5_TakeNums.l0
   repeat' first
   | (with_reducible exact ih0 _ _ _ _ _)
   | (with_reducible exact arrasref5_TakeNum.mono _ _)
   | (with_reducible exact LeO.refl _)
   | (with_reducible exact LeO.none _)
   | (with_reducible refine LeO.ite ?_ ?_)
   | (with_reducible refine LeO.bind ?_ (fun _ => ?_))
   | exact ih0 _ _ _ _ _
   | exact arrasref5_TakeNum.mono _ _
   | exact LeO.none _
   | refine LeO.ite ?_ ?_
   | refine LeO.bind ?_ (fun _ => ?_)
theorem arrasref5_TakeNums.mono : ∀ a0 k, LeO (arrasref5_TakeNums.f k a0) (arrasref5_TakeNums.f (k + 1) a0) := by
 intro a0 k
 have ih0 := arrasref5_TakeNums.mono_l k
 unfold arrasref5_TakeNums.f
 repeat' first
   | (with_reducible exact ih0 _ _ _ _ _)
   | (with_reducible exact arrasref5_TakeNum.mono _ _)
   | (with_reducible exact LeO.refl _)
   | (with_reducible exact LeO.none _)
   | (with_reducible refine LeO.ite ?_ ?_)
   | (with_reducible refine LeO.bind ?_ (fun _ => ?_))
   | exact ih0 _ _ _ _ _
   | exact arrasref5_TakeNum.mono _ _
   | exact LeO.none _
   | refine LeO.ite ?_ ?_
   | refine LeO.bind ?_ (fun _ => ?_)
noncomputable def arrasref5_TakeNums.L0 (x0 : List Int) (x5 : Int) (x6 : Int) (x8 : List Int) (x9 : Int) : Option (List Int × Int × Int) := Go.Proofs.YtpmcojmhkpaoaaaLabel.lim (fun k => arrasref5_TakeNums.l0 k x0 x5 x6 x8 x9)
theorem arrasref5_TakeNums.L0_lim (x0 : List Int) (x5 : Int) (x6 : Int) (x8 : List Int) (x9 : Int) : Go.Proofs.YtpmcojmhkpaoaaaLabel.Lim (fun k => arrasref5_TakeNums.l0 k x0 x5 x6 x8 x9) (arrasref5_TakeNums.L0 x0 x5 x6 x8 x9) := Go.Proofs.YtpmcojmhkpaoaaaLabel.lim_spec (fun k => (arrasref5_TakeNums.mono_l k) x0 x5 x6 x8 x9)
theorem arrasref5_TakeNums.L0_eq (x0 : List Int) (x5 : Int) (x6 : Int) (x8 : List Int) (x9 : Int) : arrasref5_TakeNums.L0 x0 x5 x6 x8 x9 = (if x9 < x5 then (if 0 ≤ x6 then (if x6 ≤ (x0.length : Int) then ((arrasref5_TakeNum.F (x0.drop (x6 : Int).toNat)).bind fun bt309 => (if bt309.2.2 = 0 then (if x8.length < 17592186044416 then (arrasref5_TakeNums.L0 x0 x5 (wrap64 (x6 + bt309.2.1)) (x8 ++ [bt309.1]) (wrap64 (x9 + 1))) else (none)) else (some (([] : List Int), 0, bt309.2.2)))) else (none)) else (none)) else (some (x8, x6, 0))) := by
  refine Go.Proofs.YtpmcojmhkpaoaaaLabel.Lim.unique (arrasref5_TakeNums.L0_lim x0 x5 x6 x8 x9).shift ?_
  simp only [arrasref5_TakeNums.l0]
  (repeat' (first | exact Go.Proofs.YtpmcojmhkpaoaaaLabel.Lim.const _ | exact arrasref5_TakeNums.L0_lim _ _ _ _ _ | exact arrasref5_TakeNum.F_lim _ | refine Go.Proofs.YtpmcojmhkpaoaaaLabel.Lim.ite ?_ ?_ | refine Go.Proofs.YtpmcojmhkpaoaaaLabel.Lim.bind ?_ (fun _ => ?_)))
noncomputable def arrasref5_TakeNums.F (l0 : List Int) : Option (List Int × Int × Int) := Go.Proofs.YtpmcojmhkpaoaaaLabel.lim (fun k => arrasref5_TakeNums.f k l0)
theorem arrasref5_TakeNums.F_lim (l0 : List Int) : Go.Proofs.YtpmcojmhkpaoaaaLabel.Lim (fun k => arrasref5_TakeNums.f k l0) (arrasref5_TakeNums.F l0) := Go.Proofs.YtpmcojmhkpaoaaaLabel.lim_spec (arrasref5_TakeNums.mono l0)
theorem arrasref5_TakeNums.F_eq (l0 : List Int) : arrasref5_TakeNums.F l0 = ((arrasref5_TakeNum.F l0).bind fun bt305 => (if bt305.2.2 = 0 then (if bt305.1 > 1024 then (some (([] : List Int), 0, 1)) else (arrasref5_TakeNums.L0 l0 bt305.1 bt305.2.1 ([] : List Int) 0)) else (some (([] : List Int), 0, bt305.2.2)))) := by
  refine Go.Proofs.YtpmcojmhkpaoaaaLabel.Lim.unique (arrasref5_TakeNums.F_lim l0) ?_
  simp only [arrasref5_TakeNums.f]
  (repeat' (first | exact Go.Proofs.YtpmcojmhkpaoaaaLabel.Lim.const _ | exact arrasref5_TakeNums.L0_lim _ _ _ _ _ | exact arrasref5_TakeNum.F_lim _ | refine Go.Proofs.YtpmcojmhkpaoaaaLabel.Lim.ite ?_ ?_ | refine Go.Proofs.YtpmcojmhkpaoaaaLabel.Lim.bind ?_ (fun _ => ?_)))

/-! #### arrasref0_EqNumbers: function 40 -/
def arrasref0_EqNumbers.l0 : Nat → List Int → List Int → Int → Option (Bool)
 | 0, _, _, _ => none
 | k + 1, x0, x1, x5 => if x5 < (x0.length : Int) then (if 0 ≤ x5 then (if x5 < (x1.length : Int) then (if (rd x0 x5) = (rd x1 x5) then (arrasref0_EqNumbers.l0 k x0 x1 (wrap64 (x5 + 1))) else (some false)) else (none)) else (none)) else (some true)
def arrasref0_EqNumbers.f (k : Nat) (l0 : List Int) (l1 : List Int) : Option (Bool) := if (l0.length : Int) = (l1.length : Int) then (arrasref0_EqNumbers.l0 k l0 l1 0) else (some false)
theorem arrasref0_EqNumbers.mono_l : ∀ k, (∀ y0 y1 y2, LeO (arrasref0_EqNumbers.l0 k y0 y1 y2) (arrasref0_EqNumbers.l0 (k + 1) y0 y1 y2))
 | 0 => fun _ _ _ r h => by simp [arrasref0_EqNumbers.l0] at h
 | k + 1 => by
  have ih0 := arrasref0_EqNumbers.mono_l k
  ·intro y0 y1 y2
   unfold arrasref0_EqNumbers.l0
   repeat' first
   | (with_reducible exact ih0 _ _ _)
   | (with_reducible exact LeO.refl _)
   | (with_reducible exact LeO.none _)
   | (with_reducible refine LeO.ite ?_ ?_)
   | (with_reducible refine LeO.bind ?_ (fun _ => ?_))
   | exact ih0 _ _ _
   | exact LeO.none _
   | refine LeO.ite ?_ ?_
   | refine LeO.bind ?_ (fun _ => ?_)
theorem arrasref0_EqNumbers.mono : ∀ a0 a1 k, LeO (arrasref0_EqNumbers.f k a0 a1) (arrasref0_EqNumbers.f (k + 1) a0 a1) := by
 intro a0 a1 k
 have ih0 := arrasref0_EqNumbers.mono_l k
 unfold arrasref0_EqNumbers.f
 repeat' first
   | (with_reducible exact ih0 _ _ _)
   | (with_reducible exact LeO.refl _)
   | (with_reducible exact LeO.none _)
   | (with_reducible refine LeO.ite ?_ ?_)
   | (with_reducible refine LeO.bind ?_ (fun _ => ?_))
   | exact ih0 _ _ _
   | exact LeO.none _
   | refine LeO.ite ?_ ?_
   | refine LeO.bind ?_ (fun _ => ?_)
noncomputable def arrasref0_EqNumbers.L0 (x0 : List Int) (x1 : List Int) (x5 : Int) : Option (Bool) := Go.Proofs.YtpmcojmhkpaoaaaLabel.lim (fun k => arrasref0_EqNumbers.l0 k x0 x1 x5)
theorem arrasref0_EqNumbers.L0_lim (x0 : List Int) (x1 : List Int) (x5 : Int) : Go.Proofs.YtpmcojmhkpaoaaaLabel.Lim (fun k => arrasref0_EqNumbers.l0 k x0 x1 x5) (arrasref0_EqNumbers.L0 x0 x1 x5) := Go.Proofs.YtpmcojmhkpaoaaaLabel.lim_spec (fun k => (arrasref0_EqNumbers.mono_l k) x0 x1 x5)
theorem arrasref0_EqNumbers.L0_eq (x0 : List Int) (x1 : List Int) (x5 : Int) : arrasref0_EqNumbers.L0 x0 x1 x5 = (if x5 < (x0.length : Int) then (if 0 ≤ x5 then (if x5 < (x1.length : Int) then (if (rd x0 x5) = (rd x1 x5) then (arrasref0_EqNumbers.L0 x0 x1 (wrap64 (x5 + 1))) else (some false)) else (none)) else (none)) else (some true)) := by
  refine Go.Proofs.YtpmcojmhkpaoaaaLabel.Lim.unique (arrasref0_EqNumbers.L0_lim x0 x1 x5).shift ?_
  simp only [arrasref0_EqNumbers.l0]
  (repeat' (first | exact Go.Proofs.YtpmcojmhkpaoaaaLabel.Lim.const _ | exact arrasref0_EqNumbers.L0_lim _ _ _ | refine Go.Proofs.YtpmcojmhkpaoaaaLabel.Lim.ite ?_ ?_ | refine Go.Proofs.YtpmcojmhkpaoaaaLabel.Lim.bind ?_ (fun _ => ?_)))
noncomputable def arrasref0_EqNumbers.F (l0 : List Int) (l1 : List Int) : Option (Bool) := Go.Proofs.YtpmcojmhkpaoaaaLabel.lim (fun k => arrasref0_EqNumbers.f k l0 l1)
theorem arrasref0_EqNumbers.F_lim (l0 : List Int) (l1 : List Int) : Go.Proofs.YtpmcojmhkpaoaaaLabel.Lim (fun k => arrasref0_EqNumbers.f k l0 l1) (arrasref0_EqNumbers.F l0 l1) := Go.Proofs.YtpmcojmhkpaoaaaLabel.lim_spec (arrasref0_EqNumbers.mono l0 l1)
theorem arrasref0_EqNumbers.F_eq (l0 : List Int) (l1 : List Int) : arrasref0_EqNumbers.F l0 l1 = (if (l0.length : Int) = (l1.length : Int) then (arrasref0_EqNumbers.L0 l0 l1 0) else (some false)) := by
  refine Go.Proofs.YtpmcojmhkpaoaaaLabel.Lim.unique (arrasref0_EqNumbers.F_lim l0 l1) ?_
  simp only [arrasref0_EqNumbers.f]
  (repeat' (first | exact Go.Proofs.YtpmcojmhkpaoaaaLabel.Lim.const _ | exact arrasref0_EqNumbers.L0_lim _ _ _ | refine Go.Proofs.YtpmcojmhkpaoaaaLabel.Lim.ite ?_ ?_ | refine Go.Proofs.YtpmcojmhkpaoaaaLabel.Lim.bind ?_ (fun _ => ?_)))

/-! #### arraslaw0_Numbers: function 41 -/
def arraslaw0_Numbers.l0 : Nat → List Int → Int → Option (Unit)
 | 0, _, _ => none
 | k + 1, x0, x2 => if x2 < (x0.length : Int) then (if 0 ≤ x2 then (arraslaw0_Numbers.l0 k (x0.set (x2 : Int).toNat (-99)) (wrap64 (x2 + 1))) else (none)) else (if x0.length < 17592186044416 then (some ()) else (none))
def arraslaw0_Numbers.f (k : Nat) (l0 : List Int) : Option (Unit) := arraslaw0_Numbers.l0 k l0 0
theorem arraslaw0_Numbers.mono_l : ∀ k, (∀ y0 y1, LeO (arraslaw0_Numbers.l0 k y0 y1) (arraslaw0_Numbers.l0 (k + 1) y0 y1))
 | 0 => fun _ _ r h => by simp [arraslaw0_Numbers.l0] at h
 | k + 1 => by
  have ih0 := arraslaw0_Numbers.mono_l k
  ·intro y0 y1
   unfold arraslaw0_Numbers.l0
   repeat' first
   | (with_reducible exact ih0 _ _)
   | (with_reducible exact LeO.refl _)
   | (with_reducible exact LeO.none _)
   | (with_reducible refine LeO.ite ?_ ?_)
   | (with_reducible refine LeO.bind ?_ (fun _ => ?_))
   | exact ih0 _ _
   | exact LeO.none _
   | refine LeO.ite ?_ ?_
   | refine LeO.bind ?_ (fun _ => ?_)
theorem arraslaw0_Numbers.mono : ∀ a0 k, LeO (arraslaw0_Numbers.f k a0) (arraslaw0_Numbers.f (k + 1) a0) := by
 intro a0 k
 have ih0 := arraslaw0_Numbers.mono_l k
 unfold arraslaw0_Numbers.f
 repeat' first
   | (with_reducible exact ih0 _ _)
   | (with_reducible exact LeO.refl _)
   | (with_reducible exact LeO.none _)
   | (with_reducible refine LeO.ite ?_ ?_)
   | (with_reducible refine LeO.bind ?_ (fun _ => ?_))
   | exact ih0 _ _
   | exact LeO.none _
   | refine LeO.ite ?_ ?_
   | refine LeO.bind ?_ (fun _ => ?_)
noncomputable def arraslaw0_Numbers.L0 (x0 : List Int) (x2 : Int) : Option (Unit) := Go.Proofs.YtpmcojmhkpaoaaaLabel.lim (fun k => arraslaw0_Numbers.l0 k x0 x2)
theorem arraslaw0_Numbers.L0_lim (x0 : List Int) (x2 : Int) : Go.Proofs.YtpmcojmhkpaoaaaLabel.Lim (fun k => arraslaw0_Numbers.l0 k x0 x2) (arraslaw0_Numbers.L0 x0 x2) := Go.Proofs.YtpmcojmhkpaoaaaLabel.lim_spec (fun k => (arraslaw0_Numbers.mono_l k) x0 x2)
theorem arraslaw0_Numbers.L0_eq (x0 : List Int) (x2 : Int) : arraslaw0_Numbers.L0 x0 x2 = (if x2 < (x0.length : Int) then (if 0 ≤ x2 then (arraslaw0_Numbers.L0 (x0.set (x2 : Int).toNat (-99)) (wrap64 (x2 + 1))) else (none)) else (if x0.length < 17592186044416 then (some ()) else (none))) := by
  refine Go.Proofs.YtpmcojmhkpaoaaaLabel.Lim.unique (arraslaw0_Numbers.L0_lim x0 x2).shift ?_
  simp only [arraslaw0_Numbers.l0]
  (repeat' (first | exact Go.Proofs.YtpmcojmhkpaoaaaLabel.Lim.const _ | exact arraslaw0_Numbers.L0_lim _ _ | refine Go.Proofs.YtpmcojmhkpaoaaaLabel.Lim.ite ?_ ?_ | refine Go.Proofs.YtpmcojmhkpaoaaaLabel.Lim.bind ?_ (fun _ => ?_)))
noncomputable def arraslaw0_Numbers.F (l0 : List Int) : Option (Unit) := Go.Proofs.YtpmcojmhkpaoaaaLabel.lim (fun k => arraslaw0_Numbers.f k l0)
theorem arraslaw0_Numbers.F_lim (l0 : List Int) : Go.Proofs.YtpmcojmhkpaoaaaLabel.Lim (fun k => arraslaw0_Numbers.f k l0) (arraslaw0_Numbers.F l0) := Go.Proofs.YtpmcojmhkpaoaaaLabel.lim_spec (arraslaw0_Numbers.mono l0)
theorem arraslaw0_Numbers.F_eq (l0 : List Int) : arraslaw0_Numbers.F l0 = (arraslaw0_Numbers.L0 l0 0) := by
  refine Go.Proofs.YtpmcojmhkpaoaaaLabel.Lim.unique (arraslaw0_Numbers.F_lim l0) ?_
  simp only [arraslaw0_Numbers.f]
  (repeat' (first | exact Go.Proofs.YtpmcojmhkpaoaaaLabel.Lim.const _ | exact arraslaw0_Numbers.L0_lim _ _ | refine Go.Proofs.YtpmcojmhkpaoaaaLabel.Lim.ite ?_ ?_ | refine Go.Proofs.YtpmcojmhkpaoaaaLabel.Lim.bind ?_ (fun _ => ?_)))

/-! #### arraslaw5_CodeTakes: function 7 -/
mutual
def arraslaw5_CodeTakes.l0 : Nat → List (S43) → Int → Option (Bool)
 | 0, _, _ => none
 | k + 1, x0, x3 => if x3 < (x0.length : Int) then (arraslaw5_CodeTakes.j1 k x0 x3 (decide (x3 < 20))) else (arraslaw5_CodeTakes.j1 k x0 x3 false)
def arraslaw5_CodeTakes.j1 : Nat → List (S43) → Int → Bool → Option (Bool)
 | 0, _, _, _ => none
 | k + 1, x0, x3, x23 => if x23 = true then (if 0 ≤ x3 then (if x3 < (x0.length : Int) then ((arraslaw5_heavy.f ((rd_T43 x0 x3).f0) ((rd_T43 x0 x3).f1) ((rd_T43 x0 x3).f2) ((rd_T43 x0 x3).f3)).bind fun t324 => (if t324 = true then (some true) else ((arrasref0_CopyBytes.f k ((rd_T43 x0 x3).f3)).bind fun t325 => ((code_TakeNum.f k t325).bind fun bt328 => ((arrasref5_TakeNum.f k ((rd_T43 x0 x3).f3)).bind fun bt331 => (if bt328.1 = bt331.1 then (if bt328.2.1 = bt331.2.1 then ((arraslaw5_num.f bt328.2.2).bind fun t334 => (arraslaw5_CodeTakes.j2 k x0 x3 ((rd_T43 x0 x3).f3) t325 (t334 != bt331.2.2))) else (arraslaw5_CodeTakes.j2 k x0 x3 ((rd_T43 x0 x3).f3) t325 true)) else (arraslaw5_CodeTakes.j2 k x0 x3 ((rd_T43 x0 x3).f3) t325 true))))))) else (none)) else (none)) else ((arraslaw5_wakes.f k).bind fun t321 => (some t321))
def arraslaw5_CodeTakes.j2 : Nat → List (S43) → Int → List Int → List Int → Bool → Option (Bool)
 | 0, _, _, _, _, _ => none
 | k + 1, x0, x3, x4, x5, x63 => if x63 = true then (some false) else ((code_TakeText.f k x5).bind fun bt335 => ((arrasref5_TakeText.f k x4).bind fun bt338 => (if bt335.1.toList = bt338.1.toList then (if bt335.2.1 = bt338.2.1 then ((arraslaw5_num.f bt335.2.2).bind fun t341 => (arraslaw5_CodeTakes.j3 k x0 x3 x4 x5 (t341 != bt338.2.2))) else (arraslaw5_CodeTakes.j3 k x0 x3 x4 x5 true)) else (arraslaw5_CodeTakes.j3 k x0 x3 x4 x5 true))))
def arraslaw5_CodeTakes.j3 : Nat → List (S43) → Int → List Int → List Int → Bool → Option (Bool)
 | 0, _, _, _, _, _ => none
 | k + 1, x0, x3, x4, x5, x89 => if x89 = true then (some false) else ((code_TakeNums.f k x5).bind fun bt342 => ((arrasref5_TakeNums.f k x4).bind fun bt347 => ((arrasref0_EqNumbers.f k bt342.1 bt347.1).bind fun t352 => (if t352 = true then (if bt342.2.1 = bt347.2.1 then ((arraslaw5_num.f bt342.2.2).bind fun t353 => (if t353 = bt347.2.2 then ((arrasref0_EqBytes.f k x5 x4).bind fun t354 => (arraslaw5_CodeTakes.j4 k x0 x3 bt342.1 (!t354))) else (arraslaw5_CodeTakes.j4 k x0 x3 bt342.1 true))) else (arraslaw5_CodeTakes.j4 k x0 x3 bt342.1 true)) else (arraslaw5_CodeTakes.j4 k x0 x3 bt342.1 true)))))
def arraslaw5_CodeTakes.j4 : Nat → List (S43) → Int → List Int → Bool → Option (Bool)
 | 0, _, _, _, _ => none
 | k + 1, x0, x3, x14, x122 => if x122 = true then (some false) else ((arraslaw0_Numbers.f k x14).bind fun _ => (arraslaw5_CodeTakes.l0 k x0 (wrap64 (x3 + 1))))
end
def arraslaw5_CodeTakes.f (k : Nat) (l0 : List (S43)) : Option (Bool) := arraslaw5_CodeTakes.l0 k l0 0
theorem arraslaw5_CodeTakes.mono_l : ∀ k, (∀ y0 y1, LeO (arraslaw5_CodeTakes.l0 k y0 y1) (arraslaw5_CodeTakes.l0 (k + 1) y0 y1)) ∧ (∀ y0 y1 y2, LeO (arraslaw5_CodeTakes.j1 k y0 y1 y2) (arraslaw5_CodeTakes.j1 (k + 1) y0 y1 y2)) ∧ (∀ y0 y1 y2 y3 y4, LeO (arraslaw5_CodeTakes.j2 k y0 y1 y2 y3 y4) (arraslaw5_CodeTakes.j2 (k + 1) y0 y1 y2 y3 y4)) ∧ (∀ y0 y1 y2 y3 y4, LeO (arraslaw5_CodeTakes.j3 k y0 y1 y2 y3 y4) (arraslaw5_CodeTakes.j3 (k + 1) y0 y1 y2 y3 y4)) ∧ (∀ y0 y1 y2 y3, LeO (arraslaw5_CodeTakes.j4 k y0 y1 y2 y3) (arraslaw5_CodeTakes.j4 (k + 1) y0 y1 y2 y3))
 | 0 => ⟨fun _ _ r h => by simp [arraslaw5_CodeTakes.l0] at h, fun _ _ _ r h => by simp [arraslaw5_CodeTakes.j1] at h, fun _ _ _ _ _ r h => by simp [arraslaw5_CodeTakes.j2] at h, fun _ _ _ _ _ r h => by simp [arraslaw5_CodeTakes.j3] at h, fun _ _ _ _ r h => by simp [arraslaw5_CodeTakes.j4] at h⟩
 | k + 1 => by
  obtain ⟨ih0, ih1, ih2, ih3, ih4⟩ := arraslaw5_CodeTakes.mono_l k
  refine ⟨?_, ?_, ?_, ?_, ?_⟩
  ·intro y0 y1
   unfold arraslaw5_CodeTakes.l0
   repeat' first
   | (with_reducible exact ih0 _ _)
   | (with_reducible exact ih1 _ _ _)
   | (with_reducible exact ih2 _ _ _ _ _)
   | (with_reducible exact ih3 _ _ _ _ _)
   | (with_reducible exact ih4 _ _ _ _)
   | (with_reducible exact arraslaw0_Numbers.mono _ _)
   | (with_reducible exact arraslaw5_wakes.mono _)
   | (with_reducible exact arrasref0_CopyBytes.mono _ _)
   | (with_reducible exact arrasref0_EqBytes.mono _ _ _)
   | (with_reducible exact arrasref0_EqNumbers.mono _ _ _)
   | (with_reducible exact arrasref5_TakeNum.mono _ _)
   | (with_reducible exact arrasref5_TakeNums.mono _ _)
   | (with_reducible exact arrasref5_TakeText.mono _ _)
   | (with_reducible exact code_TakeNum.mono _ _)
   | (with_reducible exact code_TakeNums.mono _ _)
   | (with_reducible exact code_TakeText.mono _ _)
   | (with_reducible exact LeO.refl _)
   | (with_reducible exact LeO.none _)
   | (with_reducible refine LeO.ite ?_ ?_)
   | (with_reducible refine LeO.bind ?_ (fun _ => ?_))
   | exact ih0 _ _
   | exact ih1 _ _ _
   | exact ih2 _ _ _ _ _
   | exact ih3 _ _ _ _ _
   | exact ih4 _ _ _ _
   | exact arraslaw0_Numbers.mono _ _
   | exact arraslaw5_wakes.mono _
   | exact arrasref0_CopyBytes.mono _ _
   | exact arrasref0_EqBytes.mono _ _ _
   | exact arrasref0_EqNumbers.mono _ _ _
   | exact arrasref5_TakeNum.mono _ _
   | exact arrasref5_TakeNums.mono _ _
   | exact arrasref5_TakeText.mono _ _
   | exact code_TakeNum.mono _ _
   | exact code_TakeNums.mono _ _
   | exact code_TakeText.mono _ _
   | exact LeO.none _
   | refine LeO.ite ?_ ?_
   | refine LeO.bind ?_ (fun _ => ?_)
  ·intro y0 y1 y2
   unfold arraslaw5_CodeTakes.j1
   repeat' first
   | (with_reducible exact ih0 _ _)
   | (with_reducible exact ih1 _ _ _)
   | (with_reducible exact ih2 _ _ _ _ _)
   | (with_reducible exact ih3 _ _ _ _ _)
   | (with_reducible exact ih4 _ _ _ _)
   | (with_reducible exact arraslaw0_Numbers.mono _ _)
   | (with_reducible exact arraslaw5_wakes.mono _)
   | (with_reducible exact arrasref0_CopyBytes.mono _ _)
   | (with_reducible exact arrasref0_EqBytes.mono _ _ _)
   | (with_reducible exact arrasref0_EqNumbers.mono _ _ _)
   | (with_reducible exact arrasref5_TakeNum.mono _ _)
   | (with_reducible exact arrasref5_TakeNums.mono _ _)
   | (with_reducible exact arrasref5_TakeText.mono _ _)
   | (with_reducible exact code_TakeNum.mono _ _)
   | (with_reducible exact code_TakeNums.mono _ _)
   | (with_reducible exact code_TakeText.mono _ _)
   | (with_reducible exact LeO.refl _)
   | (with_reducible exact LeO.none _)
   | (with_reducible refine LeO.ite ?_ ?_)
   | (with_reducible refine LeO.bind ?_ (fun _ => ?_))
   | exact ih0 _ _
   | exact ih1 _ _ _
   | exact ih2 _ _ _ _ _
   | exact ih3 _ _ _ _ _
   | exact ih4 _ _ _ _
   | exact arraslaw0_Numbers.mono _ _
   | exact arraslaw5_wakes.mono _
   | exact arrasref0_CopyBytes.mono _ _
   | exact arrasref0_EqBytes.mono _ _ _
   | exact arrasref0_EqNumbers.mono _ _ _
   | exact arrasref5_TakeNum.mono _ _
   | exact arrasref5_TakeNums.mono _ _
   | exact arrasref5_TakeText.mono _ _
   | exact code_TakeNum.mono _ _
   | exact code_TakeNums.mono _ _
   | exact code_TakeText.mono _ _
   | exact LeO.none _
   | refine LeO.ite ?_ ?_
   | refine LeO.bind ?_ (fun _ => ?_)
  ·intro y0 y1 y2 y3 y4
   unfold arraslaw5_CodeTakes.j2
   repeat' first
   | (with_reducible exact ih0 _ _)
   | (with_reducible exact ih1 _ _ _)
   | (with_reducible exact ih2 _ _ _ _ _)
   | (with_reducible exact ih3 _ _ _ _ _)
   | (with_reducible exact ih4 _ _ _ _)
   | (with_reducible exact arraslaw0_Numbers.mono _ _)
   | (with_reducible exact arraslaw5_wakes.mono _)
   | (with_reducible exact arrasref0_CopyBytes.mono _ _)
   | (with_reducible exact arrasref0_EqBytes.mono _ _ _)
   | (with_reducible exact arrasref0_EqNumbers.mono _ _ _)
   | (with_reducible exact arrasref5_TakeNum.mono _ _)
   | (with_reducible exact arrasref5_TakeNums.mono _ _)
   | (with_reducible exact arrasref5_TakeText.mono _ _)
   | (with_reducible exact code_TakeNum.mono _ _)
   | (with_reducible exact code_TakeNums.mono _ _)
   | (with_reducible exact code_TakeText.mono _ _)
   | (with_reducible exact LeO.refl _)
   | (with_reducible exact LeO.none _)
   | (with_reducible refine LeO.ite ?_ ?_)
   | (with_reducible refine LeO.bind ?_ (fun _ => ?_))
   | exact ih0 _ _
   | exact ih1 _ _ _
   | exact ih2 _ _ _ _ _
   | exact ih3 _ _ _ _ _
   | exact ih4 _ _ _ _
   | exact arraslaw0_Numbers.mono _ _
   | exact arraslaw5_wakes.mono _
   | exact arrasref0_CopyBytes.mono _ _
   | exact arrasref0_EqBytes.mono _ _ _
   | exact arrasref0_EqNumbers.mono _ _ _
   | exact arrasref5_TakeNum.mono _ _
   | exact arrasref5_TakeNums.mono _ _
   | exact arrasref5_TakeText.mono _ _
   | exact code_TakeNum.mono _ _
   | exact code_TakeNums.mono _ _
   | exact code_TakeText.mono _ _
   | exact LeO.none _
   | refine LeO.ite ?_ ?_
   | refine LeO.bind ?_ (fun _ => ?_)
  ·intro y0 y1 y2 y3 y4
   unfold arraslaw5_CodeTakes.j3
   repeat' first
   | (with_reducible exact ih0 _ _)
   | (with_reducible exact ih1 _ _ _)
   | (with_reducible exact ih2 _ _ _ _ _)
   | (with_reducible exact ih3 _ _ _ _ _)
   | (with_reducible exact ih4 _ _ _ _)
   | (with_reducible exact arraslaw0_Numbers.mono _ _)
   | (with_reducible exact arraslaw5_wakes.mono _)
   | (with_reducible exact arrasref0_CopyBytes.mono _ _)
   | (with_reducible exact arrasref0_EqBytes.mono _ _ _)
   | (with_reducible exact arrasref0_EqNumbers.mono _ _ _)
   | (with_reducible exact arrasref5_TakeNum.mono _ _)
   | (with_reducible exact arrasref5_TakeNums.mono _ _)
   | (with_reducible exact arrasref5_TakeText.mono _ _)
   | (with_reducible exact code_TakeNum.mono _ _)
   | (with_reducible exact code_TakeNums.mono _ _)
   | (with_reducible exact code_TakeText.mono _ _)
   | (with_reducible exact LeO.refl _)
   | (with_reducible exact LeO.none _)
   | (with_reducible refine LeO.ite ?_ ?_)
   | (with_reducible refine LeO.bind ?_ (fun _ => ?_))
   | exact ih0 _ _
   | exact ih1 _ _ _
   | exact ih2 _ _ _ _ _
   | exact ih3 _ _ _ _ _
   | exact ih4 _ _ _ _
   | exact arraslaw0_Numbers.mono _ _
   | exact arraslaw5_wakes.mono _
   | exact arrasref0_CopyBytes.mono _ _
   | exact arrasref0_EqBytes.mono _ _ _
   | exact arrasref0_EqNumbers.mono _ _ _
   | exact arrasref5_TakeNum.mono _ _
   | exact arrasref5_TakeNums.mono _ _
   | exact arrasref5_TakeText.mono _ _
   | exact code_TakeNum.mono _ _
   | exact code_TakeNums.mono _ _
   | exact code_TakeText.mono _ _
   | exact LeO.none _
   | refine LeO.ite ?_ ?_
   | refine LeO.bind ?_ (fun _ => ?_)
  ·intro y0 y1 y2 y3
   unfold arraslaw5_CodeTakes.j4
   repeat' first
   | (with_reducible exact ih0 _ _)
   | (with_reducible exact ih1 _ _ _)
   | (with_reducible exact ih2 _ _ _ _ _)
   | (with_reducible exact ih3 _ _ _ _ _)
   | (with_reducible exact ih4 _ _ _ _)
   | (with_reducible exact arraslaw0_Numbers.mono _ _)
   | (with_reducible exact arraslaw5_wakes.mono _)
   | (with_reducible exact arrasref0_CopyBytes.mono _ _)
   | (with_reducible exact arrasref0_EqBytes.mono _ _ _)
   | (with_reducible exact arrasref0_EqNumbers.mono _ _ _)
   | (with_reducible exact arrasref5_TakeNum.mono _ _)
   | (with_reducible exact arrasref5_TakeNums.mono _ _)
   | (with_reducible exact arrasref5_TakeText.mono _ _)
   | (with_reducible exact code_TakeNum.mono _ _)
   | (with_reducible exact code_TakeNums.mono _ _)
   | (with_reducible exact code_TakeText.mono _ _)
   | (with_reducible exact LeO.refl _)
   | (with_reducible exact LeO.none _)
   | (with_reducible refine LeO.ite ?_ ?_)
   | (with_reducible refine LeO.bind ?_ (fun _ => ?_))
   | exact ih0 _ _
   | exact ih1 _ _ _
   | exact ih2 _ _ _ _ _
   | exact ih3 _ _ _ _ _
   | exact ih4 _ _ _ _
   | exact arraslaw0_Numbers.mono _ _
   | exact arraslaw5_wakes.mono _
   | exact arrasref0_CopyBytes.mono _ _
   | exact arrasref0_EqBytes.mono _ _ _
   | exact arrasref0_EqNumbers.mono _ _ _
   | exact arrasref5_TakeNum.mono _ _
   | exact arrasref5_TakeNums.mono _ _
   | exact arrasref5_TakeText.mono _ _
   | exact code_TakeNum.mono _ _
   | exact code_TakeNums.mono _ _
   | exact code_TakeText.mono _ _
   | exact LeO.none _
   | refine LeO.ite ?_ ?_
   | refine LeO.bind ?_ (fun _ => ?_)
theorem arraslaw5_CodeTakes.mono : ∀ a0 k, LeO (arraslaw5_CodeTakes.f k a0) (arraslaw5_CodeTakes.f (k + 1) a0) := by
 intro a0 k
 obtain ⟨ih0, ih1, ih2, ih3, ih4⟩ := arraslaw5_CodeTakes.mono_l k
 unfold arraslaw5_CodeTakes.f
 repeat' first
   | (with_reducible exact ih0 _ _)
   | (with_reducible exact ih1 _ _ _)
   | (with_reducible exact ih2 _ _ _ _ _)
   | (with_reducible exact ih3 _ _ _ _ _)
   | (with_reducible exact ih4 _ _ _ _)
   | (with_reducible exact arraslaw0_Numbers.mono _ _)
   | (with_reducible exact arraslaw5_wakes.mono _)
   | (with_reducible exact arrasref0_CopyBytes.mono _ _)
   | (with_reducible exact arrasref0_EqBytes.mono _ _ _)
   | (with_reducible exact arrasref0_EqNumbers.mono _ _ _)
   | (with_reducible exact arrasref5_TakeNum.mono _ _)
   | (with_reducible exact arrasref5_TakeNums.mono _ _)
   | (with_reducible exact arrasref5_TakeText.mono _ _)
   | (with_reducible exact code_TakeNum.mono _ _)
   | (with_reducible exact code_TakeNums.mono _ _)
   | (with_reducible exact code_TakeText.mono _ _)
   | (with_reducible exact LeO.refl _)
   | (with_reducible exact LeO.none _)
   | (with_reducible refine LeO.ite ?_ ?_)
   | (with_reducible refine LeO.bind ?_ (fun _ => ?_))
   | exact ih0 _ _
   | exact ih1 _ _ _
   | exact ih2 _ _ _ _ _
   | exact ih3 _ _ _ _ _
   | exact ih4 _ _ _ _
   | exact arraslaw0_Numbers.mono _ _
   | exact arraslaw5_wakes.mono _
   | exact arrasref0_CopyBytes.mono _ _
   | exact arrasref0_EqBytes.mono _ _ _
   | exact arrasref0_EqNumbers.mono _ _ _
   | exact arrasref5_TakeNum.mono _ _
   | exact arrasref5_TakeNums.mono _ _
   | exact arrasref5_TakeText.mono _ _
   | exact code_TakeNum.mono _ _
   | exact code_TakeNums.mono _ _
   | exact code_TakeText.mono _ _
   | exact LeO.none _
   | refine LeO.ite ?_ ?_
   | refine LeO.bind ?_ (fun _ => ?_)
noncomputable def arraslaw5_CodeTakes.L0 (x0 : List (S43)) (x3 : Int) : Option (Bool) := Go.Proofs.YtpmcojmhkpaoaaaLabel.lim (fun k => arraslaw5_CodeTakes.l0 k x0 x3)
noncomputable def arraslaw5_CodeTakes.J1 (x0 : List (S43)) (x3 : Int) (x23 : Bool) : Option (Bool) := Go.Proofs.YtpmcojmhkpaoaaaLabel.lim (fun k => arraslaw5_CodeTakes.j1 k x0 x3 x23)
noncomputable def arraslaw5_CodeTakes.J2 (x0 : List (S43)) (x3 : Int) (x4 : List Int) (x5 : List Int) (x63 : Bool) : Option (Bool) := Go.Proofs.YtpmcojmhkpaoaaaLabel.lim (fun k => arraslaw5_CodeTakes.j2 k x0 x3 x4 x5 x63)
noncomputable def arraslaw5_CodeTakes.J3 (x0 : List (S43)) (x3 : Int) (x4 : List Int) (x5 : List Int) (x89 : Bool) : Option (Bool) := Go.Proofs.YtpmcojmhkpaoaaaLabel.lim (fun k => arraslaw5_CodeTakes.j3 k x0 x3 x4 x5 x89)
noncomputable def arraslaw5_CodeTakes.J4 (x0 : List (S43)) (x3 : Int) (x14 : List Int) (x122 : Bool) : Option (Bool) := Go.Proofs.YtpmcojmhkpaoaaaLabel.lim (fun k => arraslaw5_CodeTakes.j4 k x0 x3 x14 x122)
theorem arraslaw5_CodeTakes.L0_lim (x0 : List (S43)) (x3 : Int) : Go.Proofs.YtpmcojmhkpaoaaaLabel.Lim (fun k => arraslaw5_CodeTakes.l0 k x0 x3) (arraslaw5_CodeTakes.L0 x0 x3) := Go.Proofs.YtpmcojmhkpaoaaaLabel.lim_spec (fun k => (arraslaw5_CodeTakes.mono_l k).1 x0 x3)
theorem arraslaw5_CodeTakes.J1_lim (x0 : List (S43)) (x3 : Int) (x23 : Bool) : Go.Proofs.YtpmcojmhkpaoaaaLabel.Lim (fun k => arraslaw5_CodeTakes.j1 k x0 x3 x23) (arraslaw5_CodeTakes.J1 x0 x3 x23) := Go.Proofs.YtpmcojmhkpaoaaaLabel.lim_spec (fun k => (arraslaw5_CodeTakes.mono_l k).2.1 x0 x3 x23)
theorem arraslaw5_CodeTakes.J2_lim (x0 : List (S43)) (x3 : Int) (x4 : List Int) (x5 : List Int) (x63 : Bool) : Go.Proofs.YtpmcojmhkpaoaaaLabel.Lim (fun k => arraslaw5_CodeTakes.j2 k x0 x3 x4 x5 x63) (arraslaw5_CodeTakes.J2 x0 x3 x4 x5 x63) := Go.Proofs.YtpmcojmhkpaoaaaLabel.lim_spec (fun k => (arraslaw5_CodeTakes.mono_l k).2.2.1 x0 x3 x4 x5 x63)
theorem arraslaw5_CodeTakes.J3_lim (x0 : List (S43)) (x3 : Int) (x4 : List Int) (x5 : List Int) (x89 : Bool) : Go.Proofs.YtpmcojmhkpaoaaaLabel.Lim (fun k => arraslaw5_CodeTakes.j3 k x0 x3 x4 x5 x89) (arraslaw5_CodeTakes.J3 x0 x3 x4 x5 x89) := Go.Proofs.YtpmcojmhkpaoaaaLabel.lim_spec (fun k => (arraslaw5_CodeTakes.mono_l k).2.2.2.1 x0 x3 x4 x5 x89)
theorem arraslaw5_CodeTakes.J4_lim (x0 : List (S43)) (x3 : Int) (x14 : List Int) (x122 : Bool) : Go.Proofs.YtpmcojmhkpaoaaaLabel.Lim (fun k => arraslaw5_CodeTakes.j4 k x0 x3 x14 x122) (arraslaw5_CodeTakes.J4 x0 x3 x14 x122) := Go.Proofs.YtpmcojmhkpaoaaaLabel.lim_spec (fun k => (arraslaw5_CodeTakes.mono_l k).2.2.2.2 x0 x3 x14 x122)
theorem arraslaw5_CodeTakes.L0_eq (x0 : List (S43)) (x3 : Int) : arraslaw5_CodeTakes.L0 x0 x3 = (if x3 < (x0.length : Int) then (arraslaw5_CodeTakes.J1 x0 x3 (decide (x3 < 20))) else (arraslaw5_CodeTakes.J1 x0 x3 false)) := by
  refine Go.Proofs.YtpmcojmhkpaoaaaLabel.Lim.unique (arraslaw5_CodeTakes.L0_lim x0 x3).shift ?_
  simp only [arraslaw5_CodeTakes.l0]
  (repeat' (first | exact Go.Proofs.YtpmcojmhkpaoaaaLabel.Lim.const _ | exact arraslaw5_CodeTakes.L0_lim _ _ | exact arraslaw5_CodeTakes.J1_lim _ _ _ | exact arraslaw5_CodeTakes.J2_lim _ _ _ _ _ | exact arraslaw5_CodeTakes.J3_lim _ _ _ _ _ | exact arraslaw5_CodeTakes.J4_lim _ _ _ _ | exact arraslaw0_Numbers.F_lim _ | exact arraslaw5_wakes.F_lim | exact arrasref0_CopyBytes.F_lim _ | exact arrasref0_EqBytes.F_lim _ _ | exact arrasref0_EqNumbers.F_lim _ _ | exact arrasref5_TakeNum.F_lim _ | exact arrasref5_TakeNums.F_lim _ | exact arrasref5_TakeText.F_lim _ | exact code_TakeNum.F_lim _ | exact code_TakeNums.F_lim _ | exact code_TakeText.F_lim _ | refine Go.Proofs.YtpmcojmhkpaoaaaLabel.Lim.ite ?_ ?_ | refine Go.Proofs.YtpmcojmhkpaoaaaLabel.Lim.bind ?_ (fun _ => ?_)))
theorem arraslaw5_CodeTakes.J1_eq (x0 : List (S43)) (x3 : Int) (x23 : Bool) : arraslaw5_CodeTakes.J1 x0 x3 x23 = (if x23 = true then (if 0 ≤ x3 then (if x3 < (x0.length : Int) then ((arraslaw5_heavy.f ((rd_T43 x0 x3).f0) ((rd_T43 x0 x3).f1) ((rd_T43 x0 x3).f2) ((rd_T43 x0 x3).f3)).bind fun t324 => (if t324 = true then (some true) else ((arrasref0_CopyBytes.F ((rd_T43 x0 x3).f3)).bind fun t325 => ((code_TakeNum.F t325).bind fun bt328 => ((arrasref5_TakeNum.F ((rd_T43 x0 x3).f3)).bind fun bt331 => (if bt328.1 = bt331.1 then (if bt328.2.1 = bt331.2.1 then ((arraslaw5_num.f bt328.2.2).bind fun t334 => (arraslaw5_CodeTakes.J2 x0 x3 ((rd_T43 x0 x3).f3) t325 (t334 != bt331.2.2))) else (arraslaw5_CodeTakes.J2 x0 x3 ((rd_T43 x0 x3).f3) t325 true)) else (arraslaw5_CodeTakes.J2 x0 x3 ((rd_T43 x0 x3).f3) t325 true))))))) else (none)) else (none)) else ((arraslaw5_wakes.F).bind fun t321 => (some t321))) := by
  refine Go.Proofs.YtpmcojmhkpaoaaaLabel.Lim.unique (arraslaw5_CodeTakes.J1_lim x0 x3 x23).shift ?_
  simp only [arraslaw5_CodeTakes.j1]
  (repeat' (first | exact Go.Proofs.YtpmcojmhkpaoaaaLabel.Lim.const _ | exact arraslaw5_CodeTakes.L0_lim _ _ | exact arraslaw5_CodeTakes.J1_lim _ _ _ | exact arraslaw5_CodeTakes.J2_lim _ _ _ _ _ | exact arraslaw5_CodeTakes.J3_lim _ _ _ _ _ | exact arraslaw5_CodeTakes.J4_lim _ _ _ _ | exact arraslaw0_Numbers.F_lim _ | exact arraslaw5_wakes.F_lim | exact arrasref0_CopyBytes.F_lim _ | exact arrasref0_EqBytes.F_lim _ _ | exact arrasref0_EqNumbers.F_lim _ _ | exact arrasref5_TakeNum.F_lim _ | exact arrasref5_TakeNums.F_lim _ | exact arrasref5_TakeText.F_lim _ | exact code_TakeNum.F_lim _ | exact code_TakeNums.F_lim _ | exact code_TakeText.F_lim _ | refine Go.Proofs.YtpmcojmhkpaoaaaLabel.Lim.ite ?_ ?_ | refine Go.Proofs.YtpmcojmhkpaoaaaLabel.Lim.bind ?_ (fun _ => ?_)))
theorem arraslaw5_CodeTakes.J2_eq (x0 : List (S43)) (x3 : Int) (x4 : List Int) (x5 : List Int) (x63 : Bool) : arraslaw5_CodeTakes.J2 x0 x3 x4 x5 x63 = (if x63 = true then (some false) else ((code_TakeText.F x5).bind fun bt335 => ((arrasref5_TakeText.F x4).bind fun bt338 => (if bt335.1.toList = bt338.1.toList then (if bt335.2.1 = bt338.2.1 then ((arraslaw5_num.f bt335.2.2).bind fun t341 => (arraslaw5_CodeTakes.J3 x0 x3 x4 x5 (t341 != bt338.2.2))) else (arraslaw5_CodeTakes.J3 x0 x3 x4 x5 true)) else (arraslaw5_CodeTakes.J3 x0 x3 x4 x5 true))))) := by
  refine Go.Proofs.YtpmcojmhkpaoaaaLabel.Lim.unique (arraslaw5_CodeTakes.J2_lim x0 x3 x4 x5 x63).shift ?_
  simp only [arraslaw5_CodeTakes.j2]
  (repeat' (first | exact Go.Proofs.YtpmcojmhkpaoaaaLabel.Lim.const _ | exact arraslaw5_CodeTakes.L0_lim _ _ | exact arraslaw5_CodeTakes.J1_lim _ _ _ | exact arraslaw5_CodeTakes.J2_lim _ _ _ _ _ | exact arraslaw5_CodeTakes.J3_lim _ _ _ _ _ | exact arraslaw5_CodeTakes.J4_lim _ _ _ _ | exact arraslaw0_Numbers.F_lim _ | exact arraslaw5_wakes.F_lim | exact arrasref0_CopyBytes.F_lim _ | exact arrasref0_EqBytes.F_lim _ _ | exact arrasref0_EqNumbers.F_lim _ _ | exact arrasref5_TakeNum.F_lim _ | exact arrasref5_TakeNums.F_lim _ | exact arrasref5_TakeText.F_lim _ | exact code_TakeNum.F_lim _ | exact code_TakeNums.F_lim _ | exact code_TakeText.F_lim _ | refine Go.Proofs.YtpmcojmhkpaoaaaLabel.Lim.ite ?_ ?_ | refine Go.Proofs.YtpmcojmhkpaoaaaLabel.Lim.bind ?_ (fun _ => ?_)))
theorem arraslaw5_CodeTakes.J3_eq (x0 : List (S43)) (x3 : Int) (x4 : List Int) (x5 : List Int) (x89 : Bool) : arraslaw5_CodeTakes.J3 x0 x3 x4 x5 x89 = (if x89 = true then (some false) else ((code_TakeNums.F x5).bind fun bt342 => ((arrasref5_TakeNums.F x4).bind fun bt347 => ((arrasref0_EqNumbers.F bt342.1 bt347.1).bind fun t352 => (if t352 = true then (if bt342.2.1 = bt347.2.1 then ((arraslaw5_num.f bt342.2.2).bind fun t353 => (if t353 = bt347.2.2 then ((arrasref0_EqBytes.F x5 x4).bind fun t354 => (arraslaw5_CodeTakes.J4 x0 x3 bt342.1 (!t354))) else (arraslaw5_CodeTakes.J4 x0 x3 bt342.1 true))) else (arraslaw5_CodeTakes.J4 x0 x3 bt342.1 true)) else (arraslaw5_CodeTakes.J4 x0 x3 bt342.1 true)))))) := by
  refine Go.Proofs.YtpmcojmhkpaoaaaLabel.Lim.unique (arraslaw5_CodeTakes.J3_lim x0 x3 x4 x5 x89).shift ?_
  simp only [arraslaw5_CodeTakes.j3]
  (repeat' (first | exact Go.Proofs.YtpmcojmhkpaoaaaLabel.Lim.const _ | exact arraslaw5_CodeTakes.L0_lim _ _ | exact arraslaw5_CodeTakes.J1_lim _ _ _ | exact arraslaw5_CodeTakes.J2_lim _ _ _ _ _ | exact arraslaw5_CodeTakes.J3_lim _ _ _ _ _ | exact arraslaw5_CodeTakes.J4_lim _ _ _ _ | exact arraslaw0_Numbers.F_lim _ | exact arraslaw5_wakes.F_lim | exact arrasref0_CopyBytes.F_lim _ | exact arrasref0_EqBytes.F_lim _ _ | exact arrasref0_EqNumbers.F_lim _ _ | exact arrasref5_TakeNum.F_lim _ | exact arrasref5_TakeNums.F_lim _ | exact arrasref5_TakeText.F_lim _ | exact code_TakeNum.F_lim _ | exact code_TakeNums.F_lim _ | exact code_TakeText.F_lim _ | refine Go.Proofs.YtpmcojmhkpaoaaaLabel.Lim.ite ?_ ?_ | refine Go.Proofs.YtpmcojmhkpaoaaaLabel.Lim.bind ?_ (fun _ => ?_)))
theorem arraslaw5_CodeTakes.J4_eq (x0 : List (S43)) (x3 : Int) (x14 : List Int) (x122 : Bool) : arraslaw5_CodeTakes.J4 x0 x3 x14 x122 = (if x122 = true then (some false) else ((arraslaw0_Numbers.F x14).bind fun _ => (arraslaw5_CodeTakes.L0 x0 (wrap64 (x3 + 1))))) := by
  refine Go.Proofs.YtpmcojmhkpaoaaaLabel.Lim.unique (arraslaw5_CodeTakes.J4_lim x0 x3 x14 x122).shift ?_
  simp only [arraslaw5_CodeTakes.j4]
  (repeat' (first | exact Go.Proofs.YtpmcojmhkpaoaaaLabel.Lim.const _ | exact arraslaw5_CodeTakes.L0_lim _ _ | exact arraslaw5_CodeTakes.J1_lim _ _ _ | exact arraslaw5_CodeTakes.J2_lim _ _ _ _ _ | exact arraslaw5_CodeTakes.J3_lim _ _ _ _ _ | exact arraslaw5_CodeTakes.J4_lim _ _ _ _ | exact arraslaw0_Numbers.F_lim _ | exact arraslaw5_wakes.F_lim | exact arrasref0_CopyBytes.F_lim _ | exact arrasref0_EqBytes.F_lim _ _ | exact arrasref0_EqNumbers.F_lim _ _ | exact arrasref5_TakeNum.F_lim _ | exact arrasref5_TakeNums.F_lim _ | exact arrasref5_TakeText.F_lim _ | exact code_TakeNum.F_lim _ | exact code_TakeNums.F_lim _ | exact code_TakeText.F_lim _ | refine Go.Proofs.YtpmcojmhkpaoaaaLabel.Lim.ite ?_ ?_ | refine Go.Proofs.YtpmcojmhkpaoaaaLabel.Lim.bind ?_ (fun _ => ?_)))
noncomputable def arraslaw5_CodeTakes.F (l0 : List (S43)) : Option (Bool) := Go.Proofs.YtpmcojmhkpaoaaaLabel.lim (fun k => arraslaw5_CodeTakes.f k l0)
theorem arraslaw5_CodeTakes.F_lim (l0 : List (S43)) : Go.Proofs.YtpmcojmhkpaoaaaLabel.Lim (fun k => arraslaw5_CodeTakes.f k l0) (arraslaw5_CodeTakes.F l0) := Go.Proofs.YtpmcojmhkpaoaaaLabel.lim_spec (arraslaw5_CodeTakes.mono l0)
theorem arraslaw5_CodeTakes.F_eq (l0 : List (S43)) : arraslaw5_CodeTakes.F l0 = (arraslaw5_CodeTakes.L0 l0 0) := by
  refine Go.Proofs.YtpmcojmhkpaoaaaLabel.Lim.unique (arraslaw5_CodeTakes.F_lim l0) ?_
  simp only [arraslaw5_CodeTakes.f]
  (repeat' (first | exact Go.Proofs.YtpmcojmhkpaoaaaLabel.Lim.const _ | exact arraslaw5_CodeTakes.L0_lim _ _ | exact arraslaw5_CodeTakes.J1_lim _ _ _ | exact arraslaw5_CodeTakes.J2_lim _ _ _ _ _ | exact arraslaw5_CodeTakes.J3_lim _ _ _ _ _ | exact arraslaw5_CodeTakes.J4_lim _ _ _ _ | exact arraslaw0_Numbers.F_lim _ | exact arraslaw5_wakes.F_lim | exact arrasref0_CopyBytes.F_lim _ | exact arrasref0_EqBytes.F_lim _ _ | exact arrasref0_EqNumbers.F_lim _ _ | exact arrasref5_TakeNum.F_lim _ | exact arrasref5_TakeNums.F_lim _ | exact arrasref5_TakeText.F_lim _ | exact code_TakeNum.F_lim _ | exact code_TakeNums.F_lim _ | exact code_TakeText.F_lim _ | refine Go.Proofs.YtpmcojmhkpaoaaaLabel.Lim.ite ?_ ?_ | refine Go.Proofs.YtpmcojmhkpaoaaaLabel.Lim.bind ?_ (fun _ => ?_)))

/-! #### arraslaw5_CodeBack: function 8 -/
mutual
def arraslaw5_CodeBack.l0 : Nat → List (S43) → Int → Option (Bool)
 | 0, _, _ => none
 | k + 1, x0, x3 => if x3 < (x0.length : Int) then (arraslaw5_CodeBack.j1 k x0 x3 (decide (x3 < 20))) else (arraslaw5_CodeBack.j1 k x0 x3 false)
def arraslaw5_CodeBack.j1 : Nat → List (S43) → Int → Bool → Option (Bool)
 | 0, _, _, _ => none
 | k + 1, x0, x3, x27 => if x27 = true then (if 0 ≤ x3 then (if x3 < (x0.length : Int) then ((arraslaw5_heavy.f ((rd_T43 x0 x3).f0) ((rd_T43 x0 x3).f1) ((rd_T43 x0 x3).f2) ((rd_T43 x0 x3).f3)).bind fun t358 => (if t358 = true then (arraslaw5_CodeBack.j2 k x0 x3 true ((rd_T43 x0 x3).f0) ((rd_T43 x0 x3).f1) ((rd_T43 x0 x3).f2) ((rd_T43 x0 x3).f3)) else (if (((rd_T43 x0 x3).f1).size : Int) > 300 then (arraslaw5_CodeBack.j2 k x0 x3 true ((rd_T43 x0 x3).f0) ((rd_T43 x0 x3).f1) ((rd_T43 x0 x3).f2) ((rd_T43 x0 x3).f3)) else (arraslaw5_CodeBack.j2 k x0 x3 (decide ((((rd_T43 x0 x3).f2).length : Int) > 50)) ((rd_T43 x0 x3).f0) ((rd_T43 x0 x3).f1) ((rd_T43 x0 x3).f2) ((rd_T43 x0 x3).f3))))) else (none)) else (none)) else ((arraslaw5_wakes.f k).bind fun t355 => (some t355))
def arraslaw5_CodeBack.j2 : Nat → List (S43) → Int → Bool → Int → ByteArray → List Int → List Int → Option (Bool)
 | 0, _, _, _, _, _, _, _ => none
 | k + 1, x0, x3, x47, x358000, x358001, x358002, x358003 => if x47 = true then (some true) else ((code_Num.f k x358000).bind fun bt359 => ((arrasref0_CopyBytes.f k bt359.1).bind fun t363 => (if t363.length + x358003.length < 140737488355328 then ((code_TakeNum.f k (t363 ++ x358003)).bind fun bt369 => ((arraslaw5_num.f bt359.2).bind fun t372 => (if t372 = 0 then ((arraslaw5_num.f bt369.2.2).bind fun t373 => (if t373 = 0 then (if bt369.1 = x358000 then (arraslaw5_CodeBack.j3 k x0 x3 (bt369.2.1 != (bt359.1.length : Int)) x358000 x358001 x358002 x358003) else (arraslaw5_CodeBack.j3 k x0 x3 true x358000 x358001 x358002 x358003)) else (arraslaw5_CodeBack.j3 k x0 x3 true x358000 x358001 x358002 x358003))) else (arraslaw5_CodeBack.j3 k x0 x3 false x358000 x358001 x358002 x358003)))) else (none))))
def arraslaw5_CodeBack.j3 : Nat → List (S43) → Int → Bool → Int → ByteArray → List Int → List Int → Option (Bool)
 | 0, _, _, _, _, _, _, _ => none
 | k + 1, x0, x3, x83, x358000, x358001, x358002, x358003 => if x83 = true then (some false) else ((code_Text.f k x358001).bind fun bt374 => ((arrasref0_CopyBytes.f k bt374.1).bind fun t378 => (if t378.length + x358003.length < 140737488355328 then ((code_TakeText.f k (t378 ++ x358003)).bind fun bt384 => ((arraslaw5_num.f bt374.2).bind fun t387 => (if t387 = 0 then ((arraslaw5_num.f bt384.2.2).bind fun t388 => (if t388 = 0 then (if bt384.1.toList = x358001.toList then (arraslaw5_CodeBack.j4 k x0 x3 bt374.1 (bt384.2.1 != (bt374.1.length : Int)) x358000 x358001 x358002 x358003) else (arraslaw5_CodeBack.j4 k x0 x3 bt374.1 true x358000 x358001 x358002 x358003)) else (arraslaw5_CodeBack.j4 k x0 x3 bt374.1 true x358000 x358001 x358002 x358003))) else (arraslaw5_CodeBack.j4 k x0 x3 bt374.1 true x358000 x358001 x358002 x358003)))) else (none))))
def arraslaw5_CodeBack.j4 : Nat → List (S43) → Int → List Int → Bool → Int → ByteArray → List Int → List Int → Option (Bool)
 | 0, _, _, _, _, _, _, _, _ => none
 | k + 1, x0, x3, x10, x119, x358000, x358001, x358002, x358003 => if x119 = true then (some false) else ((code_Nums.f k x358002).bind fun bt389 => ((arrasref0_CopyBytes.f k bt389.1).bind fun t393 => (if t393.length + x358003.length < 140737488355328 then ((code_TakeNums.f k (t393 ++ x358003)).bind fun bt399 => ((arraslaw5_num.f bt389.2).bind fun t404 => (if t404 = 0 then ((arraslaw5_num.f bt399.2.2).bind fun t405 => (if t405 = 0 then ((arrasref0_EqNumbers.f k bt399.1 x358002).bind fun t406 => (if t406 = true then (arraslaw5_CodeBack.j5 k x0 x3 x10 (bt399.2.1 != (bt389.1.length : Int)) x358000 x358001 x358002 x358003) else (arraslaw5_CodeBack.j5 k x0 x3 x10 true x358000 x358001 x358002 x358003))) else (arraslaw5_CodeBack.j5 k x0 x3 x10 true x358000 x358001 x358002 x358003))) else (arraslaw5_CodeBack.j5 k x0 x3 x10 false x358000 x358001 x358002 x358003)))) else (none))))
def arraslaw5_CodeBack.j5 : Nat → List (S43) → Int → List Int → Bool → Int → ByteArray → List Int → List Int → Option (Bool)
 | 0, _, _, _, _, _, _, _, _ => none
 | k + 1, x0, x3, x10, x156, x358000, x358001, x358002, x358003 => if x156 = true then (some false) else (arraslaw5_CodeBack.l1 k x0 x3 x10 0 x358000 x358001 x358002 x358003)
def arraslaw5_CodeBack.l1 : Nat → List (S43) → Int → List Int → Int → Int → ByteArray → List Int → List Int → Option (Bool)
 | 0, _, _, _, _, _, _, _, _ => none
 | k + 1, x0, x3, x10, x14, x358000, x358001, x358002, x358003 => if x14 < (x10.length : Int) then (if 0 ≤ x14 then (if x14 ≤ (x10.length : Int) then ((code_TakeText.f k (x10.take (x14 : Int).toNat)).bind fun bt411 => ((arraslaw5_num.f bt411.2.2).bind fun t414 => (if t414 = 7 then (arraslaw5_CodeBack.l1 k x0 x3 x10 (wrap64 (x14 + 1)) x358000 x358001 x358002 x358003) else (some false)))) else (none)) else (none)) else ((code_TakeNum.f k x358003).bind fun bt415 => ((arraslaw5_num.f bt415.2.2).bind fun t418 => (if t418 = 0 then ((code_Num.f k bt415.1).bind fun bt419 => ((arraslaw5_num.f bt419.2).bind fun t423 => (if t423 = 0 then (if 0 ≤ bt415.2.1 then (if bt415.2.1 ≤ (x358003.length : Int) then ((arrasref0_EqBytes.f k bt419.1 (x358003.take (bt415.2.1 : Int).toNat)).bind fun t425 => (if t425 = true then (arraslaw5_CodeBack.l0 k x0 (wrap64 (x3 + 1))) else (some false))) else (none)) else (none)) else (some false)))) else (arraslaw5_CodeBack.l0 k x0 (wrap64 (x3 + 1))))))
end
def arraslaw5_CodeBack.f (k : Nat) (l0 : List (S43)) : Option (Bool) := arraslaw5_CodeBack.l0 k l0 0
theorem arraslaw5_CodeBack.mono_l : ∀ k, (∀ y0 y1, LeO (arraslaw5_CodeBack.l0 k y0 y1) (arraslaw5_CodeBack.l0 (k + 1) y0 y1)) ∧ (∀ y0 y1 y2, LeO (arraslaw5_CodeBack.j1 k y0 y1 y2) (arraslaw5_CodeBack.j1 (k + 1) y0 y1 y2)) ∧ (∀ y0 y1 y2 y3 y4 y5 y6, LeO (arraslaw5_CodeBack.j2 k y0 y1 y2 y3 y4 y5 y6) (arraslaw5_CodeBack.j2 (k + 1) y0 y1 y2 y3 y4 y5 y6)) ∧ (∀ y0 y1 y2 y3 y4 y5 y6, LeO (arraslaw5_CodeBack.j3 k y0 y1 y2 y3 y4 y5 y6) (arraslaw5_CodeBack.j3 (k + 1) y0 y1 y2 y3 y4 y5 y6)) ∧ (∀ y0 y1 y2 y3 y4 y5 y6 y7, LeO (arraslaw5_CodeBack.j4 k y0 y1 y2 y3 y4 y5 y6 y7) (arraslaw5_CodeBack.j4 (k + 1) y0 y1 y2 y3 y4 y5 y6 y7)) ∧ (∀ y0 y1 y2 y3 y4 y5 y6 y7, LeO (arraslaw5_CodeBack.j5 k y0 y1 y2 y3 y4 y5 y6 y7) (arraslaw5_CodeBack.j5 (k + 1) y0 y1 y2 y3 y4 y5 y6 y7)) ∧ (∀ y0 y1 y2 y3 y4 y5 y6 y7, LeO (arraslaw5_CodeBack.l1 k y0 y1 y2 y3 y4 y5 y6 y7) (arraslaw5_CodeBack.l1 (k + 1) y0 y1 y2 y3 y4 y5 y6 y7))
 | 0 => ⟨fun _ _ r h => by simp [arraslaw5_CodeBack.l0] at h, fun _ _ _ r h => by simp [arraslaw5_CodeBack.j1] at h, fun _ _ _ _ _ _ _ r h => by simp [arraslaw5_CodeBack.j2] at h, fun _ _ _ _ _ _ _ r h => by simp [arraslaw5_CodeBack.j3] at h, fun _ _ _ _ _ _ _ _ r h => by simp [arraslaw5_CodeBack.j4] at h, fun _ _ _ _ _ _ _ _ r h => by simp [arraslaw5_CodeBack.j5] at h, fun _ _ _ _ _ _ _ _ r h => by simp [arraslaw5_CodeBack.l1] at h⟩
 | k + 1 => by
  obtain ⟨ih0, ih1, ih2, ih3, ih4, ih5, ih6⟩ := arraslaw5_CodeBack.mono_l k
  refine ⟨?_, ?_, ?_, ?_, ?_, ?_, ?_⟩
  ·intro y0 y1
   unfold arraslaw5_CodeBack.l0
   repeat' first
   | (with_reducible exact ih0 _ _)
   | (with_reducible exact ih1 _ _ _)
   | (with_reducible exact ih2 _ _ _ _ _ _ _)
   | (with_reducible exact ih3 _ _ _ _ _ _ _)
   | (with_reducible exact ih4 _ _ _ _ _ _ _ _)
   | (with_reducible exact ih5 _ _ _ _ _ _ _ _)
   | (with_reducible exact ih6 _ _ _ _ _ _ _ _)
   | (with_reducible exact arraslaw5_wakes.mono _)
   | (with_reducible exact arrasref0_CopyBytes.mono _ _)
   | (with_reducible exact arrasref0_EqBytes.mono _ _ _)
   | (with_reducible exact arrasref0_EqNumbers.mono _ _ _)
   | (with_reducible exact code_Num.mono _ _)
   | (with_reducible exact code_Nums.mono _ _)
   | (with_reducible exact code_TakeNum.mono _ _)
   | (with_reducible exact code_TakeNums.mono _ _)
   | (with_reducible exact code_TakeText.mono _ _)
   | (with_reducible exact code_Text.mono _ _)
   | (with_reducible exact LeO.refl _)
   | (with_reducible exact LeO.none _)
   | (with_reducible refine LeO.ite ?_ ?_)
   | (with_reducible refine LeO.bind ?_ (fun _ => ?_))
   | exact ih0 _ _
   | exact ih1 _ _ _
   | exact ih2 _ _ _ _ _ _ _
   | exact ih3 _ _ _ _ _ _ _
   | exact ih4 _ _ _ _ _ _ _ _
   | exact ih5 _ _ _ _ _ _ _ _
   | exact ih6 _ _ _ _ _ _ _ _
   | exact arraslaw5_wakes.mono _
   | exact arrasref0_CopyBytes.mono _ _
   | exact arrasref0_EqBytes.mono _ _ _
   | exact arrasref0_EqNumbers.mono _ _ _
   | exact code_Num.mono _ _
   | exact code_Nums.mono _ _
   | exact code_TakeNum.mono _ _
   | exact code_TakeNums.mono _ _
   | exact code_TakeText.mono _ _
   | exact code_Text.mono _ _
   | exact LeO.none _
   | refine LeO.ite ?_ ?_
   | refine LeO.bind ?_ (fun _ => ?_)
  ·intro y0 y1 y2
   unfold arraslaw5_CodeBack.j1
   repeat' first
   | (with_reducible exact ih0 _ _)
   | (with_reducible exact ih1 _ _ _)
   | (with_reducible exact ih2 _ _ _ _ _ _ _)
   | (with_reducible exact ih3 _ _ _ _ _ _ _)
   | (with_reducible exact ih4 _ _ _ _ _ _ _ _)
   | (with_reducible exact ih5 _ _ _ _ _ _ _ _)
   | (with_reducible exact ih6 _ _ _ _ _ _ _ _)
   | (with_reducible exact arraslaw5_wakes.mono _)
   | (with_reducible exact arrasref0_CopyBytes.mono _ _)
   | (with_reducible exact arrasref0_EqBytes.mono _ _ _)
   | (with_reducible exact arrasref0_EqNumbers.mono _ _ _)
   | (with_reducible exact code_Num.mono _ _)
   | (with_reducible exact code_Nums.mono _ _)
   | (with_reducible exact code_TakeNum.mono _ _)
   | (with_reducible exact code_TakeNums.mono _ _)
   | (with_reducible exact code_TakeText.mono _ _)
   | (with_reducible exact code_Text.mono _ _)
   | (with_reducible exact LeO.refl _)
   | (with_reducible exact LeO.none _)
   | (with_reducible refine LeO.ite ?_ ?_)
   | (with_reducible refine LeO.bind ?_ (fun _ => ?_))
   | exact ih0 _ _
   | exact ih1 _ _ _
   | exact ih2 _ _ _ _ _ _ _
   | exact ih3 _ _ _ _ _ _ _
   | exact ih4 _ _ _ _ _ _ _ _
   | exact ih5 _ _ _ _ _ _ _ _
   | exact ih6 _ _ _ _ _ _ _ _
   | exact arraslaw5_wakes.mono _
   | exact arrasref0_CopyBytes.mono _ _
   | exact arrasref0_EqBytes.mono _ _ _
   | exact arrasref0_EqNumbers.mono _ _ _
   | exact code_Num.mono _ _
   | exact code_Nums.mono _ _
   | exact code_TakeNum.mono _ _
   | exact code_TakeNums.mono _ _
   | exact code_TakeText.mono _ _
   | exact code_Text.mono _ _
   | exact LeO.none _
   | refine LeO.ite ?_ ?_
   | refine LeO.bind ?_ (fun _ => ?_)
  ·intro y0 y1 y2 y3 y4 y5 y6
   unfold arraslaw5_CodeBack.j2
   repeat' first
   | (with_reducible exact ih0 _ _)
   | (with_reducible exact ih1 _ _ _)
   | (with_reducible exact ih2 _ _ _ _ _ _ _)
   | (with_reducible exact ih3 _ _ _ _ _ _ _)
   | (with_reducible exact ih4 _ _ _ _ _ _ _ _)
   | (with_reducible exact ih5 _ _ _ _ _ _ _ _)
   | (with_reducible exact ih6 _ _ _ _ _ _ _ _)
   | (with_reducible exact arraslaw5_wakes.mono _)
   | (with_reducible exact arrasref0_CopyBytes.mono _ _)
   | (with_reducible exact arrasref0_EqBytes.mono _ _ _)
   | (with_reducible exact arrasref0_EqNumbers.mono _ _ _)
   | (with_reducible exact code_Num.mono _ _)
   | (with_reducible exact code_Nums.mono _ _)
   | (with_reducible exact code_TakeNum.mono _ _)
   | (with_reducible exact code_TakeNums.mono _ _)
   | (with_reducible exact code_TakeText.mono _ _)
   | (with_reducible exact code_Text.mono _ _)
   | (with_reducible exact LeO.refl _)
   | (with_reducible exact LeO.none _)
   | (with_reducible refine LeO.ite ?_ ?_)
   | (with_reducible refine LeO.bind ?_ (fun _ => ?_))
   | exact ih0 _ _
   | exact ih1 _ _ _
   | exact ih2 _ _ _ _ _ _ _
   | exact ih3 _ _ _ _ _ _ _
   | exact ih4 _ _ _ _ _ _ _ _
   | exact ih5 _ _ _ _ _ _ _ _
   | exact ih6 _ _ _ _ _ _ _ _
   | exact arraslaw5_wakes.mono _
   | exact arrasref0_CopyBytes.mono _ _
   | exact arrasref0_EqBytes.mono _ _ _
   | exact arrasref0_EqNumbers.mono _ _ _
   | exact code_Num.mono _ _
   | exact code_Nums.mono _ _
   | exact code_TakeNum.mono _ _
   | exact code_TakeNums.mono _ _
   | exact code_TakeText.mono _ _
   | exact code_Text.mono _ _
   | exact LeO.none _
   | refine LeO.ite ?_ ?_
   | refine LeO.bind ?_ (fun _ => ?_)
  ·intro y0 y1 y2 y3 y4 y5 y6
   unfold arraslaw5_CodeBack.j3
   repeat' first
   | (with_reducible exact ih0 _ _)
   | (with_reducible exact ih1 _ _ _)
   | (with_reducible exact ih2 _ _ _ _ _ _ _)
   | (with_reducible exact ih3 _ _ _ _ _ _ _)
   | (with_reducible exact ih4 _ _ _ _ _ _ _ _)
   | (with_reducible exact ih5 _ _ _ _ _ _ _ _)
   | (with_reducible exact ih6 _ _ _ _ _ _ _ _)
   | (with_reducible exact arraslaw5_wakes.mono _)
   | (with_reducible exact arrasref0_CopyBytes.mono _ _)
   | (with_reducible exact arrasref0_EqBytes.mono _ _ _)
   | (with_reducible exact arrasref0_EqNumbers.mono _ _ _)
   | (with_reducible exact code_Num.mono _ _)
   | (with_reducible exact code_Nums.mono _ _)
   | (with_reducible exact code_TakeNum.mono _ _)
   | (with_reducible exact code_TakeNums.mono _ _)
   | (with_reducible exact code_TakeText.mono _ _)
   | (with_reducible exact code_Text.mono _ _)
   | (with_reducible exact LeO.refl _)
   | (with_reducible exact LeO.none _)
   | (with_reducible refine LeO.ite ?_ ?_)
   | (with_reducible refine LeO.bind ?_ (fun _ => ?_))
   | exact ih0 _ _
   | exact ih1 _ _ _
   | exact ih2 _ _ _ _ _ _ _
   | exact ih3 _ _ _ _ _ _ _
   | exact ih4 _ _ _ _ _ _ _ _
   | exact ih5 _ _ _ _ _ _ _ _
   | exact ih6 _ _ _ _ _ _ _ _
   | exact arraslaw5_wakes.mono _
   | exact arrasref0_CopyBytes.mono _ _
   | exact arrasref0_EqBytes.mono _ _ _
   | exact arrasref0_EqNumbers.mono _ _ _
   | exact code_Num.mono _ _
   | exact code_Nums.mono _ _
   | exact code_TakeNum.mono _ _
   | exact code_TakeNums.mono _ _
   | exact code_TakeText.mono _ _
   | exact code_Text.mono _ _
   | exact LeO.none _
   | refine LeO.ite ?_ ?_
   | refine LeO.bind ?_ (fun _ => ?_)
  ·intro y0 y1 y2 y3 y4 y5 y6 y7
   unfold arraslaw5_CodeBack.j4
   repeat' first
   | (with_reducible exact ih0 _ _)
   | (with_reducible exact ih1 _ _ _)
   | (with_reducible exact ih2 _ _ _ _ _ _ _)
   | (with_reducible exact ih3 _ _ _ _ _ _ _)
   | (with_reducible exact ih4 _ _ _ _ _ _ _ _)
   | (with_reducible exact ih5 _ _ _ _ _ _ _ _)
   | (with_reducible exact ih6 _ _ _ _ _ _ _ _)
   | (with_reducible exact arraslaw5_wakes.mono _)
   | (with_reducible exact arrasref0_CopyBytes.mono _ _)
   | (with_reducible exact arrasref0_EqBytes.mono _ _ _)
   | (with_reducible exact arrasref0_EqNumbers.mono _ _ _)
   | (with_reducible exact code_Num.mono _ _)
   | (with_reducible exact code_Nums.mono _ _)
   | (with_reducible exact code_TakeNum.mono _ _)
   | (with_reducible exact code_TakeNums.mono _ _)
   | (with_reducible exact code_TakeText.mono _ _)
   | (with_reducible exact code_Text.mono _ _)
   | (with_reducible exact LeO.refl _)
   | (with_reducible exact LeO.none _)
   | (with_reducible refine LeO.ite ?_ ?_)
   | (with_reducible refine LeO.bind ?_ (fun _ => ?_))
   | exact ih0 _ _
   | exact ih1 _ _ _
   | exact ih2 _ _ _ _ _ _ _
   | exact ih3 _ _ _ _ _ _ _
   | exact ih4 _ _ _ _ _ _ _ _
   | exact ih5 _ _ _ _ _ _ _ _
   | exact ih6 _ _ _ _ _ _ _ _
   | exact arraslaw5_wakes.mono _
   | exact arrasref0_CopyBytes.mono _ _
   | exact arrasref0_EqBytes.mono _ _ _
   | exact arrasref0_EqNumbers.mono _ _ _
   | exact code_Num.mono _ _
   | exact code_Nums.mono _ _
   | exact code_TakeNum.mono _ _
   | exact code_TakeNums.mono _ _
   | exact code_TakeText.mono _ _
   | exact code_Text.mono _ _
   | exact LeO.none _
   | refine LeO.ite ?_ ?_
   | refine LeO.bind ?_ (fun _ => ?_)
  ·intro y0 y1 y2 y3 y4 y5 y6 y7
   unfold arraslaw5_CodeBack.j5
   repeat' first
   | (with_reducible exact ih0 _ _)
   | (with_reducible exact ih1 _ _ _)
   | (with_reducible exact ih2 _ _ _ _ _ _ _)
   | (with_reducible exact ih3 _ _ _ _ _ _ _)
   | (with_reducible exact ih4 _ _ _ _ _ _ _ _)
   | (with_reducible exact ih5 _ _ _ _ _ _ _ _)
   | (with_reducible exact ih6 _ _ _ _ _ _ _ _)
   | (with_reducible exact arraslaw5_wakes.mono _)
   | (with_reducible exact arrasref0_CopyBytes.mono _ _)
   | (with_reducible exact arrasref0_EqBytes.mono _ _ _)
   | (with_reducible exact arrasref0_EqNumbers.mono _ _ _)
   | (with_reducible exact code_Num.mono _ _)
   | (with_reducible exact code_Nums.mono _ _)
   | (with_reducible exact code_TakeNum.mono _ _)
   | (with_reducible exact code_TakeNums.mono _ _)
   | (with_reducible exact code_TakeText.mono _ _)
   | (with_reducible exact code_Text.mono _ _)
   | (with_reducible exact LeO.refl _)
   | (with_reducible exact LeO.none _)
   | (with_reducible refine LeO.ite ?_ ?_)
   | (with_reducible refine LeO.bind ?_ (fun _ => ?_))
   | exact ih0 _ _
   | exact ih1 _ _ _
   | exact ih2 _ _ _ _ _ _ _
   | exact ih3 _ _ _ _ _ _ _
   | exact ih4 _ _ _ _ _ _ _ _
   | exact ih5 _ _ _ _ _ _ _ _
   | exact ih6 _ _ _ _ _ _ _ _
   | exact arraslaw5_wakes.mono _
   | exact arrasref0_CopyBytes.mono _ _
   | exact arrasref0_EqBytes.mono _ _ _
   | exact arrasref0_EqNumbers.mono _ _ _
   | exact code_Num.mono _ _
   | exact code_Nums.mono _ _
   | exact code_TakeNum.mono _ _
   | exact code_TakeNums.mono _ _
   | exact code_TakeText.mono _ _
   | exact code_Text.mono _ _
   | exact LeO.none _
   | refine LeO.ite ?_ ?_
   | refine LeO.bind ?_ (fun _ => ?_)
  ·intro y0 y1 y2 y3 y4 y5 y6 y7
   unfold arraslaw5_CodeBack.l1
   repeat' first
   | (with_reducible exact ih0 _ _)
   | (with_reducible exact ih1 _ _ _)
   | (with_reducible exact ih2 _ _ _ _ _ _ _)
   | (with_reducible exact ih3 _ _ _ _ _ _ _)
   | (with_reducible exact ih4 _ _ _ _ _ _ _ _)
   | (with_reducible exact ih5 _ _ _ _ _ _ _ _)
   | (with_reducible exact ih6 _ _ _ _ _ _ _ _)
   | (with_reducible exact arraslaw5_wakes.mono _)
   | (with_reducible exact arrasref0_CopyBytes.mono _ _)
   | (with_reducible exact arrasref0_EqBytes.mono _ _ _)
   | (with_reducible exact arrasref0_EqNumbers.mono _ _ _)
   | (with_reducible exact code_Num.mono _ _)
   | (with_reducible exact code_Nums.mono _ _)
   | (with_reducible exact code_TakeNum.mono _ _)
   | (with_reducible exact code_TakeNums.mono _ _)
   | (with_reducible exact code_TakeText.mono _ _)
   | (with_reducible exact code_Text.mono _ _)
   | (with_reducible exact LeO.refl _)
   | (with_reducible exact LeO.none _)
   | (with_reducible refine LeO.ite ?_ ?_)
   | (with_reducible refine LeO.bind ?_ (fun _ => ?_))
   | exact ih0 _ _
   | exact ih1 _ _ _
   | exact ih2 _ _ _ _ _ _ _
   | exact ih3 _ _ _ _ _ _ _
   | exact ih4 _ _ _ _ _ _ _ _
   | exact ih5 _ _ _ _ _ _ _ _
   | exact ih6 _ _ _ _ _ _ _ _
   | exact arraslaw5_wakes.mono _
   | exact arrasref0_CopyBytes.mono _ _
   | exact arrasref0_EqBytes.mono _ _ _
   | exact arrasref0_EqNumbers.mono _ _ _
   | exact code_Num.mono _ _
   | exact code_Nums.mono _ _
   | exact code_TakeNum.mono _ _
   | exact code_TakeNums.mono _ _
   | exact code_TakeText.mono _ _
   | exact code_Text.mono _ _
   | exact LeO.none _
   | refine LeO.ite ?_ ?_
   | refine LeO.bind ?_ (fun _ => ?_)
theorem arraslaw5_CodeBack.mono : ∀ a0 k, LeO (arraslaw5_CodeBack.f k a0) (arraslaw5_CodeBack.f (k + 1) a0) := by
 intro a0 k
 obtain ⟨ih0, ih1, ih2, ih3, ih4, ih5, ih6⟩ := arraslaw5_CodeBack.mono_l k
 unfold arraslaw5_CodeBack.f
 repeat' first
   | (with_reducible exact ih0 _ _)
   | (with_reducible exact ih1 _ _ _)
   | (with_reducible exact ih2 _ _ _ _ _ _ _)
   | (with_reducible exact ih3 _ _ _ _ _ _ _)
   | (with_reducible exact ih4 _ _ _ _ _ _ _ _)
   | (with_reducible exact ih5 _ _ _ _ _ _ _ _)
   | (with_reducible exact ih6 _ _ _ _ _ _ _ _)
   | (with_reducible exact arraslaw5_wakes.mono _)
   | (with_reducible exact arrasref0_CopyBytes.mono _ _)
   | (with_reducible exact arrasref0_EqBytes.mono _ _ _)
   | (with_reducible exact arrasref0_EqNumbers.mono _ _ _)
   | (with_reducible exact code_Num.mono _ _)
   | (with_reducible exact code_Nums.mono _ _)
   | (with_reducible exact code_TakeNum.mono _ _)
   | (with_reducible exact code_TakeNums.mono _ _)
   | (with_reducible exact code_TakeText.mono _ _)
   | (with_reducible exact code_Text.mono _ _)
   | (with_reducible exact LeO.refl _)
   | (with_reducible exact LeO.none _)
   | (with_reducible refine LeO.ite ?_ ?_)
   | (with_reducible refine LeO.bind ?_ (fun _ => ?_))
   | exact ih0 _ _
   | exact ih1 _ _ _
   | exact ih2 _ _ _ _ _ _ _
   | exact ih3 _ _ _ _ _ _ _
   | exact ih4 _ _ _ _ _ _ _ _
   | exact ih5 _ _ _ _ _ _ _ _
   | exact ih6 _ _ _ _ _ _ _ _
   | exact arraslaw5_wakes.mono _
   | exact arrasref0_CopyBytes.mono _ _
   | exact arrasref0_EqBytes.mono _ _ _
   | exact arrasref0_EqNumbers.mono _ _ _
   | exact code_Num.mono _ _
   | exact code_Nums.mono _ _
   | exact code_TakeNum.mono _ _
   | exact code_TakeNums.mono _ _
   | exact code_TakeText.mono _ _
   | exact code_Text.mono _ _
   | exact LeO.none _
   | refine LeO.ite ?_ ?_
   | refine LeO.bind ?_ (fun _ => ?_)
def arraslaw5_CodeBack.T8 : Bool × List (List Nat × List Nat) := (true, [([], []), ([0], [0]), ([], []), ([2], [2]), ([1, 3, 1], [1, 3]), ([4, 4], [4]), ([5], [5]), ([6], [6]), ([6], [6]), ([6], [6]), ([7, 5, 0, 1, 2, 3, 4, 5, 6, 7], [7]), ([8, 10, 0, 1, 2, 3, 4, 5, 6, 7, 8, 10], [8]), ([9, 11, 0, 1, 2, 3, 4, 5, 6, 7, 8, 9, 10, 11], [9])])
def arraslaw5_CodeBack.B8 : List Nat := [0, 1, 0, 4, 15, 31, 63, 127, 127, 127, 255, 1535, 4095]
theorem arraslaw5_CodeBack.tab8 : rtab .any (opsOf Try.f8 8) = arraslaw5_CodeBack.T8 := by kernel_rfl
theorem arraslaw5_CodeBack.bits8 : waitsOk arraslaw5_CodeBack.T8.2 arraslaw5_CodeBack.B8 = true := by kernel_rfl
def arraslaw5_CodeBack.T12 : Bool × List (List Nat × List Nat) := (true, [([], []), ([0], [0]), ([], []), ([2], [2]), ([1, 3, 1], [1, 3]), ([4, 4], [4]), ([5], [5]), ([6], [6]), ([6], [6]), ([6], [6]), ([7, 5, 0, 1, 2, 3, 4, 5, 6, 7], [7]), ([8, 10, 0, 1, 2, 3, 4, 5, 6, 7, 8, 10], [8]), ([9, 11, 0, 1, 2, 3, 4, 5, 6, 7, 8, 9, 10, 11], [9])])
def arraslaw5_CodeBack.B12 : List Nat := [0, 1, 0, 4, 15, 31, 63, 127, 127, 127, 255, 1535, 4095]
theorem arraslaw5_CodeBack.tab12 : rtab .any (opsOf Try.f8 12) = arraslaw5_CodeBack.T12 := by kernel_rfl
theorem arraslaw5_CodeBack.bits12 : waitsOk arraslaw5_CodeBack.T12.2 arraslaw5_CodeBack.B12 = true := by kernel_rfl
def arraslaw5_CodeBack.T16 : Bool × List (List Nat × List Nat) := (true, [([], []), ([0], [0]), ([], []), ([2], [2]), ([1, 3, 1], [1, 3]), ([4, 4], [4]), ([5], [5]), ([6], [6]), ([6], [6]), ([6], [6]), ([7, 5, 0, 1, 2, 3, 4, 5, 6, 7], [7]), ([8, 10, 0, 1, 2, 3, 4, 5, 6, 7, 8, 10], [8]), ([9, 11, 0, 1, 2, 3, 4, 5, 6, 7, 8, 9, 10, 11], [9])])
def arraslaw5_CodeBack.B16 : List Nat := [0, 1, 0, 4, 15, 31, 63, 127, 127, 127, 255, 1535, 4095]
theorem arraslaw5_CodeBack.tab16 : rtab .any (opsOf Try.f8 16) = arraslaw5_CodeBack.T16 := by kernel_rfl
theorem arraslaw5_CodeBack.bits16 : waitsOk arraslaw5_CodeBack.T16.2 arraslaw5_CodeBack.B16 = true := by kernel_rfl
noncomputable def arraslaw5_CodeBack.L0 (x0 : List (S43)) (x3 : Int) : Option (Bool) := Go.Proofs.YtpmcojmhkpaoaaaLabel.lim (fun k => arraslaw5_CodeBack.l0 k x0 x3)
noncomputable def arraslaw5_CodeBack.J1 (x0 : List (S43)) (x3 : Int) (x27 : Bool) : Option (Bool) := Go.Proofs.YtpmcojmhkpaoaaaLabel.lim (fun k => arraslaw5_CodeBack.j1 k x0 x3 x27)
noncomputable def arraslaw5_CodeBack.J2 (x0 : List (S43)) (x3 : Int) (x47 : Bool) (x358000 : Int) (x358001 : ByteArray) (x358002 : List Int) (x358003 : List Int) : Option (Bool) := Go.Proofs.YtpmcojmhkpaoaaaLabel.lim (fun k => arraslaw5_CodeBack.j2 k x0 x3 x47 x358000 x358001 x358002 x358003)
noncomputable def arraslaw5_CodeBack.J3 (x0 : List (S43)) (x3 : Int) (x83 : Bool) (x358000 : Int) (x358001 : ByteArray) (x358002 : List Int) (x358003 : List Int) : Option (Bool) := Go.Proofs.YtpmcojmhkpaoaaaLabel.lim (fun k => arraslaw5_CodeBack.j3 k x0 x3 x83 x358000 x358001 x358002 x358003)
noncomputable def arraslaw5_CodeBack.J4 (x0 : List (S43)) (x3 : Int) (x10 : List Int) (x119 : Bool) (x358000 : Int) (x358001 : ByteArray) (x358002 : List Int) (x358003 : List Int) : Option (Bool) := Go.Proofs.YtpmcojmhkpaoaaaLabel.lim (fun k => arraslaw5_CodeBack.j4 k x0 x3 x10 x119 x358000 x358001 x358002 x358003)
noncomputable def arraslaw5_CodeBack.J5 (x0 : List (S43)) (x3 : Int) (x10 : List Int) (x156 : Bool) (x358000 : Int) (x358001 : ByteArray) (x358002 : List Int) (x358003 : List Int) : Option (Bool) := Go.Proofs.YtpmcojmhkpaoaaaLabel.lim (fun k => arraslaw5_CodeBack.j5 k x0 x3 x10 x156 x358000 x358001 x358002 x358003)
noncomputable def arraslaw5_CodeBack.L1 (x0 : List (S43)) (x3 : Int) (x10 : List Int) (x14 : Int) (x358000 : Int) (x358001 : ByteArray) (x358002 : List Int) (x358003 : List Int) : Option (Bool) := Go.Proofs.YtpmcojmhkpaoaaaLabel.lim (fun k => arraslaw5_CodeBack.l1 k x0 x3 x10 x14 x358000 x358001 x358002 x358003)
theorem arraslaw5_CodeBack.L0_lim (x0 : List (S43)) (x3 : Int) : Go.Proofs.YtpmcojmhkpaoaaaLabel.Lim (fun k => arraslaw5_CodeBack.l0 k x0 x3) (arraslaw5_CodeBack.L0 x0 x3) := Go.Proofs.YtpmcojmhkpaoaaaLabel.lim_spec (fun k => (arraslaw5_CodeBack.mono_l k).1 x0 x3)
theorem arraslaw5_CodeBack.J1_lim (x0 : List (S43)) (x3 : Int) (x27 : Bool) : Go.Proofs.YtpmcojmhkpaoaaaLabel.Lim (fun k => arraslaw5_CodeBack.j1 k x0 x3 x27) (arraslaw5_CodeBack.J1 x0 x3 x27) := Go.Proofs.YtpmcojmhkpaoaaaLabel.lim_spec (fun k => (arraslaw5_CodeBack.mono_l k).2.1 x0 x3 x27)
theorem arraslaw5_CodeBack.J2_lim (x0 : List (S43)) (x3 : Int) (x47 : Bool) (x358000 : Int) (x358001 : ByteArray) (x358002 : List Int) (x358003 : List Int) : Go.Proofs.YtpmcojmhkpaoaaaLabel.Lim (fun k => arraslaw5_CodeBack.j2 k x0 x3 x47 x358000 x358001 x358002 x358003) (arraslaw5_CodeBack.J2 x0 x3 x47 x358000 x358001 x358002 x358003) := Go.Proofs.YtpmcojmhkpaoaaaLabel.lim_spec (fun k => (arraslaw5_CodeBack.mono_l k).2.2.1 x0 x3 x47 x358000 x358001 x358002 x358003)
theorem arraslaw5_CodeBack.J3_lim (x0 : List (S43)) (x3 : Int) (x83 : Bool) (x358000 : Int) (x358001 : ByteArray) (x358002 : List Int) (x358003 : List Int) : Go.Proofs.YtpmcojmhkpaoaaaLabel.Lim (fun k => arraslaw5_CodeBack.j3 k x0 x3 x83 x358000 x358001 x358002 x358003) (arraslaw5_CodeBack.J3 x0 x3 x83 x358000 x358001 x358002 x358003) := Go.Proofs.YtpmcojmhkpaoaaaLabel.lim_spec (fun k => (arraslaw5_CodeBack.mono_l k).2.2.2.1 x0 x3 x83 x358000 x358001 x358002 x358003)
theorem arraslaw5_CodeBack.J4_lim (x0 : List (S43)) (x3 : Int) (x10 : List Int) (x119 : Bool) (x358000 : Int) (x358001 : ByteArray) (x358002 : List Int) (x358003 : List Int) : Go.Proofs.YtpmcojmhkpaoaaaLabel.Lim (fun k => arraslaw5_CodeBack.j4 k x0 x3 x10 x119 x358000 x358001 x358002 x358003) (arraslaw5_CodeBack.J4 x0 x3 x10 x119 x358000 x358001 x358002 x358003) := Go.Proofs.YtpmcojmhkpaoaaaLabel.lim_spec (fun k => (arraslaw5_CodeBack.mono_l k).2.2.2.2.1 x0 x3 x10 x119 x358000 x358001 x358002 x358003)
theorem arraslaw5_CodeBack.J5_lim (x0 : List (S43)) (x3 : Int) (x10 : List Int) (x156 : Bool) (x358000 : Int) (x358001 : ByteArray) (x358002 : List Int) (x358003 : List Int) : Go.Proofs.YtpmcojmhkpaoaaaLabel.Lim (fun k => arraslaw5_CodeBack.j5 k x0 x3 x10 x156 x358000 x358001 x358002 x358003) (arraslaw5_CodeBack.J5 x0 x3 x10 x156 x358000 x358001 x358002 x358003) := Go.Proofs.YtpmcojmhkpaoaaaLabel.lim_spec (fun k => (arraslaw5_CodeBack.mono_l k).2.2.2.2.2.1 x0 x3 x10 x156 x358000 x358001 x358002 x358003)
theorem arraslaw5_CodeBack.L1_lim (x0 : List (S43)) (x3 : Int) (x10 : List Int) (x14 : Int) (x358000 : Int) (x358001 : ByteArray) (x358002 : List Int) (x358003 : List Int) : Go.Proofs.YtpmcojmhkpaoaaaLabel.Lim (fun k => arraslaw5_CodeBack.l1 k x0 x3 x10 x14 x358000 x358001 x358002 x358003) (arraslaw5_CodeBack.L1 x0 x3 x10 x14 x358000 x358001 x358002 x358003) := Go.Proofs.YtpmcojmhkpaoaaaLabel.lim_spec (fun k => (arraslaw5_CodeBack.mono_l k).2.2.2.2.2.2 x0 x3 x10 x14 x358000 x358001 x358002 x358003)
theorem arraslaw5_CodeBack.L0_eq (x0 : List (S43)) (x3 : Int) : arraslaw5_CodeBack.L0 x0 x3 = (if x3 < (x0.length : Int) then (arraslaw5_CodeBack.J1 x0 x3 (decide (x3 < 20))) else (arraslaw5_CodeBack.J1 x0 x3 false)) := by
  refine Go.Proofs.YtpmcojmhkpaoaaaLabel.Lim.unique (arraslaw5_CodeBack.L0_lim x0 x3).shift ?_
  simp only [arraslaw5_CodeBack.l0]
  (repeat' (first | exact Go.Proofs.YtpmcojmhkpaoaaaLabel.Lim.const _ | exact arraslaw5_CodeBack.L0_lim _ _ | exact arraslaw5_CodeBack.J1_lim _ _ _ | exact arraslaw5_CodeBack.J2_lim _ _ _ _ _ _ _ | exact arraslaw5_CodeBack.J3_lim _ _ _ _ _ _ _ | exact arraslaw5_CodeBack.J4_lim _ _ _ _ _ _ _ _ | exact arraslaw5_CodeBack.J5_lim _ _ _ _ _ _ _ _ | exact arraslaw5_CodeBack.L1_lim _ _ _ _ _ _ _ _ | exact arraslaw5_wakes.F_lim | exact arrasref0_CopyBytes.F_lim _ | exact arrasref0_EqBytes.F_lim _ _ | exact arrasref0_EqNumbers.F_lim _ _ | exact code_Num.F_lim _ | exact code_Nums.F_lim _ | exact code_TakeNum.F_lim _ | exact code_TakeNums.F_lim _ | exact code_TakeText.F_lim _ | exact code_Text.F_lim _ | refine Go.Proofs.YtpmcojmhkpaoaaaLabel.Lim.ite ?_ ?_ | refine Go.Proofs.YtpmcojmhkpaoaaaLabel.Lim.bind ?_ (fun _ => ?_)))
theorem arraslaw5_CodeBack.J1_eq (x0 : List (S43)) (x3 : Int) (x27 : Bool) : arraslaw5_CodeBack.J1 x0 x3 x27 = (if x27 = true then (if 0 ≤ x3 then (if x3 < (x0.length : Int) then ((arraslaw5_heavy.f ((rd_T43 x0 x3).f0) ((rd_T43 x0 x3).f1) ((rd_T43 x0 x3).f2) ((rd_T43 x0 x3).f3)).bind fun t358 => (if t358 = true then (arraslaw5_CodeBack.J2 x0 x3 true ((rd_T43 x0 x3).f0) ((rd_T43 x0 x3).f1) ((rd_T43 x0 x3).f2) ((rd_T43 x0 x3).f3)) else (if (((rd_T43 x0 x3).f1).size : Int) > 300 then (arraslaw5_CodeBack.J2 x0 x3 true ((rd_T43 x0 x3).f0) ((rd_T43 x0 x3).f1) ((rd_T43 x0 x3).f2) ((rd_T43 x0 x3).f3)) else (arraslaw5_CodeBack.J2 x0 x3 (decide ((((rd_T43 x0 x3).f2).length : Int) > 50)) ((rd_T43 x0 x3).f0) ((rd_T43 x0 x3).f1) ((rd_T43 x0 x3).f2) ((rd_T43 x0 x3).f3))))) else (none)) else (none)) else ((arraslaw5_wakes.F).bind fun t355 => (some t355))) := by
  refine Go.Proofs.YtpmcojmhkpaoaaaLabel.Lim.unique (arraslaw5_CodeBack.J1_lim x0 x3 x27).shift ?_
  simp only [arraslaw5_CodeBack.j1]
  (repeat' (first | exact Go.Proofs.YtpmcojmhkpaoaaaLabel.Lim.const _ | exact arraslaw5_CodeBack.L0_lim _ _ | exact arraslaw5_CodeBack.J1_lim _ _ _ | exact arraslaw5_CodeBack.J2_lim _ _ _ _ _ _ _ | exact arraslaw5_CodeBack.J3_lim _ _ _ _ _ _ _ | exact arraslaw5_CodeBack.J4_lim _ _ _ _ _ _ _ _ | exact arraslaw5_CodeBack.J5_lim _ _ _ _ _ _ _ _ | exact arraslaw5_CodeBack.L1_lim _ _ _ _ _ _ _ _ | exact arraslaw5_wakes.F_lim | exact arrasref0_CopyBytes.F_lim _ | exact arrasref0_EqBytes.F_lim _ _ | exact arrasref0_EqNumbers.F_lim _ _ | exact code_Num.F_lim _ | exact code_Nums.F_lim _ | exact code_TakeNum.F_lim _ | exact code_TakeNums.F_lim _ | exact code_TakeText.F_lim _ | exact code_Text.F_lim _ | refine Go.Proofs.YtpmcojmhkpaoaaaLabel.Lim.ite ?_ ?_ | refine Go.Proofs.YtpmcojmhkpaoaaaLabel.Lim.bind ?_ (fun _ => ?_)))
theorem arraslaw5_CodeBack.J2_eq (x0 : List (S43)) (x3 : Int) (x47 : Bool) (x358000 : Int) (x358001 : ByteArray) (x358002 : List Int) (x358003 : List Int) : arraslaw5_CodeBack.J2 x0 x3 x47 x358000 x358001 x358002 x358003 = (if x47 = true then (some true) else ((code_Num.F x358000).bind fun bt359 => ((arrasref0_CopyBytes.F bt359.1).bind fun t363 => (if t363.length + x358003.length < 140737488355328 then ((code_TakeNum.F (t363 ++ x358003)).bind fun bt369 => ((arraslaw5_num.f bt359.2).bind fun t372 => (if t372 = 0 then ((arraslaw5_num.f bt369.2.2).bind fun t373 => (if t373 = 0 then (if bt369.1 = x358000 then (arraslaw5_CodeBack.J3 x0 x3 (bt369.2.1 != (bt359.1.length : Int)) x358000 x358001 x358002 x358003) else (arraslaw5_CodeBack.J3 x0 x3 true x358000 x358001 x358002 x358003)) else (arraslaw5_CodeBack.J3 x0 x3 true x358000 x358001 x358002 x358003))) else (arraslaw5_CodeBack.J3 x0 x3 false x358000 x358001 x358002 x358003)))) else (none))))) := by
  refine Go.Proofs.YtpmcojmhkpaoaaaLabel.Lim.unique (arraslaw5_CodeBack.J2_lim x0 x3 x47 x358000 x358001 x358002 x358003).shift ?_
  simp only [arraslaw5_CodeBack.j2]
  (repeat' (first | exact Go.Proofs.YtpmcojmhkpaoaaaLabel.Lim.const _ | exact arraslaw5_CodeBack.L0_lim _ _ | exact arraslaw5_CodeBack.J1_lim _ _ _ | exact arraslaw5_CodeBack.J2_lim _ _ _ _ _ _ _ | exact arraslaw5_CodeBack.J3_lim _ _ _ _ _ _ _ | exact arraslaw5_CodeBack.J4_lim _ _ _ _ _ _ _ _ | exact arraslaw5_CodeBack.J5_lim _ _ _ _ _ _ _ _ | exact arraslaw5_CodeBack.L1_lim _ _ _ _ _ _ _ _ | exact arraslaw5_wakes.F_lim | exact arrasref0_CopyBytes.F_lim _ | exact arrasref0_EqBytes.F_lim _ _ | exact arrasref0_EqNumbers.F_lim _ _ | exact code_Num.F_lim _ | exact code_Nums.F_lim _ | exact code_TakeNum.F_lim _ | exact code_TakeNums.F_lim _ | exact code_TakeText.F_lim _ | exact code_Text.F_lim _ | refine Go.Proofs.YtpmcojmhkpaoaaaLabel.Lim.ite ?_ ?_ | refine Go.Proofs.YtpmcojmhkpaoaaaLabel.Lim.bind ?_ (fun _ => ?_)))
theorem arraslaw5_CodeBack.J3_eq (x0 : List (S43)) (x3 : Int) (x83 : Bool) (x358000 : Int) (x358001 : ByteArray) (x358002 : List Int) (x358003 : List Int) : arraslaw5_CodeBack.J3 x0 x3 x83 x358000 x358001 x358002 x358003 = (if x83 = true then (some false) else ((code_Text.F x358001).bind fun bt374 => ((arrasref0_CopyBytes.F bt374.1).bind fun t378 => (if t378.length + x358003.length < 140737488355328 then ((code_TakeText.F (t378 ++ x358003)).bind fun bt384 => ((arraslaw5_num.f bt374.2).bind fun t387 => (if t387 = 0 then ((arraslaw5_num.f bt384.2.2).bind fun t388 => (if t388 = 0 then (if bt384.1.toList = x358001.toList then (arraslaw5_CodeBack.J4 x0 x3 bt374.1 (bt384.2.1 != (bt374.1.length : Int)) x358000 x358001 x358002 x358003) else (arraslaw5_CodeBack.J4 x0 x3 bt374.1 true x358000 x358001 x358002 x358003)) else (arraslaw5_CodeBack.J4 x0 x3 bt374.1 true x358000 x358001 x358002 x358003))) else (arraslaw5_CodeBack.J4 x0 x3 bt374.1 true x358000 x358001 x358002 x358003)))) else (none))))) := by
  refine Go.Proofs.YtpmcojmhkpaoaaaLabel.Lim.unique (arraslaw5_CodeBack.J3_lim x0 x3 x83 x358000 x358001 x358002 x358003).shift ?_
  simp only [arraslaw5_CodeBack.j3]
  (repeat' (first | exact Go.Proofs.YtpmcojmhkpaoaaaLabel.Lim.const _ | exact arraslaw5_CodeBack.L0_lim _ _ | exact arraslaw5_CodeBack.J1_lim _ _ _ | exact arraslaw5_CodeBack.J2_lim _ _ _ _ _ _ _ | exact arraslaw5_CodeBack.J3_lim _ _ _ _ _ _ _ | exact arraslaw5_CodeBack.J4_lim _ _ _ _ _ _ _ _ | exact arraslaw5_CodeBack.J5_lim _ _ _ _ _ _ _ _ | exact arraslaw5_CodeBack.L1_lim _ _ _ _ _ _ _ _ | exact arraslaw5_wakes.F_lim | exact arrasref0_CopyBytes.F_lim _ | exact arrasref0_EqBytes.F_lim _ _ | exact arrasref0_EqNumbers.F_lim _ _ | exact code_Num.F_lim _ | exact code_Nums.F_lim _ | exact code_TakeNum.F_lim _ | exact code_TakeNums.F_lim _ | exact code_TakeText.F_lim _ | exact code_Text.F_lim _ | refine Go.Proofs.YtpmcojmhkpaoaaaLabel.Lim.ite ?_ ?_ | refine Go.Proofs.YtpmcojmhkpaoaaaLabel.Lim.bind ?_ (fun _ => ?_)))
theorem arraslaw5_CodeBack.J4_eq (x0 : List (S43)) (x3 : Int) (x10 : List Int) (x119 : Bool) (x358000 : Int) (x358001 : ByteArray) (x358002 : List Int) (x358003 : List Int) : arraslaw5_CodeBack.J4 x0 x3 x10 x119 x358000 x358001 x358002 x358003 = (if x119 = true then (some false) else ((code_Nums.F x358002).bind fun bt389 => ((arrasref0_CopyBytes.F bt389.1).bind fun t393 => (if t393.length + x358003.length < 140737488355328 then ((code_TakeNums.F (t393 ++ x358003)).bind fun bt399 => ((arraslaw5_num.f bt389.2).bind fun t404 => (if t404 = 0 then ((arraslaw5_num.f bt399.2.2).bind fun t405 => (if t405 = 0 then ((arrasref0_EqNumbers.F bt399.1 x358002).bind fun t406 => (if t406 = true then (arraslaw5_CodeBack.J5 x0 x3 x10 (bt399.2.1 != (bt389.1.length : Int)) x358000 x358001 x358002 x358003) else (arraslaw5_CodeBack.J5 x0 x3 x10 true x358000 x358001 x358002 x358003))) else (arraslaw5_CodeBack.J5 x0 x3 x10 true x358000 x358001 x358002 x358003))) else (arraslaw5_CodeBack.J5 x0 x3 x10 false x358000 x358001 x358002 x358003)))) else (none))))) := by
  refine Go.Proofs.YtpmcojmhkpaoaaaLabel.Lim.unique (arraslaw5_CodeBack.J4_lim x0 x3 x10 x119 x358000 x358001 x358002 x358003).shift ?_
  simp only [arraslaw5_CodeBack.j4]
  (repeat' (first | exact Go.Proofs.YtpmcojmhkpaoaaaLabel.Lim.const _ | exact arraslaw5_CodeBack.L0_lim _ _ | exact arraslaw5_CodeBack.J1_lim _ _ _ | exact arraslaw5_CodeBack.J2_lim _ _ _ _ _ _ _ | exact arraslaw5_CodeBack.J3_lim _ _ _ _ _ _ _ | exact arraslaw5_CodeBack.J4_lim _ _ _ _ _ _ _ _ | exact arraslaw5_CodeBack.J5_lim _ _ _ _ _ _ _ _ | exact arraslaw5_CodeBack.L1_lim _ _ _ _ _ _ _ _ | exact arraslaw5_wakes.F_lim | exact arrasref0_CopyBytes.F_lim _ | exact arrasref0_EqBytes.F_lim _ _ | exact arrasref0_EqNumbers.F_lim _ _ | exact code_Num.F_lim _ | exact code_Nums.F_lim _ | exact code_TakeNum.F_lim _ | exact code_TakeNums.F_lim _ | exact code_TakeText.F_lim _ | exact code_Text.F_lim _ | refine Go.Proofs.YtpmcojmhkpaoaaaLabel.Lim.ite ?_ ?_ | refine Go.Proofs.YtpmcojmhkpaoaaaLabel.Lim.bind ?_ (fun _ => ?_)))
theorem arraslaw5_CodeBack.J5_eq (x0 : List (S43)) (x3 : Int) (x10 : List Int) (x156 : Bool) (x358000 : Int) (x358001 : ByteArray) (x358002 : List Int) (x358003 : List Int) : arraslaw5_CodeBack.J5 x0 x3 x10 x156 x358000 x358001 x358002 x358003 = (if x156 = true then (some false) else (arraslaw5_CodeBack.L1 x0 x3 x10 0 x358000 x358001 x358002 x358003)) := by
  refine Go.Proofs.YtpmcojmhkpaoaaaLabel.Lim.unique (arraslaw5_CodeBack.J5_lim x0 x3 x10 x156 x358000 x358001 x358002 x358003).shift ?_
  simp only [arraslaw5_CodeBack.j5]
  (repeat' (first | exact Go.Proofs.YtpmcojmhkpaoaaaLabel.Lim.const _ | exact arraslaw5_CodeBack.L0_lim _ _ | exact arraslaw5_CodeBack.J1_lim _ _ _ | exact arraslaw5_CodeBack.J2_lim _ _ _ _ _ _ _ | exact arraslaw5_CodeBack.J3_lim _ _ _ _ _ _ _ | exact arraslaw5_CodeBack.J4_lim _ _ _ _ _ _ _ _ | exact arraslaw5_CodeBack.J5_lim _ _ _ _ _ _ _ _ | exact arraslaw5_CodeBack.L1_lim _ _ _ _ _ _ _ _ | exact arraslaw5_wakes.F_lim | exact arrasref0_CopyBytes.F_lim _ | exact arrasref0_EqBytes.F_lim _ _ | exact arrasref0_EqNumbers.F_lim _ _ | exact code_Num.F_lim _ | exact code_Nums.F_lim _ | exact code_TakeNum.F_lim _ | exact code_TakeNums.F_lim _ | exact code_TakeText.F_lim _ | exact code_Text.F_lim _ | refine Go.Proofs.YtpmcojmhkpaoaaaLabel.Lim.ite ?_ ?_ | refine Go.Proofs.YtpmcojmhkpaoaaaLabel.Lim.bind ?_ (fun _ => ?_)))
theorem arraslaw5_CodeBack.L1_eq (x0 : List (S43)) (x3 : Int) (x10 : List Int) (x14 : Int) (x358000 : Int) (x358001 : ByteArray) (x358002 : List Int) (x358003 : List Int) : arraslaw5_CodeBack.L1 x0 x3 x10 x14 x358000 x358001 x358002 x358003 = (if x14 < (x10.length : Int) then (if 0 ≤ x14 then (if x14 ≤ (x10.length : Int) then ((code_TakeText.F (x10.take (x14 : Int).toNat)).bind fun bt411 => ((arraslaw5_num.f bt411.2.2).bind fun t414 => (if t414 = 7 then (arraslaw5_CodeBack.L1 x0 x3 x10 (wrap64 (x14 + 1)) x358000 x358001 x358002 x358003) else (some false)))) else (none)) else (none)) else ((code_TakeNum.F x358003).bind fun bt415 => ((arraslaw5_num.f bt415.2.2).bind fun t418 => (if t418 = 0 then ((code_Num.F bt415.1).bind fun bt419 => ((arraslaw5_num.f bt419.2).bind fun t423 => (if t423 = 0 then (if 0 ≤ bt415.2.1 then (if bt415.2.1 ≤ (x358003.length : Int) then ((arrasref0_EqBytes.F bt419.1 (x358003.take (bt415.2.1 : Int).toNat)).bind fun t425 => (if t425 = true then (arraslaw5_CodeBack.L0 x0 (wrap64 (x3 + 1))) else (some false))) else (none)) else (none)) else (some false)))) else (arraslaw5_CodeBack.L0 x0 (wrap64 (x3 + 1))))))) := by
  refine Go.Proofs.YtpmcojmhkpaoaaaLabel.Lim.unique (arraslaw5_CodeBack.L1_lim x0 x3 x10 x14 x358000 x358001 x358002 x358003).shift ?_
  simp only [arraslaw5_CodeBack.l1]
  (repeat' (first | exact Go.Proofs.YtpmcojmhkpaoaaaLabel.Lim.const _ | exact arraslaw5_CodeBack.L0_lim _ _ | exact arraslaw5_CodeBack.J1_lim _ _ _ | exact arraslaw5_CodeBack.J2_lim _ _ _ _ _ _ _ | exact arraslaw5_CodeBack.J3_lim _ _ _ _ _ _ _ | exact arraslaw5_CodeBack.J4_lim _ _ _ _ _ _ _ _ | exact arraslaw5_CodeBack.J5_lim _ _ _ _ _ _ _ _ | exact arraslaw5_CodeBack.L1_lim _ _ _ _ _ _ _ _ | exact arraslaw5_wakes.F_lim | exact arrasref0_CopyBytes.F_lim _ | exact arrasref0_EqBytes.F_lim _ _ | exact arrasref0_EqNumbers.F_lim _ _ | exact code_Num.F_lim _ | exact code_Nums.F_lim _ | exact code_TakeNum.F_lim _ | exact code_TakeNums.F_lim _ | exact code_TakeText.F_lim _ | exact code_Text.F_lim _ | refine Go.Proofs.YtpmcojmhkpaoaaaLabel.Lim.ite ?_ ?_ | refine Go.Proofs.YtpmcojmhkpaoaaaLabel.Lim.bind ?_ (fun _ => ?_)))
noncomputable def arraslaw5_CodeBack.F (l0 : List (S43)) : Option (Bool) := Go.Proofs.YtpmcojmhkpaoaaaLabel.lim (fun k => arraslaw5_CodeBack.f k l0)
theorem arraslaw5_CodeBack.F_lim (l0 : List (S43)) : Go.Proofs.YtpmcojmhkpaoaaaLabel.Lim (fun k => arraslaw5_CodeBack.f k l0) (arraslaw5_CodeBack.F l0) := Go.Proofs.YtpmcojmhkpaoaaaLabel.lim_spec (arraslaw5_CodeBack.mono l0)
theorem arraslaw5_CodeBack.F_eq (l0 : List (S43)) : arraslaw5_CodeBack.F l0 = (arraslaw5_CodeBack.L0 l0 0) := by
  refine Go.Proofs.YtpmcojmhkpaoaaaLabel.Lim.unique (arraslaw5_CodeBack.F_lim l0) ?_
  simp only [arraslaw5_CodeBack.f]
  (repeat' (first | exact Go.Proofs.YtpmcojmhkpaoaaaLabel.Lim.const _ | exact arraslaw5_CodeBack.L0_lim _ _ | exact arraslaw5_CodeBack.J1_lim _ _ _ | exact arraslaw5_CodeBack.J2_lim _ _ _ _ _ _ _ | exact arraslaw5_CodeBack.J3_lim _ _ _ _ _ _ _ | exact arraslaw5_CodeBack.J4_lim _ _ _ _ _ _ _ _ | exact arraslaw5_CodeBack.J5_lim _ _ _ _ _ _ _ _ | exact arraslaw5_CodeBack.L1_lim _ _ _ _ _ _ _ _ | exact arraslaw5_wakes.F_lim | exact arrasref0_CopyBytes.F_lim _ | exact arrasref0_EqBytes.F_lim _ _ | exact arrasref0_EqNumbers.F_lim _ _ | exact code_Num.F_lim _ | exact code_Nums.F_lim _ | exact code_TakeNum.F_lim _ | exact code_TakeNums.F_lim _ | exact code_TakeText.F_lim _ | exact code_Text.F_lim _ | refine Go.Proofs.YtpmcojmhkpaoaaaLabel.Lim.ite ?_ ?_ | refine Go.Proofs.YtpmcojmhkpaoaaaLabel.Lim.bind ?_ (fun _ => ?_)))

end Go.Proofs.Ytpmcojmhkpaoaaa.PA
