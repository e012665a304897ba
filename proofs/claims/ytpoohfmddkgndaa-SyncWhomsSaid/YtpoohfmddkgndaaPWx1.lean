-- Printed by this session's wip/myprint.py
import Derived.Test.YtpoohfmddkgndaaPWx0
namespace Go.Proofs.Ytpoohfmddkgndaa.PW
open Go.RowKit Go.Proofs.YtpoohfmddkgndaaW.PrintWords Go.Proofs.YtpoohfmddkgndaaW.PrintLast Go.Proofs.YtpoohfmddkgndaaW.PrintMore
attribute [local go_sem] max2_int min2_int max_two min_two max_three min_three max_four min_four   -- for this text's walks alone
set_option linter.unusedVariables false
set_option linter.unusedSimpArgs false

/-! #### sync_Whom: function 17 -/
def sync_Whom.j0 : Nat → Int → Int → Int → Bool → Option (Int × Int × Int)
 | 0, _, _, _, _ => none
 | k + 1, x0, x1, x2, x9 => if x9 = true then (some (0, 0, 1)) else (if x2 = 1 then (some (0, 0, 3)) else (if x0 = x1 then (if x2 = 0 then (none) else (some (Int.tmod (wrap64 (x0 + 1)) x2, Int.tmod (wrap64 ((Int.tmod (wrap64 (x0 + 1)) x2) + 1)) x2, 0))) else (if x2 = 0 then (none) else (some (x0, Int.tmod (wrap64 (x0 + 1)) x2, 0)))))
def sync_Whom.f (k : Nat) (a0 : Int) (a1 : Int) (a2 : Int) : Option (Int × Int × Int) := if a2 < 1 then (sync_Whom.j0 k a0 a1 a2 true) else (if a2 > 16 then (sync_Whom.j0 k a0 a1 a2 true) else (if a1 < 0 then (sync_Whom.j0 k a0 a1 a2 true) else (if a1 ≥ a2 then (sync_Whom.j0 k a0 a1 a2 true) else (if a0 < 0 then (sync_Whom.j0 k a0 a1 a2 true) else (sync_Whom.j0 k a0 a1 a2 (decide (a0 ≥ a2)))))))
theorem sync_Whom.mono_l : ∀ k, (∀ y0 y1 y2 y3, LeO (sync_Whom.j0 k y0 y1 y2 y3) (sync_Whom.j0 (k + 1) y0 y1 y2 y3))
 | 0 => fun _ _ _ _ r h => by simp [sync_Whom.j0] at h
 | k + 1 => by
  have ih0 := sync_Whom.mono_l k
  ·intro y0 y1 y2 y3
   unfold sync_Whom.j0
   repeat' first
   | (with_reducible exact ih0 _ _ _ _)
   | (with_reducible exact LeO.refl _)
   | (with_reducible exact LeO.none _)
   | (with_reducible refine LeO.ite ?_ ?_)
   | (with_reducible refine LeO.bind ?_ (fun _ => ?_))
   | exact ih0 _ _ _ _
   | exact LeO.none _
   | refine LeO.ite ?_ ?_
   | refine LeO.bind ?_ (fun _ => ?_)
theorem sync_Whom.mono : ∀ a0 a1 a2 k, LeO (sync_Whom.f k a0 a1 a2) (sync_Whom.f (k + 1) a0 a1 a2) := by
 intro a0 a1 a2 k
 have ih0 := sync_Whom.mono_l k
 unfold sync_Whom.f
 repeat' first
   | (with_reducible exact ih0 _ _ _ _)
   | (with_reducible exact LeO.refl _)
   | (with_reducible exact LeO.none _)
   | (with_reducible refine LeO.ite ?_ ?_)
   | (with_reducible refine LeO.bind ?_ (fun _ => ?_))
   | exact ih0 _ _ _ _
   | exact LeO.none _
   | refine LeO.ite ?_ ?_
   | refine LeO.bind ?_ (fun _ => ?_)
noncomputable def sync_Whom.J0 (x0 : Int) (x1 : Int) (x2 : Int) (x9 : Bool) : Option (Int × Int × Int) := Go.Proofs.YtpoohfmddkgndaaLabel.lim (fun k => sync_Whom.j0 k x0 x1 x2 x9)
theorem sync_Whom.J0_lim (x0 : Int) (x1 : Int) (x2 : Int) (x9 : Bool) : Go.Proofs.YtpoohfmddkgndaaLabel.Lim (fun k => sync_Whom.j0 k x0 x1 x2 x9) (sync_Whom.J0 x0 x1 x2 x9) := Go.Proofs.YtpoohfmddkgndaaLabel.lim_spec (fun k => (sync_Whom.mono_l k) x0 x1 x2 x9)
theorem sync_Whom.J0_eq (x0 : Int) (x1 : Int) (x2 : Int) (x9 : Bool) : sync_Whom.J0 x0 x1 x2 x9 = (if x9 = true then (some (0, 0, 1)) else (if x2 = 1 then (some (0, 0, 3)) else (if x0 = x1 then (if x2 = 0 then (none) else (some (Int.tmod (wrap64 (x0 + 1)) x2, Int.tmod (wrap64 ((Int.tmod (wrap64 (x0 + 1)) x2) + 1)) x2, 0))) else (if x2 = 0 then (none) else (some (x0, Int.tmod (wrap64 (x0 + 1)) x2, 0)))))) := by
  refine Go.Proofs.YtpoohfmddkgndaaLabel.Lim.unique (sync_Whom.J0_lim x0 x1 x2 x9).shift ?_
  simp only [sync_Whom.j0]
  (repeat' (first | exact Go.Proofs.YtpoohfmddkgndaaLabel.Lim.const _ | exact sync_Whom.J0_lim _ _ _ _ | refine Go.Proofs.YtpoohfmddkgndaaLabel.Lim.ite ?_ ?_ | refine Go.Proofs.YtpoohfmddkgndaaLabel.Lim.bind ?_ (fun _ => ?_)))
noncomputable def sync_Whom.F (a0 : Int) (a1 : Int) (a2 : Int) : Option (Int × Int × Int) := Go.Proofs.YtpoohfmddkgndaaLabel.lim (fun k => sync_Whom.f k a0 a1 a2)
theorem sync_Whom.F_lim (a0 : Int) (a1 : Int) (a2 : Int) : Go.Proofs.YtpoohfmddkgndaaLabel.Lim (fun k => sync_Whom.f k a0 a1 a2) (sync_Whom.F a0 a1 a2) := Go.Proofs.YtpoohfmddkgndaaLabel.lim_spec (sync_Whom.mono a0 a1 a2)
theorem sync_Whom.F_eq (a0 : Int) (a1 : Int) (a2 : Int) : sync_Whom.F a0 a1 a2 = (if a2 < 1 then (sync_Whom.J0 a0 a1 a2 true) else (if a2 > 16 then (sync_Whom.J0 a0 a1 a2 true) else (if a1 < 0 then (sync_Whom.J0 a0 a1 a2 true) else (if a1 ≥ a2 then (sync_Whom.J0 a0 a1 a2 true) else (if a0 < 0 then (sync_Whom.J0 a0 a1 a2 true) else (sync_Whom.J0 a0 a1 a2 (decide (a0 ≥ a2)))))))) := by
  refine Go.Proofs.YtpoohfmddkgndaaLabel.Lim.unique (sync_Whom.F_lim a0 a1 a2) ?_
  simp only [sync_Whom.f]
  (repeat' (first | exact Go.Proofs.YtpoohfmddkgndaaLabel.Lim.const _ | exact sync_Whom.J0_lim _ _ _ _ | refine Go.Proofs.YtpoohfmddkgndaaLabel.Lim.ite ?_ ?_ | refine Go.Proofs.YtpoohfmddkgndaaLabel.Lim.bind ?_ (fun _ => ?_)))

/-! #### arrasref0_Num: function 19 -/
def arrasref0_Num.f (a0 : Int) (a1 : Int) : Option (Bool) := if a0 ≥ 0 then (some (decide (a0 ≤ a1))) else (some false)

/-! #### arrasref25_Reps: function 18 -/
def arrasref25_Reps.f (a0 : Int) (a1 : Int) : Option (Bool) := if a1 ≥ 1 then (if a1 ≤ 16 then ((arrasref0_Num.f a0 (wrap64 (a1 - 1))).bind fun t101 => (some t101)) else (some false)) else (some false)

/-! #### arrasref25_Whom: function 20 -/
def arrasref25_Whom.f (a0 : Int) (a1 : Int) (a2 : Int) : Option (Int × Int) := if a0 = a1 then (if a2 = 0 then (none) else (some (Int.tmod (wrap64 (a0 + 1)) a2, Int.tmod (wrap64 ((Int.tmod (wrap64 (a0 + 1)) a2) + 1)) a2))) else (if a2 = 0 then (none) else (some (a0, Int.tmod (wrap64 (a0 + 1)) a2)))

/-! #### arraslaw25_num: function 21 -/
def arraslaw25_num.f (a0 : Int) : Option (Int) := some a0

/-! #### arrasref0_In: function 22 -/
def arrasref0_In.l0 : Nat → List Int → Int → Int → Option (Int)
 | 0, _, _, _ => none
 | k + 1, x0, x1, x5 => if x5 < (x0.length : Int) then (if 0 ≤ x5 then (if (rd x0 x5) = x1 then (some x5) else (arrasref0_In.l0 k x0 x1 (wrap64 (x5 + 1)))) else (none)) else (some (-1))
def arrasref0_In.f (k : Nat) (l0 : List Int) (a1 : Int) : Option (Int) := arrasref0_In.l0 k l0 a1 0
theorem arrasref0_In.mono_l : ∀ k, (∀ y0 y1 y2, LeO (arrasref0_In.l0 k y0 y1 y2) (arrasref0_In.l0 (k + 1) y0 y1 y2))
 | 0 => fun _ _ _ r h => by simp [arrasref0_In.l0] at h
 | k + 1 => by
  have ih0 := arrasref0_In.mono_l k
  ·intro y0 y1 y2
   unfold arrasref0_In.l0
   repeat' first
   | (with_reducible exact ih0 _ _ _)
   | (with_reducible exact LeO.refl _)
   | (with_reducible exact LeO.none _)
   | (with_reducible refine LeO.ite ?_ ?_)
   | (with_reducible refine LeO.bind ?_ (fun _ => ?_))
   | exact ih0 _ _ _
   | exact LeO.none _
   | refine LeO.ite ?_ ?_
   | refine LeO.bind ?_ (fun _ => ?_)
theorem arrasref0_In.mono : ∀ a0 a1 k, LeO (arrasref0_In.f k a0 a1) (arrasref0_In.f (k + 1) a0 a1) := by
 intro a0 a1 k
 have ih0 := arrasref0_In.mono_l k
 unfold arrasref0_In.f
 repeat' first
   | (with_reducible exact ih0 _ _ _)
   | (with_reducible exact LeO.refl _)
   | (with_reducible exact LeO.none _)
   | (with_reducible refine LeO.ite ?_ ?_)
   | (with_reducible refine LeO.bind ?_ (fun _ => ?_))
   | exact ih0 _ _ _
   | exact LeO.none _
   | refine LeO.ite ?_ ?_
   | refine LeO.bind ?_ (fun _ => ?_)
noncomputable def arrasref0_In.L0 (x0 : List Int) (x1 : Int) (x5 : Int) : Option (Int) := Go.Proofs.YtpoohfmddkgndaaLabel.lim (fun k => arrasref0_In.l0 k x0 x1 x5)
theorem arrasref0_In.L0_lim (x0 : List Int) (x1 : Int) (x5 : Int) : Go.Proofs.YtpoohfmddkgndaaLabel.Lim (fun k => arrasref0_In.l0 k x0 x1 x5) (arrasref0_In.L0 x0 x1 x5) := Go.Proofs.YtpoohfmddkgndaaLabel.lim_spec (fun k => (arrasref0_In.mono_l k) x0 x1 x5)
theorem arrasref0_In.L0_eq (x0 : List Int) (x1 : Int) (x5 : Int) : arrasref0_In.L0 x0 x1 x5 = (if x5 < (x0.length : Int) then (if 0 ≤ x5 then (if (rd x0 x5) = x1 then (some x5) else (arrasref0_In.L0 x0 x1 (wrap64 (x5 + 1)))) else (none)) else (some (-1))) := by
  refine Go.Proofs.YtpoohfmddkgndaaLabel.Lim.unique (arrasref0_In.L0_lim x0 x1 x5).shift ?_
  simp only [arrasref0_In.l0]
  (repeat' (first | exact Go.Proofs.YtpoohfmddkgndaaLabel.Lim.const _ | exact arrasref0_In.L0_lim _ _ _ | refine Go.Proofs.YtpoohfmddkgndaaLabel.Lim.ite ?_ ?_ | refine Go.Proofs.YtpoohfmddkgndaaLabel.Lim.bind ?_ (fun _ => ?_)))
noncomputable def arrasref0_In.F (l0 : List Int) (a1 : Int) : Option (Int) := Go.Proofs.YtpoohfmddkgndaaLabel.lim (fun k => arrasref0_In.f k l0 a1)
theorem arrasref0_In.F_lim (l0 : List Int) (a1 : Int) : Go.Proofs.YtpoohfmddkgndaaLabel.Lim (fun k => arrasref0_In.f k l0 a1) (arrasref0_In.F l0 a1) := Go.Proofs.YtpoohfmddkgndaaLabel.lim_spec (arrasref0_In.mono l0 a1)
theorem arrasref0_In.F_eq (l0 : List Int) (a1 : Int) : arrasref0_In.F l0 a1 = (arrasref0_In.L0 l0 a1 0) := by
  refine Go.Proofs.YtpoohfmddkgndaaLabel.Lim.unique (arrasref0_In.F_lim l0 a1) ?_
  simp only [arrasref0_In.f]
  (repeat' (first | exact Go.Proofs.YtpoohfmddkgndaaLabel.Lim.const _ | exact arrasref0_In.L0_lim _ _ _ | refine Go.Proofs.YtpoohfmddkgndaaLabel.Lim.ite ?_ ?_ | refine Go.Proofs.YtpoohfmddkgndaaLabel.Lim.bind ?_ (fun _ => ?_)))

/-! #### arraslaw25_wakes: function 23 -/
def arraslaw25_wakes.f (k : Nat)  : Option (Bool) := (sync_Whom.f k 1 1 2).bind fun bt103 => ((arraslaw25_num.f bt103.2.2).bind fun t106 => (if t106 = 0 then (if bt103.1 = 0 then (some (bt103.2.1 == 1)) else (some false)) else (some false)))
theorem arraslaw25_wakes.mono : ∀ k, LeO (arraslaw25_wakes.f k ) (arraslaw25_wakes.f (k + 1) ) := by
 intro  k
 unfold arraslaw25_wakes.f
 repeat' first
   | (with_reducible exact sync_Whom.mono _ _ _ _)
   | (with_reducible exact LeO.refl _)
   | (with_reducible exact LeO.none _)
   | (with_reducible refine LeO.ite ?_ ?_)
   | (with_reducible refine LeO.bind ?_ (fun _ => ?_))
   | exact sync_Whom.mono _ _ _ _
   | exact LeO.none _
   | refine LeO.ite ?_ ?_
   | refine LeO.bind ?_ (fun _ => ?_)
noncomputable def arraslaw25_wakes.F  : Option (Bool) := Go.Proofs.YtpoohfmddkgndaaLabel.lim (fun k => arraslaw25_wakes.f k )
theorem arraslaw25_wakes.F_lim  : Go.Proofs.YtpoohfmddkgndaaLabel.Lim (fun k => arraslaw25_wakes.f k ) (arraslaw25_wakes.F ) := Go.Proofs.YtpoohfmddkgndaaLabel.lim_spec (arraslaw25_wakes.mono )
theorem arraslaw25_wakes.F_eq  : arraslaw25_wakes.F  = ((sync_Whom.F 1 1 2).bind fun bt103 => ((arraslaw25_num.f bt103.2.2).bind fun t106 => (if t106 = 0 then (if bt103.1 = 0 then (some (bt103.2.1 == 1)) else (some false)) else (some false)))) := by
  refine Go.Proofs.YtpoohfmddkgndaaLabel.Lim.unique (arraslaw25_wakes.F_lim ) ?_
  simp only [arraslaw25_wakes.f]
  (repeat' (first | exact Go.Proofs.YtpoohfmddkgndaaLabel.Lim.const _ | exact sync_Whom.F_lim _ _ _ | refine Go.Proofs.YtpoohfmddkgndaaLabel.Lim.ite ?_ ?_ | refine Go.Proofs.YtpoohfmddkgndaaLabel.Lim.bind ?_ (fun _ => ?_)))

/-! #### arraslaw25_SyncWhoms: function 3 -/
mutual
def arraslaw25_SyncWhoms.l0 : Nat → List (S26) → Int → Option (Bool)
 | 0, _, _ => none
 | k + 1, x0, x3 => if x3 < (x0.length : Int) then (arraslaw25_SyncWhoms.j1 k x0 x3 (decide (x3 < 10))) else (arraslaw25_SyncWhoms.j1 k x0 x3 false)
def arraslaw25_SyncWhoms.j1 : Nat → List (S26) → Int → Bool → Option (Bool)
 | 0, _, _, _ => none
 | k + 1, x0, x3, x24 => if x24 = true then (if 0 ≤ x3 then (if x3 < (x0.length : Int) then ((sync_Whom.f k ((rd_T26 x0 x3).f5) ((rd_T26 x0 x3).f2) ((rd_T26 x0 x3).f4)).bind fun bt110 => ((arrasref25_Reps.f ((rd_T26 x0 x3).f2) ((rd_T26 x0 x3).f4)).bind fun t113 => (if t113 = true then ((arrasref0_Num.f ((rd_T26 x0 x3).f5) (wrap64 (((rd_T26 x0 x3).f4) - 1))).bind fun t114 => (arraslaw25_SyncWhoms.j2 k x0 x3 bt110.1 bt110.2.1 bt110.2.2 1 0 0 t114 ((rd_T26 x0 x3).f0) ((rd_T26 x0 x3).f1) ((rd_T26 x0 x3).f2) ((rd_T26 x0 x3).f3) ((rd_T26 x0 x3).f4) ((rd_T26 x0 x3).f5))) else (arraslaw25_SyncWhoms.j2 k x0 x3 bt110.1 bt110.2.1 bt110.2.2 1 0 0 false ((rd_T26 x0 x3).f0) ((rd_T26 x0 x3).f1) ((rd_T26 x0 x3).f2) ((rd_T26 x0 x3).f3) ((rd_T26 x0 x3).f4) ((rd_T26 x0 x3).f5))))) else (none)) else (none)) else ((arraslaw25_wakes.f k).bind fun t107 => (some t107))
def arraslaw25_SyncWhoms.j2 : Nat → List (S26) → Int → Int → Int → Int → Int → Int → Int → Bool → List (S41) → List Int → Int → Int → Int → Int → Option (Bool)
 | 0, _, _, _, _, _, _, _, _, _, _, _, _, _, _, _ => none
 | k + 1, x0, x3, x5, x6, x7, x8, x9, x10, x54, x110000, x110001, x110002, x110003, x110004, x110005 => if x54 = true then (if x110004 > 1 then ((arrasref25_Whom.f x110005 x110002 x110004).bind fun bt115 => (arraslaw25_SyncWhoms.j3 k x0 x3 x5 x6 x7 0 bt115.1 bt115.2 x110000 x110001 x110002 x110003 x110004 x110005)) else (arraslaw25_SyncWhoms.j3 k x0 x3 x5 x6 x7 3 x9 x10 x110000 x110001 x110002 x110003 x110004 x110005)) else (arraslaw25_SyncWhoms.j3 k x0 x3 x5 x6 x7 x8 x9 x10 x110000 x110001 x110002 x110003 x110004 x110005)
def arraslaw25_SyncWhoms.j3 : Nat → List (S26) → Int → Int → Int → Int → Int → Int → Int → List (S41) → List Int → Int → Int → Int → Int → Option (Bool)
 | 0, _, _, _, _, _, _, _, _, _, _, _, _, _, _ => none
 | k + 1, x0, x3, x5, x6, x7, x8, x9, x10, x110000, x110001, x110002, x110003, x110004, x110005 => (arraslaw25_num.f x7).bind fun t117 => (if t117 = x8 then (if x5 = x9 then (arraslaw25_SyncWhoms.j4 k x0 x3 x8 (x6 != x10) x110000 x110001 x110002 x110003 x110004 x110005) else (arraslaw25_SyncWhoms.j4 k x0 x3 x8 true x110000 x110001 x110002 x110003 x110004 x110005)) else (arraslaw25_SyncWhoms.j4 k x0 x3 x8 true x110000 x110001 x110002 x110003 x110004 x110005))
def arraslaw25_SyncWhoms.j4 : Nat → List (S26) → Int → Int → Bool → List (S41) → List Int → Int → Int → Int → Int → Option (Bool)
 | 0, _, _, _, _, _, _, _, _, _, _ => none
 | k + 1, x0, x3, x8, x81, x110000, x110001, x110002, x110003, x110004, x110005 => if x81 = true then (some false) else (if x8 = 0 then (arraslaw25_SyncWhoms.l1 k x0 x3 ([] : List Int) x110005 0 x110000 x110001 x110002 x110003 x110004 x110005) else (arraslaw25_SyncWhoms.l0 k x0 (wrap64 (x3 + 1))))
def arraslaw25_SyncWhoms.l1 : Nat → List (S26) → Int → List Int → Int → Int → List (S41) → List Int → Int → Int → Int → Int → Option (Bool)
 | 0, _, _, _, _, _, _, _, _, _, _, _ => none
 | k + 1, x0, x3, x11, x12, x13, x110000, x110001, x110002, x110003, x110004, x110005 => if x13 < (wrap64 (x110004 - 1)) then ((sync_Whom.f k x12 x110002 x110004).bind fun bt118 => ((arraslaw25_num.f bt118.2.2).bind fun t121 => (if t121 = 0 then (if bt118.1 = x110002 then (arraslaw25_SyncWhoms.j6 k x0 x3 x11 x13 bt118.1 bt118.2.1 true x110000 x110001 x110002 x110003 x110004 x110005) else ((arrasref0_In.f k x11 bt118.1).bind fun t122 => (arraslaw25_SyncWhoms.j6 k x0 x3 x11 x13 bt118.1 bt118.2.1 (decide (t122 ≥ 0)) x110000 x110001 x110002 x110003 x110004 x110005))) else (arraslaw25_SyncWhoms.j6 k x0 x3 x11 x13 bt118.1 bt118.2.1 true x110000 x110001 x110002 x110003 x110004 x110005)))) else (arraslaw25_SyncWhoms.l0 k x0 (wrap64 (x3 + 1)))
def arraslaw25_SyncWhoms.j6 : Nat → List (S26) → Int → List Int → Int → Int → Int → Bool → List (S41) → List Int → Int → Int → Int → Int → Option (Bool)
 | 0, _, _, _, _, _, _, _, _, _, _, _, _, _ => none
 | k + 1, x0, x3, x11, x13, x14, x15, x117, x110000, x110001, x110002, x110003, x110004, x110005 => if x117 = true then (some false) else (if x11.length < 17592186044416 then (arraslaw25_SyncWhoms.l1 k x0 x3 (x11 ++ [x14]) x15 (wrap64 (x13 + 1)) x110000 x110001 x110002 x110003 x110004 x110005) else (none))
end
def arraslaw25_SyncWhoms.f (k : Nat) (l0 : List (S26)) : Option (Bool) := arraslaw25_SyncWhoms.l0 k l0 0
theorem arraslaw25_SyncWhoms.mono_l : ∀ k, (∀ y0 y1, LeO (arraslaw25_SyncWhoms.l0 k y0 y1) (arraslaw25_SyncWhoms.l0 (k + 1) y0 y1)) ∧ (∀ y0 y1 y2, LeO (arraslaw25_SyncWhoms.j1 k y0 y1 y2) (arraslaw25_SyncWhoms.j1 (k + 1) y0 y1 y2)) ∧ (∀ y0 y1 y2 y3 y4 y5 y6 y7 y8 y9 y10 y11 y12 y13 y14, LeO (arraslaw25_SyncWhoms.j2 k y0 y1 y2 y3 y4 y5 y6 y7 y8 y9 y10 y11 y12 y13 y14) (arraslaw25_SyncWhoms.j2 (k + 1) y0 y1 y2 y3 y4 y5 y6 y7 y8 y9 y10 y11 y12 y13 y14)) ∧ (∀ y0 y1 y2 y3 y4 y5 y6 y7 y8 y9 y10 y11 y12 y13, LeO (arraslaw25_SyncWhoms.j3 k y0 y1 y2 y3 y4 y5 y6 y7 y8 y9 y10 y11 y12 y13) (arraslaw25_SyncWhoms.j3 (k + 1) y0 y1 y2 y3 y4 y5 y6 y7 y8 y9 y10 y11 y12 y13)) ∧ (∀ y0 y1 y2 y3 y4 y5 y6 y7 y8 y9, LeO (arraslaw25_SyncWhoms.j4 k y0 y1 y2 y3 y4 y5 y6 y7 y8 y9) (arraslaw25_SyncWhoms.j4 (k + 1) y0 y1 y2 y3 y4 y5 y6 y7 y8 y9)) ∧ (∀ y0 y1 y2 y3 y4 y5 y6 y7 y8 y9 y10, LeO (arraslaw25_SyncWhoms.l1 k y0 y1 y2 y3 y4 y5 y6 y7 y8 y9 y10) (arraslaw25_SyncWhoms.l1 (k + 1) y0 y1 y2 y3 y4 y5 y6 y7 y8 y9 y10)) ∧ (∀ y0 y1 y2 y3 y4 y5 y6 y7 y8 y9 y10 y11 y12, LeO (arraslaw25_SyncWhoms.j6 k y0 y1 y2 y3 y4 y5 y6 y7 y8 y9 y10 y11 y12) (arraslaw25_SyncWhoms.j6 (k + 1) y0 y1 y2 y3 y4 y5 y6 y7 y8 y9 y10 y11 y12))
 | 0 => ⟨fun _ _ r h => by simp [arraslaw25_SyncWhoms.l0] at h, fun _ _ _ r h => by simp [arraslaw25_SyncWhoms.j1] at h, fun _ _ _ _ _ _ _ _ _ _ _ _ _ _ _ r h => by simp [arraslaw25_SyncWhoms.j2] at h, fun _ _ _ _ _ _ _ _ _ _ _ _ _ _ r h => by simp [arraslaw25_SyncWhoms.j3] at h, fun _ _ _ _ _ _ _ _ _ _ r h => by simp [arraslaw25_SyncWhoms.j4] at h, fun _ _ _ _ _ _ _ _ _ _ _ r h => by simp [arraslaw25_SyncWhoms.l1] at h, fun _ _ _ _ _ _ _ _ _ _ _ _ _ r h => by simp [arraslaw25_SyncWhoms.j6] at h⟩
 | k + 1 => by
  obtain ⟨ih0, ih1, ih2, ih3, ih4, ih5, ih6⟩ := arraslaw25_SyncWhoms.mono_l k
  refine ⟨?_, ?_, ?_, ?_, ?_, ?_, ?_⟩
  ·intro y0 y1
   unfold arraslaw25_SyncWhoms.l0
   repeat' first
   | (with_reducible exact ih0 _ _)
   | (with_reducible exact ih1 _ _ _)
   | (with_reducible exact ih2 _ _ _ _ _ _ _ _ _ _ _ _ _ _ _)
   | (with_reducible exact ih3 _ _ _ _ _ _ _ _ _ _ _ _ _ _)
   | (with_reducible exact ih4 _ _ _ _ _ _ _ _ _ _)
   | (with_reducible exact ih5 _ _ _ _ _ _ _ _ _ _ _)
   | (with_reducible exact ih6 _ _ _ _ _ _ _ _ _ _ _ _ _)
   | (with_reducible exact arraslaw25_wakes.mono _)
   | (with_reducible exact arrasref0_In.mono _ _ _)
   | (with_reducible exact sync_Whom.mono _ _ _ _)
   | (with_reducible exact LeO.refl _)
   | (with_reducible exact LeO.none _)
   | (with_reducible refine LeO.ite ?_ ?_)
   | (with_reducible refine LeO.bind ?_ (fun _ => ?_))
   | exact ih0 _ _
   | exact ih1 _ _ _
   | exact ih2 _ _ _ _ _ _ _ _ _ _ _ _ _ _ _
   | exact ih3 _ _ _ _ _ _ _ _ _ _ _ _ _ _
   | exact ih4 _ _ _ _ _ _ _ _ _ _
   | exact ih5 _ _ _ _ _ _ _ _ _ _ _
   | exact ih6 _ _ _ _ _ _ _ _ _ _ _ _ _
   | exact arraslaw25_wakes.mono _
   | exact arrasref0_In.mono _ _ _
   | exact sync_Whom.mono _ _ _ _
   | exact LeO.none _
   | refine LeO.ite ?_ ?_
   | refine LeO.bind ?_ (fun _ => ?_)
  ·intro y0 y1 y2
   unfold arraslaw25_SyncWhoms.j1
   repeat' first
   | (with_reducible exact ih0 _ _)
   | (with_reducible exact ih1 _ _ _)
   | (with_reducible exact ih2 _ _ _ _ _ _ _ _ _ _ _ _ _ _ _)
   | (with_reducible exact ih3 _ _ _ _ _ _ _ _ _ _ _ _ _ _)
   | (with_reducible exact ih4 _ _ _ _ _ _ _ _ _ _)
   | (with_reducible exact ih5 _ _ _ _ _ _ _ _ _ _ _)
   | (with_reducible exact ih6 _ _ _ _ _ _ _ _ _ _ _ _ _)
   | (with_reducible exact arraslaw25_wakes.mono _)
   | (with_reducible exact arrasref0_In.mono _ _ _)
   | (with_reducible exact sync_Whom.mono _ _ _ _)
   | (with_reducible exact LeO.refl _)
   | (with_reducible exact LeO.none _)
   | (with_reducible refine LeO.ite ?_ ?_)
   | (with_reducible refine LeO.bind ?_ (fun _ => ?_))
   | exact ih0 _ _
   | exact ih1 _ _ _
   | exact ih2 _ _ _ _ _ _ _ _ _ _ _ _ _ _ _
   | exact ih3 _ _ _ _ _ _ _ _ _ _ _ _ _ _
   | exact ih4 _ _ _ _ _ _ _ _ _ _
   | exact ih5 _ _ _ _ _ _ _ _ _ _ _
   | exact ih6 _ _ _ _ _ _ _ _ _ _ _ _ _
   | exact arraslaw25_wakes.mono _
   | exact arrasref0_In.mono _ _ _
   | exact sync_Whom.mono _ _ _ _
   | exact LeO.none _
   | refine LeO.ite ?_ ?_
   | refine LeO.bind ?_ (fun _ => ?_)
  ·intro y0 y1 y2 y3 y4 y5 y6 y7 y8 y9 y10 y11 y12 y13 y14
   unfold arraslaw25_SyncWhoms.j2
   repeat' first
   | (with_reducible exact ih0 _ _)
   | (with_reducible exact ih1 _ _ _)
   | (with_reducible exact ih2 _ _ _ _ _ _ _ _ _ _ _ _ _ _ _)
   | (with_reducible exact ih3 _ _ _ _ _ _ _ _ _ _ _ _ _ _)
   | (with_reducible exact ih4 _ _ _ _ _ _ _ _ _ _)
   | (with_reducible exact ih5 _ _ _ _ _ _ _ _ _ _ _)
   | (with_reducible exact ih6 _ _ _ _ _ _ _ _ _ _ _ _ _)
   | (with_reducible exact arraslaw25_wakes.mono _)
   | (with_reducible exact arrasref0_In.mono _ _ _)
   | (with_reducible exact sync_Whom.mono _ _ _ _)
   | (with_reducible exact LeO.refl _)
   | (with_reducible exact LeO.none _)
   | (with_reducible refine LeO.ite ?_ ?_)
   | (with_reducible refine LeO.bind ?_ (fun _ => ?_))
   | exact ih0 _ _
   | exact ih1 _ _ _
   | exact ih2 _ _ _ _ _ _ _ _ _ _ _ _ _ _ _
   | exact ih3 _ _ _ _ _ _ _ _ _ _ _ _ _ _
   | exact ih4 _ _ _ _ _ _ _ _ _ _
   | exact ih5 _ _ _ _ _ _ _ _ _ _ _
   | exact ih6 _ _ _ _ _ _ _ _ _ _ _ _ _
   | exact arraslaw25_wakes.mono _
   | exact arrasref0_In.mono _ _ _
   | exact sync_Whom.mono _ _ _ _
   | exact LeO.none _
   | refine LeO.ite ?_ ?_
   | refine LeO.bind ?_ (fun _ => ?_)
  ·intro y0 y1 y2 y3 y4 y5 y6 y7 y8 y9 y10 y11 y12 y13
   unfold arraslaw25_SyncWhoms.j3
   repeat' first
   | (with_reducible exact ih0 _ _)
   | (with_reducible exact ih1 _ _ _)
   | (with_reducible exact ih2 _ _ _ _ _ _ _ _ _ _ _ _ _ _ _)
   | (with_reducible exact ih3 _ _ _ _ _ _ _ _ _ _ _ _ _ _)
   | (with_reducible exact ih4 _ _ _ _ _ _ _ _ _ _)
   | (with_reducible exact ih5 _ _ _ _ _ _ _ _ _ _ _)
   | (with_reducible exact ih6 _ _ _ _ _ _ _ _ _ _ _ _ _)
   | (with_reducible exact arraslaw25_wakes.mono _)
   | (with_reducible exact arrasref0_In.mono _ _ _)
   | (with_reducible exact sync_Whom.mono _ _ _ _)
   | (with_reducible exact LeO.refl _)
   | (with_reducible exact LeO.none _)
   | (with_reducible refine LeO.ite ?_ ?_)
   | (with_reducible refine LeO.bind ?_ (fun _ => ?_))
   | exact ih0 _ _
   | exact ih1 _ _ _
   | exact ih2 _ _ _ _ _ _ _ _ _ _ _ _ _ _ _
   | exact ih3 _ _ _ _ _ _ _ _ _ _ _ _ _ _
   | exact ih4 _ _ _ _ _ _ _ _ _ _
   | exact ih5 _ _ _ _ _ _ _ _ _ _ _
   | exact ih6 _ _ _ _ _ _ _ _ _ _ _ _ _
   | exact arraslaw25_wakes.mono _
   | exact arrasref0_In.mono _ _ _
   | exact sync_Whom.mono _ _ _ _
   | exact LeO.none _
   | refine LeO.ite ?_ ?_
   | refine LeO.bind ?_ (fun _ => ?_)
  ·intro y0 y1 y2 y3 y4 y5 y6 y7 y8 y9
   unfold arraslaw25_SyncWhoms.j4
   repeat' first
   | (with_reducible exact ih0 _ _)
   | (with_reducible exact ih1 _ _ _)
   | (with_reducible exact ih2 _ _ _ _ _ _ _ _ _ _ _ _ _ _ _)
   | (with_reducible exact ih3 _ _ _ _ _ _ _ _ _ _ _ _ _ _)
   | (with_reducible exact ih4 _ _ _ _ _ _ _ _ _ _)
   | (with_reducible exact ih5 _ _ _ _ _ _ _ _ _ _ _)
   | (with_reducible exact ih6 _ _ _ _ _ _ _ _ _ _ _ _ _)
   | (with_reducible exact arraslaw25_wakes.mono _)
   | (with_reducible exact arrasref0_In.mono _ _ _)
   | (with_reducible exact sync_Whom.mono _ _ _ _)
   | (with_reducible exact LeO.refl _)
   | (with_reducible exact LeO.none _)
   | (with_reducible refine LeO.ite ?_ ?_)
   | (with_reducible refine LeO.bind ?_ (fun _ => ?_))
   | exact ih0 _ _
   | exact ih1 _ _ _
   | exact ih2 _ _ _ _ _ _ _ _ _ _ _ _ _ _ _
   | exact ih3 _ _ _ _ _ _ _ _ _ _ _ _ _ _
   | exact ih4 _ _ _ _ _ _ _ _ _ _
   | exact ih5 _ _ _ _ _ _ _ _ _ _ _
   | exact ih6 _ _ _ _ _ _ _ _ _ _ _ _ _
   | exact arraslaw25_wakes.mono _
   | exact arrasref0_In.mono _ _ _
   | exact sync_Whom.mono _ _ _ _
   | exact LeO.none _
   | refine LeO.ite ?_ ?_
   | refine LeO.bind ?_ (fun _ => ?_)
  ·intro y0 y1 y2 y3 y4 y5 y6 y7 y8 y9 y10
   unfold arraslaw25_SyncWhoms.l1
   repeat' first
   | (with_reducible exact ih0 _ _)
   | (with_reducible exact ih1 _ _ _)
   | (with_reducible exact ih2 _ _ _ _ _ _ _ _ _ _ _ _ _ _ _)
   | (with_reducible exact ih3 _ _ _ _ _ _ _ _ _ _ _ _ _ _)
   | (with_reducible exact ih4 _ _ _ _ _ _ _ _ _ _)
   | (with_reducible exact ih5 _ _ _ _ _ _ _ _ _ _ _)
   | (with_reducible exact ih6 _ _ _ _ _ _ _ _ _ _ _ _ _)
   | (with_reducible exact arraslaw25_wakes.mono _)
   | (with_reducible exact arrasref0_In.mono _ _ _)
   | (with_reducible exact sync_Whom.mono _ _ _ _)
   | (with_reducible exact LeO.refl _)
   | (with_reducible exact LeO.none _)
   | (with_reducible refine LeO.ite ?_ ?_)
   | (with_reducible refine LeO.bind ?_ (fun _ => ?_))
   | exact ih0 _ _
   | exact ih1 _ _ _
   | exact ih2 _ _ _ _ _ _ _ _ _ _ _ _ _ _ _
   | exact ih3 _ _ _ _ _ _ _ _ _ _ _ _ _ _
   | exact ih4 _ _ _ _ _ _ _ _ _ _
   | exact ih5 _ _ _ _ _ _ _ _ _ _ _
   | exact ih6 _ _ _ _ _ _ _ _ _ _ _ _ _
   | exact arraslaw25_wakes.mono _
   | exact arrasref0_In.mono _ _ _
   | exact sync_Whom.mono _ _ _ _
   | exact LeO.none _
   | refine LeO.ite ?_ ?_
   | refine LeO.bind ?_ (fun _ => ?_)
  ·intro y0 y1 y2 y3 y4 y5 y6 y7 y8 y9 y10 y11 y12
   unfold arraslaw25_SyncWhoms.j6
   repeat' first
   | (with_reducible exact ih0 _ _)
   | (with_reducible exact ih1 _ _ _)
   | (with_reducible exact ih2 _ _ _ _ _ _ _ _ _ _ _ _ _ _ _)
   | (with_reducible exact ih3 _ _ _ _ _ _ _ _ _ _ _ _ _ _)
   | (with_reducible exact ih4 _ _ _ _ _ _ _ _ _ _)
   | (with_reducible exact ih5 _ _ _ _ _ _ _ _ _ _ _)
   | (with_reducible exact ih6 _ _ _ _ _ _ _ _ _ _ _ _ _)
   | (with_reducible exact arraslaw25_wakes.mono _)
   | (with_reducible exact arrasref0_In.mono _ _ _)
   | (with_reducible exact sync_Whom.mono _ _ _ _)
   | (with_reducible exact LeO.refl _)
   | (with_reducible exact LeO.none _)
   | (with_reducible refine LeO.ite ?_ ?_)
   | (with_reducible refine LeO.bind ?_ (fun _ => ?_))
   | exact ih0 _ _
   | exact ih1 _ _ _
   | exact ih2 _ _ _ _ _ _ _ _ _ _ _ _ _ _ _
   | exact ih3 _ _ _ _ _ _ _ _ _ _ _ _ _ _
   | exact ih4 _ _ _ _ _ _ _ _ _ _
   | exact ih5 _ _ _ _ _ _ _ _ _ _ _
   | exact ih6 _ _ _ _ _ _ _ _ _ _ _ _ _
   | exact arraslaw25_wakes.mono _
   | exact arrasref0_In.mono _ _ _
   | exact sync_Whom.mono _ _ _ _
   | exact LeO.none _
   | refine LeO.ite ?_ ?_
   | refine LeO.bind ?_ (fun _ => ?_)
theorem arraslaw25_SyncWhoms.mono : ∀ a0 k, LeO (arraslaw25_SyncWhoms.f k a0) (arraslaw25_SyncWhoms.f (k + 1) a0) := by
 intro a0 k
 obtain ⟨ih0, ih1, ih2, ih3, ih4, ih5, ih6⟩ := arraslaw25_SyncWhoms.mono_l k
 unfold arraslaw25_SyncWhoms.f
 repeat' first
   | (with_reducible exact ih0 _ _)
   | (with_reducible exact ih1 _ _ _)
   | (with_reducible exact ih2 _ _ _ _ _ _ _ _ _ _ _ _ _ _ _)
   | (with_reducible exact ih3 _ _ _ _ _ _ _ _ _ _ _ _ _ _)
   | (with_reducible exact ih4 _ _ _ _ _ _ _ _ _ _)
   | (with_reducible exact ih5 _ _ _ _ _ _ _ _ _ _ _)
   | (with_reducible exact ih6 _ _ _ _ _ _ _ _ _ _ _ _ _)
   | (with_reducible exact arraslaw25_wakes.mono _)
   | (with_reducible exact arrasref0_In.mono _ _ _)
   | (with_reducible exact sync_Whom.mono _ _ _ _)
   | (with_reducible exact LeO.refl _)
   | (with_reducible exact LeO.none _)
   | (with_reducible refine LeO.ite ?_ ?_)
   | (with_reducible refine LeO.bind ?_ (fun _ => ?_))
   | exact ih0 _ _
   | exact ih1 _ _ _
   | exact ih2 _ _ _ _ _ _ _ _ _ _ _ _ _ _ _
   | exact ih3 _ _ _ _ _ _ _ _ _ _ _ _ _ _
   | exact ih4 _ _ _ _ _ _ _ _ _ _
   | exact ih5 _ _ _ _ _ _ _ _ _ _ _
   | exact ih6 _ _ _ _ _ _ _ _ _ _ _ _ _
   | exact arraslaw25_wakes.mono _
   | exact arrasref0_In.mono _ _ _
   | exact sync_Whom.mono _ _ _ _
   | exact LeO.none _
   | refine LeO.ite ?_ ?_
   | refine LeO.bind ?_ (fun _ => ?_)
noncomputable def arraslaw25_SyncWhoms.L0 (x0 : List (S26)) (x3 : Int) : Option (Bool) := Go.Proofs.YtpoohfmddkgndaaLabel.lim (fun k => arraslaw25_SyncWhoms.l0 k x0 x3)
noncomputable def arraslaw25_SyncWhoms.J1 (x0 : List (S26)) (x3 : Int) (x24 : Bool) : Option (Bool) := Go.Proofs.YtpoohfmddkgndaaLabel.lim (fun k => arraslaw25_SyncWhoms.j1 k x0 x3 x24)
noncomputable def arraslaw25_SyncWhoms.J2 (x0 : List (S26)) (x3 : Int) (x5 : Int) (x6 : Int) (x7 : Int) (x8 : Int) (x9 : Int) (x10 : Int) (x54 : Bool) (x110000 : List (S41)) (x110001 : List Int) (x110002 : Int) (x110003 : Int) (x110004 : Int) (x110005 : Int) : Option (Bool) := Go.Proofs.YtpoohfmddkgndaaLabel.lim (fun k => arraslaw25_SyncWhoms.j2 k x0 x3 x5 x6 x7 x8 x9 x10 x54 x110000 x110001 x110002 x110003 x110004 x110005)
noncomputable def arraslaw25_SyncWhoms.J3 (x0 : List (S26)) (x3 : Int) (x5 : Int) (x6 : Int) (x7 : Int) (x8 : Int) (x9 : Int) (x10 : Int) (x110000 : List (S41)) (x110001 : List Int) (x110002 : Int) (x110003 : Int) (x110004 : Int) (x110005 : Int) : Option (Bool) := Go.Proofs.YtpoohfmddkgndaaLabel.lim (fun k => arraslaw25_SyncWhoms.j3 k x0 x3 x5 x6 x7 x8 x9 x10 x110000 x110001 x110002 x110003 x110004 x110005)
noncomputable def arraslaw25_SyncWhoms.J4 (x0 : List (S26)) (x3 : Int) (x8 : Int) (x81 : Bool) (x110000 : List (S41)) (x110001 : List Int) (x110002 : Int) (x110003 : Int) (x110004 : Int) (x110005 : Int) : Option (Bool) := Go.Proofs.YtpoohfmddkgndaaLabel.lim (fun k => arraslaw25_SyncWhoms.j4 k x0 x3 x8 x81 x110000 x110001 x110002 x110003 x110004 x110005)
noncomputable def arraslaw25_SyncWhoms.L1 (x0 : List (S26)) (x3 : Int) (x11 : List Int) (x12 : Int) (x13 : Int) (x110000 : List (S41)) (x110001 : List Int) (x110002 : Int) (x110003 : Int) (x110004 : Int) (x110005 : Int) : Option (Bool) := Go.Proofs.YtpoohfmddkgndaaLabel.lim (fun k => arraslaw25_SyncWhoms.l1 k x0 x3 x11 x12 x13 x110000 x110001 x110002 x110003 x110004 x110005)
noncomputable def arraslaw25_SyncWhoms.J6 (x0 : List (S26)) (x3 : Int) (x11 : List Int) (x13 : Int) (x14 : Int) (x15 : Int) (x117 : Bool) (x110000 : List (S41)) (x110001 : List Int) (x110002 : Int) (x110003 : Int) (x110004 : Int) (x110005 : Int) : Option (Bool) := Go.Proofs.YtpoohfmddkgndaaLabel.lim (fun k => arraslaw25_SyncWhoms.j6 k x0 x3 x11 x13 x14 x15 x117 x110000 x110001 x110002 x110003 x110004 x110005)
theorem arraslaw25_SyncWhoms.L0_lim (x0 : List (S26)) (x3 : Int) : Go.Proofs.YtpoohfmddkgndaaLabel.Lim (fun k => arraslaw25_SyncWhoms.l0 k x0 x3) (arraslaw25_SyncWhoms.L0 x0 x3) := Go.Proofs.YtpoohfmddkgndaaLabel.lim_spec (fun k => (arraslaw25_SyncWhoms.mono_l k).1 x0 x3)
theorem arraslaw25_SyncWhoms.J1_lim (x0 : List (S26)) (x3 : Int) (x24 : Bool) : Go.Proofs.YtpoohfmddkgndaaLabel.Lim (fun k => arraslaw25_SyncWhoms.j1 k x0 x3 x24) (arraslaw25_SyncWhoms.J1 x0 x3 x24) := Go.Proofs.YtpoohfmddkgndaaLabel.lim_spec (fun k => (arraslaw25_SyncWhoms.mono_l k).2.1 x0 x3 x24)
theorem arraslaw25_SyncWhoms.J2_lim (x0 : List (S26)) (x3 : Int) (x5 : Int) (x6 : Int) (x7 : Int) (x8 : Int) (x9 : Int) (x10 : Int) (x54 : Bool) (x110000 : List (S41)) (x110001 : List Int) (x110002 : Int) (x110003 : Int) (x110004 : Int) (x110005 : Int) : Go.Proofs.YtpoohfmddkgndaaLabel.Lim (fun k => arraslaw25_SyncWhoms.j2 k x0 x3 x5 x6 x7 x8 x9 x10 x54 x110000 x110001 x110002 x110003 x110004 x110005) (arraslaw25_SyncWhoms.J2 x0 x3 x5 x6 x7 x8 x9 x10 x54 x110000 x110001 x110002 x110003 x110004 x110005) := Go.Proofs.YtpoohfmddkgndaaLabel.lim_spec (fun k => (arraslaw25_SyncWhoms.mono_l k).2.2.1 x0 x3 x5 x6 x7 x8 x9 x10 x54 x110000 x110001 x110002 x110003 x110004 x110005)
theorem arraslaw25_SyncWhoms.J3_lim (x0 : List (S26)) (x3 : Int) (x5 : Int) (x6 : Int) (x7 : Int) (x8 : Int) (x9 : Int) (x10 : Int) (x110000 : List (S41)) (x110001 : List Int) (x110002 : Int) (x110003 : Int) (x110004 : Int) (x110005 : Int) : Go.Proofs.YtpoohfmddkgndaaLabel.Lim (fun k => arraslaw25_SyncWhoms.j3 k x0 x3 x5 x6 x7 x8 x9 x10 x110000 x110001 x110002 x110003 x110004 x110005) (arraslaw25_SyncWhoms.J3 x0 x3 x5 x6 x7 x8 x9 x10 x110000 x110001 x110002 x110003 x110004 x110005) := Go.Proofs.YtpoohfmddkgndaaLabel.lim_spec (fun k => (arraslaw25_SyncWhoms.mono_l k).2.2.2.1 x0 x3 x5 x6 x7 x8 x9 x10 x110000 x110001 x110002 x110003 x110004 x110005)
theorem arraslaw25_SyncWhoms.J4_lim (x0 : List (S26)) (x3 : Int) (x8 : Int) (x81 : Bool) (x110000 : List (S41)) (x110001 : List Int) (x110002 : Int) (x110003 : Int) (x110004 : Int) (x110005 : Int) : Go.Proofs.YtpoohfmddkgndaaLabel.Lim (fun k => arraslaw25_SyncWhoms.j4 k x0 x3 x8 x81 x110000 x110001 x110002 x110003 x110004 x110005) (arraslaw25_SyncWhoms.J4 x0 x3 x8 x81 x110000 x110001 x110002 x110003 x110004 x110005) := Go.Proofs.YtpoohfmddkgndaaLabel.lim_spec (fun k => (arraslaw25_SyncWhoms.mono_l k).2.2.2.2.1 x0 x3 x8 x81 x110000 x110001 x110002 x110003 x110004 x110005)
theorem arraslaw25_SyncWhoms.L1_lim (x0 : List (S26)) (x3 : Int) (x11 : List Int) (x12 : Int) (x13 : Int) (x110000 : List (S41)) (x110001 : List Int) (x110002 : Int) (x110003 : Int) (x110004 : Int) (x110005 : Int) : Go.Proofs.YtpoohfmddkgndaaLabel.Lim (fun k => arraslaw25_SyncWhoms.l1 k x0 x3 x11 x12 x13 x110000 x110001 x110002 x110003 x110004 x110005) (arraslaw25_SyncWhoms.L1 x0 x3 x11 x12 x13 x110000 x110001 x110002 x110003 x110004 x110005) := Go.Proofs.YtpoohfmddkgndaaLabel.lim_spec (fun k => (arraslaw25_SyncWhoms.mono_l k).2.2.2.2.2.1 x0 x3 x11 x12 x13 x110000 x110001 x110002 x110003 x110004 x110005)
theorem arraslaw25_SyncWhoms.J6_lim (x0 : List (S26)) (x3 : Int) (x11 : List Int) (x13 : Int) (x14 : Int) (x15 : Int) (x117 : Bool) (x110000 : List (S41)) (x110001 : List Int) (x110002 : Int) (x110003 : Int) (x110004 : Int) (x110005 : Int) : Go.Proofs.YtpoohfmddkgndaaLabel.Lim (fun k => arraslaw25_SyncWhoms.j6 k x0 x3 x11 x13 x14 x15 x117 x110000 x110001 x110002 x110003 x110004 x110005) (arraslaw25_SyncWhoms.J6 x0 x3 x11 x13 x14 x15 x117 x110000 x110001 x110002 x110003 x110004 x110005) := Go.Proofs.YtpoohfmddkgndaaLabel.lim_spec (fun k => (arraslaw25_SyncWhoms.mono_l k).2.2.2.2.2.2 x0 x3 x11 x13 x14 x15 x117 x110000 x110001 x110002 x110003 x110004 x110005)
theorem arraslaw25_SyncWhoms.L0_eq (x0 : List (S26)) (x3 : Int) : arraslaw25_SyncWhoms.L0 x0 x3 = (if x3 < (x0.length : Int) then (arraslaw25_SyncWhoms.J1 x0 x3 (decide (x3 < 10))) else (arraslaw25_SyncWhoms.J1 x0 x3 false)) := by
  refine Go.Proofs.YtpoohfmddkgndaaLabel.Lim.unique (arraslaw25_SyncWhoms.L0_lim x0 x3).shift ?_
  simp only [arraslaw25_SyncWhoms.l0]
  (repeat' (first | exact Go.Proofs.YtpoohfmddkgndaaLabel.Lim.const _ | exact arraslaw25_SyncWhoms.L0_lim _ _ | exact arraslaw25_SyncWhoms.J1_lim _ _ _ | exact arraslaw25_SyncWhoms.J2_lim _ _ _ _ _ _ _ _ _ _ _ _ _ _ _ | exact arraslaw25_SyncWhoms.J3_lim _ _ _ _ _ _ _ _ _ _ _ _ _ _ | exact arraslaw25_SyncWhoms.J4_lim _ _ _ _ _ _ _ _ _ _ | exact arraslaw25_SyncWhoms.L1_lim _ _ _ _ _ _ _ _ _ _ _ | exact arraslaw25_SyncWhoms.J6_lim _ _ _ _ _ _ _ _ _ _ _ _ _ | exact arraslaw25_wakes.F_lim | exact arrasref0_In.F_lim _ _ | exact sync_Whom.F_lim _ _ _ | refine Go.Proofs.YtpoohfmddkgndaaLabel.Lim.ite ?_ ?_ | refine Go.Proofs.YtpoohfmddkgndaaLabel.Lim.bind ?_ (fun _ => ?_)))
theorem arraslaw25_SyncWhoms.J1_eq (x0 : List (S26)) (x3 : Int) (x24 : Bool) : arraslaw25_SyncWhoms.J1 x0 x3 x24 = (if x24 = true then (if 0 ≤ x3 then (if x3 < (x0.length : Int) then ((sync_Whom.F ((rd_T26 x0 x3).f5) ((rd_T26 x0 x3).f2) ((rd_T26 x0 x3).f4)).bind fun bt110 => ((arrasref25_Reps.f ((rd_T26 x0 x3).f2) ((rd_T26 x0 x3).f4)).bind fun t113 => (if t113 = true then ((arrasref0_Num.f ((rd_T26 x0 x3).f5) (wrap64 (((rd_T26 x0 x3).f4) - 1))).bind fun t114 => (arraslaw25_SyncWhoms.J2 x0 x3 bt110.1 bt110.2.1 bt110.2.2 1 0 0 t114 ((rd_T26 x0 x3).f0) ((rd_T26 x0 x3).f1) ((rd_T26 x0 x3).f2) ((rd_T26 x0 x3).f3) ((rd_T26 x0 x3).f4) ((rd_T26 x0 x3).f5))) else (arraslaw25_SyncWhoms.J2 x0 x3 bt110.1 bt110.2.1 bt110.2.2 1 0 0 false ((rd_T26 x0 x3).f0) ((rd_T26 x0 x3).f1) ((rd_T26 x0 x3).f2) ((rd_T26 x0 x3).f3) ((rd_T26 x0 x3).f4) ((rd_T26 x0 x3).f5))))) else (none)) else (none)) else ((arraslaw25_wakes.F).bind fun t107 => (some t107))) := by
  refine Go.Proofs.YtpoohfmddkgndaaLabel.Lim.unique (arraslaw25_SyncWhoms.J1_lim x0 x3 x24).shift ?_
  simp only [arraslaw25_SyncWhoms.j1]
  (repeat' (first | exact Go.Proofs.YtpoohfmddkgndaaLabel.Lim.const _ | exact arraslaw25_SyncWhoms.L0_lim _ _ | exact arraslaw25_SyncWhoms.J1_lim _ _ _ | exact arraslaw25_SyncWhoms.J2_lim _ _ _ _ _ _ _ _ _ _ _ _ _ _ _ | exact arraslaw25_SyncWhoms.J3_lim _ _ _ _ _ _ _ _ _ _ _ _ _ _ | exact arraslaw25_SyncWhoms.J4_lim _ _ _ _ _ _ _ _ _ _ | exact arraslaw25_SyncWhoms.L1_lim _ _ _ _ _ _ _ _ _ _ _ | exact arraslaw25_SyncWhoms.J6_lim _ _ _ _ _ _ _ _ _ _ _ _ _ | exact arraslaw25_wakes.F_lim | exact arrasref0_In.F_lim _ _ | exact sync_Whom.F_lim _ _ _ | refine Go.Proofs.YtpoohfmddkgndaaLabel.Lim.ite ?_ ?_ | refine Go.Proofs.YtpoohfmddkgndaaLabel.Lim.bind ?_ (fun _ => ?_)))
theorem arraslaw25_SyncWhoms.J2_eq (x0 : List (S26)) (x3 : Int) (x5 : Int) (x6 : Int) (x7 : Int) (x8 : Int) (x9 : Int) (x10 : Int) (x54 : Bool) (x110000 : List (S41)) (x110001 : List Int) (x110002 : Int) (x110003 : Int) (x110004 : Int) (x110005 : Int) : arraslaw25_SyncWhoms.J2 x0 x3 x5 x6 x7 x8 x9 x10 x54 x110000 x110001 x110002 x110003 x110004 x110005 = (if x54 = true then (if x110004 > 1 then ((arrasref25_Whom.f x110005 x110002 x110004).bind fun bt115 => (arraslaw25_SyncWhoms.J3 x0 x3 x5 x6 x7 0 bt115.1 bt115.2 x110000 x110001 x110002 x110003 x110004 x110005)) else (arraslaw25_SyncWhoms.J3 x0 x3 x5 x6 x7 3 x9 x10 x110000 x110001 x110002 x110003 x110004 x110005)) else (arraslaw25_SyncWhoms.J3 x0 x3 x5 x6 x7 x8 x9 x10 x110000 x110001 x110002 x110003 x110004 x110005)) := by
  refine Go.Proofs.YtpoohfmddkgndaaLabel.Lim.unique (arraslaw25_SyncWhoms.J2_lim x0 x3 x5 x6 x7 x8 x9 x10 x54 x110000 x110001 x110002 x110003 x110004 x110005).shift ?_
  simp only [arraslaw25_SyncWhoms.j2]
  (repeat' (first | exact Go.Proofs.YtpoohfmddkgndaaLabel.Lim.const _ | exact arraslaw25_SyncWhoms.L0_lim _ _ | exact arraslaw25_SyncWhoms.J1_lim _ _ _ | exact arraslaw25_SyncWhoms.J2_lim _ _ _ _ _ _ _ _ _ _ _ _ _ _ _ | exact arraslaw25_SyncWhoms.J3_lim _ _ _ _ _ _ _ _ _ _ _ _ _ _ | exact arraslaw25_SyncWhoms.J4_lim _ _ _ _ _ _ _ _ _ _ | exact arraslaw25_SyncWhoms.L1_lim _ _ _ _ _ _ _ _ _ _ _ | exact arraslaw25_SyncWhoms.J6_lim _ _ _ _ _ _ _ _ _ _ _ _ _ | exact arraslaw25_wakes.F_lim | exact arrasref0_In.F_lim _ _ | exact sync_Whom.F_lim _ _ _ | refine Go.Proofs.YtpoohfmddkgndaaLabel.Lim.ite ?_ ?_ | refine Go.Proofs.YtpoohfmddkgndaaLabel.Lim.bind ?_ (fun _ => ?_)))
theorem arraslaw25_SyncWhoms.J3_eq (x0 : List (S26)) (x3 : Int) (x5 : Int) (x6 : Int) (x7 : Int) (x8 : Int) (x9 : Int) (x10 : Int) (x110000 : List (S41)) (x110001 : List Int) (x110002 : Int) (x110003 : Int) (x110004 : Int) (x110005 : Int) : arraslaw25_SyncWhoms.J3 x0 x3 x5 x6 x7 x8 x9 x10 x110000 x110001 x110002 x110003 x110004 x110005 = ((arraslaw25_num.f x7).bind fun t117 => (if t117 = x8 then (if x5 = x9 then (arraslaw25_SyncWhoms.J4 x0 x3 x8 (x6 != x10) x110000 x110001 x110002 x110003 x110004 x110005) else (arraslaw25_SyncWhoms.J4 x0 x3 x8 true x110000 x110001 x110002 x110003 x110004 x110005)) else (arraslaw25_SyncWhoms.J4 x0 x3 x8 true x110000 x110001 x110002 x110003 x110004 x110005))) := by
  refine Go.Proofs.YtpoohfmddkgndaaLabel.Lim.unique (arraslaw25_SyncWhoms.J3_lim x0 x3 x5 x6 x7 x8 x9 x10 x110000 x110001 x110002 x110003 x110004 x110005).shift ?_
  simp only [arraslaw25_SyncWhoms.j3]
  (repeat' (first | exact Go.Proofs.YtpoohfmddkgndaaLabel.Lim.const _ | exact arraslaw25_SyncWhoms.L0_lim _ _ | exact arraslaw25_SyncWhoms.J1_lim _ _ _ | exact arraslaw25_SyncWhoms.J2_lim _ _ _ _ _ _ _ _ _ _ _ _ _ _ _ | exact arraslaw25_SyncWhoms.J3_lim _ _ _ _ _ _ _ _ _ _ _ _ _ _ | exact arraslaw25_SyncWhoms.J4_lim _ _ _ _ _ _ _ _ _ _ | exact arraslaw25_SyncWhoms.L1_lim _ _ _ _ _ _ _ _ _ _ _ | exact arraslaw25_SyncWhoms.J6_lim _ _ _ _ _ _ _ _ _ _ _ _ _ | exact arraslaw25_wakes.F_lim | exact arrasref0_In.F_lim _ _ | exact sync_Whom.F_lim _ _ _ | refine Go.Proofs.YtpoohfmddkgndaaLabel.Lim.ite ?_ ?_ | refine Go.Proofs.YtpoohfmddkgndaaLabel.Lim.bind ?_ (fun _ => ?_)))
theorem arraslaw25_SyncWhoms.J4_eq (x0 : List (S26)) (x3 : Int) (x8 : Int) (x81 : Bool) (x110000 : List (S41)) (x110001 : List Int) (x110002 : Int) (x110003 : Int) (x110004 : Int) (x110005 : Int) : arraslaw25_SyncWhoms.J4 x0 x3 x8 x81 x110000 x110001 x110002 x110003 x110004 x110005 = (if x81 = true then (some false) else (if x8 = 0 then (arraslaw25_SyncWhoms.L1 x0 x3 ([] : List Int) x110005 0 x110000 x110001 x110002 x110003 x110004 x110005) else (arraslaw25_SyncWhoms.L0 x0 (wrap64 (x3 + 1))))) := by
  refine Go.Proofs.YtpoohfmddkgndaaLabel.Lim.unique (arraslaw25_SyncWhoms.J4_lim x0 x3 x8 x81 x110000 x110001 x110002 x110003 x110004 x110005).shift ?_
  simp only [arraslaw25_SyncWhoms.j4]
  (repeat' (first | exact Go.Proofs.YtpoohfmddkgndaaLabel.Lim.const _ | exact arraslaw25_SyncWhoms.L0_lim _ _ | exact arraslaw25_SyncWhoms.J1_lim _ _ _ | exact arraslaw25_SyncWhoms.J2_lim _ _ _ _ _ _ _ _ _ _ _ _ _ _ _ | exact arraslaw25_SyncWhoms.J3_lim _ _ _ _ _ _ _ _ _ _ _ _ _ _ | exact arraslaw25_SyncWhoms.J4_lim _ _ _ _ _ _ _ _ _ _ | exact arraslaw25_SyncWhoms.L1_lim _ _ _ _ _ _ _ _ _ _ _ | exact arraslaw25_SyncWhoms.J6_lim _ _ _ _ _ _ _ _ _ _ _ _ _ | exact arraslaw25_wakes.F_lim | exact arrasref0_In.F_lim _ _ | exact sync_Whom.F_lim _ _ _ | refine Go.Proofs.YtpoohfmddkgndaaLabel.Lim.ite ?_ ?_ | refine Go.Proofs.YtpoohfmddkgndaaLabel.Lim.bind ?_ (fun _ => ?_)))
theorem arraslaw25_SyncWhoms.L1_eq (x0 : List (S26)) (x3 : Int) (x11 : List Int) (x12 : Int) (x13 : Int) (x110000 : List (S41)) (x110001 : List Int) (x110002 : Int) (x110003 : Int) (x110004 : Int) (x110005 : Int) : arraslaw25_SyncWhoms.L1 x0 x3 x11 x12 x13 x110000 x110001 x110002 x110003 x110004 x110005 = (if x13 < (wrap64 (x110004 - 1)) then ((sync_Whom.F x12 x110002 x110004).bind fun bt118 => ((arraslaw25_num.f bt118.2.2).bind fun t121 => (if t121 = 0 then (if bt118.1 = x110002 then (arraslaw25_SyncWhoms.J6 x0 x3 x11 x13 bt118.1 bt118.2.1 true x110000 x110001 x110002 x110003 x110004 x110005) else ((arrasref0_In.F x11 bt118.1).bind fun t122 => (arraslaw25_SyncWhoms.J6 x0 x3 x11 x13 bt118.1 bt118.2.1 (decide (t122 ≥ 0)) x110000 x110001 x110002 x110003 x110004 x110005))) else (arraslaw25_SyncWhoms.J6 x0 x3 x11 x13 bt118.1 bt118.2.1 true x110000 x110001 x110002 x110003 x110004 x110005)))) else (arraslaw25_SyncWhoms.L0 x0 (wrap64 (x3 + 1)))) := by
  refine Go.Proofs.YtpoohfmddkgndaaLabel.Lim.unique (arraslaw25_SyncWhoms.L1_lim x0 x3 x11 x12 x13 x110000 x110001 x110002 x110003 x110004 x110005).shift ?_
  simp only [arraslaw25_SyncWhoms.l1]
  (repeat' (first | exact Go.Proofs.YtpoohfmddkgndaaLabel.Lim.const _ | exact arraslaw25_SyncWhoms.L0_lim _ _ | exact arraslaw25_SyncWhoms.J1_lim _ _ _ | exact arraslaw25_SyncWhoms.J2_lim _ _ _ _ _ _ _ _ _ _ _ _ _ _ _ | exact arraslaw25_SyncWhoms.J3_lim _ _ _ _ _ _ _ _ _ _ _ _ _ _ | exact arraslaw25_SyncWhoms.J4_lim _ _ _ _ _ _ _ _ _ _ | exact arraslaw25_SyncWhoms.L1_lim _ _ _ _ _ _ _ _ _ _ _ | exact arraslaw25_SyncWhoms.J6_lim _ _ _ _ _ _ _ _ _ _ _ _ _ | exact arraslaw25_wakes.F_lim | exact arrasref0_In.F_lim _ _ | exact sync_Whom.F_lim _ _ _ | refine Go.Proofs.YtpoohfmddkgndaaLabel.Lim.ite ?_ ?_ | refine Go.Proofs.YtpoohfmddkgndaaLabel.Lim.bind ?_ (fun _ => ?_)))
theorem arraslaw25_SyncWhoms.J6_eq (x0 : List (S26)) (x3 : Int) (x11 : List Int) (x13 : Int) (x14 : Int) (x15 : Int) (x117 : Bool) (x110000 : List (S41)) (x110001 : List Int) (x110002 : Int) (x110003 : Int) (x110004 : Int) (x110005 : Int) : arraslaw25_SyncWhoms.J6 x0 x3 x11 x13 x14 x15 x117 x110000 x110001 x110002 x110003 x110004 x110005 = (if x117 = true then (some false) else (if x11.length < 17592186044416 then (arraslaw25_SyncWhoms.L1 x0 x3 (x11 ++ [x14]) x15 (wrap64 (x13 + 1)) x110000 x110001 x110002 x110003 x110004 x110005) else (none))) := by
  refine Go.Proofs.YtpoohfmddkgndaaLabel.Lim.unique (arraslaw25_SyncWhoms.J6_lim x0 x3 x11 x13 x14 x15 x117 x110000 x110001 x110002 x110003 x110004 x110005).shift ?_
  simp only [arraslaw25_SyncWhoms.j6]
  (repeat' (first | exact Go.Proofs.YtpoohfmddkgndaaLabel.Lim.const _ | exact arraslaw25_SyncWhoms.L0_lim _ _ | exact arraslaw25_SyncWhoms.J1_lim _ _ _ | exact arraslaw25_SyncWhoms.J2_lim _ _ _ _ _ _ _ _ _ _ _ _ _ _ _ | exact arraslaw25_SyncWhoms.J3_lim _ _ _ _ _ _ _ _ _ _ _ _ _ _ | exact arraslaw25_SyncWhoms.J4_lim _ _ _ _ _ _ _ _ _ _ | exact arraslaw25_SyncWhoms.L1_lim _ _ _ _ _ _ _ _ _ _ _ | exact arraslaw25_SyncWhoms.J6_lim _ _ _ _ _ _ _ _ _ _ _ _ _ | exact arraslaw25_wakes.F_lim | exact arrasref0_In.F_lim _ _ | exact sync_Whom.F_lim _ _ _ | refine Go.Proofs.YtpoohfmddkgndaaLabel.Lim.ite ?_ ?_ | refine Go.Proofs.YtpoohfmddkgndaaLabel.Lim.bind ?_ (fun _ => ?_)))
noncomputable def arraslaw25_SyncWhoms.F (l0 : List (S26)) : Option (Bool) := Go.Proofs.YtpoohfmddkgndaaLabel.lim (fun k => arraslaw25_SyncWhoms.f k l0)
theorem arraslaw25_SyncWhoms.F_lim (l0 : List (S26)) : Go.Proofs.YtpoohfmddkgndaaLabel.Lim (fun k => arraslaw25_SyncWhoms.f k l0) (arraslaw25_SyncWhoms.F l0) := Go.Proofs.YtpoohfmddkgndaaLabel.lim_spec (arraslaw25_SyncWhoms.mono l0)
theorem arraslaw25_SyncWhoms.F_eq (l0 : List (S26)) : arraslaw25_SyncWhoms.F l0 = (arraslaw25_SyncWhoms.L0 l0 0) := by
  refine Go.Proofs.YtpoohfmddkgndaaLabel.Lim.unique (arraslaw25_SyncWhoms.F_lim l0) ?_
  simp only [arraslaw25_SyncWhoms.f]
  (repeat' (first | exact Go.Proofs.YtpoohfmddkgndaaLabel.Lim.const _ | exact arraslaw25_SyncWhoms.L0_lim _ _ | exact arraslaw25_SyncWhoms.J1_lim _ _ _ | exact arraslaw25_SyncWhoms.J2_lim _ _ _ _ _ _ _ _ _ _ _ _ _ _ _ | exact arraslaw25_SyncWhoms.J3_lim _ _ _ _ _ _ _ _ _ _ _ _ _ _ | exact arraslaw25_SyncWhoms.J4_lim _ _ _ _ _ _ _ _ _ _ | exact arraslaw25_SyncWhoms.L1_lim _ _ _ _ _ _ _ _ _ _ _ | exact arraslaw25_SyncWhoms.J6_lim _ _ _ _ _ _ _ _ _ _ _ _ _ | exact arraslaw25_wakes.F_lim | exact arrasref0_In.F_lim _ _ | exact sync_Whom.F_lim _ _ _ | refine Go.Proofs.YtpoohfmddkgndaaLabel.Lim.ite ?_ ?_ | refine Go.Proofs.YtpoohfmddkgndaaLabel.Lim.bind ?_ (fun _ => ?_)))

end Go.Proofs.Ytpoohfmddkgndaa.PW
