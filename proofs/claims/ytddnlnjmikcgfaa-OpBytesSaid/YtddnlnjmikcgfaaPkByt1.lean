/- Own texts and the words of this seat, as far as this claim reads them: PCx3, Opens, StatOpBytes, LibR, LibP, LibO, LibQ, LibW, LibX, PureOpBytes, PCx5, PCx6, PCx1, PCx29, PCx30, PCx31, PCx32, PCx33, PCx34, PCx35, PCx36. -/
import Derived.Test.YtddnlnjmikcgfaaPkByt0
import Derived.Deep.Slices
import Derived.KernelRfl
import Derived.Laws.Bits128
import Derived.Laws.BitsLemmas
import Derived.Lib.SlBytesConst
import Derived.SizedLaws
section
namespace Go.Proofs.Ytddnlnjmikcgfaa.PC
open Go.RowKit Go.WB.PrintWords Go.WB.PrintLast Go.WB.PrintMore
attribute [local go_sem] cB cZ dE dD bP bQ cO cK
set_option linter.unusedVariables false
set_option linter.unusedSimpArgs false
set_option maxHeartbeats 40000000
set_option maxRecDepth 100000
def bF.l0 : Nat → List Int → Int → Option (List Int)
 | 0, _, _ => none
 | k + 1, x0, x1 => if x1 ≥ 128 then (if x0.length < 140737488355328 then (bF.l0 k (x0 ++ [Go.bits .or .u8 ((x1) % 256) 128]) (x1 / 128)) else (none)) else (if x0.length < 140737488355328 then (some (x0 ++ [(x1) % 256])) else (none))
def bF.f (k : Nat) (l0 : List Int) (a1 : Int) : Option (List Int) := bF.l0 k l0 a1
theorem bF.dC : ∀ k, (∀ y0 y1, LeO (bF.l0 k y0 y1) (bF.l0 (k + 1) y0 y1))
 | 0 => fun _ _ r h => by simp [bF.l0] at h
 | k + 1 => by
  have ih0 := bF.dC k
  ·intro y0 y1
   unfold bF.l0
   repeat' first
   | (with_reducible exact ih0 _ _)
   | (with_reducible exact LeO.refl _)
   | (with_reducible exact LeO.none _)
   | (with_reducible refine LeO.ite ?_ ?_)
   | (with_reducible refine LeO.bind ?_ (fun _ => ?_))
   | exact ih0 _ _
   | exact LeO.none _
   | refine LeO.ite ?_ ?_
   | refine LeO.bind ?_ (fun _ => ?_)
theorem bF.mono : ∀ a0 a1 k, LeO (bF.f k a0 a1) (bF.f (k + 1) a0 a1) := by
 intro a0 a1 k
 have ih0 := bF.dC k
 unfold bF.f
 repeat' first
   | (with_reducible exact ih0 _ _)
   | (with_reducible exact LeO.refl _)
   | (with_reducible exact LeO.none _)
   | (with_reducible refine LeO.ite ?_ ?_)
   | (with_reducible refine LeO.bind ?_ (fun _ => ?_))
   | exact ih0 _ _
   | exact LeO.none _
   | refine LeO.ite ?_ ?_
   | refine LeO.bind ?_ (fun _ => ?_)
noncomputable def bF.L0 (x0 : List Int) (x1 : Int) : Option (List Int) := LB.lim (fun k => bF.l0 k x0 x1)
theorem bF.dZ (x0 : List Int) (x1 : Int) : LB.Lim (fun k => bF.l0 k x0 x1) (bF.L0 x0 x1) := LB.bT (fun k => (bF.dC k) x0 x1)
theorem bF.iX (x0 : List Int) (x1 : Int) : bF.L0 x0 x1 = (if x1 ≥ 128 then (if x0.length < 140737488355328 then (bF.L0 (x0 ++ [Go.bits .or .u8 ((x1) % 256) 128]) (x1 / 128)) else (none)) else (if x0.length < 140737488355328 then (some (x0 ++ [(x1) % 256])) else (none))) := by
  refine LB.Lim.unique (bF.dZ x0 x1).shift ?_
  simp only [bF.l0]
  (repeat' (first | exact LB.Lim.const _ | exact bF.dZ _ _ | refine LB.Lim.ite ?_ ?_ | refine LB.Lim.bind ?_ (fun _ => ?_)))
noncomputable def bF.F (l0 : List Int) (a1 : Int) : Option (List Int) := LB.lim (fun k => bF.f k l0 a1)
theorem bF.bS (l0 : List Int) (a1 : Int) : LB.Lim (fun k => bF.f k l0 a1) (bF.F l0 a1) := LB.bT (bF.mono l0 a1)
theorem bF.gU (l0 : List Int) (a1 : Int) : bF.F l0 a1 = (bF.L0 l0 a1) := by
  refine LB.Lim.unique (bF.bS l0 a1) ?_
  simp only [bF.f]
  (repeat' (first | exact LB.Lim.const _ | exact bF.dZ _ _ | refine LB.Lim.ite ?_ ?_ | refine LB.Lim.bind ?_ (fun _ => ?_)))
def bH.l0 : Nat → List Int → List Int → Int → Int → Option (List Int)
 | 0, _, _, _, _ => none
 | k + 1, x0, x11, x12, x13 => if x13 < x12 then (if 0 ≤ x13 then (if x13 < (x11.length : Int) then ((bF.f k x0 (rd x11 x13)).bind fun t374 => (bH.l0 k t374 x11 x12 (wrap64 (x13 + 1)))) else (none)) else (none)) else (some x0)
def bH.f (k : Nat) (l0 : List Int) (l1 : List Int) : Option (List Int) := (bF.f k l0 (l1.length : Int)).bind fun t370 => (bH.l0 k t370 l1 (l1.length : Int) 0)
theorem bH.dC : ∀ k, (∀ y0 y1 y2 y3, LeO (bH.l0 k y0 y1 y2 y3) (bH.l0 (k + 1) y0 y1 y2 y3))
 | 0 => fun _ _ _ _ r h => by simp [bH.l0] at h
 | k + 1 => by
  have ih0 := bH.dC k
  ·intro y0 y1 y2 y3
   unfold bH.l0
   repeat' first
   | (with_reducible exact ih0 _ _ _ _)
   | (with_reducible exact bF.mono _ _ _)
   | (with_reducible exact LeO.refl _)
   | (with_reducible exact LeO.none _)
   | (with_reducible refine LeO.ite ?_ ?_)
   | (with_reducible refine LeO.bind ?_ (fun _ => ?_))
   | exact ih0 _ _ _ _
   | exact bF.mono _ _ _
   | exact LeO.none _
   | refine LeO.ite ?_ ?_
   | refine LeO.bind ?_ (fun _ => ?_)
theorem bH.mono : ∀ a0 a1 k, LeO (bH.f k a0 a1) (bH.f (k + 1) a0 a1) := by
 intro a0 a1 k
 have ih0 := bH.dC k
 unfold bH.f
 repeat' first
   | (with_reducible exact ih0 _ _ _ _)
   | (with_reducible exact bF.mono _ _ _)
   | (with_reducible exact LeO.refl _)
   | (with_reducible exact LeO.none _)
   | (with_reducible refine LeO.ite ?_ ?_)
   | (with_reducible refine LeO.bind ?_ (fun _ => ?_))
   | exact ih0 _ _ _ _
   | exact bF.mono _ _ _
   | exact LeO.none _
   | refine LeO.ite ?_ ?_
   | refine LeO.bind ?_ (fun _ => ?_)
noncomputable def bH.L0 (x0 : List Int) (x11 : List Int) (x12 : Int) (x13 : Int) : Option (List Int) := LB.lim (fun k => bH.l0 k x0 x11 x12 x13)
theorem bH.dZ (x0 : List Int) (x11 : List Int) (x12 : Int) (x13 : Int) : LB.Lim (fun k => bH.l0 k x0 x11 x12 x13) (bH.L0 x0 x11 x12 x13) := LB.bT (fun k => (bH.dC k) x0 x11 x12 x13)
theorem bH.iX (x0 : List Int) (x11 : List Int) (x12 : Int) (x13 : Int) : bH.L0 x0 x11 x12 x13 = (if x13 < x12 then (if 0 ≤ x13 then (if x13 < (x11.length : Int) then ((bF.F x0 (rd x11 x13)).bind fun t374 => (bH.L0 t374 x11 x12 (wrap64 (x13 + 1)))) else (none)) else (none)) else (some x0)) := by
  refine LB.Lim.unique (bH.dZ x0 x11 x12 x13).shift ?_
  simp only [bH.l0]
  (repeat' (first | exact LB.Lim.const _ | exact bH.dZ _ _ _ _ | exact bF.bS _ _ | refine LB.Lim.ite ?_ ?_ | refine LB.Lim.bind ?_ (fun _ => ?_)))
noncomputable def bH.F (l0 : List Int) (l1 : List Int) : Option (List Int) := LB.lim (fun k => bH.f k l0 l1)
theorem bH.bS (l0 : List Int) (l1 : List Int) : LB.Lim (fun k => bH.f k l0 l1) (bH.F l0 l1) := LB.bT (bH.mono l0 l1)
theorem bH.gU (l0 : List Int) (l1 : List Int) : bH.F l0 l1 = ((bF.F l0 (l1.length : Int)).bind fun t370 => (bH.L0 t370 l1 (l1.length : Int) 0)) := by
  refine LB.Lim.unique (bH.bS l0 l1) ?_
  simp only [bH.f]
  (repeat' (first | exact LB.Lim.const _ | exact bH.dZ _ _ _ _ | exact bF.bS _ _ | refine LB.Lim.ite ?_ ?_ | refine LB.Lim.bind ?_ (fun _ => ?_)))
def dz.f (k : Nat) (l0 : List Int) (a1_0 : Int) (a1_1 : Int) : Option (List Int) := (bF.f k l0 a1_0).bind fun t378 => ((bF.f k t378 a1_1).bind fun t381 => (some t381))
theorem dz.mono : ∀ a0 a1 a2 k, LeO (dz.f k a0 a1 a2) (dz.f (k + 1) a0 a1 a2) := by
 intro a0 a1 a2 k
 unfold dz.f
 repeat' first
   | (with_reducible exact bF.mono _ _ _)
   | (with_reducible exact LeO.refl _)
   | (with_reducible exact LeO.none _)
   | (with_reducible refine LeO.ite ?_ ?_)
   | (with_reducible refine LeO.bind ?_ (fun _ => ?_))
   | exact bF.mono _ _ _
   | exact LeO.none _
   | refine LeO.ite ?_ ?_
   | refine LeO.bind ?_ (fun _ => ?_)
noncomputable def dz.F (l0 : List Int) (a1_0 : Int) (a1_1 : Int) : Option (List Int) := LB.lim (fun k => dz.f k l0 a1_0 a1_1)
theorem dz.bS (l0 : List Int) (a1_0 : Int) (a1_1 : Int) : LB.Lim (fun k => dz.f k l0 a1_0 a1_1) (dz.F l0 a1_0 a1_1) := LB.bT (dz.mono l0 a1_0 a1_1)
theorem dz.gU (l0 : List Int) (a1_0 : Int) (a1_1 : Int) : dz.F l0 a1_0 a1_1 = ((bF.F l0 a1_0).bind fun t378 => ((bF.F t378 a1_1).bind fun t381 => (some t381))) := by
  refine LB.Lim.unique (dz.bS l0 a1_0 a1_1) ?_
  simp only [dz.f]
  (repeat' (first | exact LB.Lim.const _ | exact bF.bS _ _ | refine LB.Lim.ite ?_ ?_ | refine LB.Lim.bind ?_ (fun _ => ?_)))
def dA.f (k : Nat) (l0 : List Int) (a1 : ByteArray) : Option (List Int) := (bF.f k l0 (a1.size : Int)).bind fun t384 => (if t384.length + a1.size < 140737488355328 then (some (t384 ++ bytesOf a1)) else (none))
theorem dA.mono : ∀ a0 a1 k, LeO (dA.f k a0 a1) (dA.f (k + 1) a0 a1) := by
 intro a0 a1 k
 unfold dA.f
 repeat' first
   | (with_reducible exact bF.mono _ _ _)
   | (with_reducible exact LeO.refl _)
   | (with_reducible exact LeO.none _)
   | (with_reducible refine LeO.ite ?_ ?_)
   | (with_reducible refine LeO.bind ?_ (fun _ => ?_))
   | exact bF.mono _ _ _
   | exact LeO.none _
   | refine LeO.ite ?_ ?_
   | refine LeO.bind ?_ (fun _ => ?_)
noncomputable def dA.F (l0 : List Int) (a1 : ByteArray) : Option (List Int) := LB.lim (fun k => dA.f k l0 a1)
theorem dA.bS (l0 : List Int) (a1 : ByteArray) : LB.Lim (fun k => dA.f k l0 a1) (dA.F l0 a1) := LB.bT (dA.mono l0 a1)
theorem dA.gU (l0 : List Int) (a1 : ByteArray) : dA.F l0 a1 = ((bF.F l0 (a1.size : Int)).bind fun t384 => (if t384.length + a1.size < 140737488355328 then (some (t384 ++ bytesOf a1)) else (none))) := by
  refine LB.Lim.unique (dA.bS l0 a1) ?_
  simp only [dA.f]
  (repeat' (first | exact LB.Lim.const _ | exact bF.bS _ _ | refine LB.Lim.ite ?_ ?_ | refine LB.Lim.bind ?_ (fun _ => ?_)))
def dL.f (k : Nat) (l0 : List Int) (a1_0 : Int) (a1_1 : Int) (a1_2 : Int) (l1_3 : List Int) (a1_4 : Int) (a1_5 : Int) (a1_6 : Int) (a1_7 : Int) (a1_8 : Int) (a1_9 : ByteArray) (a1_10 : Int) (a1_11 : Int) : Option (List Int) := (dz.f k l0 a1_0 a1_1).bind fun t391 => ((bH.f k t391 l1_3).bind fun t394 => ((bF.f k t394 a1_4).bind fun t397 => ((dz.f k t397 a1_5 a1_6).bind fun t400 => (if a1_4 = 1 then ((dz.f k t400 a1_7 a1_8).bind fun t403 => ((dA.f k t403 a1_9).bind fun t406 => (some t406))) else ((bF.f k t400 a1_10).bind fun t409 => ((bF.f k t409 (wrap64 (a1_11 + 1))).bind fun t412 => (some t412)))))))
theorem dL.mono : ∀ a0 a1 a2 a3 a4 a5 a6 a7 a8 a9 a10 a11 a12 k, LeO (dL.f k a0 a1 a2 a3 a4 a5 a6 a7 a8 a9 a10 a11 a12) (dL.f (k + 1) a0 a1 a2 a3 a4 a5 a6 a7 a8 a9 a10 a11 a12) := by
 intro a0 a1 a2 a3 a4 a5 a6 a7 a8 a9 a10 a11 a12 k
 unfold dL.f
 repeat' first
   | (with_reducible exact bF.mono _ _ _)
   | (with_reducible exact bH.mono _ _ _)
   | (with_reducible exact dA.mono _ _ _)
   | (with_reducible exact dz.mono _ _ _ _)
   | (with_reducible exact LeO.refl _)
   | (with_reducible exact LeO.none _)
   | (with_reducible refine LeO.ite ?_ ?_)
   | (with_reducible refine LeO.bind ?_ (fun _ => ?_))
   | exact bF.mono _ _ _
   | exact bH.mono _ _ _
   | exact dA.mono _ _ _
   | exact dz.mono _ _ _ _
   | exact LeO.none _
   | refine LeO.ite ?_ ?_
   | refine LeO.bind ?_ (fun _ => ?_)
noncomputable def dL.F (l0 : List Int) (a1_0 : Int) (a1_1 : Int) (a1_2 : Int) (l1_3 : List Int) (a1_4 : Int) (a1_5 : Int) (a1_6 : Int) (a1_7 : Int) (a1_8 : Int) (a1_9 : ByteArray) (a1_10 : Int) (a1_11 : Int) : Option (List Int) := LB.lim (fun k => dL.f k l0 a1_0 a1_1 a1_2 l1_3 a1_4 a1_5 a1_6 a1_7 a1_8 a1_9 a1_10 a1_11)
theorem dL.bS (l0 : List Int) (a1_0 : Int) (a1_1 : Int) (a1_2 : Int) (l1_3 : List Int) (a1_4 : Int) (a1_5 : Int) (a1_6 : Int) (a1_7 : Int) (a1_8 : Int) (a1_9 : ByteArray) (a1_10 : Int) (a1_11 : Int) : LB.Lim (fun k => dL.f k l0 a1_0 a1_1 a1_2 l1_3 a1_4 a1_5 a1_6 a1_7 a1_8 a1_9 a1_10 a1_11) (dL.F l0 a1_0 a1_1 a1_2 l1_3 a1_4 a1_5 a1_6 a1_7 a1_8 a1_9 a1_10 a1_11) := LB.bT (dL.mono l0 a1_0 a1_1 a1_2 l1_3 a1_4 a1_5 a1_6 a1_7 a1_8 a1_9 a1_10 a1_11)
theorem dL.gU (l0 : List Int) (a1_0 : Int) (a1_1 : Int) (a1_2 : Int) (l1_3 : List Int) (a1_4 : Int) (a1_5 : Int) (a1_6 : Int) (a1_7 : Int) (a1_8 : Int) (a1_9 : ByteArray) (a1_10 : Int) (a1_11 : Int) : dL.F l0 a1_0 a1_1 a1_2 l1_3 a1_4 a1_5 a1_6 a1_7 a1_8 a1_9 a1_10 a1_11 = ((dz.F l0 a1_0 a1_1).bind fun t391 => ((bH.F t391 l1_3).bind fun t394 => ((bF.F t394 a1_4).bind fun t397 => ((dz.F t397 a1_5 a1_6).bind fun t400 => (if a1_4 = 1 then ((dz.F t400 a1_7 a1_8).bind fun t403 => ((dA.F t403 a1_9).bind fun t406 => (some t406))) else ((bF.F t400 a1_10).bind fun t409 => ((bF.F t409 (wrap64 (a1_11 + 1))).bind fun t412 => (some t412)))))))) := by
  refine LB.Lim.unique (dL.bS l0 a1_0 a1_1 a1_2 l1_3 a1_4 a1_5 a1_6 a1_7 a1_8 a1_9 a1_10 a1_11) ?_
  simp only [dL.f]
  (repeat' (first | exact LB.Lim.const _ | exact bF.bS _ _ | exact bH.bS _ _ | exact dA.bS _ _ | exact dz.bS _ _ _ | refine LB.Lim.ite ?_ ?_ | refine LB.Lim.bind ?_ (fun _ => ?_)))
def dF.f (k : Nat) (a0_0 : Int) (a0_1 : Int) (a0_2 : Int) (l0_3 : List Int) (a0_4 : Int) (a0_5 : Int) (a0_6 : Int) (a0_7 : Int) (a0_8 : Int) (a0_9 : ByteArray) (a0_10 : Int) (a0_11 : Int) : Option (List Int × Int) := (cz.f k a0_0 a0_1 a0_2 l0_3 a0_4 a0_5 a0_6 a0_7 a0_8 a0_9 a0_10 a0_11).bind fun t416 => (if t416 = true then ((dL.f k ([] : List Int) a0_0 a0_1 a0_2 l0_3 a0_4 a0_5 a0_6 a0_7 a0_8 a0_9 a0_10 a0_11).bind fun t417 => (some (t417, 0))) else (some (([] : List Int), 1)))
theorem dF.mono : ∀ a0 a1 a2 a3 a4 a5 a6 a7 a8 a9 a10 a11 k, LeO (dF.f k a0 a1 a2 a3 a4 a5 a6 a7 a8 a9 a10 a11) (dF.f (k + 1) a0 a1 a2 a3 a4 a5 a6 a7 a8 a9 a10 a11) := by
 intro a0 a1 a2 a3 a4 a5 a6 a7 a8 a9 a10 a11 k
 unfold dF.f
 repeat' first
   | (with_reducible exact cz.mono _ _ _ _ _ _ _ _ _ _ _ _ _)
   | (with_reducible exact dL.mono _ _ _ _ _ _ _ _ _ _ _ _ _ _)
   | (with_reducible exact LeO.refl _)
   | (with_reducible exact LeO.none _)
   | (with_reducible refine LeO.ite ?_ ?_)
   | (with_reducible refine LeO.bind ?_ (fun _ => ?_))
   | exact cz.mono _ _ _ _ _ _ _ _ _ _ _ _ _
   | exact dL.mono _ _ _ _ _ _ _ _ _ _ _ _ _ _
   | exact LeO.none _
   | refine LeO.ite ?_ ?_
   | refine LeO.bind ?_ (fun _ => ?_)
noncomputable def dF.F (a0_0 : Int) (a0_1 : Int) (a0_2 : Int) (l0_3 : List Int) (a0_4 : Int) (a0_5 : Int) (a0_6 : Int) (a0_7 : Int) (a0_8 : Int) (a0_9 : ByteArray) (a0_10 : Int) (a0_11 : Int) : Option (List Int × Int) := LB.lim (fun k => dF.f k a0_0 a0_1 a0_2 l0_3 a0_4 a0_5 a0_6 a0_7 a0_8 a0_9 a0_10 a0_11)
theorem dF.bS (a0_0 : Int) (a0_1 : Int) (a0_2 : Int) (l0_3 : List Int) (a0_4 : Int) (a0_5 : Int) (a0_6 : Int) (a0_7 : Int) (a0_8 : Int) (a0_9 : ByteArray) (a0_10 : Int) (a0_11 : Int) : LB.Lim (fun k => dF.f k a0_0 a0_1 a0_2 l0_3 a0_4 a0_5 a0_6 a0_7 a0_8 a0_9 a0_10 a0_11) (dF.F a0_0 a0_1 a0_2 l0_3 a0_4 a0_5 a0_6 a0_7 a0_8 a0_9 a0_10 a0_11) := LB.bT (dF.mono a0_0 a0_1 a0_2 l0_3 a0_4 a0_5 a0_6 a0_7 a0_8 a0_9 a0_10 a0_11)
theorem dF.gU (a0_0 : Int) (a0_1 : Int) (a0_2 : Int) (l0_3 : List Int) (a0_4 : Int) (a0_5 : Int) (a0_6 : Int) (a0_7 : Int) (a0_8 : Int) (a0_9 : ByteArray) (a0_10 : Int) (a0_11 : Int) : dF.F a0_0 a0_1 a0_2 l0_3 a0_4 a0_5 a0_6 a0_7 a0_8 a0_9 a0_10 a0_11 = ((cz.F a0_0 a0_1 a0_2 l0_3 a0_4 a0_5 a0_6 a0_7 a0_8 a0_9 a0_10 a0_11).bind fun t416 => (if t416 = true then ((dL.F ([] : List Int) a0_0 a0_1 a0_2 l0_3 a0_4 a0_5 a0_6 a0_7 a0_8 a0_9 a0_10 a0_11).bind fun t417 => (some (t417, 0))) else (some (([] : List Int), 1)))) := by
  refine LB.Lim.unique (dF.bS a0_0 a0_1 a0_2 l0_3 a0_4 a0_5 a0_6 a0_7 a0_8 a0_9 a0_10 a0_11) ?_
  simp only [dF.f]
  (repeat' (first | exact LB.Lim.const _ | exact cz.bS _ _ _ _ _ _ _ _ _ _ _ _ | exact dL.bS _ _ _ _ _ _ _ _ _ _ _ _ _ | refine LB.Lim.ite ?_ ?_ | refine LB.Lim.bind ?_ (fun _ => ?_)))
def eG.f  : Option (Int × Int × Int × List Int × Int × Int × Int × Int × Int × ByteArray × Int × Int) := some (1, 0, 1, (([0] : List Int)), 1, 1, 0, 0, 0, (⟨#[107]⟩ : ByteArray), 0, 0)
def aY.f (k : Nat)  : Option (Bool) := (eG.f).bind fun bt424 => ((dF.f k bt424.1 bt424.2.1 bt424.2.2.1 bt424.2.2.2.1 bt424.2.2.2.2.1 bt424.2.2.2.2.2.1 bt424.2.2.2.2.2.2.1 bt424.2.2.2.2.2.2.2.1 bt424.2.2.2.2.2.2.2.2.1 bt424.2.2.2.2.2.2.2.2.2.1 bt424.2.2.2.2.2.2.2.2.2.2.1 bt424.2.2.2.2.2.2.2.2.2.2.2).bind fun bt438 => ((eu.f k bt438.1).bind fun bt442 => ((bU.f bt438.2).bind fun t459 => (if t459 = 0 then ((bU.f bt442.2.2.2.2.2.2.2.2.2.2.2.2.2).bind fun t460 => (if t460 = 0 then (if bt442.2.2.2.2.2.2.2.2.2.2.2.2.1 = (bt438.1.length : Int) then ((eG.f).bind fun bt461 => ((aV.f k bt442.1 bt442.2.1 bt442.2.2.1 bt442.2.2.2.1 bt442.2.2.2.2.1 bt442.2.2.2.2.2.1 bt442.2.2.2.2.2.2.1 bt442.2.2.2.2.2.2.2.1 bt442.2.2.2.2.2.2.2.2.1 bt442.2.2.2.2.2.2.2.2.2.1 bt442.2.2.2.2.2.2.2.2.2.2.1 bt442.2.2.2.2.2.2.2.2.2.2.2.1 bt461.1 bt461.2.1 bt461.2.2.1 bt461.2.2.2.1 bt461.2.2.2.2.1 bt461.2.2.2.2.2.1 bt461.2.2.2.2.2.2.1 bt461.2.2.2.2.2.2.2.1 bt461.2.2.2.2.2.2.2.2.1 bt461.2.2.2.2.2.2.2.2.2.1 bt461.2.2.2.2.2.2.2.2.2.2.1 bt461.2.2.2.2.2.2.2.2.2.2.2).bind fun t475 => (some t475))) else (some false)) else (some false))) else (some false)))))
theorem aY.mono : ∀ k, LeO (aY.f k ) (aY.f (k + 1) ) := by
 intro  k
 unfold aY.f
 repeat' first
   | (with_reducible exact aV.mono _ _ _ _ _ _ _ _ _ _ _ _ _ _ _ _ _ _ _ _ _ _ _ _ _)
   | (with_reducible exact dF.mono _ _ _ _ _ _ _ _ _ _ _ _ _)
   | (with_reducible exact eu.mono _ _)
   | (with_reducible exact LeO.refl _)
   | (with_reducible exact LeO.none _)
   | (with_reducible refine LeO.ite ?_ ?_)
   | (with_reducible refine LeO.bind ?_ (fun _ => ?_))
   | exact aV.mono _ _ _ _ _ _ _ _ _ _ _ _ _ _ _ _ _ _ _ _ _ _ _ _ _
   | exact dF.mono _ _ _ _ _ _ _ _ _ _ _ _ _
   | exact eu.mono _ _
   | exact LeO.none _
   | refine LeO.ite ?_ ?_
   | refine LeO.bind ?_ (fun _ => ?_)
noncomputable def aY.F  : Option (Bool) := LB.lim (fun k => aY.f k )
theorem aY.bS  : LB.Lim (fun k => aY.f k ) (aY.F ) := LB.bT (aY.mono )
theorem aY.gU  : aY.F  = ((eG.f).bind fun bt424 => ((dF.F bt424.1 bt424.2.1 bt424.2.2.1 bt424.2.2.2.1 bt424.2.2.2.2.1 bt424.2.2.2.2.2.1 bt424.2.2.2.2.2.2.1 bt424.2.2.2.2.2.2.2.1 bt424.2.2.2.2.2.2.2.2.1 bt424.2.2.2.2.2.2.2.2.2.1 bt424.2.2.2.2.2.2.2.2.2.2.1 bt424.2.2.2.2.2.2.2.2.2.2.2).bind fun bt438 => ((eu.F bt438.1).bind fun bt442 => ((bU.f bt438.2).bind fun t459 => (if t459 = 0 then ((bU.f bt442.2.2.2.2.2.2.2.2.2.2.2.2.2).bind fun t460 => (if t460 = 0 then (if bt442.2.2.2.2.2.2.2.2.2.2.2.2.1 = (bt438.1.length : Int) then ((eG.f).bind fun bt461 => ((aV.F bt442.1 bt442.2.1 bt442.2.2.1 bt442.2.2.2.1 bt442.2.2.2.2.1 bt442.2.2.2.2.2.1 bt442.2.2.2.2.2.2.1 bt442.2.2.2.2.2.2.2.1 bt442.2.2.2.2.2.2.2.2.1 bt442.2.2.2.2.2.2.2.2.2.1 bt442.2.2.2.2.2.2.2.2.2.2.1 bt442.2.2.2.2.2.2.2.2.2.2.2.1 bt461.1 bt461.2.1 bt461.2.2.1 bt461.2.2.2.1 bt461.2.2.2.2.1 bt461.2.2.2.2.2.1 bt461.2.2.2.2.2.2.1 bt461.2.2.2.2.2.2.2.1 bt461.2.2.2.2.2.2.2.2.1 bt461.2.2.2.2.2.2.2.2.2.1 bt461.2.2.2.2.2.2.2.2.2.2.1 bt461.2.2.2.2.2.2.2.2.2.2.2).bind fun t475 => (some t475))) else (some false)) else (some false))) else (some false)))))) := by
  refine LB.Lim.unique (aY.bS ) ?_
  simp only [aY.f]
  (repeat' (first | exact LB.Lim.const _ | exact aV.bS _ _ _ _ _ _ _ _ _ _ _ _ _ _ _ _ _ _ _ _ _ _ _ _ | exact dF.bS _ _ _ _ _ _ _ _ _ _ _ _ | exact eu.bS _ | refine LB.Lim.ite ?_ ?_ | refine LB.Lim.bind ?_ (fun _ => ?_)))
def aD.l0 : Nat → Int → List Int → Option (List Int)
 | 0, _, _ => none
 | k + 1, x0, x3 => if x0 > 127 then (if x3.length < 140737488355328 then (aD.l0 k (x0 / 128) (x3 ++ [Go.bits .or .u8 ((Go.bits .and .i64 x0 127) % 256) 128])) else (none)) else (if x3.length < 140737488355328 then (some (x3 ++ [(x0) % 256])) else (none))
def aD.f (k : Nat) (a0 : Int) : Option (List Int) := aD.l0 k a0 ([] : List Int)
theorem aD.dC : ∀ k, (∀ y0 y1, LeO (aD.l0 k y0 y1) (aD.l0 (k + 1) y0 y1))
 | 0 => fun _ _ r h => by simp [aD.l0] at h
 | k + 1 => by
  have ih0 := aD.dC k
  ·intro y0 y1
   unfold aD.l0
   repeat' first
   | (with_reducible exact ih0 _ _)
   | (with_reducible exact LeO.refl _)
   | (with_reducible exact LeO.none _)
   | (with_reducible refine LeO.ite ?_ ?_)
   | (with_reducible refine LeO.bind ?_ (fun _ => ?_))
   | exact ih0 _ _
   | exact LeO.none _
   | refine LeO.ite ?_ ?_
   | refine LeO.bind ?_ (fun _ => ?_)
theorem aD.mono : ∀ a0 k, LeO (aD.f k a0) (aD.f (k + 1) a0) := by
 intro a0 k
 have ih0 := aD.dC k
 unfold aD.f
 repeat' first
   | (with_reducible exact ih0 _ _)
   | (with_reducible exact LeO.refl _)
   | (with_reducible exact LeO.none _)
   | (with_reducible refine LeO.ite ?_ ?_)
   | (with_reducible refine LeO.bind ?_ (fun _ => ?_))
   | exact ih0 _ _
   | exact LeO.none _
   | refine LeO.ite ?_ ?_
   | refine LeO.bind ?_ (fun _ => ?_)
noncomputable def aD.L0 (x0 : Int) (x3 : List Int) : Option (List Int) := LB.lim (fun k => aD.l0 k x0 x3)
theorem aD.dZ (x0 : Int) (x3 : List Int) : LB.Lim (fun k => aD.l0 k x0 x3) (aD.L0 x0 x3) := LB.bT (fun k => (aD.dC k) x0 x3)
theorem aD.iX (x0 : Int) (x3 : List Int) : aD.L0 x0 x3 = (if x0 > 127 then (if x3.length < 140737488355328 then (aD.L0 (x0 / 128) (x3 ++ [Go.bits .or .u8 ((Go.bits .and .i64 x0 127) % 256) 128])) else (none)) else (if x3.length < 140737488355328 then (some (x3 ++ [(x0) % 256])) else (none))) := by
  refine LB.Lim.unique (aD.dZ x0 x3).shift ?_
  simp only [aD.l0]
  (repeat' (first | exact LB.Lim.const _ | exact aD.dZ _ _ | refine LB.Lim.ite ?_ ?_ | refine LB.Lim.bind ?_ (fun _ => ?_)))
noncomputable def aD.F (a0 : Int) : Option (List Int) := LB.lim (fun k => aD.f k a0)
theorem aD.bS (a0 : Int) : LB.Lim (fun k => aD.f k a0) (aD.F a0) := LB.bT (aD.mono a0)
theorem aD.gU (a0 : Int) : aD.F a0 = (aD.L0 a0 ([] : List Int)) := by
  refine LB.Lim.unique (aD.bS a0) ?_
  simp only [aD.f]
  (repeat' (first | exact LB.Lim.const _ | exact aD.dZ _ _ | refine LB.Lim.ite ?_ ?_ | refine LB.Lim.bind ?_ (fun _ => ?_)))
def bu.f (k : Nat) (a0_0 : Int) (a0_1 : Int) : Option (List Int) := (aD.f k a0_0).bind fun t614 => ((aD.f k a0_1).bind fun t617 => (if t614.length + t617.length < 140737488355328 then (some (t614 ++ t617)) else (none)))
theorem bu.mono : ∀ a0 a1 k, LeO (bu.f k a0 a1) (bu.f (k + 1) a0 a1) := by
 intro a0 a1 k
 unfold bu.f
 repeat' first
   | (with_reducible exact aD.mono _ _)
   | (with_reducible exact LeO.refl _)
   | (with_reducible exact LeO.none _)
   | (with_reducible refine LeO.ite ?_ ?_)
   | (with_reducible refine LeO.bind ?_ (fun _ => ?_))
   | exact aD.mono _ _
   | exact LeO.none _
   | refine LeO.ite ?_ ?_
   | refine LeO.bind ?_ (fun _ => ?_)
noncomputable def bu.F (a0_0 : Int) (a0_1 : Int) : Option (List Int) := LB.lim (fun k => bu.f k a0_0 a0_1)
theorem bu.bS (a0_0 : Int) (a0_1 : Int) : LB.Lim (fun k => bu.f k a0_0 a0_1) (bu.F a0_0 a0_1) := LB.bT (bu.mono a0_0 a0_1)
theorem bu.gU (a0_0 : Int) (a0_1 : Int) : bu.F a0_0 a0_1 = ((aD.F a0_0).bind fun t614 => ((aD.F a0_1).bind fun t617 => (if t614.length + t617.length < 140737488355328 then (some (t614 ++ t617)) else (none)))) := by
  refine LB.Lim.unique (bu.bS a0_0 a0_1) ?_
  simp only [bu.f]
  (repeat' (first | exact LB.Lim.const _ | exact aD.bS _ | refine LB.Lim.ite ?_ ?_ | refine LB.Lim.bind ?_ (fun _ => ?_)))
def bf.l0 : Nat → List Int → List Int → Int → Option (List Int)
 | 0, _, _, _ => none
 | k + 1, x0, x3, x4 => if x4 < (x0.length : Int) then (if 0 ≤ x4 then ((aD.f k (rd x0 x4)).bind fun t627 => (if x3.length + t627.length < 140737488355328 then (bf.l0 k x0 (x3 ++ t627) (wrap64 (x4 + 1))) else (none))) else (none)) else (some x3)
def bf.f (k : Nat) (l0 : List Int) : Option (List Int) := (aD.f k (l0.length : Int)).bind fun t623 => (bf.l0 k l0 t623 0)
theorem bf.dC : ∀ k, (∀ y0 y1 y2, LeO (bf.l0 k y0 y1 y2) (bf.l0 (k + 1) y0 y1 y2))
 | 0 => fun _ _ _ r h => by simp [bf.l0] at h
 | k + 1 => by
  have ih0 := bf.dC k
  ·intro y0 y1 y2
   unfold bf.l0
   repeat' first
   | (with_reducible exact ih0 _ _ _)
   | (with_reducible exact aD.mono _ _)
   | (with_reducible exact LeO.refl _)
   | (with_reducible exact LeO.none _)
   | (with_reducible refine LeO.ite ?_ ?_)
   | (with_reducible refine LeO.bind ?_ (fun _ => ?_))
   | exact ih0 _ _ _
   | exact aD.mono _ _
   | exact LeO.none _
   | refine LeO.ite ?_ ?_
   | refine LeO.bind ?_ (fun _ => ?_)
theorem bf.mono : ∀ a0 k, LeO (bf.f k a0) (bf.f (k + 1) a0) := by
 intro a0 k
 have ih0 := bf.dC k
 unfold bf.f
 repeat' first
   | (with_reducible exact ih0 _ _ _)
   | (with_reducible exact aD.mono _ _)
   | (with_reducible exact LeO.refl _)
   | (with_reducible exact LeO.none _)
   | (with_reducible refine LeO.ite ?_ ?_)
   | (with_reducible refine LeO.bind ?_ (fun _ => ?_))
   | exact ih0 _ _ _
   | exact aD.mono _ _
   | exact LeO.none _
   | refine LeO.ite ?_ ?_
   | refine LeO.bind ?_ (fun _ => ?_)
noncomputable def bf.L0 (x0 : List Int) (x3 : List Int) (x4 : Int) : Option (List Int) := LB.lim (fun k => bf.l0 k x0 x3 x4)
theorem bf.dZ (x0 : List Int) (x3 : List Int) (x4 : Int) : LB.Lim (fun k => bf.l0 k x0 x3 x4) (bf.L0 x0 x3 x4) := LB.bT (fun k => (bf.dC k) x0 x3 x4)
theorem bf.iX (x0 : List Int) (x3 : List Int) (x4 : Int) : bf.L0 x0 x3 x4 = (if x4 < (x0.length : Int) then (if 0 ≤ x4 then ((aD.F (rd x0 x4)).bind fun t627 => (if x3.length + t627.length < 140737488355328 then (bf.L0 x0 (x3 ++ t627) (wrap64 (x4 + 1))) else (none))) else (none)) else (some x3)) := by
  refine LB.Lim.unique (bf.dZ x0 x3 x4).shift ?_
  simp only [bf.l0]
  (repeat' (first | exact LB.Lim.const _ | exact bf.dZ _ _ _ | exact aD.bS _ | refine LB.Lim.ite ?_ ?_ | refine LB.Lim.bind ?_ (fun _ => ?_)))
noncomputable def bf.F (l0 : List Int) : Option (List Int) := LB.lim (fun k => bf.f k l0)
theorem bf.bS (l0 : List Int) : LB.Lim (fun k => bf.f k l0) (bf.F l0) := LB.bT (bf.mono l0)
theorem bf.gU (l0 : List Int) : bf.F l0 = ((aD.F (l0.length : Int)).bind fun t623 => (bf.L0 l0 t623 0)) := by
  refine LB.Lim.unique (bf.bS l0) ?_
  simp only [bf.f]
  (repeat' (first | exact LB.Lim.const _ | exact bf.dZ _ _ _ | exact aD.bS _ | refine LB.Lim.ite ?_ ?_ | refine LB.Lim.bind ?_ (fun _ => ?_)))
def bW.f (k : Nat) (a0 : ByteArray) : Option (List Int) := (aD.f k (a0.size : Int)).bind fun t633 => (if t633.length + a0.size < 140737488355328 then (some (t633 ++ bytesOf a0)) else (none))
theorem bW.mono : ∀ a0 k, LeO (bW.f k a0) (bW.f (k + 1) a0) := by
 intro a0 k
 unfold bW.f
 repeat' first
   | (with_reducible exact aD.mono _ _)
   | (with_reducible exact LeO.refl _)
   | (with_reducible exact LeO.none _)
   | (with_reducible refine LeO.ite ?_ ?_)
   | (with_reducible refine LeO.bind ?_ (fun _ => ?_))
   | exact aD.mono _ _
   | exact LeO.none _
   | refine LeO.ite ?_ ?_
   | refine LeO.bind ?_ (fun _ => ?_)
noncomputable def bW.F (a0 : ByteArray) : Option (List Int) := LB.lim (fun k => bW.f k a0)
theorem bW.bS (a0 : ByteArray) : LB.Lim (fun k => bW.f k a0) (bW.F a0) := LB.bT (bW.mono a0)
theorem bW.gU (a0 : ByteArray) : bW.F a0 = ((aD.F (a0.size : Int)).bind fun t633 => (if t633.length + a0.size < 140737488355328 then (some (t633 ++ bytesOf a0)) else (none))) := by
  refine LB.Lim.unique (bW.bS a0) ?_
  simp only [bW.f]
  (repeat' (first | exact LB.Lim.const _ | exact aD.bS _ | refine LB.Lim.ite ?_ ?_ | refine LB.Lim.bind ?_ (fun _ => ?_)))
def bg.f (k : Nat) (a0_0 : Int) (a0_1 : Int) (a0_2 : Int) (l0_3 : List Int) (a0_4 : Int) (a0_5 : Int) (a0_6 : Int) (a0_7 : Int) (a0_8 : Int) (a0_9 : ByteArray) (a0_10 : Int) (a0_11 : Int) : Option (List Int) := (bu.f k a0_0 a0_1).bind fun t640 => ((bf.f k l0_3).bind fun t643 => (if t640.length + t643.length < 140737488355328 then ((some (t640 ++ t643 : List Int)).bind fun y646 => ((aD.f k a0_4).bind fun t649 => (if y646.length + t649.length < 140737488355328 then ((some (y646 ++ t649 : List Int)).bind fun y652 => ((bu.f k a0_5 a0_6).bind fun t655 => (if y652.length + t655.length < 140737488355328 then ((some (y652 ++ t655 : List Int)).bind fun y658 => (if a0_4 = 1 then ((bu.f k a0_7 a0_8).bind fun t661 => (if y658.length + t661.length < 140737488355328 then ((some (y658 ++ t661 : List Int)).bind fun y664 => ((bW.f k a0_9).bind fun t667 => (if y664.length + t667.length < 140737488355328 then (some (y664 ++ t667)) else (none)))) else (none))) else ((aD.f k a0_10).bind fun t673 => (if y658.length + t673.length < 140737488355328 then ((some (y658 ++ t673 : List Int)).bind fun y676 => ((aD.f k (wrap64 (a0_11 + 1))).bind fun t679 => (if y676.length + t679.length < 140737488355328 then (some (y676 ++ t679)) else (none)))) else (none))))) else (none)))) else (none)))) else (none)))
theorem bg.mono : ∀ a0 a1 a2 a3 a4 a5 a6 a7 a8 a9 a10 a11 k, LeO (bg.f k a0 a1 a2 a3 a4 a5 a6 a7 a8 a9 a10 a11) (bg.f (k + 1) a0 a1 a2 a3 a4 a5 a6 a7 a8 a9 a10 a11) := by
 intro a0 a1 a2 a3 a4 a5 a6 a7 a8 a9 a10 a11 k
 unfold bg.f
 repeat' first
   | (with_reducible exact aD.mono _ _)
   | (with_reducible exact bf.mono _ _)
   | (with_reducible exact bW.mono _ _)
   | (with_reducible exact bu.mono _ _ _)
   | (with_reducible exact LeO.refl _)
   | (with_reducible exact LeO.none _)
   | (with_reducible refine LeO.ite ?_ ?_)
   | (with_reducible refine LeO.bind ?_ (fun _ => ?_))
   | exact aD.mono _ _
   | exact bf.mono _ _
   | exact bW.mono _ _
   | exact bu.mono _ _ _
   | exact LeO.none _
   | refine LeO.ite ?_ ?_
   | refine LeO.bind ?_ (fun _ => ?_)
noncomputable def bg.F (a0_0 : Int) (a0_1 : Int) (a0_2 : Int) (l0_3 : List Int) (a0_4 : Int) (a0_5 : Int) (a0_6 : Int) (a0_7 : Int) (a0_8 : Int) (a0_9 : ByteArray) (a0_10 : Int) (a0_11 : Int) : Option (List Int) := LB.lim (fun k => bg.f k a0_0 a0_1 a0_2 l0_3 a0_4 a0_5 a0_6 a0_7 a0_8 a0_9 a0_10 a0_11)
theorem bg.bS (a0_0 : Int) (a0_1 : Int) (a0_2 : Int) (l0_3 : List Int) (a0_4 : Int) (a0_5 : Int) (a0_6 : Int) (a0_7 : Int) (a0_8 : Int) (a0_9 : ByteArray) (a0_10 : Int) (a0_11 : Int) : LB.Lim (fun k => bg.f k a0_0 a0_1 a0_2 l0_3 a0_4 a0_5 a0_6 a0_7 a0_8 a0_9 a0_10 a0_11) (bg.F a0_0 a0_1 a0_2 l0_3 a0_4 a0_5 a0_6 a0_7 a0_8 a0_9 a0_10 a0_11) := LB.bT (bg.mono a0_0 a0_1 a0_2 l0_3 a0_4 a0_5 a0_6 a0_7 a0_8 a0_9 a0_10 a0_11)
theorem bg.gU (a0_0 : Int) (a0_1 : Int) (a0_2 : Int) (l0_3 : List Int) (a0_4 : Int) (a0_5 : Int) (a0_6 : Int) (a0_7 : Int) (a0_8 : Int) (a0_9 : ByteArray) (a0_10 : Int) (a0_11 : Int) : bg.F a0_0 a0_1 a0_2 l0_3 a0_4 a0_5 a0_6 a0_7 a0_8 a0_9 a0_10 a0_11 = ((bu.F a0_0 a0_1).bind fun t640 => ((bf.F l0_3).bind fun t643 => (if t640.length + t643.length < 140737488355328 then ((some (t640 ++ t643 : List Int)).bind fun y646 => ((aD.F a0_4).bind fun t649 => (if y646.length + t649.length < 140737488355328 then ((some (y646 ++ t649 : List Int)).bind fun y652 => ((bu.F a0_5 a0_6).bind fun t655 => (if y652.length + t655.length < 140737488355328 then ((some (y652 ++ t655 : List Int)).bind fun y658 => (if a0_4 = 1 then ((bu.F a0_7 a0_8).bind fun t661 => (if y658.length + t661.length < 140737488355328 then ((some (y658 ++ t661 : List Int)).bind fun y664 => ((bW.F a0_9).bind fun t667 => (if y664.length + t667.length < 140737488355328 then (some (y664 ++ t667)) else (none)))) else (none))) else ((aD.F a0_10).bind fun t673 => (if y658.length + t673.length < 140737488355328 then ((some (y658 ++ t673 : List Int)).bind fun y676 => ((aD.F (wrap64 (a0_11 + 1))).bind fun t679 => (if y676.length + t679.length < 140737488355328 then (some (y676 ++ t679)) else (none)))) else (none))))) else (none)))) else (none)))) else (none)))) := by
  refine LB.Lim.unique (bg.bS a0_0 a0_1 a0_2 l0_3 a0_4 a0_5 a0_6 a0_7 a0_8 a0_9 a0_10 a0_11) ?_
  simp only [bg.f]
  (repeat' (first | exact LB.Lim.const _ | exact aD.bS _ | exact bf.bS _ | exact bW.bS _ | exact bu.bS _ _ | refine LB.Lim.ite ?_ ?_ | refine LB.Lim.bind ?_ (fun _ => ?_)))
def aG.l0 : Nat → List Int → List Int → Int → Option (List Int)
 | 0, _, _, _ => none
 | k + 1, x0, x3, x4 => if x4 < (x0.length : Int) then (if 0 ≤ x4 then (if x3.length < 17592186044416 then (aG.l0 k x0 (x3 ++ [rd x0 x4]) (wrap64 (x4 + 1))) else (none)) else (none)) else (some x3)
def aG.f (k : Nat) (l0 : List Int) : Option (List Int) := aG.l0 k l0 ([] : List Int) 0
theorem aG.dC : ∀ k, (∀ y0 y1 y2, LeO (aG.l0 k y0 y1 y2) (aG.l0 (k + 1) y0 y1 y2))
 | 0 => fun _ _ _ r h => by simp [aG.l0] at h
 | k + 1 => by
  have ih0 := aG.dC k
  ·intro y0 y1 y2
   unfold aG.l0
   repeat' first
   | (with_reducible exact ih0 _ _ _)
   | (with_reducible exact LeO.refl _)
   | (with_reducible exact LeO.none _)
   | (with_reducible refine LeO.ite ?_ ?_)
   | (with_reducible refine LeO.bind ?_ (fun _ => ?_))
   | exact ih0 _ _ _
   | exact LeO.none _
   | refine LeO.ite ?_ ?_
   | refine LeO.bind ?_ (fun _ => ?_)
theorem aG.mono : ∀ a0 k, LeO (aG.f k a0) (aG.f (k + 1) a0) := by
 intro a0 k
 have ih0 := aG.dC k
 unfold aG.f
 repeat' first
   | (with_reducible exact ih0 _ _ _)
   | (with_reducible exact LeO.refl _)
   | (with_reducible exact LeO.none _)
   | (with_reducible refine LeO.ite ?_ ?_)
   | (with_reducible refine LeO.bind ?_ (fun _ => ?_))
   | exact ih0 _ _ _
   | exact LeO.none _
   | refine LeO.ite ?_ ?_
   | refine LeO.bind ?_ (fun _ => ?_)
noncomputable def aG.L0 (x0 : List Int) (x3 : List Int) (x4 : Int) : Option (List Int) := LB.lim (fun k => aG.l0 k x0 x3 x4)
theorem aG.dZ (x0 : List Int) (x3 : List Int) (x4 : Int) : LB.Lim (fun k => aG.l0 k x0 x3 x4) (aG.L0 x0 x3 x4) := LB.bT (fun k => (aG.dC k) x0 x3 x4)
theorem aG.iX (x0 : List Int) (x3 : List Int) (x4 : Int) : aG.L0 x0 x3 x4 = (if x4 < (x0.length : Int) then (if 0 ≤ x4 then (if x3.length < 17592186044416 then (aG.L0 x0 (x3 ++ [rd x0 x4]) (wrap64 (x4 + 1))) else (none)) else (none)) else (some x3)) := by
  refine LB.Lim.unique (aG.dZ x0 x3 x4).shift ?_
  simp only [aG.l0]
  (repeat' (first | exact LB.Lim.const _ | exact aG.dZ _ _ _ | refine LB.Lim.ite ?_ ?_ | refine LB.Lim.bind ?_ (fun _ => ?_)))
noncomputable def aG.F (l0 : List Int) : Option (List Int) := LB.lim (fun k => aG.f k l0)
theorem aG.bS (l0 : List Int) : LB.Lim (fun k => aG.f k l0) (aG.F l0) := LB.bT (aG.mono l0)
theorem aG.gU (l0 : List Int) : aG.F l0 = (aG.L0 l0 ([] : List Int) 0) := by
  refine LB.Lim.unique (aG.bS l0) ?_
  simp only [aG.f]
  (repeat' (first | exact LB.Lim.const _ | exact aG.dZ _ _ _ | refine LB.Lim.ite ?_ ?_ | refine LB.Lim.bind ?_ (fun _ => ?_)))
def bG.f (k : Nat) (a0_0 : Int) (a0_1 : Int) (a0_2 : Int) (l0_3 : List Int) (a0_4 : Int) (a0_5 : Int) (a0_6 : Int) (a0_7 : Int) (a0_8 : Int) (a0_9 : ByteArray) (a0_10 : Int) (a0_11 : Int) : Option (Int × Int × Int × List Int × Int × Int × Int × Int × Int × ByteArray × Int × Int) := (aG.f k l0_3).bind fun t770 => (some (a0_0, a0_1, a0_2, t770, a0_4, a0_5, a0_6, a0_7, a0_8, a0_9, a0_10, a0_11))
theorem bG.mono : ∀ a0 a1 a2 a3 a4 a5 a6 a7 a8 a9 a10 a11 k, LeO (bG.f k a0 a1 a2 a3 a4 a5 a6 a7 a8 a9 a10 a11) (bG.f (k + 1) a0 a1 a2 a3 a4 a5 a6 a7 a8 a9 a10 a11) := by
 intro a0 a1 a2 a3 a4 a5 a6 a7 a8 a9 a10 a11 k
 unfold bG.f
 repeat' first
   | (with_reducible exact aG.mono _ _)
   | (with_reducible exact LeO.refl _)
   | (with_reducible exact LeO.none _)
   | (with_reducible refine LeO.ite ?_ ?_)
   | (with_reducible refine LeO.bind ?_ (fun _ => ?_))
   | exact aG.mono _ _
   | exact LeO.none _
   | refine LeO.ite ?_ ?_
   | refine LeO.bind ?_ (fun _ => ?_)
noncomputable def bG.F (a0_0 : Int) (a0_1 : Int) (a0_2 : Int) (l0_3 : List Int) (a0_4 : Int) (a0_5 : Int) (a0_6 : Int) (a0_7 : Int) (a0_8 : Int) (a0_9 : ByteArray) (a0_10 : Int) (a0_11 : Int) : Option (Int × Int × Int × List Int × Int × Int × Int × Int × Int × ByteArray × Int × Int) := LB.lim (fun k => bG.f k a0_0 a0_1 a0_2 l0_3 a0_4 a0_5 a0_6 a0_7 a0_8 a0_9 a0_10 a0_11)
theorem bG.bS (a0_0 : Int) (a0_1 : Int) (a0_2 : Int) (l0_3 : List Int) (a0_4 : Int) (a0_5 : Int) (a0_6 : Int) (a0_7 : Int) (a0_8 : Int) (a0_9 : ByteArray) (a0_10 : Int) (a0_11 : Int) : LB.Lim (fun k => bG.f k a0_0 a0_1 a0_2 l0_3 a0_4 a0_5 a0_6 a0_7 a0_8 a0_9 a0_10 a0_11) (bG.F a0_0 a0_1 a0_2 l0_3 a0_4 a0_5 a0_6 a0_7 a0_8 a0_9 a0_10 a0_11) := LB.bT (bG.mono a0_0 a0_1 a0_2 l0_3 a0_4 a0_5 a0_6 a0_7 a0_8 a0_9 a0_10 a0_11)
theorem bG.gU (a0_0 : Int) (a0_1 : Int) (a0_2 : Int) (l0_3 : List Int) (a0_4 : Int) (a0_5 : Int) (a0_6 : Int) (a0_7 : Int) (a0_8 : Int) (a0_9 : ByteArray) (a0_10 : Int) (a0_11 : Int) : bG.F a0_0 a0_1 a0_2 l0_3 a0_4 a0_5 a0_6 a0_7 a0_8 a0_9 a0_10 a0_11 = ((aG.F l0_3).bind fun t770 => (some (a0_0, a0_1, a0_2, t770, a0_4, a0_5, a0_6, a0_7, a0_8, a0_9, a0_10, a0_11))) := by
  refine LB.Lim.unique (bG.bS a0_0 a0_1 a0_2 l0_3 a0_4 a0_5 a0_6 a0_7 a0_8 a0_9 a0_10 a0_11) ?_
  simp only [bG.f]
  (repeat' (first | exact LB.Lim.const _ | exact aG.bS _ | refine LB.Lim.ite ?_ ?_ | refine LB.Lim.bind ?_ (fun _ => ?_)))
def dM.f (k : Nat) (a0_0 : Int) (a0_1 : Int) (a0_2 : Int) (l0_3 : List Int) (a0_4 : Int) (a0_5 : Int) (a0_6 : Int) (a0_7 : Int) (a0_8 : Int) (a0_9 : ByteArray) (a0_10 : Int) (a0_11 : Int) : Option (Int) := (cz.f k a0_0 a0_1 a0_2 l0_3 a0_4 a0_5 a0_6 a0_7 a0_8 a0_9 a0_10 a0_11).bind fun t774 => (if t774 = true then (some 0) else (some 1))
theorem dM.mono : ∀ a0 a1 a2 a3 a4 a5 a6 a7 a8 a9 a10 a11 k, LeO (dM.f k a0 a1 a2 a3 a4 a5 a6 a7 a8 a9 a10 a11) (dM.f (k + 1) a0 a1 a2 a3 a4 a5 a6 a7 a8 a9 a10 a11) := by
 intro a0 a1 a2 a3 a4 a5 a6 a7 a8 a9 a10 a11 k
 unfold dM.f
 repeat' first
   | (with_reducible exact cz.mono _ _ _ _ _ _ _ _ _ _ _ _ _)
   | (with_reducible exact LeO.refl _)
   | (with_reducible exact LeO.none _)
   | (with_reducible refine LeO.ite ?_ ?_)
   | (with_reducible refine LeO.bind ?_ (fun _ => ?_))
   | exact cz.mono _ _ _ _ _ _ _ _ _ _ _ _ _
   | exact LeO.none _
   | refine LeO.ite ?_ ?_
   | refine LeO.bind ?_ (fun _ => ?_)
noncomputable def dM.F (a0_0 : Int) (a0_1 : Int) (a0_2 : Int) (l0_3 : List Int) (a0_4 : Int) (a0_5 : Int) (a0_6 : Int) (a0_7 : Int) (a0_8 : Int) (a0_9 : ByteArray) (a0_10 : Int) (a0_11 : Int) : Option (Int) := LB.lim (fun k => dM.f k a0_0 a0_1 a0_2 l0_3 a0_4 a0_5 a0_6 a0_7 a0_8 a0_9 a0_10 a0_11)
theorem dM.bS (a0_0 : Int) (a0_1 : Int) (a0_2 : Int) (l0_3 : List Int) (a0_4 : Int) (a0_5 : Int) (a0_6 : Int) (a0_7 : Int) (a0_8 : Int) (a0_9 : ByteArray) (a0_10 : Int) (a0_11 : Int) : LB.Lim (fun k => dM.f k a0_0 a0_1 a0_2 l0_3 a0_4 a0_5 a0_6 a0_7 a0_8 a0_9 a0_10 a0_11) (dM.F a0_0 a0_1 a0_2 l0_3 a0_4 a0_5 a0_6 a0_7 a0_8 a0_9 a0_10 a0_11) := LB.bT (dM.mono a0_0 a0_1 a0_2 l0_3 a0_4 a0_5 a0_6 a0_7 a0_8 a0_9 a0_10 a0_11)
theorem dM.gU (a0_0 : Int) (a0_1 : Int) (a0_2 : Int) (l0_3 : List Int) (a0_4 : Int) (a0_5 : Int) (a0_6 : Int) (a0_7 : Int) (a0_8 : Int) (a0_9 : ByteArray) (a0_10 : Int) (a0_11 : Int) : dM.F a0_0 a0_1 a0_2 l0_3 a0_4 a0_5 a0_6 a0_7 a0_8 a0_9 a0_10 a0_11 = ((cz.F a0_0 a0_1 a0_2 l0_3 a0_4 a0_5 a0_6 a0_7 a0_8 a0_9 a0_10 a0_11).bind fun t774 => (if t774 = true then (some 0) else (some 1))) := by
  refine LB.Lim.unique (dM.bS a0_0 a0_1 a0_2 l0_3 a0_4 a0_5 a0_6 a0_7 a0_8 a0_9 a0_10 a0_11) ?_
  simp only [dM.f]
  (repeat' (first | exact LB.Lim.const _ | exact cz.bS _ _ _ _ _ _ _ _ _ _ _ _ | refine LB.Lim.ite ?_ ?_ | refine LB.Lim.bind ?_ (fun _ => ?_)))
mutual
def ae.l0 : Nat → List (S31) → Int → Option (Bool)
 | 0, _, _ => none
 | k + 1, x0, x3 => if x3 < (x0.length : Int) then (ae.j1 k x0 x3 (decide (x3 < 12))) else (ae.j1 k x0 x3 false)
def ae.j1 : Nat → List (S31) → Int → Bool → Option (Bool)
 | 0, _, _, _ => none
 | k + 1, x0, x3, x16 => if x16 = true then (if 0 ≤ x3 then (if x3 < (x0.length : Int) then ((eP.f ((aA x0 x3).f0.f0.f0) ((aA x0 x3).f0.f0.f1) ((aA x0 x3).f0.f1) ((aA x0 x3).f0.f2) ((aA x0 x3).f0.f3) ((aA x0 x3).f0.f4.f0) ((aA x0 x3).f0.f4.f1) ((aA x0 x3).f0.f5.f0) ((aA x0 x3).f0.f5.f1) ((aA x0 x3).f0.f6) ((aA x0 x3).f0.f7) ((aA x0 x3).f0.f8) ((aA x0 x3).f1)).bind fun t777 => (if t777 = true then (some true) else ((ai.f k ((aA x0 x3).f0.f0.f0) ((aA x0 x3).f0.f0.f1) ((aA x0 x3).f0.f1) ((aA x0 x3).f0.f2) ((aA x0 x3).f0.f3) ((aA x0 x3).f0.f4.f0) ((aA x0 x3).f0.f4.f1) ((aA x0 x3).f0.f5.f0) ((aA x0 x3).f0.f5.f1) ((aA x0 x3).f0.f6) ((aA x0 x3).f0.f7) ((aA x0 x3).f0.f8)).bind fun t779 => (if t779 = true then ((bg.f k ((aA x0 x3).f0.f0.f0) ((aA x0 x3).f0.f0.f1) ((aA x0 x3).f0.f1) ((aA x0 x3).f0.f2) ((aA x0 x3).f0.f3) ((aA x0 x3).f0.f4.f0) ((aA x0 x3).f0.f4.f1) ((aA x0 x3).f0.f5.f0) ((aA x0 x3).f0.f5.f1) ((aA x0 x3).f0.f6) ((aA x0 x3).f0.f7) ((aA x0 x3).f0.f8)).bind fun t781 => (ae.j2 k x0 x3 0 t781)) else (ae.j2 k x0 x3 1 ([] : List Int)))))) else (none)) else (none)) else ((aY.f k).bind fun t775 => (some t775))
def ae.j2 : Nat → List (S31) → Int → Int → List Int → Option (Bool)
 | 0, _, _, _, _ => none
 | k + 1, x0, x3, x4, x5 => if 0 ≤ x3 then (if x3 < (x0.length : Int) then ((bG.f k ((aA x0 x3).f0.f0.f0) ((aA x0 x3).f0.f0.f1) ((aA x0 x3).f0.f1) ((aA x0 x3).f0.f2) ((aA x0 x3).f0.f3) ((aA x0 x3).f0.f4.f0) ((aA x0 x3).f0.f4.f1) ((aA x0 x3).f0.f5.f0) ((aA x0 x3).f0.f5.f1) ((aA x0 x3).f0.f6) ((aA x0 x3).f0.f7) ((aA x0 x3).f0.f8)).bind fun bt785 => ((dF.f k bt785.1 bt785.2.1 bt785.2.2.1 bt785.2.2.2.1 bt785.2.2.2.2.1 bt785.2.2.2.2.2.1 bt785.2.2.2.2.2.2.1 bt785.2.2.2.2.2.2.2.1 bt785.2.2.2.2.2.2.2.2.1 bt785.2.2.2.2.2.2.2.2.2.1 bt785.2.2.2.2.2.2.2.2.2.2.1 bt785.2.2.2.2.2.2.2.2.2.2.2).bind fun bt800 => ((dM.f k bt785.1 bt785.2.1 bt785.2.2.1 bt785.2.2.2.1 bt785.2.2.2.2.1 bt785.2.2.2.2.2.1 bt785.2.2.2.2.2.2.1 bt785.2.2.2.2.2.2.2.1 bt785.2.2.2.2.2.2.2.2.1 bt785.2.2.2.2.2.2.2.2.2.1 bt785.2.2.2.2.2.2.2.2.2.2.1 bt785.2.2.2.2.2.2.2.2.2.2.2).bind fun t804 => ((bU.f t804).bind fun t805 => (if t805 = x4 then ((bU.f bt800.2).bind fun t806 => (if t806 = x4 then ((aI.f k bt800.1 x5).bind fun t807 => (if t807 = true then ((aV.f k bt785.1 bt785.2.1 bt785.2.2.1 bt785.2.2.2.1 bt785.2.2.2.2.1 bt785.2.2.2.2.2.1 bt785.2.2.2.2.2.2.1 bt785.2.2.2.2.2.2.2.1 bt785.2.2.2.2.2.2.2.2.1 bt785.2.2.2.2.2.2.2.2.2.1 bt785.2.2.2.2.2.2.2.2.2.2.1 bt785.2.2.2.2.2.2.2.2.2.2.2 ((aA x0 x3).f0.f0.f0) ((aA x0 x3).f0.f0.f1) ((aA x0 x3).f0.f1) ((aA x0 x3).f0.f2) ((aA x0 x3).f0.f3) ((aA x0 x3).f0.f4.f0) ((aA x0 x3).f0.f4.f1) ((aA x0 x3).f0.f5.f0) ((aA x0 x3).f0.f5.f1) ((aA x0 x3).f0.f6) ((aA x0 x3).f0.f7) ((aA x0 x3).f0.f8)).bind fun t809 => (ae.j3 k x0 x3 (!t809))) else (ae.j3 k x0 x3 true))) else (ae.j3 k x0 x3 true))) else (ae.j3 k x0 x3 true)))))) else (none)) else (none)
def ae.j3 : Nat → List (S31) → Int → Bool → Option (Bool)
 | 0, _, _, _ => none
 | k + 1, x0, x3, x73 => if x73 = true then (some false) else (ae.l0 k x0 (wrap64 (x3 + 1)))
end
def ae.f (k : Nat) (l0 : List (S31)) : Option (Bool) := ae.l0 k l0 0
theorem ae.dC : ∀ k, (∀ y0 y1, LeO (ae.l0 k y0 y1) (ae.l0 (k + 1) y0 y1)) ∧ (∀ y0 y1 y2, LeO (ae.j1 k y0 y1 y2) (ae.j1 (k + 1) y0 y1 y2)) ∧ (∀ y0 y1 y2 y3, LeO (ae.j2 k y0 y1 y2 y3) (ae.j2 (k + 1) y0 y1 y2 y3)) ∧ (∀ y0 y1 y2, LeO (ae.j3 k y0 y1 y2) (ae.j3 (k + 1) y0 y1 y2))
 | 0 => ⟨fun _ _ r h => by simp [ae.l0] at h, fun _ _ _ r h => by simp [ae.j1] at h, fun _ _ _ _ r h => by simp [ae.j2] at h, fun _ _ _ r h => by simp [ae.j3] at h⟩
 | k + 1 => by
  obtain ⟨ih0, ih1, ih2, ih3⟩ := ae.dC k
  refine ⟨?_, ?_, ?_, ?_⟩
  ·intro y0 y1
   unfold ae.l0
   repeat' first
   | (with_reducible exact ih0 _ _)
   | (with_reducible exact ih1 _ _ _)
   | (with_reducible exact ih2 _ _ _ _)
   | (with_reducible exact ih3 _ _ _)
   | (with_reducible exact aY.mono _)
   | (with_reducible exact bG.mono _ _ _ _ _ _ _ _ _ _ _ _ _)
   | (with_reducible exact aI.mono _ _ _)
   | (with_reducible exact aV.mono _ _ _ _ _ _ _ _ _ _ _ _ _ _ _ _ _ _ _ _ _ _ _ _ _)
   | (with_reducible exact bg.mono _ _ _ _ _ _ _ _ _ _ _ _ _)
   | (with_reducible exact ai.mono _ _ _ _ _ _ _ _ _ _ _ _ _)
   | (with_reducible exact dF.mono _ _ _ _ _ _ _ _ _ _ _ _ _)
   | (with_reducible exact dM.mono _ _ _ _ _ _ _ _ _ _ _ _ _)
   | (with_reducible exact LeO.refl _)
   | (with_reducible exact LeO.none _)
   | (with_reducible refine LeO.ite ?_ ?_)
   | (with_reducible refine LeO.bind ?_ (fun _ => ?_))
   | exact ih0 _ _
   | exact ih1 _ _ _
   | exact ih2 _ _ _ _
   | exact ih3 _ _ _
   | exact aY.mono _
   | exact bG.mono _ _ _ _ _ _ _ _ _ _ _ _ _
   | exact aI.mono _ _ _
   | exact aV.mono _ _ _ _ _ _ _ _ _ _ _ _ _ _ _ _ _ _ _ _ _ _ _ _ _
   | exact bg.mono _ _ _ _ _ _ _ _ _ _ _ _ _
   | exact ai.mono _ _ _ _ _ _ _ _ _ _ _ _ _
   | exact dF.mono _ _ _ _ _ _ _ _ _ _ _ _ _
   | exact dM.mono _ _ _ _ _ _ _ _ _ _ _ _ _
   | exact LeO.none _
   | refine LeO.ite ?_ ?_
   | refine LeO.bind ?_ (fun _ => ?_)
  ·intro y0 y1 y2
   unfold ae.j1
   repeat' first
   | (with_reducible exact ih0 _ _)
   | (with_reducible exact ih1 _ _ _)
   | (with_reducible exact ih2 _ _ _ _)
   | (with_reducible exact ih3 _ _ _)
   | (with_reducible exact aY.mono _)
   | (with_reducible exact bG.mono _ _ _ _ _ _ _ _ _ _ _ _ _)
   | (with_reducible exact aI.mono _ _ _)
   | (with_reducible exact aV.mono _ _ _ _ _ _ _ _ _ _ _ _ _ _ _ _ _ _ _ _ _ _ _ _ _)
   | (with_reducible exact bg.mono _ _ _ _ _ _ _ _ _ _ _ _ _)
   | (with_reducible exact ai.mono _ _ _ _ _ _ _ _ _ _ _ _ _)
   | (with_reducible exact dF.mono _ _ _ _ _ _ _ _ _ _ _ _ _)
   | (with_reducible exact dM.mono _ _ _ _ _ _ _ _ _ _ _ _ _)
   | (with_reducible exact LeO.refl _)
   | (with_reducible exact LeO.none _)
   | (with_reducible refine LeO.ite ?_ ?_)
   | (with_reducible refine LeO.bind ?_ (fun _ => ?_))
   | exact ih0 _ _
   | exact ih1 _ _ _
   | exact ih2 _ _ _ _
   | exact ih3 _ _ _
   | exact aY.mono _
   | exact bG.mono _ _ _ _ _ _ _ _ _ _ _ _ _
   | exact aI.mono _ _ _
   | exact aV.mono _ _ _ _ _ _ _ _ _ _ _ _ _ _ _ _ _ _ _ _ _ _ _ _ _
   | exact bg.mono _ _ _ _ _ _ _ _ _ _ _ _ _
   | exact ai.mono _ _ _ _ _ _ _ _ _ _ _ _ _
   | exact dF.mono _ _ _ _ _ _ _ _ _ _ _ _ _
   | exact dM.mono _ _ _ _ _ _ _ _ _ _ _ _ _
   | exact LeO.none _
   | refine LeO.ite ?_ ?_
   | refine LeO.bind ?_ (fun _ => ?_)
  ·intro y0 y1 y2 y3
   unfold ae.j2
   repeat' first
   | (with_reducible exact ih0 _ _)
   | (with_reducible exact ih1 _ _ _)
   | (with_reducible exact ih2 _ _ _ _)
   | (with_reducible exact ih3 _ _ _)
   | (with_reducible exact aY.mono _)
   | (with_reducible exact bG.mono _ _ _ _ _ _ _ _ _ _ _ _ _)
   | (with_reducible exact aI.mono _ _ _)
   | (with_reducible exact aV.mono _ _ _ _ _ _ _ _ _ _ _ _ _ _ _ _ _ _ _ _ _ _ _ _ _)
   | (with_reducible exact bg.mono _ _ _ _ _ _ _ _ _ _ _ _ _)
   | (with_reducible exact ai.mono _ _ _ _ _ _ _ _ _ _ _ _ _)
   | (with_reducible exact dF.mono _ _ _ _ _ _ _ _ _ _ _ _ _)
   | (with_reducible exact dM.mono _ _ _ _ _ _ _ _ _ _ _ _ _)
   | (with_reducible exact LeO.refl _)
   | (with_reducible exact LeO.none _)
   | (with_reducible refine LeO.ite ?_ ?_)
   | (with_reducible refine LeO.bind ?_ (fun _ => ?_))
   | exact ih0 _ _
   | exact ih1 _ _ _
   | exact ih2 _ _ _ _
   | exact ih3 _ _ _
   | exact aY.mono _
   | exact bG.mono _ _ _ _ _ _ _ _ _ _ _ _ _
   | exact aI.mono _ _ _
   | exact aV.mono _ _ _ _ _ _ _ _ _ _ _ _ _ _ _ _ _ _ _ _ _ _ _ _ _
   | exact bg.mono _ _ _ _ _ _ _ _ _ _ _ _ _
   | exact ai.mono _ _ _ _ _ _ _ _ _ _ _ _ _
   | exact dF.mono _ _ _ _ _ _ _ _ _ _ _ _ _
   | exact dM.mono _ _ _ _ _ _ _ _ _ _ _ _ _
   | exact LeO.none _
   | refine LeO.ite ?_ ?_
   | refine LeO.bind ?_ (fun _ => ?_)
  ·intro y0 y1 y2
   unfold ae.j3
   repeat' first
   | (with_reducible exact ih0 _ _)
   | (with_reducible exact ih1 _ _ _)
   | (with_reducible exact ih2 _ _ _ _)
   | (with_reducible exact ih3 _ _ _)
   | (with_reducible exact aY.mono _)
   | (with_reducible exact bG.mono _ _ _ _ _ _ _ _ _ _ _ _ _)
   | (with_reducible exact aI.mono _ _ _)
   | (with_reducible exact aV.mono _ _ _ _ _ _ _ _ _ _ _ _ _ _ _ _ _ _ _ _ _ _ _ _ _)
   | (with_reducible exact bg.mono _ _ _ _ _ _ _ _ _ _ _ _ _)
   | (with_reducible exact ai.mono _ _ _ _ _ _ _ _ _ _ _ _ _)
   | (with_reducible exact dF.mono _ _ _ _ _ _ _ _ _ _ _ _ _)
   | (with_reducible exact dM.mono _ _ _ _ _ _ _ _ _ _ _ _ _)
   | (with_reducible exact LeO.refl _)
   | (with_reducible exact LeO.none _)
   | (with_reducible refine LeO.ite ?_ ?_)
   | (with_reducible refine LeO.bind ?_ (fun _ => ?_))
   | exact ih0 _ _
   | exact ih1 _ _ _
   | exact ih2 _ _ _ _
   | exact ih3 _ _ _
   | exact aY.mono _
   | exact bG.mono _ _ _ _ _ _ _ _ _ _ _ _ _
   | exact aI.mono _ _ _
   | exact aV.mono _ _ _ _ _ _ _ _ _ _ _ _ _ _ _ _ _ _ _ _ _ _ _ _ _
   | exact bg.mono _ _ _ _ _ _ _ _ _ _ _ _ _
   | exact ai.mono _ _ _ _ _ _ _ _ _ _ _ _ _
   | exact dF.mono _ _ _ _ _ _ _ _ _ _ _ _ _
   | exact dM.mono _ _ _ _ _ _ _ _ _ _ _ _ _
   | exact LeO.none _
   | refine LeO.ite ?_ ?_
   | refine LeO.bind ?_ (fun _ => ?_)
theorem ae.mono : ∀ a0 k, LeO (ae.f k a0) (ae.f (k + 1) a0) := by
 intro a0 k
 obtain ⟨ih0, ih1, ih2, ih3⟩ := ae.dC k
 unfold ae.f
 repeat' first
   | (with_reducible exact ih0 _ _)
   | (with_reducible exact ih1 _ _ _)
   | (with_reducible exact ih2 _ _ _ _)
   | (with_reducible exact ih3 _ _ _)
   | (with_reducible exact aY.mono _)
   | (with_reducible exact bG.mono _ _ _ _ _ _ _ _ _ _ _ _ _)
   | (with_reducible exact aI.mono _ _ _)
   | (with_reducible exact aV.mono _ _ _ _ _ _ _ _ _ _ _ _ _ _ _ _ _ _ _ _ _ _ _ _ _)
   | (with_reducible exact bg.mono _ _ _ _ _ _ _ _ _ _ _ _ _)
   | (with_reducible exact ai.mono _ _ _ _ _ _ _ _ _ _ _ _ _)
   | (with_reducible exact dF.mono _ _ _ _ _ _ _ _ _ _ _ _ _)
   | (with_reducible exact dM.mono _ _ _ _ _ _ _ _ _ _ _ _ _)
   | (with_reducible exact LeO.refl _)
   | (with_reducible exact LeO.none _)
   | (with_reducible refine LeO.ite ?_ ?_)
   | (with_reducible refine LeO.bind ?_ (fun _ => ?_))
   | exact ih0 _ _
   | exact ih1 _ _ _
   | exact ih2 _ _ _ _
   | exact ih3 _ _ _
   | exact aY.mono _
   | exact bG.mono _ _ _ _ _ _ _ _ _ _ _ _ _
   | exact aI.mono _ _ _
   | exact aV.mono _ _ _ _ _ _ _ _ _ _ _ _ _ _ _ _ _ _ _ _ _ _ _ _ _
   | exact bg.mono _ _ _ _ _ _ _ _ _ _ _ _ _
   | exact ai.mono _ _ _ _ _ _ _ _ _ _ _ _ _
   | exact dF.mono _ _ _ _ _ _ _ _ _ _ _ _ _
   | exact dM.mono _ _ _ _ _ _ _ _ _ _ _ _ _
   | exact LeO.none _
   | refine LeO.ite ?_ ?_
   | refine LeO.bind ?_ (fun _ => ?_)
noncomputable def ae.L0 (x0 : List (S31)) (x3 : Int) : Option (Bool) := LB.lim (fun k => ae.l0 k x0 x3)
noncomputable def ae.J1 (x0 : List (S31)) (x3 : Int) (x16 : Bool) : Option (Bool) := LB.lim (fun k => ae.j1 k x0 x3 x16)
noncomputable def ae.J2 (x0 : List (S31)) (x3 : Int) (x4 : Int) (x5 : List Int) : Option (Bool) := LB.lim (fun k => ae.j2 k x0 x3 x4 x5)
noncomputable def ae.J3 (x0 : List (S31)) (x3 : Int) (x73 : Bool) : Option (Bool) := LB.lim (fun k => ae.j3 k x0 x3 x73)
theorem ae.dZ (x0 : List (S31)) (x3 : Int) : LB.Lim (fun k => ae.l0 k x0 x3) (ae.L0 x0 x3) := LB.bT (fun k => (ae.dC k).1 x0 x3)
theorem ae.gD (x0 : List (S31)) (x3 : Int) (x16 : Bool) : LB.Lim (fun k => ae.j1 k x0 x3 x16) (ae.J1 x0 x3 x16) := LB.bT (fun k => (ae.dC k).2.1 x0 x3 x16)
theorem ae.gY (x0 : List (S31)) (x3 : Int) (x4 : Int) (x5 : List Int) : LB.Lim (fun k => ae.j2 k x0 x3 x4 x5) (ae.J2 x0 x3 x4 x5) := LB.bT (fun k => (ae.dC k).2.2.1 x0 x3 x4 x5)
theorem ae.J3_lim (x0 : List (S31)) (x3 : Int) (x73 : Bool) : LB.Lim (fun k => ae.j3 k x0 x3 x73) (ae.J3 x0 x3 x73) := LB.bT (fun k => (ae.dC k).2.2.2 x0 x3 x73)
theorem ae.iX (x0 : List (S31)) (x3 : Int) : ae.L0 x0 x3 = (if x3 < (x0.length : Int) then (ae.J1 x0 x3 (decide (x3 < 12))) else (ae.J1 x0 x3 false)) := by
  refine LB.Lim.unique (ae.dZ x0 x3).shift ?_
  simp only [ae.l0]
  (repeat' (first | exact LB.Lim.const _ | exact ae.dZ _ _ | exact ae.gD _ _ _ | exact ae.gY _ _ _ _ | exact ae.J3_lim _ _ _ | exact aY.bS | exact bG.bS _ _ _ _ _ _ _ _ _ _ _ _ | exact aI.bS _ _ | exact aV.bS _ _ _ _ _ _ _ _ _ _ _ _ _ _ _ _ _ _ _ _ _ _ _ _ | exact bg.bS _ _ _ _ _ _ _ _ _ _ _ _ | exact ai.bS _ _ _ _ _ _ _ _ _ _ _ _ | exact dF.bS _ _ _ _ _ _ _ _ _ _ _ _ | exact dM.bS _ _ _ _ _ _ _ _ _ _ _ _ | refine LB.Lim.ite ?_ ?_ | refine LB.Lim.bind ?_ (fun _ => ?_)))
theorem ae.J1_eq (x0 : List (S31)) (x3 : Int) (x16 : Bool) : ae.J1 x0 x3 x16 = (if x16 = true then (if 0 ≤ x3 then (if x3 < (x0.length : Int) then ((eP.f ((aA x0 x3).f0.f0.f0) ((aA x0 x3).f0.f0.f1) ((aA x0 x3).f0.f1) ((aA x0 x3).f0.f2) ((aA x0 x3).f0.f3) ((aA x0 x3).f0.f4.f0) ((aA x0 x3).f0.f4.f1) ((aA x0 x3).f0.f5.f0) ((aA x0 x3).f0.f5.f1) ((aA x0 x3).f0.f6) ((aA x0 x3).f0.f7) ((aA x0 x3).f0.f8) ((aA x0 x3).f1)).bind fun t777 => (if t777 = true then (some true) else ((ai.F ((aA x0 x3).f0.f0.f0) ((aA x0 x3).f0.f0.f1) ((aA x0 x3).f0.f1) ((aA x0 x3).f0.f2) ((aA x0 x3).f0.f3) ((aA x0 x3).f0.f4.f0) ((aA x0 x3).f0.f4.f1) ((aA x0 x3).f0.f5.f0) ((aA x0 x3).f0.f5.f1) ((aA x0 x3).f0.f6) ((aA x0 x3).f0.f7) ((aA x0 x3).f0.f8)).bind fun t779 => (if t779 = true then ((bg.F ((aA x0 x3).f0.f0.f0) ((aA x0 x3).f0.f0.f1) ((aA x0 x3).f0.f1) ((aA x0 x3).f0.f2) ((aA x0 x3).f0.f3) ((aA x0 x3).f0.f4.f0) ((aA x0 x3).f0.f4.f1) ((aA x0 x3).f0.f5.f0) ((aA x0 x3).f0.f5.f1) ((aA x0 x3).f0.f6) ((aA x0 x3).f0.f7) ((aA x0 x3).f0.f8)).bind fun t781 => (ae.J2 x0 x3 0 t781)) else (ae.J2 x0 x3 1 ([] : List Int)))))) else (none)) else (none)) else ((aY.F).bind fun t775 => (some t775))) := by
  refine LB.Lim.unique (ae.gD x0 x3 x16).shift ?_
  simp only [ae.j1]
  (repeat' (first | exact LB.Lim.const _ | exact ae.dZ _ _ | exact ae.gD _ _ _ | exact ae.gY _ _ _ _ | exact ae.J3_lim _ _ _ | exact aY.bS | exact bG.bS _ _ _ _ _ _ _ _ _ _ _ _ | exact aI.bS _ _ | exact aV.bS _ _ _ _ _ _ _ _ _ _ _ _ _ _ _ _ _ _ _ _ _ _ _ _ | exact bg.bS _ _ _ _ _ _ _ _ _ _ _ _ | exact ai.bS _ _ _ _ _ _ _ _ _ _ _ _ | exact dF.bS _ _ _ _ _ _ _ _ _ _ _ _ | exact dM.bS _ _ _ _ _ _ _ _ _ _ _ _ | refine LB.Lim.ite ?_ ?_ | refine LB.Lim.bind ?_ (fun _ => ?_)))
theorem ae.J2_eq (x0 : List (S31)) (x3 : Int) (x4 : Int) (x5 : List Int) : ae.J2 x0 x3 x4 x5 = (if 0 ≤ x3 then (if x3 < (x0.length : Int) then ((bG.F ((aA x0 x3).f0.f0.f0) ((aA x0 x3).f0.f0.f1) ((aA x0 x3).f0.f1) ((aA x0 x3).f0.f2) ((aA x0 x3).f0.f3) ((aA x0 x3).f0.f4.f0) ((aA x0 x3).f0.f4.f1) ((aA x0 x3).f0.f5.f0) ((aA x0 x3).f0.f5.f1) ((aA x0 x3).f0.f6) ((aA x0 x3).f0.f7) ((aA x0 x3).f0.f8)).bind fun bt785 => ((dF.F bt785.1 bt785.2.1 bt785.2.2.1 bt785.2.2.2.1 bt785.2.2.2.2.1 bt785.2.2.2.2.2.1 bt785.2.2.2.2.2.2.1 bt785.2.2.2.2.2.2.2.1 bt785.2.2.2.2.2.2.2.2.1 bt785.2.2.2.2.2.2.2.2.2.1 bt785.2.2.2.2.2.2.2.2.2.2.1 bt785.2.2.2.2.2.2.2.2.2.2.2).bind fun bt800 => ((dM.F bt785.1 bt785.2.1 bt785.2.2.1 bt785.2.2.2.1 bt785.2.2.2.2.1 bt785.2.2.2.2.2.1 bt785.2.2.2.2.2.2.1 bt785.2.2.2.2.2.2.2.1 bt785.2.2.2.2.2.2.2.2.1 bt785.2.2.2.2.2.2.2.2.2.1 bt785.2.2.2.2.2.2.2.2.2.2.1 bt785.2.2.2.2.2.2.2.2.2.2.2).bind fun t804 => ((bU.f t804).bind fun t805 => (if t805 = x4 then ((bU.f bt800.2).bind fun t806 => (if t806 = x4 then ((aI.F bt800.1 x5).bind fun t807 => (if t807 = true then ((aV.F bt785.1 bt785.2.1 bt785.2.2.1 bt785.2.2.2.1 bt785.2.2.2.2.1 bt785.2.2.2.2.2.1 bt785.2.2.2.2.2.2.1 bt785.2.2.2.2.2.2.2.1 bt785.2.2.2.2.2.2.2.2.1 bt785.2.2.2.2.2.2.2.2.2.1 bt785.2.2.2.2.2.2.2.2.2.2.1 bt785.2.2.2.2.2.2.2.2.2.2.2 ((aA x0 x3).f0.f0.f0) ((aA x0 x3).f0.f0.f1) ((aA x0 x3).f0.f1) ((aA x0 x3).f0.f2) ((aA x0 x3).f0.f3) ((aA x0 x3).f0.f4.f0) ((aA x0 x3).f0.f4.f1) ((aA x0 x3).f0.f5.f0) ((aA x0 x3).f0.f5.f1) ((aA x0 x3).f0.f6) ((aA x0 x3).f0.f7) ((aA x0 x3).f0.f8)).bind fun t809 => (ae.J3 x0 x3 (!t809))) else (ae.J3 x0 x3 true))) else (ae.J3 x0 x3 true))) else (ae.J3 x0 x3 true)))))) else (none)) else (none)) := by
  refine LB.Lim.unique (ae.gY x0 x3 x4 x5).shift ?_
  simp only [ae.j2]
  (repeat' (first | exact LB.Lim.const _ | exact ae.dZ _ _ | exact ae.gD _ _ _ | exact ae.gY _ _ _ _ | exact ae.J3_lim _ _ _ | exact aY.bS | exact bG.bS _ _ _ _ _ _ _ _ _ _ _ _ | exact aI.bS _ _ | exact aV.bS _ _ _ _ _ _ _ _ _ _ _ _ _ _ _ _ _ _ _ _ _ _ _ _ | exact bg.bS _ _ _ _ _ _ _ _ _ _ _ _ | exact ai.bS _ _ _ _ _ _ _ _ _ _ _ _ | exact dF.bS _ _ _ _ _ _ _ _ _ _ _ _ | exact dM.bS _ _ _ _ _ _ _ _ _ _ _ _ | refine LB.Lim.ite ?_ ?_ | refine LB.Lim.bind ?_ (fun _ => ?_)))
theorem ae.J3_eq (x0 : List (S31)) (x3 : Int) (x73 : Bool) : ae.J3 x0 x3 x73 = (if x73 = true then (some false) else (ae.L0 x0 (wrap64 (x3 + 1)))) := by
  refine LB.Lim.unique (ae.J3_lim x0 x3 x73).shift ?_
  simp only [ae.j3]
  (repeat' (first | exact LB.Lim.const _ | exact ae.dZ _ _ | exact ae.gD _ _ _ | exact ae.gY _ _ _ _ | exact ae.J3_lim _ _ _ | exact aY.bS | exact bG.bS _ _ _ _ _ _ _ _ _ _ _ _ | exact aI.bS _ _ | exact aV.bS _ _ _ _ _ _ _ _ _ _ _ _ _ _ _ _ _ _ _ _ _ _ _ _ | exact bg.bS _ _ _ _ _ _ _ _ _ _ _ _ | exact ai.bS _ _ _ _ _ _ _ _ _ _ _ _ | exact dF.bS _ _ _ _ _ _ _ _ _ _ _ _ | exact dM.bS _ _ _ _ _ _ _ _ _ _ _ _ | refine LB.Lim.ite ?_ ?_ | refine LB.Lim.bind ?_ (fun _ => ?_)))
noncomputable def ae.F (l0 : List (S31)) : Option (Bool) := LB.lim (fun k => ae.f k l0)
theorem ae.bS (l0 : List (S31)) : LB.Lim (fun k => ae.f k l0) (ae.F l0) := LB.bT (ae.mono l0)
theorem ae.gU (l0 : List (S31)) : ae.F l0 = (ae.L0 l0 0) := by
  refine LB.Lim.unique (ae.bS l0) ?_
  simp only [ae.f]
  (repeat' (first | exact LB.Lim.const _ | exact ae.dZ _ _ | exact ae.gD _ _ _ | exact ae.gY _ _ _ _ | exact ae.J3_lim _ _ _ | exact aY.bS | exact bG.bS _ _ _ _ _ _ _ _ _ _ _ _ | exact aI.bS _ _ | exact aV.bS _ _ _ _ _ _ _ _ _ _ _ _ _ _ _ _ _ _ _ _ _ _ _ _ | exact bg.bS _ _ _ _ _ _ _ _ _ _ _ _ | exact ai.bS _ _ _ _ _ _ _ _ _ _ _ _ | exact dF.bS _ _ _ _ _ _ _ _ _ _ _ _ | exact dM.bS _ _ _ _ _ _ _ _ _ _ _ _ | refine LB.Lim.ite ?_ ?_ | refine LB.Lim.bind ?_ (fun _ => ?_)))
end Go.Proofs.Ytddnlnjmikcgfaa.PC
end
section
namespace Go.OB
open Go Go.RowKit Go.WB.PrintWords
/-- Whatever of type t reads as data reads as a value of the kind, within bounds. -/
def Opens (P : Program) (t : TypeId) {α : Type} (d : Kd α) (OK : α → Prop) : Prop :=
  ∀ {H : Type} (enc : TypeId × Value → H) (w : World) (base : Nat) (spare : Nat → Bool) (held : Bool) (fuel : Nat) (cs : List Value) (x : DataW H) (ps : List MemPlace),
    DataW.trod enc P w base spare held fuel t cs = some (x, ps) → (∀ n ∈ x.weights P t, n ≤ reachBytes) → ∃ a : α, d.K w a cs ∧ OK a
section
variable {P : Program} {t : TypeId}
theorem opens_int {k : IntKind} (ht : P.underlying t = some (.int k)) : Opens P t (Kd.int k) (fun n => (Lit.int k n).wf = true) := by
  intro H enc w base spare held fuel cs x ps h _
  obtain ⟨n, rfl, _, hw⟩ := DataW.trod_int ht h
  exact ⟨n, rfl, hw⟩
theorem opens_string (ht : P.underlying t = some .string) : Opens P t Kd.string (fun s => s.size ≤ 140737488351232) := by
  intro H enc w base spare held fuel cs x ps h hs
  obtain ⟨s, rfl, hx, _⟩ := DataW.trod_string ht h
  simp only [Prod.mk.injEq] at hx
  obtain ⟨rfl, rfl⟩ := hx
  have := hs s.data.toList.length (by simp [DataW.weights])
  have hr : reachBytes = 140737488351232 := by decide
  have hl : s.data.toList.length = s.size := by simp
  exact ⟨s, rfl, by omega⟩
theorem mem_weightsAll {H : Type} {e : TypeId} : ∀ {l : List (DataW H)} {d : DataW H}, d ∈ l → ∀ n ∈ d.weights P e, n ∈ DataW.weightsAll P e l
  | d0 :: l, d, hd, n, hn => by
    simp only [DataW.weightsAll, List.mem_append]
    rcases List.mem_cons.1 hd with rfl | hd
    · exact .inl hn
    · exact .inr (mem_weightsAll hd n hn)
theorem opens_slice {α : Type} (y0 : α) {e : TypeId} (nb : Nat) {d : Kd α} {OK : α → Prop} (ht : P.underlying t = some (.slice e)) (hsz : d.sz = P.cellsOf e) (hnb : P.bytesOf e = nb) (ho : Opens P e d OK) :
    Opens P t (Kd.slice e d) (fun l => l.length ≤ maxLen ∧ l.length * nb ≤ 140737488351232 ∧ ∀ a ∈ l, OK a) := by
  haveI : Inhabited α := ⟨y0⟩
  subst hnb
  intro H enc w base spare held fuel cs x ps h hs
  have hr : reachBytes = 140737488351232 := by decide
  rcases Deep.open_slice ht h with ⟨rfl, _⟩ | ⟨a, len, cap, m, n, D, Pl, rfl, hb, hl, hm, hmm, hx, hel⟩
  · exact ⟨[], ⟨none, 0, rfl, Nat.le_refl _, Kd.C_nil _ _⟩, by simp, by simp, fun _ h => by cases h⟩
  · simp only [Prod.mk.injEq] at hx
    obtain ⟨rfl, rfl⟩ := hx
    have hle : len ≤ m := by rw [hmm]; split <;> omega
    have hw := hs ((((List.range len).map D).length + ((List.range (m - len)).map fun j => D (len + j)).length) * P.bytesOf e) (by simp [DataW.weights, ht])
    have hone : ∀ i, i < len → ∃ y : α, (∃ cs', w.cells? base (a.add (i * P.cellsOf e)) (P.cellsOf e) = some cs' ∧ d.K w y cs') ∧ OK y := by
      intro i hi
      obtain ⟨cs', h1, h2⟩ := hel i (by omega)
      obtain ⟨y, hy, hoy⟩ := ho enc w base spare held n cs' (D i) (Pl i) h2 (fun q hq => hs q (by
        simp only [DataW.weights, ht, List.mem_cons, List.mem_append]
        exact .inr (.inl (mem_weightsAll (List.mem_map.2 ⟨i, List.mem_range.2 hi, rfl⟩) q hq))))
      exact ⟨y, ⟨cs', h1, hy⟩, hoy⟩
    obtain ⟨f, hf⟩ := Deep.choose_lt hone
    have hlen : ((List.range len).map f).length = len := by simp
    refine ⟨(List.range len).map f, ⟨some a, cap, by rw [hlen], by rw [hlen]; exact hl, ?_⟩, by rw [hlen]; omega, ?_, ?_⟩
    · refine ⟨rfl, by rw [hlen]; have : maxLen = 9223372036854775807 := rfl; omega, fun _ => ⟨a, rfl, fun j p hj => ?_⟩⟩
      have hj' : j < len := by
        have := (List.getElem?_eq_some_iff.1 hj).1
        simpa using this
      have hp : p = f j := by simpa [hj'] using hj.symm
      subst hp
      obtain ⟨⟨cs', h1, h2⟩, _⟩ := hf j hj'
      obtain ⟨_, hcl, hcell⟩ := World.cells?_some h1
      refine ⟨cs', by rw [hcl, hsz], h2, fun i u hu => ?_⟩
      have hi : i < P.cellsOf e := by have := (List.getElem?_eq_some_iff.1 hu).1; omega
      rw [← Deep.add_add, hsz, hcell i hi, hu]
    · rw [hlen]
      rw [hr] at hw
      simp only [List.length_map, List.length_range] at hw
      exact Nat.le_trans (Nat.mul_le_mul_right _ (by omega)) hw
    · intro y hy
      obtain ⟨i, hi, rfl⟩ := List.mem_map.1 hy
      exact (hf i (List.mem_range.1 hi)).2
end
section
variable {P : Program}
/-- Cells that hold values of these types one behind the other. -/
def Chunks {H : Type} (enc : TypeId × Value → H) (P : Program) (w : World) (base : Nat) (spare : Nat → Bool) (held : Bool) (fuel : Nat) : List TypeId → List Value → List (DataW H) → Prop
  | [], cs, ds => cs = [] ∧ ds = []
  | t :: ts, cs, d :: ds => (∃ ps, DataW.trod enc P w base spare held fuel t (cs.take (P.cellsOf t)) = some (d, ps)) ∧ Chunks enc P w base spare held fuel ts (cs.drop (P.cellsOf t)) ds
  | _ :: _, _, [] => False
def OpensAll (P : Program) (ts : List TypeId) {α : Type} (d : Kd α) (OK : α → Prop) : Prop :=
  ∀ {H : Type} (enc : TypeId × Value → H) (w : World) (base : Nat) (spare : Nat → Bool) (held : Bool) (fuel : Nat) (cs : List Value) (ds : List (DataW H)),
    Chunks enc P w base spare held fuel ts cs ds → (∀ n ∈ DataW.weightsEach P ts ds, n ≤ reachBytes) → ∃ a : α, d.K w a cs ∧ OK a
theorem opens_one {t : TypeId} {α : Type} {d : Kd α} {OK : α → Prop} (h : Opens P t d OK) : OpensAll P [t] d OK := by
  intro H enc w base spare held fuel cs ds hc hs
  match ds, hc with
  | [x], ⟨⟨ps, h1⟩, h2, _⟩ =>
    have e : cs.take (P.cellsOf t) = cs := by
      rw [List.take_of_length_le]
      have := congrArg List.length h2
      simp at this
      omega
    rw [e] at h1
    exact h enc w base spare held fuel cs x ps h1 (fun n hn => hs n (by simp [DataW.weightsEach, hn]))
theorem ib {t : TypeId} {ts : List TypeId} {α β : Type} {d : Kd α} {d2 : Kd β} {OK : α → Prop} {OK2 : β → Prop} (h : Opens P t d OK) (h2 : OpensAll P ts d2 OK2) :
    OpensAll P (t :: ts) (Kd.pair d d2) (fun x => OK x.1 ∧ OK2 x.2) := by
  intro H enc w base spare held fuel cs ds hc hs
  match ds, hc with
  | x :: ds, ⟨⟨ps, h1⟩, hr⟩ =>
    obtain ⟨a, ha, hoa⟩ := h enc w base spare held fuel _ x ps h1 (fun n hn => hs n (by simp [DataW.weightsEach, hn]))
    obtain ⟨b, hb, hob⟩ := h2 enc w base spare held fuel _ ds hr (fun n hn => hs n (by simp [DataW.weightsEach, hn]))
    exact ⟨(a, b), ⟨_, _, (List.take_append_drop _ cs).symm, ha, hb⟩, hoa, hob⟩
/-- Where the fields stand: each behind the one ahead of it. -/
def inRow (P : Program) : Nat → List Field → Bool
  | _, [] => true
  | o, f :: fs => f.offset == o && inRow P (o + P.cellsOf f.type) fs
def total (P : Program) (fs : List Field) : Nat := (fs.map fun f => P.cellsOf f.type).sum
theorem chunks_of {H : Type} (enc : TypeId × Value → H) (w : World) (base : Nat) (spare : Nat → Bool) (held : Bool) (fuel : Nat) : ∀ (fs : List Field) (o : Nat) (cs : List Value) (xs : List (DataW H × List MemPlace)),
    inRow P o fs = true → cs.length = o + total P fs → (fs.mapM fun f => DataW.trod enc P w base spare held fuel f.type ((cs.drop f.offset).take (P.cellsOf f.type))) = some xs →
    Chunks enc P w base spare held fuel (fs.map (·.type)) (cs.drop o) (xs.map (·.1))
  | [], o, cs, xs, _, hl, hm => by
    simp [total] at hl
    simp at hm
    subst hm
    simp [Chunks, ← hl]
  | f :: fs, o, cs, xs, hr, hl, hm => by
    simp only [inRow, Bool.and_eq_true, beq_iff_eq] at hr
    obtain ⟨hfo, hr⟩ := hr
    rw [List.mapM_cons] at hm
    cases h1 : DataW.trod enc P w base spare held fuel f.type ((cs.drop f.offset).take (P.cellsOf f.type)) with
    | none => rw [h1] at hm; simp at hm
    | some y =>
      rw [h1] at hm
      cases h2 : (fs.mapM fun f => DataW.trod enc P w base spare held fuel f.type ((cs.drop f.offset).take (P.cellsOf f.type))) with
      | none => rw [h2] at hm; simp at hm
      | some ys =>
        rw [h2] at hm
        simp at hm
        subst hm
        have ih := chunks_of enc w base spare held fuel fs (o + P.cellsOf f.type) cs ys hr (by rw [hl]; simp [total]; omega) h2
        refine ⟨⟨y.2, ?_⟩, ?_⟩
        · rw [← hfo]; exact h1
        · rw [List.drop_drop]; exact ih
theorem opens_struct {t : TypeId} {fs : Array Field} {α S : Type} {d : Kd α} {OK : α → Prop} (ht : P.underlying t = some (.struct fs)) (hr : inRow P 0 fs.toList = true) (hc : P.cellsOf t = total P fs.toList)
    (h : OpensAll P (fs.toList.map (·.type)) d OK) (f : S → α) (g : α → S) (hfg : ∀ a, f (g a) = a) : Opens P t (Kd.iso d f) (fun s => OK (f s)) := by
  intro H enc w base spare held fuel cs x ps hx hs
  cases fuel with
  | zero => simp [DataW.trod] at hx
  | succ n =>
    obtain ⟨xs, m, hm, hxe, hl, hall⟩ : ∃ (xs : List (DataW H × List MemPlace)) (m : Nat), n = m ∧ x = .agg (xs.map (·.1)) ∧ cs.length = P.cellsOf t ∧ (fs.toList.mapM fun f => DataW.trod enc P w base spare held m f.type ((cs.drop f.offset).take (P.cellsOf f.type))) = some xs := by
      unfold DataW.trod at hx
      rw [ht] at hx
      split at hx <;> simp_all
      obtain ⟨hl, hx⟩ := hx
      obtain ⟨xs, h1, h2, h3⟩ := hx
      exact ⟨xs, h2.symm, h1⟩
    subst hm
    subst hxe
    have hch := chunks_of (P := P) enc w base spare held n fs.toList 0 cs xs hr (by rw [hl, hc]; omega) hall
    obtain ⟨a, ha, hoa⟩ := h enc w base spare held n cs _ (by simpa using hch) (fun q hq => hs q (by simpa [DataW.weights, ht] using hq))
    refine ⟨g a, ?_, ?_⟩
    · show d.K w (f (g a)) cs
      rw [hfg]; exact ha
    · show OK (f (g a))
      rw [hfg]; exact hoa
theorem weights_of {H : Type} {ts : List TypeId} {ds : List (DataW H)} (h : (DataW.weightsEach P ts ds).all (· ≤ reachBytes) = true) {j : Nat} {t : TypeId} {d : DataW H} (ht : ts[j]? = some t) (hd : ds[j]? = some d) : ∀ n ∈ d.weights P t, n ≤ reachBytes :=
  fun n hn => by simpa using List.all_eq_true.1 h _ (DataW.weights_mem_each ht hd n hn)
end
end Go.OB
end
section
namespace Go.Proofs.Ytddnlnjmikcgfaa.PC
open Go.RowKit Go.WB.PrintWords Go.WB.PrintLast Go.WB.PrintMore
def ok_T25 (x : S25) : Prop := (Lit.int .i64 x.f0).wf = true ∧ (Lit.int .i64 x.f1).wf = true
def ok_T28 (x : S28) : Prop := ok_T25 x.f0 ∧ (Lit.int .i64 x.f1).wf = true ∧ (x.f2.length ≤ maxLen ∧ x.f2.length * 8 ≤ 140737488351232 ∧ ∀ a ∈ x.f2, (Lit.int .i64 a).wf = true) ∧ (Lit.int .i64 x.f3).wf = true ∧ ok_T25 x.f4 ∧ ok_T25 x.f5 ∧ x.f6.size ≤ 140737488351232 ∧ (Lit.int .i64 x.f7).wf = true ∧ (Lit.int .i64 x.f8).wf = true
def ok_T31 (x : S31) : Prop := ok_T28 x.f0 ∧ (x.f1.length ≤ maxLen ∧ x.f1.length * 1 ≤ 140737488351232 ∧ ∀ a ∈ x.f1, (Lit.int .u8 a).wf = true)
def ae.Pure : Prop := ∀ (l0 : List (S31)), (l0.length ≤ maxLen ∧ l0.length * 144 ≤ 140737488351232 ∧ ∀ a ∈ l0, ok_T31 a) → ∃ k, ae.f k l0 = some true
end Go.Proofs.Ytddnlnjmikcgfaa.PC
end
section
set_option linter.unusedVariables false
set_option linter.unusedSimpArgs false
namespace Go.Proofs.Ytddnlnjmikcgfaa.PC
open Go.RowKit Go.WB.PrintWords Go.WB.PrintLast Go.WB.PrintMore
theorem w64_l {x : Int} (h0 : -9223372036854775808 ≤ x) (h1 : x < 9223372036854775808) : wrap64 x = x := by unfold wrap64; omega
theorem w64s {x : Int} (h0 : 0 ≤ x) (h1 : x < 9223372036854775807) : wrap64 (x + 1) = x + 1 := w64_l (by omega) (by omega)
theorem rd_nat (l : List Int) (i : Nat) (h : i < l.length) : rd l (i : Int) = l[i] := by simp [rd, h]
theorem take_succ' {α : Type} (l : List α) (i : Nat) (h : i < l.length) : l.take (i + 1) = l.take i ++ [l[i]] := by
  rw [List.take_succ_eq_append_getElem h]
theorem copyNumbers_L (l : List Int) (hl : l.length < 17592186044416) : ∀ (d i : Nat), i ≤ l.length → l.length - i = d → aG.L0 l (l.take i) (i : Int) = some l := by
  intro d
  induction d with
  | zero =>
    intro i hi hd
    rw [aG.iX, if_neg (by omega), List.take_of_length_le (by omega)]
  | succ d ih =>
    intro i hi hd
    rw [aG.iX, if_pos (by omega), if_pos (by omega), if_pos (by rw [List.length_take]; omega), w64s (by omega) (by omega), rd_nat l i (by omega), ← take_succ' l i (by omega)]
    exact ih (i + 1) (by omega) (by omega)
theorem copyNumbers (l : List Int) (hl : l.length < 17592186044416) : aG.F l = some l := by
  rw [aG.gU]
  exact copyNumbers_L l hl l.length 0 (by omega) (by omega)
theorem eqBytes_L (a b : List Int) (hab : a.length = b.length) (hl : a.length < 9223372036854775807) : ∀ (d i : Nat), i ≤ a.length → a.length - i = d → aI.L0 a b (i : Int) = some (decide (a.drop i = b.drop i)) := by
  intro d
  induction d with
  | zero =>
    intro i hi hd
    rw [aI.iX, if_neg (by omega), List.drop_of_length_le (by omega), List.drop_of_length_le (by omega)]
    simp
  | succ d ih =>
    intro i hi hd
    have ha : i < a.length := by omega
    have hb : i < b.length := by omega
    rw [aI.iX, if_pos (by omega), if_pos (by omega), if_pos (by omega), rd_nat a i ha, rd_nat b i hb, w64s (by omega) (by omega), List.drop_eq_getElem_cons ha, List.drop_eq_getElem_cons hb]
    by_cases h : a[i] = b[i]
    · rw [if_pos h, show ((i : Int) + 1) = ((i + 1 : Nat) : Int) from rfl, ih (i + 1) (by omega) (by omega)]
      exact congrArg some (decide_eq_decide.2 (by rw [List.cons.injEq]; exact ⟨fun e => ⟨h, e⟩, fun e => e.2⟩))
    · rw [if_neg h]
      exact congrArg some (decide_eq_false (fun e => h (List.cons.inj e).1)).symm
theorem eqBytes (a b : List Int) (hl : a.length < 9223372036854775807) : aI.F a b = some (decide (a = b)) := by
  rw [aI.gU]
  by_cases h : a.length = b.length
  · rw [if_pos (by omega)]
    exact eqBytes_L a b h hl a.length 0 (by omega) (by omega)
  · rw [if_neg (by omega)]
    have : ¬ a = b := fun e => h (by rw [e])
    simp [this]
theorem eqNumbers_L (a b : List Int) (hab : a.length = b.length) (hl : a.length < 9223372036854775807) : ∀ (d i : Nat), i ≤ a.length → a.length - i = d → aH.L0 a b (i : Int) = some (decide (a.drop i = b.drop i)) := by
  intro d
  induction d with
  | zero =>
    intro i hi hd
    rw [aH.iX, if_neg (by omega), List.drop_of_length_le (by omega), List.drop_of_length_le (by omega)]
    simp
  | succ d ih =>
    intro i hi hd
    have ha : i < a.length := by omega
    have hb : i < b.length := by omega
    rw [aH.iX, if_pos (by omega), if_pos (by omega), if_pos (by omega), rd_nat a i ha, rd_nat b i hb, w64s (by omega) (by omega), List.drop_eq_getElem_cons ha, List.drop_eq_getElem_cons hb]
    by_cases h : a[i] = b[i]
    · rw [if_pos h, show ((i : Int) + 1) = ((i + 1 : Nat) : Int) from rfl, ih (i + 1) (by omega) (by omega)]
      exact congrArg some (decide_eq_decide.2 (by rw [List.cons.injEq]; exact ⟨fun e => ⟨h, e⟩, fun e => e.2⟩))
    · rw [if_neg h]
      exact congrArg some (decide_eq_false (fun e => h (List.cons.inj e).1)).symm
theorem eqNumbers (a b : List Int) (hl : a.length < 9223372036854775807) : aH.F a b = some (decide (a = b)) := by
  rw [aH.gU]
  by_cases h : a.length = b.length
  · rw [if_pos (by omega)]
    exact eqNumbers_L a b h hl a.length 0 (by omega) (by omega)
  · rw [if_neg (by omega)]
    have : ¬ a = b := fun e => h (by rw [e])
    simp [this]
def d9 (n : Nat) : List Int := if h : n < 128 then [(n : Int)] else ((n % 128 + 128 : Nat) : Int) :: d9 (n / 128)
 termination_by n
 decreasing_by omega
theorem enc_small {n : Nat} (h : n < 128) : d9 n = [(n : Int)] := by rw [d9, dif_pos h]
theorem enc_big {n : Nat} (h : ¬ n < 128) : d9 n = ((n % 128 + 128 : Nat) : Int) :: d9 (n / 128) := by rw [d9, dif_neg h]
theorem enc_length_pos (n : Nat) : 0 < (d9 n).length := by
  by_cases h : n < 128
  · simp [enc_small h]
  · simp [enc_big h]
theorem enc_length (n : Nat) : ∀ m, n < 128 ^ m → 0 < m → (d9 n).length ≤ m := by
  induction n using Nat.strongRecOn with
  | _ n ih =>
    intro m hm h0
    by_cases h : n < 128
    · simp [enc_small h]; omega
    · obtain ⟨q, rfl⟩ : ∃ q, m = q + 1 := ⟨m - 1, by omega⟩
      rw [Nat.pow_succ] at hm
      have hq : 0 < q := by
        rcases Nat.eq_zero_or_pos q with rfl | hq
        · simp at hm; omega
        · exact hq
      have := ih (n / 128) (by omega) q (Nat.div_lt_of_lt_mul (by rw [Nat.mul_comm]; exact hm)) hq
      rw [enc_big h]
      simp
      omega
theorem dI {n : Nat} (h : n ≤ 4611686018427387904) : (d9 n).length ≤ 9 := enc_length n 9 (by omega) (by omega)
theorem put_L : ∀ (n : Nat) (acc : List Int), n ≤ 4611686018427387904 → acc.length + (d9 n).length < 140737488355328 → bF.L0 acc (n : Int) = some (acc ++ d9 n) := by
  intro n
  induction n using Nat.strongRecOn with
  | _ n ih =>
    intro acc hn hl
    have := enc_length_pos n
    rw [bF.iX]
    by_cases h : n < 128
    · rw [if_neg (by omega), if_pos (by omega), enc_small h, Int.emod_eq_of_lt (by omega) (by omega)]
    · rw [enc_big h] at hl ⊢
      simp only [List.length_cons] at hl
      rw [if_pos (by omega), if_pos (by omega)]
      have e1 : bits .or .u8 ((n : Int) % 256) 128 = ((n % 128 + 128 : Nat) : Int) := by
        by_cases hb : (n : Int) % 256 < 128
        · rw [u8_or128_right _ (by omega) hb]; omega
        · have e2 : (n : Int) % 256 = 128 + ((n % 128 : Nat) : Int) := by omega
          have hx : n % 256 < 256 := by omega
          have e3 := (bits_nat .u8 8 (by decide) wraps_u8 (n % 256) 128 (by omega) (by decide)).2
          rw [show ((n : Int) % 256) = ((n % 256 : Nat) : Int) by omega, show (128 : Int) = ((128 : Nat) : Int) from rfl, e3]
          have e4 : n % 256 ||| 128 = n % 256 := by
            have e5 : n % 256 = 2 ^ 7 * 1 + n % 128 := by omega
            rw [e5, Nat.two_pow_add_eq_or_of_lt (by omega) 1]
            apply Nat.eq_of_testBit_eq
            intro i
            simp only [Nat.testBit_or]
            cases Nat.testBit (2 ^ 7 * 1) i <;> cases Nat.testBit (n % 128) i <;> cases h : Nat.testBit 128 i <;> simp_all
          rw [e4]; omega
      rw [e1, show (n : Int) / 128 = ((n / 128 : Nat) : Int) by omega, ih (n / 128) (by omega) _ (by omega) (by simp; omega)]
      simp
theorem put_F (n : Nat) (acc : List Int) (hn : n ≤ 4611686018427387904) (hl : acc.length + (d9 n).length < 140737488355328) : bF.F acc (n : Int) = some (acc ++ d9 n) := by
  rw [bF.gU]; exact put_L n acc hn hl
theorem bits_or_comm (k : IntKind) (x y : Int) : bits .or k x y = bits .or k y x := by
  unfold bits
  simp only [BitVec.or_comm]
theorem wraps_i64 (n : Int) (h₀ : 0 ≤ n) (h₁ : n < 2 ^ 63) : IntKind.i64.wrap n = n := by rw [IntKind.wrap_i64]; omega
theorem and127 (c : Int) (h0 : 0 ≤ c) (h1 : c < 256) : bits .and .u8 c 127 = c % 128 := bits_mask .u8 8 (by decide) wraps_u8 7 (by decide) c h0 h1
theorem pow128 (i : Nat) : 128 ^ i = 2 ^ (7 * i) := by rw [Nat.pow_mul]
theorem pow128_le {i : Nat} (h : i ≤ 8) : 128 ^ i ≤ 72057594037927936 := Nat.le_trans (Nat.pow_le_pow_right (by decide) h) (by decide)
theorem shl_i64 (c : Int) (i : Nat) (hi : i ≤ 8) (h0 : 0 ≤ c) (h1 : c < 128) : shl .i64 c (7 * (i : Int)) = c * (128 ^ i : Nat) := by
  have hp := pow128_le hi
  have hp0 : 0 < 128 ^ i := Nat.pow_pos (by decide)
  unfold shl
  have e1 : min (7 * (i : Int)).toNat IntKind.i64.bits = 7 * i := by
    have : IntKind.i64.bits = 64 := rfl
    omega
  rw [e1]
  have e2 : ((2 : Int) ^ (7 * i)) = ((128 ^ i : Nat) : Int) := by rw [pow128]; simp
  rw [e2]
  obtain ⟨q, rfl⟩ := Int.eq_ofNat_of_zero_le h0
  have hq : q * 128 ^ i ≤ 127 * 72057594037927936 := Nat.mul_le_mul (by omega) hp
  exact wraps_i64 _ (by rw [← Int.natCast_mul]; exact Int.natCast_nonneg _) (by rw [← Int.natCast_mul]; omega)
theorem or_shift (k : IntKind) (j : Nat) (hj : j ≤ k.bits) (hk : ∀ n : Int, 0 ≤ n → n < 2 ^ j → k.wrap n = n) (hj63 : 63 ≤ j) (n q i : Nat) (hi : i ≤ 8) (hn : n < 128 ^ i) (hq : q < 128) :
    bits .or k (n : Int) ((q : Int) * (128 ^ i : Nat)) = ((n + q * 128 ^ i : Nat) : Int) := by
  have hp := pow128_le hi
  have hb : q * 128 ^ i ≤ 127 * 72057594037927936 := Nat.mul_le_mul (by omega) hp
  have h63 : (2 : Int) ^ 63 ≤ 2 ^ j := by exact_mod_cast Nat.pow_le_pow_right (show 0 < 2 by decide) hj63
  rw [bits_or_comm, bits_join k j hj hk (7 * i) ((q : Int) * (128 ^ i : Nat)) (n : Int)]
  · rw [← Int.natCast_mul]; omega
  · rw [← Int.natCast_mul]; exact Int.natCast_nonneg _
  · rw [pow128]
    exact_mod_cast Nat.mul_mod_left q (2 ^ (7 * i))
  · rw [← Int.natCast_mul]
    have : ((q * 128 ^ i : Nat) : Int) < 2 ^ 63 := by omega
    omega
  · omega
  · rw [pow128] at hn
    exact_mod_cast hn
  · have : (n : Int) < 2 ^ 63 := by omega
    omega
/-- Which number the bytes from here on tell, n being what the i bytes ahead have told. -/
def tk : List Int → Nat → Nat → Int × Int × Int
  | [], _, _ => (0, 0, 7)
  | c :: r, n, i => if 128 ≤ c then (if i = 8 then (0, 0, 1) else tk r (n + (c.toNat - 128) * 128 ^ i) (i + 1))
    else if (c = 0 ∧ 0 < i) ∨ 4611686018427387904 < n + c.toNat * 128 ^ i then (0, 0, 1) else (((n + c.toNat * 128 ^ i : Nat) : Int), (i : Int) + 1, 0)
def dO (l : List Int) : Prop := ∀ x ∈ l, 0 ≤ x ∧ x < 256
theorem step_lt {n q i : Nat} (hn : n < 128 ^ i) (hq : q < 128) : n + q * 128 ^ i < 128 ^ (i + 1) := by
  rw [Nat.pow_succ]
  have : q * 128 ^ i ≤ 127 * 128 ^ i := Nat.mul_le_mul_right _ (by omega)
  omega
theorem takeNum_L (l : List Int) (hb : dO l) (hl : l.length < 4611686018427387904) : ∀ (d i n : Nat), i ≤ l.length → l.length - i = d → i ≤ 8 → n < 128 ^ i →
    ah.L0 l (n : Int) (i : Int) = some (tk (l.drop i) n i) := by
  intro d
  induction d with
  | zero =>
    intro i n hi hd h8 hn
    rw [ah.iX, if_pos (by omega), List.drop_of_length_le (by omega)]
    rfl
  | succ d ih =>
    intro i n hi hd h8 hn
    have hil : i < l.length := by omega
    obtain ⟨c0, c1⟩ := hb l[i] (List.getElem_mem hil)
    rw [ah.iX, if_neg (by omega), if_pos (by omega), if_pos (by omega), rd_nat l i hil, List.drop_eq_getElem_cons hil]
    have hs : wrap64 (7 * (i : Int)) = 7 * (i : Int) := w64_l (by omega) (by omega)
    have hm : wrap64 (bits .and .u8 l[i] 127) = ((l[i].toNat % 128 : Nat) : Int) := by rw [and127 _ c0 c1, w64_l (by omega) (by omega)]; omega
    have ho : bits .or .i64 (n : Int) (shl .i64 (wrap64 (bits .and .u8 l[i] 127)) (wrap64 (7 * (i : Int)))) = ((n + l[i].toNat % 128 * 128 ^ i : Nat) : Int) := by
      rw [hm, hs, shl_i64 _ i h8 (by omega) (by omega)]
      exact or_shift .i64 63 (by decide) wraps_i64 (by decide) n _ i h8 hn (by omega)
    have hi8 : ((i : Int) == 8) = decide (i = 8) := by
      by_cases h : i = 8
      · subst h; rfl
      · simp [h]; omega
    have hJ : ∀ b, b = false → ah.J1 l (n : Int) (i : Int) b = (if l[i] ≥ 128 then ah.L0 l ((n + l[i].toNat % 128 * 128 ^ i : Nat) : Int) ((i : Int) + 1) else
        some (if (l[i] = 0 ∧ 0 < i) ∨ 4611686018427387904 < n + l[i].toNat % 128 * 128 ^ i then (0, 0, 1) else (((n + l[i].toNat % 128 * 128 ^ i : Nat) : Int), (i : Int) + 1, 0))) := by
      rintro b rfl
      rw [ah.J1_eq, if_neg (by simp), if_pos (by omega), if_pos (by omega), if_pos (by rw [hs]; omega), rd_nat l i hil, ho, w64s (by omega) (by omega)]
      by_cases hc : l[i] ≥ 128
      · rw [if_pos hc, if_pos hc]
      · rw [if_neg hc, if_neg hc]
        by_cases hz : l[i] = 0
        · rw [if_pos hz]
          by_cases hi0 : (i : Int) > 0
          · rw [if_pos hi0, ah.J2_eq, if_pos rfl, if_pos (.inl ⟨hz, by omega⟩)]
          · rw [if_neg hi0, ah.J2_eq, w64s (by omega) (by omega)]
            by_cases hq : 4611686018427387904 < n + l[i].toNat % 128 * 128 ^ i
            · rw [if_pos (decide_eq_true (by omega)), if_pos (.inr hq)]
            · rw [if_neg (by rw [decide_eq_true_eq]; omega), if_neg (by omega)]
        · rw [if_neg hz, ah.J2_eq, w64s (by omega) (by omega)]
          by_cases hq : 4611686018427387904 < n + l[i].toNat % 128 * 128 ^ i
          · rw [if_pos (decide_eq_true (by omega)), if_pos (.inr hq)]
          · rw [if_neg (by rw [decide_eq_true_eq]; omega), if_neg (by omega)]
    unfold tk
    by_cases hc : l[i] ≥ 128
    · rw [if_pos hc, if_pos (show 128 ≤ l[i] from hc), hi8]
      by_cases h : i = 8
      · rw [if_pos h, ah.J1_eq, if_pos (by simp [h])]
      · rw [if_neg h, hJ _ (by simp [h]), if_pos hc, show ((i : Int) + 1) = ((i + 1 : Nat) : Int) from rfl, ih (i + 1) _ (by omega) (by omega) (by omega) (step_lt hn (by omega)),
          show l[i].toNat % 128 = l[i].toNat - 128 by omega]
    · rw [if_neg hc, if_neg (show ¬ 128 ≤ l[i] by omega), hJ _ rfl, if_neg hc, show l[i].toNat % 128 = l[i].toNat by omega]
theorem takeNum (l : List Int) (hb : dO l) (hl : l.length < 4611686018427387904) : ah.F l = some (tk l 0 0) := by
  rw [ah.gU]
  exact takeNum_L l hb hl l.length 0 0 (by omega) (by omega) (by omega) (by omega)
theorem dO.drop {l : List Int} (h : dO l) (i : Nat) : dO (l.drop i) := fun x hx => h x (List.mem_of_mem_drop hx)
theorem dO.take {l : List Int} (h : dO l) (i : Nat) : dO (l.take i) := fun x hx => h x (List.mem_of_mem_take hx)
theorem dO.append {l m : List Int} (h : dO l) (k : dO m) : dO (l ++ m) := fun x hx => (List.mem_append.1 hx).elim (h x) (k x)
theorem tk_ok : ∀ (l : List Int) (n i : Nat), (tk l n i).2.2 = 0 → 0 ≤ (tk l n i).1 ∧ (tk l n i).1 ≤ 4611686018427387904 ∧ (i : Int) + 1 ≤ (tk l n i).2.1 ∧ (tk l n i).2.1 ≤ i + l.length
  | [], n, i, h => by simp [tk] at h
  | c :: r, n, i, h => by
    unfold tk at h ⊢
    by_cases h1 : 128 ≤ c
    · rw [if_pos h1] at h ⊢
      by_cases h2 : i = 8
      · rw [if_pos h2] at h
        simp at h
      · rw [if_neg h2] at h ⊢
        have := tk_ok r _ _ h
        simp only [List.length_cons]
        exact ⟨this.1, this.2.1, by omega, by omega⟩
    · rw [if_neg h1] at h ⊢
      by_cases h2 : (c = 0 ∧ 0 < i) ∨ 4611686018427387904 < n + c.toNat * 128 ^ i
      · rw [if_pos h2] at h
        simp at h
      · rw [if_neg h2]
        have h3 : ¬ 4611686018427387904 < n + c.toNat * 128 ^ i := fun h => h2 (.inr h)
        simp only [List.length_cons]
        omega
def gP (l : List Int) : ByteArray × Int × Int :=
  if (tk l 0 0).2.2 = 0 then (if (tk l 0 0).1 > 65536 then ((⟨#[]⟩ : ByteArray), 0, 1) else (if (tk l 0 0).1 > (l.length : Int) - (tk l 0 0).2.1 then ((⟨#[]⟩ : ByteArray), 0, 7) else
    (strOfNums ((l.take ((tk l 0 0).2.1 + (tk l 0 0).1).toNat).drop (tk l 0 0).2.1.toNat), (tk l 0 0).2.1 + (tk l 0 0).1, 0))) else ((⟨#[]⟩ : ByteArray), 0, (tk l 0 0).2.2)
theorem takeText (l : List Int) (hb : dO l) (hl : l.length < 4611686018427387904) : bX.F l = some (gP l) := by
  rw [bX.gU, takeNum l hb hl, Option.bind_some]
  unfold gP
  by_cases h : (tk l 0 0).2.2 = 0
  · obtain ⟨h1, h2, h3, h4⟩ := tk_ok l 0 0 h
    rw [if_pos h, if_pos h]
    by_cases hm : (tk l 0 0).1 > 65536
    · rw [if_pos hm, if_pos hm]
    · rw [if_neg hm, if_neg hm, w64_l (x := (l.length : Int) - (tk l 0 0).2.1) (by omega) (by omega)]
      by_cases hc : (tk l 0 0).1 > (l.length : Int) - (tk l 0 0).2.1
      · rw [if_pos hc, if_pos hc]
      · rw [if_neg hc, if_neg hc, w64_l (by omega) (by omega), if_pos (by omega), if_pos (by omega), if_pos (by omega)]
  · rw [if_neg h, if_neg h]
def tkNs (l : List Int) : Nat → Int → List Int → List Int × Int × Int
  | 0, k, acc => (acc, k, 0)
  | m + 1, k, acc => if (tk (l.drop k.toNat) 0 0).2.2 = 0 then tkNs l m (k + (tk (l.drop k.toNat) 0 0).2.1) (acc ++ [(tk (l.drop k.toNat) 0 0).1]) else ([], 0, (tk (l.drop k.toNat) 0 0).2.2)
def jg (l : List Int) : List Int × Int × Int :=
  if (tk l 0 0).2.2 = 0 then (if (tk l 0 0).1 > 1024 then ([], 0, 1) else tkNs l (tk l 0 0).1.toNat (tk l 0 0).2.1 []) else ([], 0, (tk l 0 0).2.2)
theorem takeNums_L (l : List Int) (hb : dO l) (hl : l.length < 4611686018427387904) (many : Nat) (hm : many ≤ 1024) : ∀ (d j : Nat) (k : Int) (acc : List Int), j ≤ many → many - j = d → 0 ≤ k → k ≤ l.length → acc.length + d < 17592186044416 →
    bv.L0 l acc k many j = some (tkNs l d k acc) := by
  intro d
  induction d with
  | zero =>
    intro j k acc hj hd h0 h1 ha
    rw [bv.iX, if_neg (by omega)]
    rfl
  | succ d ih =>
    intro j k acc hj hd h0 h1 ha
    have hdl : (l.drop k.toNat).length < 4611686018427387904 := by rw [List.length_drop]; omega
    rw [bv.iX, if_pos (by omega), if_pos h0, if_pos h1, takeNum _ (hb.drop _) hdl, Option.bind_some, tkNs]
    by_cases h : (tk (l.drop k.toNat) 0 0).2.2 = 0
    · obtain ⟨a1, a2, a3, a4⟩ := tk_ok _ 0 0 h
      rw [List.length_drop] at a4
      rw [if_pos h, if_pos h, if_pos (by omega), w64_l (by omega) (by omega), w64s (by omega) (by omega)]
      exact ih (j + 1) _ _ (by omega) (by omega) (by omega) (by omega) (by simp; omega)
    · rw [if_neg h, if_neg h]
theorem takeNums (l : List Int) (hb : dO l) (hl : l.length < 4611686018427387904) : bv.F l = some (jg l) := by
  rw [bv.gU, takeNum l hb hl, Option.bind_some]
  unfold jg
  by_cases h : (tk l 0 0).2.2 = 0
  · obtain ⟨h1, h2, h3, h4⟩ := tk_ok l 0 0 h
    rw [if_pos h, if_pos h]
    by_cases hm : (tk l 0 0).1 > 1024
    · rw [if_pos hm, if_pos hm]
    · rw [if_neg hm, if_neg hm]
      have e : (tk l 0 0).1 = (((tk l 0 0).1.toNat : Nat) : Int) := by omega
      have := takeNums_L l hb hl (tk l 0 0).1.toNat (by omega) (tk l 0 0).1.toNat 0 (tk l 0 0).2.1 [] (by omega) (by omega) (by omega) (by omega) (by simp; omega)
      rw [← e] at this
      exact this
  · rw [if_neg h, if_neg h]
theorem tkNs_length (l : List Int) : ∀ (m : Nat) (k : Int) (acc : List Int), (tkNs l m k acc).1.length ≤ m + acc.length
  | 0, k, acc => by simp [tkNs]
  | m + 1, k, acc => by
    unfold tkNs
    split
    · have := tkNs_length l m (k + (tk (l.drop k.toNat) 0 0).2.1) (acc ++ [(tk (l.drop k.toNat) 0 0).1])
      simp at this
      omega
    · simp
theorem tkNums_length (l : List Int) : (jg l).1.length ≤ 1024 := by
  unfold jg
  split
  · split
    · simp
    · have := tkNs_length l (tk l 0 0).1.toNat (tk l 0 0).2.1 []
      simp at this
      omega
  · simp
theorem enc_bytes : ∀ n, dO (d9 n) := by
  intro n
  induction n using Nat.strongRecOn with
  | _ n ih =>
    by_cases h : n < 128
    · rw [enc_small h]
      intro x hx
      simp at hx
      omega
    · rw [enc_big h]
      intro x hx
      rcases List.mem_cons.1 hx with h1 | h1
      · omega
      · exact ih (n / 128) (by omega) x h1
/-- What is written is taken, whatever stands behind it. -/
theorem tk_enc : ∀ (m n i : Nat) (rest : List Int), n + m * 128 ^ i ≤ 4611686018427387904 → i + (d9 m).length ≤ 9 → (0 < i → 0 < m) →
    tk (d9 m ++ rest) n i = (((n + m * 128 ^ i : Nat) : Int), ((i + (d9 m).length : Nat) : Int), 0) := by
  intro m
  induction m using Nat.strongRecOn with
  | _ m ih =>
    intro n i rest h1 h2 h3
    by_cases h : m < 128
    · rw [enc_small h, List.cons_append, List.nil_append]
      unfold tk
      rw [if_neg (by omega), Int.toNat_natCast, if_neg (by
        intro hh
        rcases hh with ⟨a, b⟩ | a
        · have := h3 b
          omega
        · omega)]
      simp
    · rw [enc_big h] at h2 ⊢
      have hl := enc_length_pos (m / 128)
      simp only [List.length_cons] at h2
      rw [List.cons_append]
      unfold tk
      have e : ((m % 128 + 128 : Nat) : Int).toNat - 128 = m % 128 := by omega
      have e2 : n + m % 128 * 128 ^ i + m / 128 * 128 ^ (i + 1) = n + m * 128 ^ i := by
        have e3 : m * 128 ^ i = (128 * (m / 128) + m % 128) * 128 ^ i := by rw [Nat.div_add_mod]
        rw [e3, Nat.pow_succ, Nat.add_mul, Nat.mul_comm (128 ^ i) 128, ← Nat.mul_assoc, Nat.mul_comm (m / 128) 128]
        omega
      rw [if_pos (by omega), if_neg (by omega), e, ih (m / 128) (by omega) _ _ rest (by rw [e2]; exact h1) (by omega) (by omega), e2]
      simp only [List.length_cons]
      have e4 : i + 1 + (d9 (m / 128)).length = i + ((d9 (m / 128)).length + 1) := by omega
      rw [e4]
theorem tk_put (m : Nat) (rest : List Int) (h : m ≤ 4611686018427387904) : tk (d9 m ++ rest) 0 0 = ((m : Int), ((d9 m).length : Int), 0) := by
  have := tk_enc m 0 0 rest (by omega) (by have := dI h; omega) (by omega)
  simpa using this
/-- Cut off anywhere it is cut off. -/
theorem tk_cut : ∀ (m n i j : Nat), i + (d9 m).length ≤ 9 → j < (d9 m).length → tk ((d9 m).take j) n i = (0, 0, 7) := by
  intro m
  induction m using Nat.strongRecOn with
  | _ m ih =>
    intro n i j h2 hj
    by_cases h : m < 128
    · rw [enc_small h] at hj ⊢
      have : j = 0 := by simp at hj; omega
      subst this
      rfl
    · rw [enc_big h] at h2 hj ⊢
      have hl := enc_length_pos (m / 128)
      simp only [List.length_cons] at h2 hj
      match j with
      | 0 => rfl
      | j + 1 =>
        rw [List.take_succ_cons]
        unfold tk
        rw [if_pos (by omega), if_neg (by omega)]
        exact ih (m / 128) (by omega) _ _ j (by omega) (by omega)
/-- What is taken was written so. -/
theorem tk_back : ∀ (l : List Int) (n i : Nat), dO l → (tk l n i).2.2 = 0 → ∃ m : Nat, (tk l n i).1 = ((n + m * 128 ^ i : Nat) : Int) ∧ (tk l n i).2.1 = ((i + (d9 m).length : Nat) : Int) ∧ l.take (d9 m).length = d9 m ∧ (0 < i → 0 < m)
  | [], n, i, _, h => by simp [tk] at h
  | c :: r, n, i, hb, h => by
    have hc := hb c List.mem_cons_self
    have hr : dO r := fun x hx => hb x (List.mem_cons_of_mem _ hx)
    unfold tk at h ⊢
    by_cases h1 : 128 ≤ c
    · rw [if_pos h1] at h ⊢
      by_cases h2 : i = 8
      · rw [if_pos h2] at h
        simp at h
      · rw [if_neg h2] at h ⊢
        obtain ⟨m, e1, e2, e3, e4⟩ := tk_back r _ _ hr h
        have hm := e4 (by omega)
        have hbig : ¬ c.toNat - 128 + 128 * m < 128 := by omega
        have ed : (c.toNat - 128 + 128 * m) / 128 = m := by omega
        have em : (c.toNat - 128 + 128 * m) % 128 = c.toNat - 128 := by omega
        refine ⟨c.toNat - 128 + 128 * m, ?_, ?_, ?_, by omega⟩
        · rw [e1, Nat.pow_succ, Nat.add_mul, Nat.mul_comm (128 ^ i) 128, ← Nat.mul_assoc, Nat.mul_comm m 128]
          congr 1
          omega
        · rw [e2, enc_big hbig, ed]
          simp only [List.length_cons]
          congr 1
          omega
        · rw [enc_big hbig, ed, em, List.length_cons, List.take_succ_cons, e3]
          congr 1
          omega
    · rw [if_neg h1] at h ⊢
      by_cases h2 : (c = 0 ∧ 0 < i) ∨ 4611686018427387904 < n + c.toNat * 128 ^ i
      · rw [if_pos h2] at h
        simp at h
      · rw [if_neg h2]
        refine ⟨c.toNat, rfl, ?_, ?_, fun hi => ?_⟩
        · rw [enc_small (by omega)]
          simp
        · rw [enc_small (by omega)]
          simp
          omega
        · have h3 : ¬ (c = 0 ∧ 0 < i) := fun h => h2 (.inl h)
          omega
def gJ (t r : Int) : Bool := decide (1 ≤ t ∧ t ≤ 1099511627776 ∧ 0 ≤ r ∧ r < 16)
def fF (t r : Int) : Bool := gJ t r || (t == 0 && r == 0) || (t == 0 && r == 1)
theorem stampIs (t r : Int) : fq.f t r = some (gJ t r) := by
  unfold fq.f gJ
  split
  · split
    · split
      · exact congrArg some (decide_eq_decide.2 (by omega))
      · exact congrArg some (decide_eq_false (by omega)).symm
    · exact congrArg some (decide_eq_false (by omega)).symm
  · exact congrArg some (decide_eq_false (by omega)).symm
theorem refNum (a m : Int) : eX.f a m = some (decide (0 ≤ a ∧ a ≤ m)) := by
  unfold eX.f
  split
  · exact congrArg some (decide_eq_decide.2 (by omega))
  · exact congrArg some (decide_eq_false (by omega)).symm
theorem refStamp (t r : Int) : cu.f t r = some (gJ t r) := by
  unfold cu.f gJ
  rw [refNum]
  split
  · split
    · exact congrArg some (decide_eq_decide.2 (by omega))
    · exact congrArg some (decide_eq_false (by omega)).symm
  · exact congrArg some (decide_eq_false (by omega)).symm
theorem stampPlace (t r : Int) : dB.f t r = some (fF t r) := by
  unfold dB.f fF
  rw [stampIs]
  simp only [Option.bind_some, fB.f, iJ.f]
  cases gJ t r <;> simp
  split <;> simp_all
theorem refPlace (t r : Int) : df.f t r = some (fF t r) := by
  unfold df.f fF
  rw [refStamp]
  simp only [Option.bind_some, fV.f, fE.f]
  cases gJ t r <;> simp
  split <;> simp_all
theorem or128 (q : Int) (h0 : 0 ≤ q) (h1 : q < 128) : bits .or .u8 q 128 = q + 128 := by
  rw [bits_or_comm, bits_join .u8 8 (by decide) wraps_u8 7 128 q (by decide) (by decide) (by decide) h0 h1 (by omega), Int.add_comm]
theorem and127_i64 (c : Int) (h0 : 0 ≤ c) (h1 : c < 9223372036854775808) : bits .and .i64 c 127 = c % 128 := bits_mask .i64 63 (by decide) wraps_i64 7 (by decide) c h0 h1
theorem refNum_L : ∀ (n : Nat) (acc : List Int), n ≤ 4611686018427387904 → acc.length + (d9 n).length < 140737488355328 → aD.L0 (n : Int) acc = some (acc ++ d9 n) := by
  intro n
  induction n using Nat.strongRecOn with
  | _ n ih =>
    intro acc hn hl
    have hp := enc_length_pos n
    rw [aD.iX]
    by_cases h : n < 128
    · rw [if_neg (by omega), if_pos (by omega), enc_small h]
      have : (n : Int) % 256 = n := by omega
      rw [this]
    · rw [enc_big h] at hl ⊢
      simp only [List.length_cons] at hl
      rw [if_pos (by omega), if_pos (by omega), and127_i64 _ (by omega) (by omega)]
      have e : (n : Int) % 128 % 256 = (n : Int) % 128 := by omega
      rw [e, or128 _ (by omega) (by omega)]
      have e1 : (n : Int) / 128 = ((n / 128 : Nat) : Int) := by omega
      have e2 : (n : Int) % 128 + 128 = ((n % 128 + 128 : Nat) : Int) := by omega
      rw [e1, e2, ih (n / 128) (by omega) _ (by omega) (by rw [List.length_append]; simp only [List.length_cons, List.length_nil]; omega)]
      simp
theorem refNum_F (n : Nat) (hn : n ≤ 4611686018427387904) : aD.F (n : Int) = some (d9 n) := by
  have := dI hn
  rw [aD.gU, refNum_L n [] hn (by simp; omega)]
  simp
theorem iB {t r : Int} (h : fF t r = true) : 0 ≤ t ∧ t ≤ 1099511627776 ∧ 0 ≤ r ∧ r < 16 := by
  unfold fF gJ at h
  simp at h
  omega
def eU (t r : Int) : List Int := d9 t.toNat ++ d9 r.toNat
theorem eH {t r : Int} (h : fF t r = true) : (eU t r).length ≤ 18 := by
  have := iB h
  have h1 := dI (n := t.toNat) (by omega)
  have h2 := dI (n := r.toNat) (by omega)
  unfold eU
  rw [List.length_append]
  omega
theorem stampEnc_bytes (t r : Int) : dO (eU t r) := (enc_bytes _).append (enc_bytes _)
theorem refBytes {t r : Int} (h : fF t r = true) : bu.F t r = some (eU t r) := by
  have hr := iB h
  have hl := eH h
  unfold eU at hl
  rw [List.length_append] at hl
  have e1 : t = (t.toNat : Int) := by omega
  have e2 : r = (r.toNat : Int) := by omega
  rw [bu.gU, e1, e2, refNum_F _ (by omega), Option.bind_some, refNum_F _ (by omega), Option.bind_some, if_pos (by omega)]
  rfl
theorem stampPut (acc : List Int) {t r : Int} (ht : 0 ≤ t ∧ t ≤ 4611686018427387904) (hr : 0 ≤ r ∧ r ≤ 4611686018427387904) (ha : acc.length < 140737488355000) : dz.F acc t r = some (acc ++ eU t r) := by
  have h1 := dI (n := t.toNat) (by omega)
  have h2 := dI (n := r.toNat) (by omega)
  have e1 : t = (t.toNat : Int) := by omega
  have e2 : r = (r.toNat : Int) := by omega
  rw [dz.gU, e1, e2, put_F _ _ (by omega) (by omega), Option.bind_some, put_F _ _ (by omega) (by rw [List.length_append]; omega), Option.bind_some, List.append_assoc]
  rfl
def ic (l : List Int) : Int × Int × Int × Int :=
  if (tk l 0 0).2.2 = 0 then (if (tk (l.drop (tk l 0 0).2.1.toNat) 0 0).2.2 = 0 then
    (if fF (tk l 0 0).1 (tk (l.drop (tk l 0 0).2.1.toNat) 0 0).1 = true then ((tk l 0 0).1, (tk (l.drop (tk l 0 0).2.1.toNat) 0 0).1, (tk l 0 0).2.1 + (tk (l.drop (tk l 0 0).2.1.toNat) 0 0).2.1, 0) else (0, 0, 0, 1))
    else (0, 0, 0, (tk (l.drop (tk l 0 0).2.1.toNat) 0 0).2.2)) else (0, 0, 0, (tk l 0 0).2.2)
theorem stampTake (l : List Int) (hb : dO l) (hl : l.length < 4611686018427387904) : dR.F l = some (ic l) := by
  rw [dR.gU, takeNum l hb hl, Option.bind_some]
  unfold ic
  by_cases h : (tk l 0 0).2.2 = 0
  · obtain ⟨h1, h2, h3, h4⟩ := tk_ok l 0 0 h
    rw [if_pos h, if_pos h, if_pos (by omega), if_pos (by omega), takeNum _ (hb.drop _) (by rw [List.length_drop]; omega), Option.bind_some]
    by_cases h' : (tk (l.drop (tk l 0 0).2.1.toNat) 0 0).2.2 = 0
    · obtain ⟨g1, g2, g3, g4⟩ := tk_ok _ 0 0 h'
      rw [List.length_drop] at g4
      rw [if_pos h', if_pos h', stampPlace, Option.bind_some, w64_l (by omega) (by omega)]
      by_cases hp : fF (tk l 0 0).1 (tk (l.drop (tk l 0 0).2.1.toNat) 0 0).1 = true
      · rw [if_pos hp, if_pos hp]
      · rw [if_neg hp, if_neg hp]
    · rw [if_neg h', if_neg h']
  · rw [if_neg h, if_neg h]
theorem tkStamp_put {t r : Int} (h : fF t r = true) (rest : List Int) : ic (eU t r ++ rest) = (t, r, ((eU t r).length : Int), 0) := by
  have hr := iB h
  have e1 : ((t.toNat : Nat) : Int) = t := by omega
  have e2 : ((r.toNat : Nat) : Int) = r := by omega
  unfold ic eU
  rw [List.append_assoc, tk_put t.toNat _ (by omega)]
  simp only [Int.toNat_natCast, List.drop_left]
  rw [tk_put r.toNat _ (by omega)]
  simp only [if_true, e1, e2, h, List.length_append]
  simp
def encs : List Int → List Int
  | [] => []
  | x :: r => d9 x.toNat ++ encs r
def gL (x : Int) : Prop := 0 ≤ x ∧ x ≤ 4611686018427387904
def encN (l : List Int) : List Int := d9 l.length ++ encs l
theorem encs_bytes : ∀ l, dO (encs l)
  | [] => fun _ h => nomatch h
  | x :: r => (enc_bytes _).append (encs_bytes r)
theorem encN_bytes (l : List Int) : dO (encN l) := (enc_bytes _).append (encs_bytes l)
theorem encs_length : ∀ l : List Int, (∀ x ∈ l, gL x) → (encs l).length ≤ 9 * l.length
  | [], _ => by simp [encs]
  | x :: r, h => by
    have h1 := encs_length r (fun y hy => h y (List.mem_cons_of_mem _ hy))
    have hx := h x List.mem_cons_self
    unfold gL at hx
    have h2 := dI (n := x.toNat) (by omega)
    unfold encs
    rw [List.length_append, List.length_cons]
    omega
theorem encN_length (l : List Int) (hl : l.length ≤ 1024) (h : ∀ x ∈ l, gL x) : (encN l).length ≤ 9225 := by
  have h1 := encs_length l h
  have h2 := dI (n := l.length) (by omega)
  unfold encN
  rw [List.length_append]
  omega
theorem putAll_L (l : List Int) (hl : l.length ≤ 1024) (h : ∀ x ∈ l, gL x) : ∀ (d i : Nat) (acc : List Int), i ≤ l.length → l.length - i = d → acc.length + 9 * d < 140737488355328 →
    bH.L0 acc l (l.length : Int) (i : Int) = some (acc ++ encs (l.drop i)) := by
  intro d
  induction d with
  | zero =>
    intro i acc hi hd ha
    rw [bH.iX, if_neg (by omega), List.drop_of_length_le (by omega)]
    simp [encs]
  | succ d ih =>
    intro i acc hi hd ha
    have hil : i < l.length := by omega
    have hx := h l[i] (List.getElem_mem hil)
    unfold gL at hx
    have h9 := dI (n := l[i].toNat) (by omega)
    have e : l[i] = (l[i].toNat : Int) := by omega
    rw [bH.iX, if_pos (by omega), if_pos (by omega), if_pos (by omega), rd_nat l i hil, List.drop_eq_getElem_cons hil]
    show (bF.F acc l[i]).bind _ = some (acc ++ (d9 l[i].toNat ++ encs (l.drop (i + 1))))
    rw [e, put_F _ _ (by omega) (by omega), Option.bind_some, w64s (by omega) (by omega), ← List.append_assoc, Int.toNat_natCast]
    exact ih (i + 1) _ (by omega) (by omega) (by rw [List.length_append]; omega)
theorem tkNs_put : ∀ (r : List Int) (L pre rest acc : List Int), L = pre ++ (encs r ++ rest) → (∀ x ∈ r, gL x) → tkNs L r.length (pre.length : Int) acc = (acc ++ r, ((pre.length + (encs r).length : Nat) : Int), 0)
  | [], L, pre, rest, acc, _, _ => by simp [tkNs, encs]
  | x :: r, L, pre, rest, acc, e, h => by
    have hx := h x List.mem_cons_self
    unfold gL at hx
    have e1 : L.drop ((pre.length : Int)).toNat = d9 x.toNat ++ (encs r ++ rest) := by
      rw [e, Int.toNat_natCast, List.drop_left]
      show d9 x.toNat ++ encs r ++ rest = _
      rw [List.append_assoc]
    have e2 : L = (pre ++ d9 x.toNat) ++ (encs r ++ rest) := by
      rw [e]
      show pre ++ (d9 x.toNat ++ encs r ++ rest) = _
      simp only [List.append_assoc]
    have e3 : ((x.toNat : Nat) : Int) = x := by omega
    have ih := tkNs_put r L (pre ++ d9 x.toNat) rest (acc ++ [x]) e2 (fun y hy => h y (List.mem_cons_of_mem _ hy))
    rw [List.length_cons]
    unfold tkNs
    rw [e1, tk_put x.toNat _ (by omega)]
    simp only [if_true, e3]
    rw [List.length_append] at ih
    rw [← Int.natCast_add, ih]
    simp only [List.append_assoc, List.cons_append, List.nil_append]
    congr 2
    show _ = ((pre.length + (d9 x.toNat ++ encs r).length : Nat) : Int)
    rw [List.length_append]
    omega
theorem tkNums_put (l rest : List Int) (hl : l.length ≤ 1024) (h : ∀ x ∈ l, gL x) : jg (encN l ++ rest) = (l, ((encN l).length : Int), 0) := by
  have e : encN l ++ rest = d9 l.length ++ (encs l ++ rest) := by unfold encN; rw [List.append_assoc]
  have := tkNs_put l (encN l ++ rest) (d9 l.length) rest [] e h
  unfold jg
  rw [e] at this ⊢
  rw [tk_put l.length _ (by omega)]
  simp only [if_true, Int.toNat_natCast]
  rw [if_neg (by omega), this]
  unfold encN
  simp [List.length_append]
theorem str_back (s : ByteArray) : strOfNums (bytesOf s) = s := by
  unfold strOfNums bytesOf
  rw [List.map_map]
  have e : ((fun n : Int => UInt8.ofNat n.toNat) ∘ fun b : UInt8 => (b.toNat : Int)) = id := by
    funext b
    simp
  first
    | (rw [e, List.map_id]; done)
    | (simp [e]; done)
    | (simp [Function.comp_def]; done)
theorem bytesOf_bytes (s : ByteArray) : dO (bytesOf s) := by
  intro x hx
  unfold bytesOf at hx
  obtain ⟨b, _, rfl⟩ := List.mem_map.1 hx
  have := b.toNat_lt
  omega
def encT (s : ByteArray) : List Int := d9 s.size ++ bytesOf s
theorem encT_bytes (s : ByteArray) : dO (encT s) := (enc_bytes _).append (bytesOf_bytes s)
theorem encT_length (s : ByteArray) (h : s.size ≤ 65536) : (encT s).length ≤ 65545 := by
  have h2 := dI (n := s.size) (by omega)
  unfold encT
  rw [List.length_append, bytesOf_length]
  omega
theorem tkText_put (s : ByteArray) (rest : List Int) (h : s.size ≤ 65536) : gP (encT s ++ rest) = (s, ((encT s).length : Int), 0) := by
  have e : encT s ++ rest = d9 s.size ++ (bytesOf s ++ rest) := by unfold encT; rw [List.append_assoc]
  have hb := bytesOf_length s
  unfold gP
  rw [e, tk_put s.size _ (by omega)]
  simp only [if_true]
  rw [if_neg (by omega), if_neg (by simp only [List.length_append]; omega)]
  have e1 : ((d9 s.size).length : Int) + (s.size : Int) = (((d9 s.size).length + s.size : Nat) : Int) := by omega
  have e2 : (List.take ((d9 s.size).length + s.size) (d9 s.size ++ (bytesOf s ++ rest))).drop (d9 s.size).length = bytesOf s := by
    rw [List.take_length_add_append, List.drop_left, ← hb, List.take_left]
  rw [e1, Int.toNat_natCast, Int.toNat_natCast, e2, str_back]
  unfold encT
  rw [List.length_append, hb]
theorem tkText_cut (s : ByteArray) (j : Nat) (h : s.size ≤ 65536) (hj : j < (encT s).length) : (gP ((encT s).take j)).2.2 = 7 := by
  have h9 := dI (n := s.size) (by omega)
  have hb := bytesOf_length s
  unfold gP
  by_cases hc : j < (d9 s.size).length
  · have e : (encT s).take j = (d9 s.size).take j := by
      unfold encT
      rw [List.take_append_of_le_length (by omega)]
    rw [e, tk_cut s.size 0 0 j (by omega) hc]
    simp
  · have e : (encT s).take j = d9 s.size ++ (bytesOf s).take (j - (d9 s.size).length) := by
      unfold encT
      rw [List.take_append, List.take_of_length_le (by omega)]
    have hl : (encT s).length = (d9 s.size).length + s.size := by unfold encT; rw [List.length_append, hb]
    rw [e, tk_put s.size _ (by omega)]
    simp only [if_true]
    rw [if_neg (by omega), if_pos (by simp only [List.length_append, List.length_take, hb]; omega)]
def inVec (x : Int) : Prop := 0 ≤ x ∧ x ≤ 1099511627776
instance (x : Int) : Decidable (inVec x) := inferInstanceAs (Decidable (_ ∧ _))
def isVec (v : List Int) : Bool := decide (1 ≤ v.length ∧ v.length ≤ 16 ∧ ∀ x ∈ v, inVec x)
theorem isVec_iff {v : List Int} : isVec v = true ↔ 1 ≤ v.length ∧ v.length ≤ 16 ∧ ∀ x ∈ v, inVec x := by unfold isVec; rw [decide_eq_true_eq]
theorem all_drop {p : Int → Prop} {v : List Int} {i : Nat} (h : i < v.length) : (∀ x ∈ v.drop i, p x) ↔ p v[i] ∧ ∀ x ∈ v.drop (i + 1), p x := by
  rw [List.drop_eq_getElem_cons h, List.forall_mem_cons]
theorem haveIs_L (v : List Int) (hl : v.length < 9223372036854775807) : ∀ (d i : Nat), i ≤ v.length → v.length - i = d → dn.L0 v (i : Int) = some (decide (1 ≤ v.length ∧ v.length ≤ 16 ∧ ∀ x ∈ v.drop i, inVec x)) := by
  intro d
  induction d with
  | zero =>
    intro i hi hd
    have hi' : i = v.length := by omega
    subst hi'
    rw [dn.iX, if_pos (by omega)]
    simp only [List.drop_length]
    by_cases h : (v.length : Int) ≥ 1
    · rw [if_pos h]
      exact congrArg some (decide_eq_decide.2 (by simp; omega))
    · rw [if_neg h]
      exact congrArg some (decide_eq_false (by omega)).symm
  | succ d ih =>
    intro i hi hd
    have hil : i < v.length := by omega
    rw [dn.iX, if_neg (by omega), if_pos (by omega), if_pos (by omega), rd_nat v i hil]
    have hall := all_drop (p := inVec) hil
    by_cases h1 : v[i] ≥ 0
    · rw [if_pos h1]
      by_cases h2 : v[i] ≤ 1099511627776
      · rw [if_pos h2, w64s (by omega) (by omega), show ((i : Int) + 1) = ((i + 1 : Nat) : Int) from rfl, ih (i + 1) (by omega) (by omega)]
        refine congrArg some (decide_eq_decide.2 ?_)
        rw [hall]
        exact ⟨fun h => ⟨h.1, h.2.1, ⟨h1, h2⟩, h.2.2⟩, fun h => ⟨h.1, h.2.1, h.2.2.2⟩⟩
      · rw [if_neg h2]
        exact congrArg some (decide_eq_false (fun h => h2 (hall.1 h.2.2).1.2)).symm
    · rw [if_neg h1]
      exact congrArg some (decide_eq_false (fun h => h1 (hall.1 h.2.2).1.1)).symm
theorem haveIs (v : List Int) (hl : v.length < 9223372036854775807) : dn.F v = some (isVec v) := by
  rw [dn.gU]
  exact haveIs_L v hl v.length 0 (by omega) (by omega)
theorem refVector_L (v : List Int) (hl : v.length < 9223372036854775807) : ∀ (d i : Nat), i ≤ v.length → v.length - i = d → aM.L0 v (i : Int) = some (decide (1 ≤ v.length ∧ v.length ≤ 16 ∧ ∀ x ∈ v.drop i, inVec x)) := by
  intro d
  induction d with
  | zero =>
    intro i hi hd
    have hi' : i = v.length := by omega
    subst hi'
    rw [aM.iX, if_neg (by omega)]
    simp only [List.drop_length]
    by_cases h : (v.length : Int) ≥ 1
    · rw [if_pos h]
      exact congrArg some (decide_eq_decide.2 (by simp; omega))
    · rw [if_neg h]
      exact congrArg some (decide_eq_false (by omega)).symm
  | succ d ih =>
    intro i hi hd
    have hil : i < v.length := by omega
    rw [aM.iX, if_pos (by omega), if_pos (by omega), rd_nat v i hil, refNum, Option.bind_some]
    have hall := all_drop (p := inVec) hil
    by_cases h1 : 0 ≤ v[i] ∧ v[i] ≤ 1099511627776
    · rw [if_pos (decide_eq_true h1), w64s (by omega) (by omega), show ((i : Int) + 1) = ((i + 1 : Nat) : Int) from rfl, ih (i + 1) (by omega) (by omega)]
      refine congrArg some (decide_eq_decide.2 ?_)
      rw [hall]
      exact ⟨fun h => ⟨h.1, h.2.1, h1, h.2.2⟩, fun h => ⟨h.1, h.2.1, h.2.2.2⟩⟩
    · rw [if_neg (by rw [decide_eq_true_eq]; exact h1)]
      exact congrArg some (decide_eq_false (fun h => h1 (hall.1 h.2.2).1)).symm
theorem refVector (v : List Int) (hl : v.length < 9223372036854775807) : aM.F v = some (isVec v) := by
  rw [aM.gU]
  exact refVector_L v hl v.length 0 (by omega) (by omega)
theorem vec_get {v : List Int} (h : isVec v = true) (i : Nat) (hi : i < v.length) : 0 ≤ v[i] ∧ v[i] ≤ 1099511627776 := (isVec_iff.1 h).2.2 _ (List.getElem_mem hi)
theorem vec_nums {v : List Int} (h : isVec v = true) : v.length ≤ 1024 ∧ ∀ x ∈ v, gL x := by
  obtain ⟨_, h2, h3⟩ := isVec_iff.1 h
  refine ⟨by omega, fun x hx => ?_⟩
  have := h3 x hx
  unfold inVec at this
  unfold gL
  omega
def eQ (l : List Int) : List Int × Int × Int :=
  if (jg l).2.2 = 0 then (if isVec (jg l).1 = true then ((jg l).1, (jg l).2.1, 0) else ([], 0, 1)) else ([], 0, (jg l).2.2)
theorem haveTake (l : List Int) (hb : dO l) (hl : l.length < 4611686018427387904) : dP.F l = some (eQ l) := by
  have hn := tkNums_length l
  rw [dP.gU, takeNums l hb hl, Option.bind_some]
  unfold eQ
  by_cases h : (jg l).2.2 = 0
  · rw [if_pos h, if_pos h, haveIs _ (by omega), Option.bind_some]
    by_cases g : isVec (jg l).1 = true
    · rw [if_pos g, if_pos g]
    · rw [if_neg g, if_neg g]
  · rw [if_neg h, if_neg h]
end Go.Proofs.Ytddnlnjmikcgfaa.PC
end
section
set_option linter.unusedVariables false
set_option linter.unusedSimpArgs false
namespace Go.Proofs.Ytddnlnjmikcgfaa.PC
open Go.RowKit Go.WB.PrintWords Go.WB.PrintLast Go.WB.PrintMore
structure Good {α : Type} (p : List Int → α × Int × Int) (d9 : α → List Int) (ok : α → Prop) : Prop where
  put : ∀ a rest, ok a → p (d9 a ++ rest) = (a, ((d9 a).length : Int), 0)
  cut : ∀ a j, ok a → j < (d9 a).length → (p ((d9 a).take j)).2.2 = 7
  was : ∀ l, dO l → (p l).2.2 = 0 → ok (p l).1 ∧ (p l).2.1 = ((d9 (p l).1).length : Int) ∧ (d9 (p l).1).length ≤ l.length ∧ l.take (d9 (p l).1).length = d9 (p l).1
theorem Good.ran {α : Type} {p : List Int → α × Int × Int} {d9 : α → List Int} {ok : α → Prop} (g : Good p d9 ok) (l : List Int) (hb : dO l) (h : (p l).2.2 = 0) : 0 ≤ (p l).2.1 ∧ (p l).2.1 ≤ l.length := by
  obtain ⟨_, h1, h2, _⟩ := g.was l hb h
  omega
theorem ja : Good (fun l => tk l 0 0) (fun n => d9 n.toNat) gL where
  put a rest h := by
    unfold gL at h
    have e : ((a.toNat : Nat) : Int) = a := by omega
    show tk _ 0 0 = _
    rw [tk_put _ _ (by omega), e]
  cut a j h hj := by
    unfold gL at h
    have := dI (n := a.toNat) (by omega)
    show (tk _ 0 0).2.2 = 7
    rw [tk_cut a.toNat 0 0 j (by omega) hj]
  was l hb h := by
    obtain ⟨h1, h2, h3, h4⟩ := tk_ok l 0 0 h
    obtain ⟨m, e1, e2, e3, _⟩ := tk_back l 0 0 hb h
    simp only [Nat.pow_zero, Nat.mul_one, Nat.zero_add] at e1 e2
    refine ⟨⟨h1, h2⟩, ?_, ?_, ?_⟩
    · show (tk l 0 0).2.1 = ((d9 (tk l 0 0).1.toNat).length : Int)
      rw [e1, Int.toNat_natCast, e2]
    · show (d9 (tk l 0 0).1.toNat).length ≤ l.length
      rw [e1, Int.toNat_natCast]
      omega
    · show l.take (d9 (tk l 0 0).1.toNat).length = d9 (tk l 0 0).1.toNat
      rw [e1, Int.toNat_natCast, e3]
def seqP {α β : Type} (p : List Int → α × Int × Int) (q : α → List Int → β × Int × Int) (l : List Int) : (α × β) × Int × Int :=
  if (p l).2.2 = 0 then (((p l).1, (q (p l).1 (l.drop (p l).2.1.toNat)).1), (if (q (p l).1 (l.drop (p l).2.1.toNat)).2.2 = 0 then (p l).2.1 + (q (p l).1 (l.drop (p l).2.1.toNat)).2.1 else 0), (q (p l).1 (l.drop (p l).2.1.toNat)).2.2)
  else (((p l).1, (q (p l).1 l).1), 0, (p l).2.2)
theorem Good.seq {α β : Type} {p : List Int → α × Int × Int} {ea : α → List Int} {oka : α → Prop} (gp : Good p ea oka) {q : α → List Int → β × Int × Int} {eb : α → β → List Int} {okb : α → β → Prop}
    (gq : ∀ a, oka a → Good (q a) (eb a) (okb a)) : Good (seqP p q) (fun x => ea x.1 ++ eb x.1 x.2) (fun x => oka x.1 ∧ okb x.1 x.2) where
  put x rest h := by
    obtain ⟨a, b⟩ := x
    have e1 := gp.put a (eb a b ++ rest) h.1
    have e2 := (gq a h.1).put b rest h.2
    unfold seqP
    simp only [List.append_assoc]
    rw [e1]
    simp only [Int.toNat_natCast, List.drop_left, e2, if_true, List.length_append]
    simp
  cut x j h hj := by
    obtain ⟨a, b⟩ := x
    simp only [List.length_append] at hj
    unfold seqP
    simp only
    by_cases hc : j < (ea a).length
    · have e : (ea a ++ eb a b).take j = (ea a).take j := List.take_append_of_le_length (by omega)
      have := gp.cut a j h.1 hc
      rw [e]
      rw [this]
      simp
    · have e : (ea a ++ eb a b).take j = ea a ++ (eb a b).take (j - (ea a).length) := by rw [List.take_append, List.take_of_length_le (by omega)]
      have e1 := gp.put a ((eb a b).take (j - (ea a).length)) h.1
      have e2 := (gq a h.1).cut b (j - (ea a).length) h.2 (by omega)
      rw [e, e1]
      simp only [Int.toNat_natCast, List.drop_left, if_true]
      exact e2
  was l hb h := by
    unfold seqP at h ⊢
    by_cases h1 : (p l).2.2 = 0
    · rw [if_pos h1] at h ⊢
      simp only at h ⊢
      obtain ⟨a1, a2, a3, a4⟩ := gp.was l hb h1
      obtain ⟨b1, b2, b3, b4⟩ := (gq _ a1).was _ (hb.drop _) h
      rw [if_pos h]
      rw [a2, Int.toNat_natCast] at b1 b2 b3 b4 h ⊢
      rw [List.length_drop] at b3
      refine ⟨⟨a1, b1⟩, ?_, ?_, ?_⟩
      · rw [b2, List.length_append]; omega
      · rw [List.length_append]; omega
      · rw [List.length_append, List.take_add, a4, b4]
    · rw [if_neg h1] at h
      exact absurd h h1
def mapP {α β : Type} (f : α → β) (p : List Int → α × Int × Int) (l : List Int) : β × Int × Int := (f (p l).1, (p l).2)
theorem Good.map {α β : Type} {p : List Int → α × Int × Int} {e : α → List Int} {ok : α → Prop} (gp : Good p e ok) (f : α → β) (g : β → α) (hg : ∀ a, ok a → g (f a) = a) : Good (mapP f p) (fun b => e (g b)) (fun b => ok (g b) ∧ f (g b) = b) where
  put b rest h := by
    unfold mapP
    rw [gp.put _ _ h.1, h.2]
  cut b j h hj := gp.cut (g b) j h.1 hj
  was l hb h := by
    obtain ⟨h1, h2, h3, h4⟩ := gp.was l hb h
    unfold mapP
    simp only [hg _ h1]
    exact ⟨⟨h1, trivial⟩, h2, h3, h4⟩
/-- What else is asked of what was taken. -/
def onlyP {α : Type} (c : α → Bool) (p : List Int → α × Int × Int) (l : List Int) : α × Int × Int := if (p l).2.2 = 0 then (if c (p l).1 = true then p l else ((p l).1, 0, 1)) else p l
theorem Good.only {α : Type} {p : List Int → α × Int × Int} {e : α → List Int} {ok : α → Prop} (gp : Good p e ok) (c : α → Bool) : Good (onlyP c p) e (fun a => ok a ∧ c a = true) where
  put a rest h := by
    unfold onlyP
    rw [gp.put _ _ h.1]
    simp [h.2]
  cut a j h hj := by
    have := gp.cut a j h.1 hj
    unfold onlyP
    rw [if_neg (by rw [this]; decide), this]
  was l hb h := by
    unfold onlyP at h ⊢
    by_cases h1 : (p l).2.2 = 0
    · rw [if_pos h1] at h ⊢
      by_cases h2 : c (p l).1 = true
      · rw [if_pos h2] at h ⊢
        obtain ⟨g1, g2⟩ := gp.was l hb h1
        exact ⟨⟨g1, h2⟩, g2⟩
      · rw [if_neg h2] at h
        simp at h
    · rw [if_neg h1] at h
      exact absurd h h1
theorem Good.weak {α : Type} {p : List Int → α × Int × Int} {e : α → List Int} {ok ok' : α → Prop} (gp : Good p e ok) (h : ∀ a, ok' a ↔ ok a) : Good p e ok' where
  put a rest k := gp.put a rest ((h a).1 k)
  cut a j k hj := gp.cut a j ((h a).1 k) hj
  was l hb k := by
    obtain ⟨h1, h2⟩ := gp.was l hb k
    exact ⟨(h _).2 h1, h2⟩
theorem goodStamp : Good (fun l => ((((ic l).1, (ic l).2.1) : Int × Int), (ic l).2.2)) (fun s => eU s.1 s.2) (fun s => fF s.1 s.2 = true) where
  put a rest h := by
    simp only [tkStamp_put h]
  cut a j h hj := by
    have hr := iB h
    have g := (ja.seq (q := fun _ l => tk l 0 0) (eb := fun _ n => d9 n.toNat) (okb := fun _ => gL) (fun _ _ => ja)).cut a j ⟨⟨by omega, by omega⟩, ⟨by omega, by omega⟩⟩ hj
    show (ic ((d9 a.1.toNat ++ d9 a.2.toNat).take j)).2.2.2 = 7
    revert g
    generalize (d9 a.1.toNat ++ d9 a.2.toNat).take j = L
    unfold seqP ic
    intro g
    split at g
    · rename_i h1
      try simp only at g
      rw [if_pos h1, if_neg (by rw [g]; decide)]
      exact g
    · rename_i h1
      rw [if_neg h1]
      exact g
  was l hb h := by
    have g := (ja.seq (q := fun _ l => tk l 0 0) (eb := fun _ n => d9 n.toNat) (okb := fun _ => gL) (fun _ _ => ja)).was l hb
    simp only at h ⊢
    revert h
    unfold ic
    unfold seqP at g
    by_cases h1 : (tk l 0 0).2.2 = 0
    · rw [if_pos h1]
      by_cases h2 : (tk (l.drop (tk l 0 0).2.1.toNat) 0 0).2.2 = 0
      · rw [if_pos h2]
        by_cases h3 : fF (tk l 0 0).1 (tk (l.drop (tk l 0 0).2.1.toNat) 0 0).1 = true
        · rw [if_pos h3]
          intro _
          simp only [if_pos h1, if_pos h2] at g
          obtain ⟨_, g2, g3, g4⟩ := g h2
          exact ⟨h3, g2, g3, g4⟩
        · rw [if_neg h3]
          intro h; exact absurd h (by decide)
      · rw [if_neg h2]
        intro h; exact absurd h h2
    · rw [if_neg h1]
      intro h; exact absurd h h1
theorem bytesOf_str (l : List Int) (hb : dO l) : bytesOf (strOfNums l) = l := by
  unfold strOfNums bytesOf
  rw [List.map_map]
  have e : ∀ x ∈ l, ((fun b : UInt8 => (b.toNat : Int)) ∘ fun n : Int => UInt8.ofNat n.toNat) x = x := by
    intro x hx
    have := hb x hx
    show ((UInt8.ofNat x.toNat).toNat : Int) = x
    rw [UInt8.toNat_ofNat_of_lt' (by show x.toNat < 256; omega)]
    omega
  first
    | (exact (List.map_congr_left e).trans (List.map_id' l))
    | (rw [List.map_congr_left e]; simp)
theorem strOfNums_size (l : List Int) : (strOfNums l).size = l.length := by
  unfold strOfNums
  show Array.size _ = _
  simp
theorem goodText : Good gP encT (fun s => s.size ≤ 65536) where
  put a rest h := tkText_put a rest h
  cut a j h hj := tkText_cut a j h hj
  was l hb h := by
    unfold gP at h ⊢
    by_cases h1 : (tk l 0 0).2.2 = 0
    · rw [if_pos h1] at h ⊢
      obtain ⟨a1, a2, a3, a4⟩ := ja.was l hb h1
      try simp only at a1 a2 a3 a4
      unfold gL at a1
      by_cases h2 : (tk l 0 0).1 > 65536
      · rw [if_pos h2] at h; exact absurd h (by decide)
      · rw [if_neg h2] at h ⊢
        by_cases h3 : (tk l 0 0).1 > (l.length : Int) - (tk l 0 0).2.1
        · rw [if_pos h3] at h; exact absurd h (by decide)
        · rw [if_neg h3]
          simp only
          generalize (tk l 0 0).1 = m at *
          generalize (tk l 0 0).2.1 = k at *
          subst a2
          have e1 : (((d9 m.toNat).length : Int) + m).toNat = (d9 m.toNat).length + m.toNat := by omega
          rw [e1, Int.toNat_natCast]
          have hs : (strOfNums ((l.take ((d9 m.toNat).length + m.toNat)).drop (d9 m.toNat).length)).size = m.toNat := by
            rw [strOfNums_size, List.length_drop, List.length_take]
            omega
          have hbs : bytesOf (strOfNums ((l.take ((d9 m.toNat).length + m.toNat)).drop (d9 m.toNat).length)) = (l.take ((d9 m.toNat).length + m.toNat)).drop (d9 m.toNat).length := bytesOf_str _ ((hb.take _).drop _)
          have hE : encT (strOfNums ((l.take ((d9 m.toNat).length + m.toNat)).drop (d9 m.toNat).length)) = l.take ((d9 m.toNat).length + m.toNat) := by
            unfold encT
            rw [hs, hbs]
            have e2 : d9 m.toNat = (l.take ((d9 m.toNat).length + m.toNat)).take (d9 m.toNat).length := by rw [List.take_take, Nat.min_eq_left (by omega), a4]
            conv => lhs; arg 1; rw [e2]
            exact List.take_append_drop _ _
          rw [hE, hs, List.length_take]
          refine ⟨by omega, by omega, by omega, ?_⟩
          congr 1
          omega
    · rw [if_neg h1] at h
      exact absurd h h1
theorem takeMore (L pre : List Int) (n : Nat) (h : pre.length ≤ L.length) (h1 : L.take pre.length = pre) : L.take (pre.length + n) = pre ++ (L.drop pre.length).take n := by
  rw [List.take_add, h1]
theorem tkNs_cut : ∀ (r : List Int) (L pre acc : List Int) (j : Nat), L = pre ++ (encs r).take j → j < (encs r).length → (∀ x ∈ r, gL x) → (tkNs L r.length (pre.length : Int) acc).2.2 = 7
  | [], L, pre, acc, j, e, hj, h => by simp [encs] at hj
  | x :: r, L, pre, acc, j, e, hj, h => by
    have hx := h x List.mem_cons_self
    have e0 : encs (x :: r) = d9 x.toNat ++ encs r := rfl
    rw [e0] at hj e
    rw [List.length_append] at hj
    rw [List.length_cons]
    unfold tkNs
    have e1 : L.drop ((pre.length : Int)).toNat = (d9 x.toNat ++ encs r).take j := by rw [e, Int.toNat_natCast, List.drop_left]
    rw [e1]
    by_cases hc : j < (d9 x.toNat).length
    · have e2 : (d9 x.toNat ++ encs r).take j = (d9 x.toNat).take j := List.take_append_of_le_length (by omega)
      have := ja.cut x j hx hc
      try simp only at this
      rw [e2, if_neg (by rw [this]; decide)]
      exact this
    · have e2 : (d9 x.toNat ++ encs r).take j = d9 x.toNat ++ (encs r).take (j - (d9 x.toNat).length) := by rw [List.take_append, List.take_of_length_le (by omega)]
      have g := ja.put x ((encs r).take (j - (d9 x.toNat).length)) hx
      try simp only at g
      rw [e2, g]
      simp only [if_true]
      rw [← Int.natCast_add, ← List.length_append]
      exact tkNs_cut r L (pre ++ d9 x.toNat) _ (j - (d9 x.toNat).length) (by rw [e, e2, List.append_assoc]) (by omega) (fun y hy => h y (List.mem_cons_of_mem _ hy))
theorem tkNs_was (L : List Int) (hb : dO L) : ∀ (m : Nat) (pre acc : List Int), pre.length ≤ L.length → L.take pre.length = pre → (tkNs L m (pre.length : Int) acc).2.2 = 0 →
    ∃ r : List Int, r.length = m ∧ (tkNs L m (pre.length : Int) acc).1 = acc ++ r ∧ (∀ x ∈ r, gL x) ∧ (tkNs L m (pre.length : Int) acc).2.1 = ((pre.length + (encs r).length : Nat) : Int) ∧ pre.length + (encs r).length ≤ L.length ∧ L.take (pre.length + (encs r).length) = pre ++ encs r
  | 0, pre, acc, hl, hp, _ => ⟨[], rfl, by simp [tkNs], by simp, by simp [tkNs, encs], by simpa [encs] using hl, by simpa [encs] using hp⟩
  | m + 1, pre, acc, hl, hp, h => by
    unfold tkNs at h ⊢
    by_cases h1 : (tk (L.drop ((pre.length : Int)).toNat) 0 0).2.2 = 0
    · rw [if_pos h1] at h ⊢
      obtain ⟨a1, a2, a3, a4⟩ := ja.was _ (hb.drop _) h1
      try simp only at a1 a2 a3 a4
      rw [Int.toNat_natCast] at a1 a2 a3 a4 h ⊢
      generalize (tk (L.drop pre.length) 0 0).1 = x at *
      rw [a2] at h ⊢
      rw [← Int.natCast_add, ← List.length_append] at h ⊢
      rw [List.length_drop] at a3
      obtain ⟨r, h2, h3, h4, h5, h6, h7⟩ := tkNs_was L hb m (pre ++ d9 x.toNat) (acc ++ [x]) (by rw [List.length_append]; omega) (by rw [List.length_append, takeMore L pre _ hl hp, a4]) h
      have e0 : encs (x :: r) = d9 x.toNat ++ encs r := rfl
      refine ⟨x :: r, by simp [h2], by rw [h3, List.append_assoc]; rfl, ?_, ?_, ?_, ?_⟩
      · intro y hy
        rcases List.mem_cons.1 hy with rfl | hy
        · exact a1
        · exact h4 y hy
      · rw [h5, e0, List.length_append, List.length_append]; omega
      · rw [e0, List.length_append]; rw [List.length_append] at h6; omega
      · rw [e0, List.length_append, ← Nat.add_assoc, ← List.length_append, h7, List.append_assoc]
    · rw [if_neg h1] at h
      exact absurd h h1
theorem goodNums : Good jg encN (fun l => l.length ≤ 1024 ∧ ∀ x ∈ l, gL x) where
  put a rest h := tkNums_put a rest h.1 h.2
  cut a j h hj := by
    have hn : gL (a.length : Int) := by unfold gL; omega
    unfold jg
    unfold encN at hj ⊢
    rw [List.length_append] at hj
    by_cases hc : j < (d9 a.length).length
    · have e2 : (d9 a.length ++ encs a).take j = (d9 a.length).take j := List.take_append_of_le_length (by omega)
      have := ja.cut (a.length : Int) j hn (by simpa using hc)
      simp only [Int.toNat_natCast] at this
      rw [e2, if_neg (by rw [this]; decide)]
      exact this
    · have e2 : (d9 a.length ++ encs a).take j = d9 a.length ++ (encs a).take (j - (d9 a.length).length) := by rw [List.take_append, List.take_of_length_le (by omega)]
      have g := ja.put (a.length : Int) ((encs a).take (j - (d9 a.length).length)) hn
      simp only [Int.toNat_natCast] at g
      rw [e2, g]
      simp only [if_true, Int.toNat_natCast]
      rw [if_neg (by omega)]
      exact tkNs_cut a _ (d9 a.length) [] (j - (d9 a.length).length) rfl (by omega) h.2
  was l hb h := by
    unfold jg at h ⊢
    by_cases h1 : (tk l 0 0).2.2 = 0
    · rw [if_pos h1] at h ⊢
      obtain ⟨a1, a2, a3, a4⟩ := ja.was l hb h1
      try simp only at a1 a2 a3 a4
      unfold gL at a1
      by_cases h2 : (tk l 0 0).1 > 1024
      · rw [if_pos h2] at h; exact absurd h (by decide)
      · rw [if_neg h2] at h ⊢
        generalize (tk l 0 0).1 = m at *
        rw [a2] at h ⊢
        obtain ⟨r, g2, g3, g4, g5, g6, g7⟩ := tkNs_was l hb m.toNat (d9 m.toNat) [] a3 a4 h
        rw [g3, g5, List.nil_append]
        unfold encN
        rw [g2]
        refine ⟨⟨by omega, g4⟩, ?_, ?_, ?_⟩
        · rw [List.length_append]
        · rw [List.length_append]; exact g6
        · rw [List.length_append, g7]
    · rw [if_neg h1] at h
      exact absurd h h1
theorem goodVec : Good eQ encN (fun v => isVec v = true) := by
  have g := (goodNums.only isVec).weak (ok' := fun v => isVec v = true) (fun v => ⟨fun h => ⟨vec_nums h, h⟩, fun h => h.2⟩)
  have e : ∀ l, (eQ l).2.2 = (onlyP isVec jg l).2.2 ∧ ((eQ l).2.2 = 0 → eQ l = onlyP isVec jg l) := by
    intro l
    unfold eQ onlyP
    by_cases h1 : (jg l).2.2 = 0
    · rw [if_pos h1, if_pos h1]
      by_cases h2 : isVec (jg l).1 = true
      · rw [if_pos h2, if_pos h2]
        exact ⟨h1.symm, fun _ => by rw [← h1]⟩
      · rw [if_neg h2, if_neg h2]
        exact ⟨rfl, fun h => by simp at h⟩
    · rw [if_neg h1, if_neg h1]
      exact ⟨rfl, fun h => absurd h h1⟩
  constructor
  · intro a rest h
    have := g.put a rest h
    rw [(e _).2 (by rw [(e _).1, this]), this]
  · intro a j h hj
    rw [(e _).1]
    exact g.cut a j h hj
  · intro l hb h
    have := g.was l hb (by rw [← (e _).1]; exact h)
    rw [(e _).2 h]
    exact this
end Go.Proofs.Ytddnlnjmikcgfaa.PC
end
section
set_option linter.unusedVariables false
set_option linter.unusedSimpArgs false
namespace Go.Proofs.Ytddnlnjmikcgfaa.PC
open Go.RowKit Go.WB.PrintWords Go.WB.PrintLast Go.WB.PrintMore
theorem tk_bad : ∀ (l : List Int) (n i : Nat), (tk l n i).2.2 ≠ 0 → (tk l n i).2.1 = 0
  | [], _, _, _ => rfl
  | c :: r, n, i, h => by
    unfold tk at h ⊢
    split at h
    · rename_i h1
      rw [if_pos h1]
      split at h
      · rename_i h2; rw [if_pos h2]
      · rename_i h2; rw [if_neg h2]; exact tk_bad r _ _ h
    · rename_i h1
      rw [if_neg h1]
      split at h
      · rename_i h2; rw [if_pos h2]
      · exact absurd rfl h
theorem num_ran (l : List Int) (hb : dO l) : 0 ≤ (tk l 0 0).2.1 ∧ (tk l 0 0).2.1 ≤ l.length := by
  by_cases h : (tk l 0 0).2.2 = 0
  · exact ja.ran l hb h
  · rw [tk_bad l 0 0 h]; omega
theorem stamp_ran (l : List Int) (hb : dO l) : 0 ≤ (ic l).2.2.1 ∧ (ic l).2.2.1 ≤ l.length := by
  by_cases h : (ic l).2.2.2 = 0
  · exact goodStamp.ran l hb h
  · have : (ic l).2.2.1 = 0 := by
      revert h
      unfold ic
      split
      · split
        · split
          · intro h; exact absurd rfl h
          · intro _; rfl
        · intro _; rfl
      · intro _; rfl
    omega
theorem text_ran (l : List Int) (hb : dO l) : 0 ≤ (gP l).2.1 ∧ (gP l).2.1 ≤ l.length := by
  by_cases h : (gP l).2.2 = 0
  · exact goodText.ran l hb h
  · have : (gP l).2.1 = 0 := by
      revert h
      unfold gP
      split
      · split
        · intro _; rfl
        · split
          · intro _; rfl
          · intro h; exact absurd rfl h
      · intro _; rfl
    omega
theorem vec_ran (l : List Int) (hb : dO l) : 0 ≤ (eQ l).2.1 ∧ (eQ l).2.1 ≤ l.length := by
  by_cases h : (eQ l).2.2 = 0
  · exact goodVec.ran l hb h
  · have : (eQ l).2.1 = 0 := by
      revert h
      unfold eQ
      split
      · split
        · intro h; exact absurd rfl h
        · intro _; rfl
      · intro _; rfl
    omega
abbrev bI (l : List Int) : (Int × Int) × Int × Int := (((ic l).1, (ic l).2.1), (ic l).2.2)
abbrev iH (l : List Int) : Int × Int × Int := tk l 0 0
theorem part_F (l : List Int) (k e dk de : Int) (h0 : 0 ≤ k) (h1 : k ≤ l.length) (h2 : 0 ≤ dk) (h3 : dk ≤ l.length) (hl : l.length < 4611686018427387904) :
    bV.f l k e dk de = some (if e = 0 then k + dk else k, if e = 0 then de else e) := by
  unfold bV.f
  split
  · rw [w64_l (by omega) (by omega)]
  · rfl
theorem place_F (l : List Int) (hb : dO l) (hl : l.length < 4611686018427387904) (k e : Int) (h0 : 0 ≤ k) (h1 : k ≤ l.length) :
    bA.F l k e = some ((bI (l.drop k.toNat)).1.1, (bI (l.drop k.toNat)).1.2, (if e = 0 then k + (bI (l.drop k.toNat)).2.1 else k), (if e = 0 then (bI (l.drop k.toNat)).2.2 else e)) := by
  have hr := stamp_ran _ (hb.drop k.toNat)
  have hd : (l.drop k.toNat).length ≤ l.length := by rw [List.length_drop]; omega
  rw [bA.gU, if_pos h0, if_pos h1, stampTake _ (hb.drop _) (by omega), Option.bind_some, part_F _ _ _ _ _ h0 h1 (by omega) (by omega) hl, Option.bind_some]
theorem number_F (l : List Int) (hb : dO l) (hl : l.length < 4611686018427387904) (k e : Int) (h0 : 0 ≤ k) (h1 : k ≤ l.length) :
    bE.F l k e = some ((iH (l.drop k.toNat)).1, (if e = 0 then k + (iH (l.drop k.toNat)).2.1 else k), (if e = 0 then (iH (l.drop k.toNat)).2.2 else e)) := by
  have hr := num_ran _ (hb.drop k.toNat)
  have hd : (l.drop k.toNat).length ≤ l.length := by rw [List.length_drop]; omega
  rw [bE.gU, if_pos h0, if_pos h1, takeNum _ (hb.drop _) (by omega), Option.bind_some, part_F _ _ _ _ _ h0 h1 (by omega) (by omega) hl, Option.bind_some]
abbrev Rest : Type := (Int × Int) × ByteArray × Int × Int
def noKey : ByteArray := ⟨#[]⟩
def gX (k : Int) (l : List Int) : Rest × Int × Int :=
  if k = 1 then mapP (fun x : (Int × Int) × ByteArray => ((x.1, x.2, 0, 0) : Rest)) (seqP bI (fun _ => gP)) l
  else mapP (fun x : Int × Int => (((0, 0), noKey, x.1, x.2 - 1) : Rest)) (seqP iH (fun _ => iH)) l
def restE (k : Int) (b : Rest) : List Int := if k = 1 then eU b.1.1 b.1.2 ++ encT b.2.1 else d9 b.2.2.1.toNat ++ d9 (b.2.2.2 + 1).toNat
def restOk (k : Int) (b : Rest) : Prop := if k = 1 then (fF b.1.1 b.1.2 = true ∧ b.2.1.size ≤ 65536) ∧ b.2.2 = (0, 0) else (gL b.2.2.1 ∧ gL (b.2.2.2 + 1)) ∧ b.1 = (0, 0) ∧ b.2.1 = noKey
theorem goodRest (k : Int) : Good (gX k) (restE k) (restOk k) := by
  by_cases hk : k = 1
  · have g := ((goodStamp.seq (q := fun _ => gP) (eb := fun _ => encT) (okb := fun _ s => s.size ≤ 65536) (fun _ _ => goodText)).map (fun x : (Int × Int) × ByteArray => ((x.1, x.2, 0, 0) : Rest)) (fun b => (b.1, b.2.1)) (fun _ _ => rfl))
    have e1 : gX k = mapP (fun x : (Int × Int) × ByteArray => ((x.1, x.2, 0, 0) : Rest)) (seqP bI (fun _ => gP)) := by funext l; unfold gX; rw [if_pos hk]
    have e2 : restE k = fun b => eU b.1.1 b.1.2 ++ encT b.2.1 := by funext b; unfold restE; rw [if_pos hk]
    rw [e1, e2]
    refine g.weak (fun b => ?_)
    unfold restOk
    rw [if_pos hk]
    obtain ⟨a, s, p, v⟩ := b
    simp
    intro _ _
    exact ⟨fun ⟨h1, h2⟩ => ⟨h1.symm, h2.symm⟩, fun ⟨h1, h2⟩ => ⟨h1.symm, h2.symm⟩⟩
  · have g := ((ja.seq (q := fun _ => iH) (eb := fun _ n => d9 n.toNat) (okb := fun _ => gL) (fun _ _ => ja)).map (fun x : Int × Int => (((0, 0), noKey, x.1, x.2 - 1) : Rest)) (fun b => (b.2.2.1, b.2.2.2 + 1)) (fun a _ => by simp))
    have e1 : gX k = mapP (fun x : Int × Int => (((0, 0), noKey, x.1, x.2 - 1) : Rest)) (seqP iH (fun _ => iH)) := by funext l; unfold gX; rw [if_neg hk]
    have e2 : restE k = fun b => d9 b.2.2.1.toNat ++ d9 (b.2.2.2 + 1).toNat := by funext b; unfold restE; rw [if_neg hk]
    rw [e1, e2]
    refine g.weak (fun b => ?_)
    unfold restOk
    rw [if_neg hk]
    obtain ⟨⟨a1, a2⟩, s, p, v⟩ := b
    simp
    intro _ _
    exact ⟨fun ⟨h1, h2⟩ => ⟨⟨h1.1.symm, h1.2.symm⟩, h2.symm⟩, fun ⟨h1, h2⟩ => ⟨⟨h1.1.symm, h1.2.symm⟩, h2.symm⟩⟩
abbrev Body : Type := (Int × Int) × List Int × Int × (Int × Int) × Rest
def tailP (k : Int) (l : List Int) : ((Int × Int) × Rest) × Int × Int := seqP bI (fun _ => gX k) l
def kindP (l : List Int) : Int × Int × Int := onlyP (fun k => k == 1 || k == 2) iH l
def opP (l : List Int) : Body × Int × Int := seqP bI (fun _ => seqP eQ (fun _ => seqP kindP (fun k => seqP bI (fun _ => gX k)))) l
def opE (b : Body) : List Int := eU b.1.1 b.1.2 ++ (encN b.2.1 ++ (d9 b.2.2.1.toNat ++ (eU b.2.2.2.1.1 b.2.2.2.1.2 ++ restE b.2.2.1 b.2.2.2.2)))
def opOk (b : Body) : Prop := fF b.1.1 b.1.2 = true ∧ isVec b.2.1 = true ∧ (gL b.2.2.1 ∧ (b.2.2.1 == 1 || b.2.2.1 == 2) = true) ∧ fF b.2.2.2.1.1 b.2.2.2.1.2 = true ∧ restOk b.2.2.1 b.2.2.2.2
theorem goodTail (k : Int) : Good (tailP k) (fun x => eU x.1.1 x.1.2 ++ restE k x.2) (fun x => fF x.1.1 x.1.2 = true ∧ restOk k x.2) :=
  goodStamp.seq (q := fun _ => gX k) (eb := fun _ => restE k) (okb := fun _ => restOk k) (fun _ _ => goodRest k)
theorem goodOp : Good opP opE opOk :=
  goodStamp.seq (q := fun _ => seqP eQ (fun _ => seqP kindP (fun k => seqP bI (fun _ => gX k)))) (eb := fun _ b => encN b.1 ++ (d9 b.2.1.toNat ++ (eU b.2.2.1.1 b.2.2.1.2 ++ restE b.2.1 b.2.2.2)))
    (okb := fun _ b => isVec b.1 = true ∧ (gL b.2.1 ∧ (b.2.1 == 1 || b.2.1 == 2) = true) ∧ fF b.2.2.1.1 b.2.2.1.2 = true ∧ restOk b.2.1 b.2.2.2)
    (fun _ _ => goodVec.seq (q := fun _ => seqP kindP (fun k => seqP bI (fun _ => gX k))) (eb := fun _ b => d9 b.1.toNat ++ (eU b.2.1.1 b.2.1.2 ++ restE b.1 b.2.2))
      (okb := fun _ b => (gL b.1 ∧ (b.1 == 1 || b.1 == 2) = true) ∧ fF b.2.1.1 b.2.1.2 = true ∧ restOk b.1 b.2.2)
      (fun _ _ => (ja.only (fun k => k == 1 || k == 2)).seq (q := fun k => seqP bI (fun _ => gX k)) (eb := fun k b => eU b.1.1 b.1.2 ++ restE k b.2)
        (okb := fun k b => fF b.1.1 b.1.2 = true ∧ restOk k b.2) (fun k _ => goodTail k)))
end Go.Proofs.Ytddnlnjmikcgfaa.PC
end
section
set_option linter.unusedVariables false
set_option linter.unusedSimpArgs false
namespace Go.Proofs.Ytddnlnjmikcgfaa.PC
open Go.RowKit Go.WB.PrintWords Go.WB.PrintLast Go.WB.PrintMore
def nk {α : Type} (p : List Int → α × Int × Int) (l : List Int) (k e : Int) : Int := if e = 0 then k + (p (l.drop k.toNat)).2.1 else k
def ne {α : Type} (p : List Int → α × Int × Int) (l : List Int) (k e : Int) : Int := if e = 0 then (p (l.drop k.toNat)).2.2 else e
def nv {α : Type} (p : List Int → α × Int × Int) (l : List Int) (k : Int) : α := (p (l.drop k.toNat)).1
def Ran {α : Type} (p : List Int → α × Int × Int) : Prop := ∀ l, dO l → 0 ≤ (p l).2.1 ∧ (p l).2.1 ≤ l.length
theorem nk_ran {α : Type} {p : List Int → α × Int × Int} (hp : Ran p) {l : List Int} (hb : dO l) {k e : Int} (h : 0 ≤ k ∧ k ≤ l.length) : 0 ≤ nk p l k e ∧ nk p l k e ≤ l.length := by
  have := hp _ (hb.drop k.toNat)
  rw [List.length_drop] at this
  unfold nk
  split <;> omega
theorem chain_e {α β : Type} {p : List Int → α × Int × Int} {q : α → List Int → β × Int × Int} (hp : Ran p) {l : List Int} (hb : dO l) {k e : Int} (h : 0 ≤ k ∧ k ≤ l.length) :
    ne (q (nv p l k)) l (nk p l k e) (ne p l k e) = ne (seqP p q) l k e := by
  have hr := hp _ (hb.drop k.toNat)
  unfold ne nk nv seqP
  by_cases he : e = 0
  · simp only [if_pos he]
    by_cases h1 : (p (l.drop k.toNat)).2.2 = 0
    · simp only [if_pos h1]
      rw [List.drop_drop, show (k + (p (l.drop k.toNat)).2.1).toNat = k.toNat + (p (l.drop k.toNat)).2.1.toNat by omega]
    · simp only [if_neg h1]
  · simp only [if_neg he]
theorem chain_v {α β : Type} {p : List Int → α × Int × Int} {q : α → List Int → β × Int × Int} (hp : Ran p) {l : List Int} (hb : dO l) {k : Int} (h : 0 ≤ k ∧ k ≤ l.length) (h0 : ne (seqP p q) l k 0 = 0) :
    ne p l k 0 = 0 ∧ nk (q (nv p l k)) l (nk p l k 0) 0 = nk (seqP p q) l k 0 ∧ nv (seqP p q) l k = (nv p l k, nv (q (nv p l k)) l (nk p l k 0)) := by
  have hr := hp _ (hb.drop k.toNat)
  unfold ne nk nv seqP at *
  simp only [if_true] at *
  by_cases h1 : (p (l.drop k.toNat)).2.2 = 0
  · simp only [if_pos h1] at h0 ⊢
    have e : l.drop (k + (p (l.drop k.toNat)).2.1).toNat = (l.drop k.toNat).drop (p (l.drop k.toNat)).2.1.toNat := by
      rw [List.drop_drop, show (k + (p (l.drop k.toNat)).2.1).toNat = k.toNat + (p (l.drop k.toNat)).2.1.toNat by omega]
    rw [e, if_pos h0]
    exact ⟨h1, by omega, rfl⟩
  · simp only [if_neg h1] at h0
    exact absurd h0 h1
theorem iZ : Ran bI := fun l hb => stamp_ran l hb
theorem ran_num : Ran iH := fun l hb => num_ran l hb
theorem ran_text : Ran gP := fun l hb => text_ran l hb
theorem ran_vec : Ran eQ := fun l hb => vec_ran l hb
theorem place_N (l : List Int) (hb : dO l) (hl : l.length < 4611686018427387904) (k e : Int) (h : 0 ≤ k ∧ k ≤ l.length) :
    bA.F l k e = some ((nv bI l k).1, (nv bI l k).2, nk bI l k e, ne bI l k e) := place_F l hb hl k e h.1 h.2
theorem number_N (l : List Int) (hb : dO l) (hl : l.length < 4611686018427387904) (k e : Int) (h : 0 ≤ k ∧ k ≤ l.length) :
    bE.F l k e = some (nv iH l k, nk iH l k e, ne iH l k e) := number_F l hb hl k e h.1 h.2
theorem text_N (l : List Int) (hb : dO l) (hl : l.length < 4611686018427387904) (k : Int) : bX.F (l.drop k.toNat) = some (gP (l.drop k.toNat)) :=
  takeText _ (hb.drop _) (by rw [List.length_drop]; omega)
theorem part_N {α : Type} (p : List Int → α × Int × Int) (hp : Ran p) (l : List Int) (hb : dO l) (hl : l.length < 4611686018427387904) (k e : Int) (h : 0 ≤ k ∧ k ≤ l.length) :
    bV.f l k e (p (l.drop k.toNat)).2.1 (p (l.drop k.toNat)).2.2 = some (nk p l k e, ne p l k e) := by
  have := hp _ (hb.drop k.toNat)
  rw [List.length_drop] at this
  exact part_F l k e _ _ h.1 h.2 (by omega) (by omega) hl
abbrev T14 : Type := Int × Int × Int × List Int × Int × Int × Int × Int × Int × ByteArray × Int × Int × Int × Int
def errOf (z : T14) : Int := z.2.2.2.2.2.2.2.2.2.2.2.2.2
theorem tail_J1 (l : List Int) (hb : dO l) (hl : l.length < 4611686018427387904) (k e : Int) (h : 0 ≤ k ∧ k ≤ l.length) (s1 s2 s3 : Int) (d : List Int) (kk : Int) :
    ∃ z : T14, az.J1 l k e s1 s2 s3 d kk 0 0 0 0 (⟨#[]⟩ : ByteArray) 0 0 = some z ∧ errOf z = ne (tailP kk) l k e ∧
      (e = 0 → ne (tailP kk) l k 0 = 0 → z = (s1, s2, s3, d, kk, (nv (tailP kk) l k).1.1, (nv (tailP kk) l k).1.2, (nv (tailP kk) l k).2.1.1, (nv (tailP kk) l k).2.1.2, (nv (tailP kk) l k).2.2.1, (nv (tailP kk) l k).2.2.2.1, (nv (tailP kk) l k).2.2.2.2, nk (tailP kk) l k 0, 0)) := by
  have h1 := nk_ran iZ hb (e := e) h
  have c1 : ne (gX kk) l (nk bI l k e) (ne bI l k e) = ne (tailP kk) l k e := chain_e (q := fun _ => gX kk) iZ hb h
  rw [az.J1_eq, place_N l hb hl k e h, Option.bind_some]
  by_cases hk : kk = 1
  · have h2 := nk_ran iZ hb (e := ne bI l k e) h1
    have eR : gX kk = mapP (fun x : (Int × Int) × ByteArray => ((x.1, x.2, 0, 0) : Rest)) (seqP bI (fun _ => gP)) := by funext l; unfold gX; rw [if_pos hk]
    have c2 : ne gP l (nk bI l (nk bI l k e) (ne bI l k e)) (ne bI l (nk bI l k e) (ne bI l k e)) = ne (gX kk) l (nk bI l k e) (ne bI l k e) := by
      rw [eR]
      exact chain_e (q := fun _ => gP) iZ hb h1
    rw [if_pos hk, place_N l hb hl _ _ h1, Option.bind_some, if_pos h2.1, if_pos h2.2, text_N l hb hl, Option.bind_some, part_N gP ran_text l hb hl _ _ h2, Option.bind_some]
    refine ⟨_, rfl, c2.trans c1, ?_⟩
    intro he h0
    subst he
    obtain ⟨g1, g2, g3⟩ := chain_v (q := fun _ => gX kk) iZ hb h h0
    rw [g1] at c1 c2 ⊢
    have h0' : ne (gX kk) l (nk bI l k 0) 0 = 0 := c1.trans h0
    rw [eR] at h0'
    obtain ⟨f1, f2, f3⟩ := chain_v (q := fun _ => gP) iZ hb h1 h0'
    rw [f1] at c2 ⊢
    have e1 : nv (tailP kk) l k = (nv bI l k, nv (gX kk) l (nk bI l k 0)) := g3
    have e2 : nv (gX kk) l (nk bI l k 0) = (nv bI l (nk bI l k 0), nv gP l (nk bI l (nk bI l k 0) 0), 0, 0) := by
      rw [eR]
      exact congrArg (fun x : (Int × Int) × ByteArray => ((x.1, x.2, 0, 0) : Rest)) f3
    have e3 : nk gP l (nk bI l (nk bI l k 0) 0) 0 = nk (tailP kk) l k 0 := by
      have t : nk (gX kk) l (nk bI l k 0) 0 = nk (seqP bI (fun _ => gP)) l (nk bI l k 0) 0 := by rw [eR]; rfl
      exact f2.trans (t.symm.trans g2)
    have e4 : ne gP l (nk bI l (nk bI l k 0) 0) 0 = 0 := by rw [c2, eR]; exact h0'
    rw [e1, e2, e3, e4]
    rfl
  · have h2 := nk_ran ran_num hb (e := ne bI l k e) h1
    have eR : gX kk = mapP (fun x : Int × Int => (((0, 0), noKey, x.1, x.2 - 1) : Rest)) (seqP iH (fun _ => iH)) := by funext l; unfold gX; rw [if_neg hk]
    have c2 : ne iH l (nk iH l (nk bI l k e) (ne bI l k e)) (ne iH l (nk bI l k e) (ne bI l k e)) = ne (gX kk) l (nk bI l k e) (ne bI l k e) := by
      rw [eR]
      exact chain_e (q := fun _ => iH) ran_num hb h1
    rw [if_neg hk, number_N l hb hl _ _ h1, Option.bind_some, number_N l hb hl _ _ h2, Option.bind_some]
    refine ⟨_, rfl, c2.trans c1, ?_⟩
    intro he h0
    subst he
    obtain ⟨g1, g2, g3⟩ := chain_v (q := fun _ => gX kk) iZ hb h h0
    rw [g1] at c1 c2 ⊢
    have h0' : ne (gX kk) l (nk bI l k 0) 0 = 0 := c1.trans h0
    rw [eR] at h0'
    obtain ⟨f1, f2, f3⟩ := chain_v (q := fun _ => iH) ran_num hb h1 h0'
    rw [f1] at c2 ⊢
    have e1 : nv (tailP kk) l k = (nv bI l k, nv (gX kk) l (nk bI l k 0)) := g3
    have e2 : nv (gX kk) l (nk bI l k 0) = ((0, 0), noKey, nv iH l (nk bI l k 0), nv iH l (nk iH l (nk bI l k 0) 0) - 1) := by
      rw [eR]
      exact congrArg (fun x : Int × Int => (((0, 0), noKey, x.1, x.2 - 1) : Rest)) f3
    have e3 : nk iH l (nk iH l (nk bI l k 0) 0) 0 = nk (tailP kk) l k 0 := by
      have t : nk (gX kk) l (nk bI l k 0) 0 = nk (seqP iH (fun _ => iH)) l (nk bI l k 0) 0 := by rw [eR]; rfl
      exact f2.trans (t.symm.trans g2)
    have e4 : ne iH l (nk iH l (nk bI l k 0) 0) 0 = 0 := by rw [c2, eR]; exact h0'
    have e5 := tk_ok (l.drop (nk iH l (nk bI l k 0) 0).toNat) 0 0 (by simpa [ne] using e4)
    have e6 : wrap64 (nv iH l (nk iH l (nk bI l k 0) 0) - 1) = nv iH l (nk iH l (nk bI l k 0) 0) - 1 := by
      have q1 : 0 ≤ nv iH l (nk iH l (nk bI l k 0) 0) := e5.1
      have q2 : nv iH l (nk iH l (nk bI l k 0) 0) ≤ 4611686018427387904 := e5.2.1
      exact w64_l (by omega) (by omega)
    rw [e1, e2, e3, e4, e6]
    rfl
def c12_l (k : Int) : Bool := k == 1 || k == 2
theorem bad_J0 (l : List Int) (hb : dO l) (hl : l.length < 4611686018427387904) (k e : Int) (h : 0 ≤ k ∧ k ≤ l.length) (s1 s2 s3 : Int) (d : List Int) (kk : Int) (b : Bool) (hbk : b = !c12_l kk) :
    ∃ z : T14, az.J0 b l k e s1 s2 s3 d kk 0 0 0 0 (⟨#[]⟩ : ByteArray) 0 0 = some z ∧ errOf z = (if e = 0 then (if c12_l kk = true then ne (tailP kk) l k 0 else 1) else e) ∧
      (e = 0 → c12_l kk = true → ne (tailP kk) l k 0 = 0 → z = (s1, s2, s3, d, kk, (nv (tailP kk) l k).1.1, (nv (tailP kk) l k).1.2, (nv (tailP kk) l k).2.1.1, (nv (tailP kk) l k).2.1.2, (nv (tailP kk) l k).2.2.1, (nv (tailP kk) l k).2.2.2.1, (nv (tailP kk) l k).2.2.2.2, nk (tailP kk) l k 0, 0)) := by
  rw [az.J0_eq]
  by_cases hc : c12_l kk = true
  · have : b = false := by rw [hbk, hc]; rfl
    rw [this, if_neg (by decide)]
    obtain ⟨z, z1, z2, z3⟩ := tail_J1 l hb hl k e h s1 s2 s3 d kk
    refine ⟨z, z1, ?_, fun he _ => z3 he⟩
    rw [z2, if_pos hc]
    by_cases he : e = 0
    · rw [if_pos he, he]
    · rw [if_neg he]; unfold ne; rw [if_neg he]
  · have : b = true := by rw [hbk]; simp at hc; rw [hc]; rfl
    rw [this, if_pos rfl, part_F l k e 0 1 h.1 h.2 (by omega) (by omega) hl, Option.bind_some]
    have e0 : (if e = 0 then k + 0 else k) = k := by split <;> omega
    simp only [e0]
    obtain ⟨z, z1, z2, z3⟩ := tail_J1 l hb hl k (if e = 0 then 1 else e) h s1 s2 s3 d kk
    refine ⟨z, z1, ?_, fun _ h => absurd h hc⟩
    rw [z2, if_neg hc]
    unfold ne
    by_cases he : e = 0
    · simp [he]
    · simp [he]
theorem take_F1 (l : List Int) (hb : dO l) (hl : l.length < 4611686018427387904) :
    ∃ z : T14, az.F l 0 0 = some z ∧ errOf z = (opP l).2.2 ∧
      ((opP l).2.2 = 0 → z = ((opP l).1.1.1, (opP l).1.1.2, 0, (opP l).1.2.1, (opP l).1.2.2.1, (opP l).1.2.2.2.1.1, (opP l).1.2.2.2.1.2, (opP l).1.2.2.2.2.1.1, (opP l).1.2.2.2.2.1.2, (opP l).1.2.2.2.2.2.1, (opP l).1.2.2.2.2.2.2.1, (opP l).1.2.2.2.2.2.2.2, (opP l).2.1, 0)) := by
  have h : (0 : Int) ≤ 0 ∧ (0 : Int) ≤ l.length := by omega
  have h1 := nk_ran iZ hb (e := 0) h
  have h2 := nk_ran ran_vec hb (e := ne bI l 0 0) h1
  have h3 := nk_ran ran_num hb (e := ne eQ l (nk bI l 0 0) (ne bI l 0 0)) h2
  rw [az.gU, place_N l hb hl 0 0 h, Option.bind_some, if_pos h1.1, if_pos h1.2, haveTake _ (hb.drop _) (by rw [List.length_drop]; omega), Option.bind_some, part_N eQ ran_vec l hb hl _ _ h1, Option.bind_some, number_N l hb hl _ _ h2, Option.bind_some]
  simp only
  -- the kind's number
  generalize hK : nv iH l (nk eQ l (nk bI l 0 0) (ne bI l 0 0)) = kk
  have hJ : (if kk = 1 then az.J0 false l (nk iH l (nk eQ l (nk bI l 0 0) (ne bI l 0 0)) (ne eQ l (nk bI l 0 0) (ne bI l 0 0))) (ne iH l (nk eQ l (nk bI l 0 0) (ne bI l 0 0)) (ne eQ l (nk bI l 0 0) (ne bI l 0 0))) (nv bI l 0).1 (nv bI l 0).2 0 (eQ (l.drop (nk bI l 0 0).toNat)).1 kk 0 0 0 0 (⟨#[]⟩ : ByteArray) 0 0
      else az.J0 (kk != 2) l (nk iH l (nk eQ l (nk bI l 0 0) (ne bI l 0 0)) (ne eQ l (nk bI l 0 0) (ne bI l 0 0))) (ne iH l (nk eQ l (nk bI l 0 0) (ne bI l 0 0)) (ne eQ l (nk bI l 0 0) (ne bI l 0 0))) (nv bI l 0).1 (nv bI l 0).2 0 (eQ (l.drop (nk bI l 0 0).toNat)).1 kk 0 0 0 0 (⟨#[]⟩ : ByteArray) 0 0)
      = az.J0 (!c12_l kk) l (nk iH l (nk eQ l (nk bI l 0 0) (ne bI l 0 0)) (ne eQ l (nk bI l 0 0) (ne bI l 0 0))) (ne iH l (nk eQ l (nk bI l 0 0) (ne bI l 0 0)) (ne eQ l (nk bI l 0 0) (ne bI l 0 0))) (nv bI l 0).1 (nv bI l 0).2 0 (eQ (l.drop (nk bI l 0 0).toNat)).1 kk 0 0 0 0 (⟨#[]⟩ : ByteArray) 0 0 := by
    unfold c12_l
    by_cases hk1 : kk = 1
    · subst hk1; rfl
    · rw [if_neg hk1]
      have : (kk == 1) = false := by simpa using hk1
      rw [this, Bool.false_or]; rfl
  rw [hJ]
  obtain ⟨z, z1, z2, z3⟩ := bad_J0 l hb hl (nk iH l (nk eQ l (nk bI l 0 0) (ne bI l 0 0)) (ne eQ l (nk bI l 0 0) (ne bI l 0 0))) (ne iH l (nk eQ l (nk bI l 0 0) (ne bI l 0 0)) (ne eQ l (nk bI l 0 0) (ne bI l 0 0))) h3 (nv bI l 0).1 (nv bI l 0).2 0 (eQ (l.drop (nk bI l 0 0).toNat)).1 kk _ rfl
  -- the chain
  have a1 : ne (seqP eQ (fun _ => seqP kindP (fun k => seqP bI (fun _ => gX k)))) l (nk bI l 0 0) (ne bI l 0 0) = ne opP l 0 0 := chain_e (q := fun _ => seqP eQ (fun _ => seqP kindP (fun k => seqP bI (fun _ => gX k)))) iZ hb h
  have a2 : ne (seqP kindP (fun k => seqP bI (fun _ => gX k))) l (nk eQ l (nk bI l 0 0) (ne bI l 0 0)) (ne eQ l (nk bI l 0 0) (ne bI l 0 0)) = ne opP l 0 0 := (chain_e (q := fun _ => seqP kindP (fun k => seqP bI (fun _ => gX k))) ran_vec hb h1).trans a1
  have eo : ne opP l 0 0 = (opP l).2.2 := by unfold ne; simp
  have key : ∀ k e, ne (seqP kindP (fun k => seqP bI (fun _ => gX k))) l k e = (if ne iH l k e = 0 then (if c12_l (nv iH l k) = true then (if 0 ≤ k ∧ k ≤ l.length then ne (tailP (nv iH l k)) l (nk iH l k e) 0 else ne (seqP kindP (fun k => seqP bI (fun _ => gX k))) l k e) else 1) else ne iH l k e) := by
    intro k e
    unfold ne nv nk seqP kindP onlyP
    by_cases he : e = 0
    · simp only [if_pos he]
      by_cases hn : (iH (l.drop k.toNat)).2.2 = 0
      · by_cases hc : c12_l (iH (l.drop k.toNat)).1 = true
        · have hc' : ((iH (l.drop k.toNat)).1 == 1 || (iH (l.drop k.toNat)).1 == 2) = true := hc
          simp only [if_pos hn, hc, hc', if_true]
          by_cases hr : 0 ≤ k ∧ k ≤ (l.length : Int)
          · rw [if_pos hr]
            have hq := num_ran _ (hb.drop k.toNat)
            have hq1 : 0 ≤ (iH (l.drop k.toNat)).2.1 := hq.1
            rw [List.drop_drop, show (k + (iH (l.drop k.toNat)).2.1).toNat = k.toNat + (iH (l.drop k.toNat)).2.1.toNat by omega]
            rfl
          · rw [if_neg hr]
        · have hc' : ¬ ((iH (l.drop k.toNat)).1 == 1 || (iH (l.drop k.toNat)).1 == 2) = true := hc
          simp only [if_pos hn, if_neg hc, if_neg hc', if_neg (show ¬ ((1 : Int) = 0) by decide)]
      · simp only [if_neg hn]
    · simp only [if_neg he]
  have a3 := key (nk eQ l (nk bI l 0 0) (ne bI l 0 0)) (ne eQ l (nk bI l 0 0) (ne bI l 0 0))
  rw [if_pos h2, hK, a2] at a3
  refine ⟨z, z1, by rw [z2, ← eo, a3], ?_⟩
  intro h0
  rw [← eo] at h0
  obtain ⟨b1, b2, b3⟩ := chain_v (q := fun _ => seqP eQ (fun _ => seqP kindP (fun k => seqP bI (fun _ => gX k)))) iZ hb h h0
  rw [b1] at a1 a2 a3 z3 z1 h2 h3 hK
  obtain ⟨d1, d2, d3⟩ := chain_v (q := fun _ => seqP kindP (fun k => seqP bI (fun _ => gX k))) ran_vec hb h1 (a1.trans h0)
  rw [d1] at a2 a3 z3 z1 h3
  rw [h0] at a3
  have n0 : ne iH l (nk eQ l (nk bI l 0 0) 0) 0 = 0 := by
    by_cases hn : ne iH l (nk eQ l (nk bI l 0 0) 0) 0 = 0
    · exact hn
    · rw [if_neg hn] at a3; exact absurd a3.symm hn
  rw [if_pos n0] at a3
  have cc : c12_l kk = true := by
    by_cases hc : c12_l kk = true
    · exact hc
    · rw [if_neg hc] at a3; exact absurd a3 (by decide)
  rw [if_pos cc] at a3
  rw [z3 n0 cc a3.symm]
  -- the values
  have hkind : kindP (l.drop (nk eQ l (nk bI l 0 0) 0).toNat) = iH (l.drop (nk eQ l (nk bI l 0 0) 0).toNat) := by
    unfold kindP onlyP
    have e1 : (iH (l.drop (nk eQ l (nk bI l 0 0) 0).toNat)).2.2 = 0 := by have := n0; unfold ne at this; simpa using this
    have e2 : ((iH (l.drop (nk eQ l (nk bI l 0 0) 0).toNat)).1 == 1 || (iH (l.drop (nk eQ l (nk bI l 0 0) 0).toNat)).1 == 2) = true := by
      have : nv iH l (nk eQ l (nk bI l 0 0) 0) = kk := hK
      unfold nv at this
      rw [this]; exact cc
    rw [if_pos e1, if_pos e2]
  have rk : Ran kindP := by
    intro l hb
    have := num_ran l hb
    unfold kindP onlyP
    split
    · split
      · exact this
      · exact ⟨Int.le_refl 0, by show (0 : Int) ≤ l.length; omega⟩
    · exact this
  have hv : nv kindP l (nk eQ l (nk bI l 0 0) 0) = kk := by
    show (kindP (l.drop (nk eQ l (nk bI l 0 0) 0).toNat)).1 = kk
    rw [hkind]
    exact hK
  have hkk : nk kindP l (nk eQ l (nk bI l 0 0) 0) 0 = nk iH l (nk eQ l (nk bI l 0 0) 0) 0 := by
    show (if (0 : Int) = 0 then nk eQ l (nk bI l 0 0) 0 + (kindP (l.drop (nk eQ l (nk bI l 0 0) 0).toNat)).2.1 else _) = _
    rw [hkind]
    rfl
  obtain ⟨f1, f2, f3⟩ := chain_v (p := kindP) (q := fun k => seqP bI (fun _ => gX k)) rk hb h2 (a2.trans h0)
  rw [hv, hkk] at f2 f3
  have e1 : (opP l).1 = (nv bI l 0, nv eQ l (nk bI l 0 0), kk, nv (tailP kk) l (nk iH l (nk eQ l (nk bI l 0 0) 0) 0)) := by
    have : (opP l).1 = nv opP l 0 := by unfold nv; simp
    rw [this]
    exact b3.trans (by rw [d3, f3]; rfl)
  have e2 : (opP l).2.1 = nk (tailP kk) l (nk iH l (nk eQ l (nk bI l 0 0) 0) 0) 0 := by
    have : (opP l).2.1 = nk opP l 0 0 := by unfold nk; simp
    rw [this]
    exact (f2.trans (d2.trans b2)).symm
  rw [e1, e2]
  rfl
end Go.Proofs.Ytddnlnjmikcgfaa.PC
end
section
set_option linter.unusedVariables false
set_option linter.unusedSimpArgs false
namespace Go.Proofs.Ytddnlnjmikcgfaa.PC
open Go.RowKit Go.WB.PrintWords Go.WB.PrintLast Go.WB.PrintMore
def isKey (s : ByteArray) : Bool := decide (1 ≤ s.size ∧ s.size ≤ 64) && (bt s ((s.size : Int) - 1) != 0)
theorem keyIs (s : ByteArray) : key_Is.f s = some (isKey s) := by
  unfold key_Is.f isKey
  by_cases h1 : (s.size : Int) ≥ 1
  · by_cases h2 : (s.size : Int) ≤ 64
    · rw [if_pos h1, if_pos h2, w64_l (by omega) (by omega), if_pos (by omega), if_pos (by omega), decide_eq_true (show 1 ≤ s.size ∧ s.size ≤ 64 by omega), Bool.true_and]
    · rw [if_pos h1, if_neg h2, decide_eq_false (show ¬ (1 ≤ s.size ∧ s.size ≤ 64) by omega), Bool.false_and]
  · rw [if_neg h1, decide_eq_false (show ¬ (1 ≤ s.size ∧ s.size ≤ 64) by omega), Bool.false_and]
def RuleOk (o : Option (Int × Int × Int × Bool)) : Prop := ∃ v, o = some v ∧ -1 ≤ v.1 ∧ v.2.1 ≤ 1099511627776
theorem RuleOk.of (a b c : Int) (d : Bool) (h : -1 ≤ a) (k : b ≤ 1099511627776) : RuleOk (some (a, b, c, d)) := ⟨_, rfl, h, k⟩
theorem RuleOk.ite {c : Prop} [Decidable c] {a b : Option (Int × Int × Int × Bool)} (h : RuleOk a) (k : RuleOk b) : RuleOk (if c then a else b) := by
  split
  · exact h
  · exact k
theorem rule_J2 (x : Int) (b : Bool) : RuleOk (aC.J2 x b) := by
  rw [aC.J2_eq]
  repeat' (first | exact RuleOk.of _ _ _ _ (by decide) (by decide) | refine RuleOk.ite ?_ ?_)
theorem rule_J1 (x : Int) (b : Bool) : RuleOk (aC.J1 x b) := by
  rw [aC.J1_eq]
  repeat' (first | exact RuleOk.of _ _ _ _ (by decide) (by decide) | exact rule_J2 _ _ | refine RuleOk.ite ?_ ?_)
theorem rule_J0 (x : Int) (b : Bool) : RuleOk (aC.J0 x b) := by
  rw [aC.J0_eq]
  repeat' (first | exact RuleOk.of _ _ _ _ (by decide) (by decide) | exact rule_J1 _ _ | refine RuleOk.ite ?_ ?_)
theorem rule_all (x : Int) : RuleOk (aC.F x) := by
  rw [aC.gU]
  repeat' (first | exact RuleOk.of _ _ _ _ (by decide) (by decide) | exact rule_J0 _ _ | refine RuleOk.ite ?_ ?_)
noncomputable def ruleV (p : Int) : Int × Int × Int × Bool := (aC.F p).getD (0, 0, 0, false)
theorem rule_F (p : Int) : aC.F p = some (ruleV p) ∧ -1 ≤ (ruleV p).1 ∧ (ruleV p).2.1 ≤ 1099511627776 := by
  obtain ⟨v, h, h1, h2⟩ := rule_all p
  have e : ruleV p = v := by unfold ruleV; rw [h]; rfl
  rw [e]
  exact ⟨h, h1, h2⟩
noncomputable def propMay (p v : Int) : Bool := decide (0 ≤ p ∧ p < 19) && decide ((ruleV p).1 ≤ v ∧ v ≤ (ruleV p).2.1)
theorem propMay_F (p v : Int) : eF.F p v = some (propMay p v) := by
  rw [eF.gU]
  unfold prop_Is.f propMay
  by_cases h : p ≥ 0
  · rw [if_pos h, Option.bind_some]
    by_cases h2 : p < 19
    · rw [if_pos (decide_eq_true h2), (rule_F p).1, Option.bind_some, decide_eq_true (show 0 ≤ p ∧ p < 19 by omega), Bool.true_and]
      split
      · rename_i h3
        rw [Option.bind_some]
        exact congrArg some (decide_eq_decide.2 ⟨fun h4 => ⟨h3, h4⟩, fun h4 => h4.2⟩)
      · rename_i h3
        exact congrArg some (decide_eq_false (fun h4 => h3 h4.1)).symm
    · rw [if_neg (by simpa using h2), decide_eq_false (show ¬ (0 ≤ p ∧ p < 19) by omega), Bool.false_and]
  · rw [if_neg h, Option.bind_some, if_neg (by decide), decide_eq_false (show ¬ (0 ≤ p ∧ p < 19) by omega), Bool.false_and]
theorem propMay_ran {p v : Int} (h : propMay p v = true) : 0 ≤ p ∧ p < 19 ∧ -1 ≤ v ∧ v ≤ 1099511627776 := by
  unfold propMay at h
  simp only [Bool.and_eq_true, decide_eq_true_eq] at h
  have := rule_F p
  omega
noncomputable def kindOk (k pr pp : Int) (key : ByteArray) (p v : Int) : Bool :=
  if k = 1 then fF pr pp && (isKey key && ((p == 0) && (v == 0))) else if k = 2 then propMay p v && (((pr == 0) && (pp == 0)) && (key.toList == ([] : List UInt8))) else false
theorem kind_F (a0 a1 a2 : Int) (d : List Int) (k a5 a6 pr pp : Int) (key : ByteArray) (p v : Int) : dX.F a0 a1 a2 d k a5 a6 pr pp key p v = some (kindOk k pr pp key p v) := by
  rw [dX.gU]
  unfold kindOk
  by_cases h1 : k = 1
  · rw [if_pos h1, if_pos h1, stampPlace, Option.bind_some]
    cases fF pr pp
    · rfl
    · rw [if_pos rfl, keyIs, Option.bind_some]
      cases isKey key
      · rfl
      · rw [if_pos rfl]
        by_cases hp : p = 0
        · rw [if_pos hp, hp]; rfl
        · rw [if_neg hp]
          have : (p == 0) = false := by simpa using hp
          rw [this]; rfl
  · rw [if_neg h1, if_neg h1]
    by_cases h2 : k = 2
    · rw [if_pos h2, if_pos h2, propMay_F, Option.bind_some]
      cases propMay p v
      · rfl
      · rw [if_pos rfl]
        unfold fB.f
        rw [Option.bind_some]
        cases ((pr == 0) && (pp == 0))
        · rfl
        · rfl
    · rw [if_neg h2, if_neg h2]
noncomputable def mayOp (t r s : Int) (d : List Int) (k nt nr pr pp : Int) (key : ByteArray) (p v : Int) : Bool :=
  gJ t r && (isVec d && (decide (r < d.length) && (gJ nt nr && (decide (s = rd d r + 1 ∧ s ≤ 1099511627776) && kindOk k pr pp key p v))))
theorem stamp_range {t r : Int} (h : gJ t r = true) : 1 ≤ t ∧ t ≤ 1099511627776 ∧ 0 ≤ r ∧ r < 16 := by
  unfold gJ at h
  simpa using h
theorem vec_rd {d : List Int} (h : isVec d = true) {r : Int} (h0 : 0 ≤ r) (h1 : r < d.length) : 0 ≤ rd d r ∧ rd d r ≤ 1099511627776 := by
  obtain ⟨i, rfl⟩ := Int.eq_ofNat_of_zero_le h0
  have hi : i < d.length := by omega
  rw [show ((i : Nat) : Int) = (i : Int) from rfl, rd_nat d i hi]
  exact vec_get h i hi
theorem opMay (t r s : Int) (d : List Int) (k nt nr pr pp : Int) (key : ByteArray) (p v : Int) (hd : d.length < 9223372036854775807) :
    cz.F t r s d k nt nr pr pp key p v = some (mayOp t r s d k nt nr pr pp key p v) := by
  have hJ : cz.J0 true t r s d k nt nr pr pp key p v = some false := by rw [cz.J0_eq, if_pos rfl]
  rw [cz.gU, stampIs, Option.bind_some]
  unfold mayOp
  by_cases h1 : gJ t r = true
  · have hs := stamp_range h1
    rw [if_pos h1, haveIs d hd, Option.bind_some, h1, Bool.true_and]
    by_cases h2 : isVec d = true
    · rw [if_pos h2, h2, Bool.true_and]
      by_cases h3 : r < d.length
      · have hr := vec_rd h2 hs.2.2.1 h3
        rw [if_neg (by omega), stampIs, Option.bind_some, decide_eq_true h3, Bool.true_and]
        cases h4 : gJ nt nr
        · rw [Bool.false_and]; exact hJ
        · rw [Bool.true_and]
          show cz.J0 false t r s d k nt nr pr pp key p v = _
          rw [cz.J0_eq, if_neg (by decide), if_pos hs.2.2.1, if_pos h3, w64_l (by omega) (by omega)]
          by_cases h5 : s = rd d r + 1
          · rw [if_pos h5]
            by_cases h6 : s ≤ 1099511627776
            · rw [if_pos h6, kind_F, Option.bind_some, decide_eq_true (show s = rd d r + 1 ∧ s ≤ 1099511627776 from ⟨h5, h6⟩), Bool.true_and]
            · rw [if_neg h6, decide_eq_false (show ¬ (s = rd d r + 1 ∧ s ≤ 1099511627776) from fun h => h6 h.2), Bool.false_and]
          · rw [if_neg h5, decide_eq_false (show ¬ (s = rd d r + 1 ∧ s ≤ 1099511627776) from fun h => h5 h.1), Bool.false_and]
      · rw [if_pos (by omega), hJ, decide_eq_false h3, Bool.false_and]
    · have h2' : isVec d = false := by simpa using h2
      rw [if_neg h2, hJ, h2', Bool.false_and]
  · have h1' : gJ t r = false := by simpa using h1
    rw [if_neg h1, hJ, h1', Bool.false_and]
theorem isPlace_of {t r : Int} (h : gJ t r = true) : fF t r = true := by unfold fF; rw [h]; rfl
theorem may_iff {t r s : Int} {d : List Int} {k nt nr pr pp : Int} {key : ByteArray} {p v : Int} : mayOp t r s d k nt nr pr pp key p v = true ↔
    gJ t r = true ∧ isVec d = true ∧ r < d.length ∧ gJ nt nr = true ∧ (s = rd d r + 1 ∧ s ≤ 1099511627776) ∧ kindOk k pr pp key p v = true := by
  unfold mayOp
  simp only [Bool.and_eq_true, decide_eq_true_eq]
theorem empty_key {key : ByteArray} (h : key.toList = []) : key = noKey := by
  rw [ByteArray.toList_eq] at h
  obtain ⟨a⟩ := key
  unfold noKey
  congr 1
  exact Array.toList_inj.1 h
abbrev bodyOf (t r : Int) (d : List Int) (k nt nr pr pp : Int) (key : ByteArray) (p v : Int) : Body := ((t, r), d, k, (nt, nr), ((pr, pp), key, p, v))
theorem kind_rest {k pr pp : Int} {key : ByteArray} {p v : Int} (h : kindOk k pr pp key p v = true) : (k = 1 ∨ k = 2) ∧ restOk k (((pr, pp), key, p, v) : Rest) := by
  unfold kindOk at h
  unfold restOk
  by_cases h1 : k = 1
  · rw [if_pos h1] at h
    simp only [Bool.and_eq_true, beq_iff_eq] at h
    obtain ⟨g1, g2, g3, g4⟩ := h
    unfold isKey at g2
    simp only [Bool.and_eq_true, decide_eq_true_eq] at g2
    rw [if_pos h1]
    refine ⟨.inl h1, ⟨g1, ?_⟩, ?_⟩
    · show key.size ≤ 65536
      omega
    · show (p, v) = (0, 0)
      rw [g3, g4]
  · rw [if_neg h1] at h
    by_cases h2 : k = 2
    · rw [if_pos h2] at h
      simp only [Bool.and_eq_true, beq_iff_eq] at h
      obtain ⟨g1, ⟨g2, g3⟩, g4⟩ := h
      have := propMay_ran g1
      rw [if_neg h1]
      refine ⟨.inr h2, ⟨⟨?_, ?_⟩, ⟨?_, ?_⟩⟩, ?_, ?_⟩
      · show 0 ≤ p; omega
      · show p ≤ 4611686018427387904; omega
      · show 0 ≤ v + 1; omega
      · show v + 1 ≤ 4611686018427387904; omega
      · show (pr, pp) = (0, 0); rw [g2, g3]
      · exact empty_key g4
    · rw [if_neg h2] at h
      exact absurd h (by decide)
theorem may_ok {t r s : Int} {d : List Int} {k nt nr pr pp : Int} {key : ByteArray} {p v : Int} (h : mayOp t r s d k nt nr pr pp key p v = true) : opOk (bodyOf t r d k nt nr pr pp key p v) := by
  obtain ⟨h1, h2, h3, h4, h5, h6⟩ := may_iff.1 h
  obtain ⟨h7, h8⟩ := kind_rest h6
  refine ⟨isPlace_of h1, h2, ⟨⟨?_, ?_⟩, ?_⟩, isPlace_of h4, h8⟩
  · show 0 ≤ k; omega
  · show k ≤ 4611686018427387904; omega
  · show (k == 1 || k == 2) = true
    rcases h7 with rfl | rfl <;> rfl
theorem opE_bytes (b : Body) : dO (opE b) := by
  unfold opE
  refine (stampEnc_bytes _ _).append ((encN_bytes _).append ((enc_bytes _).append ((stampEnc_bytes _ _).append ?_)))
  unfold restE
  split
  · exact (stampEnc_bytes _ _).append (encT_bytes _)
  · exact (enc_bytes _).append (enc_bytes _)
theorem opE_length {b : Body} (h : opOk b) : (opE b).length ≤ 100000 := by
  obtain ⟨h1, h2, ⟨h3, _⟩, h4, h5⟩ := h
  have a1 := eH h1
  have a2 := encN_length b.2.1 (vec_nums h2).1 (vec_nums h2).2
  unfold gL at h3
  have a3 := dI (n := b.2.2.1.toNat) (by omega)
  have a4 := eH h4
  unfold opE restE
  unfold restOk at h5
  by_cases hk : b.2.2.1 = 1
  · rw [if_pos hk] at h5 ⊢
    have a5 := eH h5.1.1
    have a6 := encT_length _ h5.1.2
    simp only [List.length_append]
    omega
  · rw [if_neg hk] at h5 ⊢
    obtain ⟨⟨g1, g2⟩, _⟩ := h5
    unfold gL at g1 g2
    have a5 := dI (n := b.2.2.2.2.2.2.1.toNat) (by omega)
    have a6 := dI (n := (b.2.2.2.2.2.2.2 + 1).toNat) (by omega)
    simp only [List.length_append]
    omega
theorem putAll_acc (acc l : List Int) (hl : l.length ≤ 1024) (h : ∀ x ∈ l, gL x) (ha : acc.length < 100000000000000) : bH.F acc l = some (acc ++ encN l) := by
  have h9 := dI (n := l.length) (by omega)
  rw [bH.gU, put_F l.length acc (by omega) (by omega), Option.bind_some]
  have := putAll_L l hl h l.length 0 (acc ++ d9 l.length) (by omega) (by omega) (by rw [List.length_append]; omega)
  rw [List.drop_zero] at this
  rw [show ((0 : Nat) : Int) = 0 from rfl] at this
  rw [this]
  unfold encN
  rw [List.append_assoc]
theorem putText_acc (acc : List Int) (s : ByteArray) (hs : s.size ≤ 65536) (ha : acc.length < 100000000000000) : dA.F acc s = some (acc ++ encT s) := by
  have h9 := dI (n := s.size) (by omega)
  rw [dA.gU, put_F s.size acc (by omega) (by omega), Option.bind_some, if_pos (by rw [List.length_append]; omega)]
  unfold encT
  rw [List.append_assoc]
theorem num_of {x : Int} (h : gL x) : x = ((x.toNat : Nat) : Int) ∧ x.toNat ≤ 4611686018427387904 := by
  unfold gL at h
  omega
theorem put_num (acc : List Int) {x : Int} (h : gL x) (ha : acc.length < 100000000000000) : bF.F acc x = some (acc ++ d9 x.toNat) := by
  obtain ⟨e, hx⟩ := num_of h
  have h9 := dI hx
  rw [e, put_F _ acc hx (by omega)]
  rfl
theorem opPut (acc : List Int) (t r s : Int) (d : List Int) (k nt nr pr pp : Int) (key : ByteArray) (p v : Int) (h : opOk (bodyOf t r d k nt nr pr pp key p v)) (ha : acc.length < 1000000000000) :
    dL.F acc t r s d k nt nr pr pp key p v = some (acc ++ opE (bodyOf t r d k nt nr pr pp key p v)) := by
  have hL := opE_length h
  obtain ⟨h1, h2, ⟨h3, h3'⟩, h4, h5⟩ := h
  simp only at h1 h2 h3 h3' h4 h5
  have q1 := iB h1
  have q4 := iB h4
  have b1 : (eU t r).length ≤ 18 := eH h1
  have b2 : (encN d).length ≤ 9225 := encN_length d (vec_nums h2).1 (vec_nums h2).2
  obtain ⟨_, hk9⟩ := num_of h3
  have b3 : (d9 k.toNat).length ≤ 9 := dI hk9
  have b4 : (eU nt nr).length ≤ 18 := eH h4
  unfold opE at hL ⊢
  simp only [List.length_append] at hL ⊢
  rw [dL.gU, stampPut acc (by omega) (by omega) (by omega), Option.bind_some, putAll_acc _ d (vec_nums h2).1 (vec_nums h2).2 (by simp only [List.length_append]; omega), Option.bind_some,
    put_num _ h3 (by simp only [List.length_append]; omega), Option.bind_some, stampPut _ (by omega) (by omega) (by simp only [List.length_append]; omega), Option.bind_some]
  unfold restE
  unfold restOk at h5
  by_cases hk : k = 1
  · rw [if_pos hk] at h5
    have q5 : 0 ≤ pr ∧ pr ≤ 1099511627776 ∧ 0 ≤ pp ∧ pp < 16 := iB h5.1.1
    have b5 : (eU pr pp).length ≤ 18 := eH h5.1.1
    simp only [if_pos hk] at hL ⊢
    rw [stampPut _ (by omega) (by omega) (by simp only [List.length_append]; omega), Option.bind_some, putText_acc _ key h5.1.2 (by simp only [List.length_append]; omega), Option.bind_some]
    simp only [List.append_assoc]
  · rw [if_neg hk] at h5
    have g1 : gL p := h5.1.1
    have g2 : gL (v + 1) := h5.1.2
    obtain ⟨_, e1⟩ := num_of g1
    have b5 : (d9 p.toNat).length ≤ 9 := dI e1
    have e2 := g2
    unfold gL at e2
    simp only [if_neg hk] at hL ⊢
    rw [put_num _ g1 (by simp only [List.length_append]; omega), Option.bind_some, w64_l (by omega) (by omega), put_num _ g2 (by simp only [List.length_append]; omega), Option.bind_some]
    simp only [List.append_assoc]
theorem opBytes (t r s : Int) (d : List Int) (k nt nr pr pp : Int) (key : ByteArray) (p v : Int) (hd : d.length < 9223372036854775807) :
    dF.F t r s d k nt nr pr pp key p v = some (if mayOp t r s d k nt nr pr pp key p v = true then (opE (bodyOf t r d k nt nr pr pp key p v), 0) else ([], 1)) := by
  rw [dF.gU, opMay _ _ _ _ _ _ _ _ _ _ _ _ hd, Option.bind_some]
  by_cases h : mayOp t r s d k nt nr pr pp key p v = true
  · rw [if_pos h, if_pos h, opPut [] _ _ _ _ _ _ _ _ _ _ _ _ (may_ok h) (by simp), Option.bind_some, List.nil_append]
  · rw [if_neg h, if_neg h]
theorem opCheck (t r s : Int) (d : List Int) (k nt nr pr pp : Int) (key : ByteArray) (p v : Int) (hd : d.length < 9223372036854775807) :
    dM.F t r s d k nt nr pr pp key p v = some (if mayOp t r s d k nt nr pr pp key p v = true then 0 else 1) := by
  rw [dM.gU, opMay _ _ _ _ _ _ _ _ _ _ _ _ hd, Option.bind_some]
  split <;> rfl
def zeroOp (e : Int) : T14 := (0, 0, 0, ([] : List Int), 0, 0, 0, 0, 0, (⟨#[]⟩ : ByteArray), 0, 0, 0, e)
noncomputable def seqOf (l : List Int) : Int := rd (opP l).1.2.1 (opP l).1.1.2 + 1
noncomputable def takenMay (l : List Int) : Bool := mayOp (opP l).1.1.1 (opP l).1.1.2 (seqOf l) (opP l).1.2.1 (opP l).1.2.2.1 (opP l).1.2.2.2.1.1 (opP l).1.2.2.2.1.2 (opP l).1.2.2.2.2.1.1 (opP l).1.2.2.2.2.1.2 (opP l).1.2.2.2.2.2.1 (opP l).1.2.2.2.2.2.2.1 (opP l).1.2.2.2.2.2.2.2
def wholeOp (l : List Int) (s : Int) : T14 := ((opP l).1.1.1, (opP l).1.1.2, s, (opP l).1.2.1, (opP l).1.2.2.1, (opP l).1.2.2.2.1.1, (opP l).1.2.2.2.1.2, (opP l).1.2.2.2.2.1.1, (opP l).1.2.2.2.2.1.2, (opP l).1.2.2.2.2.2.1, (opP l).1.2.2.2.2.2.2.1, (opP l).1.2.2.2.2.2.2.2, (opP l).2.1, 0)
noncomputable def tkOp (l : List Int) : T14 := if (opP l).2.2 = 0 then (if takenMay l = true then wholeOp l (seqOf l) else zeroOp 1) else zeroOp (opP l).2.2
theorem opTake (l : List Int) (hb : dO l) (hl : l.length < 4611686018427387904) : eu.F l = some (tkOp l) := by
  obtain ⟨z, z1, z2, z3⟩ := take_F1 l hb hl
  rw [eu.gU, z1, Option.bind_some]
  unfold tkOp
  by_cases h : (opP l).2.2 = 0
  · rw [if_pos h]
    have g := goodOp.was l hb h
    obtain ⟨⟨g1, g2, g3, g4, g5⟩, _⟩ := g
    have q1 := iB g1
    have q2 := isVec_iff.1 g2
    have hz := z3 h
    unfold errOf at z2
    rw [if_pos (by rw [z2, h])]
    rw [hz]
    simp only
    unfold takenMay
    by_cases h1 : (opP l).1.1.2 ≥ ((opP l).1.2.1.length : Int)
    · rw [if_pos h1, if_neg]
      · rfl
      · intro hm
        have := (may_iff.1 hm).2.2.1
        omega
    · have hr := vec_rd g2 q1.2.2.1 (by omega)
      rw [if_neg h1, if_pos q1.2.2.1, if_pos (by omega), w64_l (by omega) (by omega), opMay _ _ _ _ _ _ _ _ _ _ _ _ (by omega), Option.bind_some]
      show (if mayOp _ _ (seqOf l) _ _ _ _ _ _ _ _ _ = true then _ else _) = _
      split
      · rfl
      · rfl
  · rw [if_neg h]
    unfold errOf at z2
    rw [if_neg (by rw [z2]; exact h), z2]
    rfl
theorem tkOp_put {t r s : Int} {d : List Int} {k nt nr pr pp : Int} {key : ByteArray} {p v : Int} (h : mayOp t r s d k nt nr pr pp key p v = true) (rest : List Int) :
    tkOp (opE (bodyOf t r d k nt nr pr pp key p v) ++ rest) = (t, r, s, d, k, nt, nr, pr, pp, key, p, v, ((opE (bodyOf t r d k nt nr pr pp key p v)).length : Int), 0) := by
  have g := goodOp.put _ rest (may_ok h)
  have hs := (may_iff.1 h).2.2.2.2.1.1
  have e1 : seqOf (opE (bodyOf t r d k nt nr pr pp key p v) ++ rest) = s := by unfold seqOf; rw [g, hs]
  have e2 : takenMay (opE (bodyOf t r d k nt nr pr pp key p v) ++ rest) = true := by
    unfold takenMay
    rw [e1, g]
    exact h
  unfold tkOp
  rw [if_pos (by rw [g]), if_pos e2, e1]
  unfold wholeOp
  rw [g]
theorem eqOp_self (t r s : Int) (d : List Int) (k nt nr pr pp : Int) (key : ByteArray) (p v : Int) (hd : d.length < 9223372036854775807) :
    aV.F t r s d k nt nr pr pp key p v t r s d k nt nr pr pp key p v = some true := by
  rw [aV.gU]
  simp [eqNumbers d d hd]
theorem may_O : mayOp 1 0 1 [0] 1 1 0 0 0 (⟨#[107]⟩ : ByteArray) 0 0 = true := by
  rw [may_iff]
  refine ⟨by decide, by decide, by decide, by decide, by decide, ?_⟩
  unfold kindOk
  rw [if_pos rfl]
  decide +kernel
theorem wakes10 : aY.F = some true := by
  have h := may_O
  have hp := tkOp_put h []
  have hL := opE_length (may_ok h)
  rw [List.append_nil] at hp
  rw [aY.gU]
  unfold eG.f
  rw [Option.bind_some]
  simp only
  rw [opBytes _ _ _ _ _ _ _ _ _ _ _ _ (by decide), if_pos h, Option.bind_some]
  simp only
  rw [opTake _ (opE_bytes _) (by omega), hp, Option.bind_some]
  simp only [bU.f, Option.bind_some, if_true]
  rw [eqOp_self _ _ _ _ _ _ _ _ _ _ _ _ (by decide), Option.bind_some]
theorem heavy10 (a0 a1 a2 : Int) (d : List Int) (a4 a5 a6 a7 a8 : Int) (key : ByteArray) (a10 a11 : Int) (x : List Int) (hd : d.length < 4611686018427387904) (hk : key.size < 4611686018427387904) :
    eP.f a0 a1 a2 d a4 a5 a6 a7 a8 key a10 a11 x = some (decide (1 + d.length + key.size > 2000 ∨ x.length > 3000)) := by
  unfold eP.f fe.f
  rw [Option.bind_some, w64_l (x := 1 + (d.length : Int)) (by omega) (by omega), w64_l (by omega) (by omega)]
  split
  · exact congrArg some (decide_eq_true (by omega)).symm
  · exact congrArg some (decide_eq_decide.2 (by omega))
theorem rd31 (l : List S31) (i : Nat) (h : i < l.length) : aA l (i : Int) = l[i] := by simp [aA, h]
end Go.Proofs.Ytddnlnjmikcgfaa.PC
end
section
set_option linter.unusedVariables false
set_option linter.unusedSimpArgs false
namespace Go.Proofs.Ytddnlnjmikcgfaa.PC
open Go.RowKit Go.WB.PrintWords Go.WB.PrintLast Go.WB.PrintMore
theorem prop_cases {p : Int} (h : 0 ≤ p ∧ p < 19) : p = 0 ∨ p = 1 ∨ p = 2 ∨ p = 3 ∨ p = 4 ∨ p = 5 ∨ p = 6 ∨ p = 7 ∨ p = 8 ∨ p = 9 ∨ p = 10 ∨ p = 11 ∨ p = 12 ∨ p = 13 ∨ p = 14 ∨ p = 15 ∨ p = 16 ∨ p = 17 ∨ p = 18 := by omega
theorem rule_value {p : Int} (h : 0 ≤ p ∧ p < 19) : ∃ c, af.F p = some ((ruleV p).1, (ruleV p).2.1, c, true) := by
  unfold ruleV
  rcases prop_cases h with rfl | rfl | rfl | rfl | rfl | rfl | rfl | rfl | rfl | rfl | rfl | rfl | rfl | rfl | rfl | rfl | rfl | rfl | rfl <;>
    simp [aC.gU, aC.J0_eq, aC.J1_eq, aC.J2_eq, af.gU, af.J0_eq, af.J1_eq, af.J2_eq, af.J3_eq]
theorem no_value {p : Int} (h : ¬ (0 ≤ p ∧ p < 19)) : af.F p = some (0, 0, 0, false) := by
  have h0 : p ≠ 0 ∧ p ≠ 1 ∧ p ≠ 2 ∧ p ≠ 3 ∧ p ≠ 4 ∧ p ≠ 5 ∧ p ≠ 6 ∧ p ≠ 7 ∧ p ≠ 8 ∧ p ≠ 9 ∧ p ≠ 10 ∧ p ≠ 11 ∧ p ≠ 12 ∧ p ≠ 13 ∧ p ≠ 14 ∧ p ≠ 15 ∧ p ≠ 16 ∧ p ≠ 17 ∧ p ≠ 18 := by omega
  obtain ⟨g0, g1, g2, g3, g4, g5, g6, g7, g8, g9, g10, g11, g12, g13, g14, g15, g16, g17, g18⟩ := h0
  simp [af.gU, af.J0_eq, af.J1_eq, af.J2_eq, af.J3_eq, g0, g1, g2, g3, g4, g5, g6, g7, g8, g9, g10, g11, g12, g13, g14, g15, g16, g17, g18]
theorem refCheck (p v : Int) : ∃ c, bO.F p v = some c ∧ (c == 0) = propMay p v := by
  rw [bO.gU]
  unfold propMay
  by_cases h : 0 ≤ p ∧ p < 19
  · obtain ⟨c, hc⟩ := rule_value h
    rw [hc, Option.bind_some, if_pos rfl, decide_eq_true h, Bool.true_and]
    simp only
    by_cases h1 : v < (ruleV p).1
    · rw [if_pos h1, decide_eq_false (by omega)]
      exact ⟨_, rfl, rfl⟩
    · rw [if_neg h1]
      by_cases h2 : v > (ruleV p).2.1
      · rw [if_pos h2, decide_eq_false (by omega)]
        exact ⟨_, rfl, rfl⟩
      · rw [if_neg h2, decide_eq_true (by omega)]
        exact ⟨_, rfl, rfl⟩
  · rw [no_value h, Option.bind_some, if_neg (by decide), decide_eq_false h, Bool.false_and]
    exact ⟨_, rfl, rfl⟩
theorem refKey (s : ByteArray) : fD.f s = some (isKey s) := by
  rw [← keyIs s]
  rfl
theorem beq0 (v : Int) : ((0 : Int) == v) = (v == 0) := by
  by_cases h : v = 0
  · subst h; rfl
  · have h2 : ¬ (0 : Int) = v := fun e => h e.symm
    have e1 : ((0 : Int) == v) = false := by simpa using h2
    have e2 : (v == 0) = false := by simpa using h
    rw [e1, e2]
theorem eqOp_1 (t r s : Int) (d : List Int) (k nt nr pr pp : Int) (key : ByteArray) (p v : Int) (hd : d.length < 9223372036854775807) :
    aV.F t r s d k nt nr pr pp key 0 0 t r s d k nt nr pr pp key p v = some ((p == 0) && (v == 0)) := by
  rw [aV.gU, eqNumbers d d hd]
  simp only [beq_self_eq_true, Bool.and_self, if_true, Option.bind_some, decide_true]
  by_cases hp : p = 0
  · subst hp
    rw [if_pos rfl, beq_self_eq_true, Bool.true_and]
    exact congrArg some (beq0 v)
  · have h2 : (p == 0) = false := by simpa using hp
    rw [if_neg (fun e => hp e.symm), h2, Bool.false_and]
theorem eqOp_2 (t r s : Int) (d : List Int) (k nt nr pr pp : Int) (key : ByteArray) (p v : Int) (hd : d.length < 9223372036854775807) :
    aV.F t r s d k nt nr 0 0 (⟨#[]⟩ : ByteArray) p v t r s d k nt nr pr pp key p v = some (((pr == 0) && (pp == 0)) && (key.toList == ([] : List UInt8))) := by
  have e0 : (⟨#[]⟩ : ByteArray).toList = [] := by rw [ByteArray.toList_eq]
  rw [aV.gU, eqNumbers d d hd, e0]
  simp only [beq_self_eq_true, Bool.and_self, if_true, Option.bind_some, decide_true]
  rw [beq0 pr, beq0 pp]
  cases ((pr == 0) && (pp == 0))
  · rfl
  · rw [if_pos rfl, Bool.true_and]
    cases h : key.toList with
    | nil => rfl
    | cons a l => rfl
theorem refOp (t r s : Int) (d : List Int) (k nt nr pr pp : Int) (key : ByteArray) (p v : Int) (hd : d.length < 9223372036854775807) :
    ai.F t r s d k nt nr pr pp key p v = some (mayOp t r s d k nt nr pr pp key p v) := by
  have hJ : ai.J0 true t r s d k nt nr pr pp key p v = some false := by rw [ai.J0_eq, if_pos rfl]
  have hK : ai.J0 false t r s d k nt nr pr pp key p v = some (kindOk k pr pp key p v) := by
    rw [ai.J0_eq, if_neg (by decide)]
    unfold kindOk
    by_cases h1 : k = 1
    · rw [if_pos h1, if_pos h1, eqOp_1 _ _ _ _ _ _ _ _ _ _ _ _ hd, Option.bind_some, refPlace, Option.bind_some, refKey, Option.bind_some]
      cases ((p == 0) && (v == 0)) <;> cases fF pr pp <;> cases isKey key <;> rfl
    · rw [if_neg h1, if_neg h1]
      by_cases h2 : k = 2
      · obtain ⟨c, hc, hc2⟩ := refCheck p v
        rw [if_pos h2, if_pos h2, eqOp_2 _ _ _ _ _ _ _ _ _ _ _ _ hd, Option.bind_some, hc, Option.bind_some, hc2]
        cases (((pr == 0) && (pp == 0)) && (key.toList == ([] : List UInt8))) <;> cases propMay p v <;> rfl
      · rw [if_neg h2, if_neg h2]
  rw [ai.gU, refStamp, Option.bind_some]
  unfold mayOp
  by_cases h1 : gJ t r = true
  · have hs := stamp_range h1
    rw [if_pos h1, refVector d hd, Option.bind_some, h1, Bool.true_and]
    by_cases h2 : isVec d = true
    · rw [if_pos h2, h2, Bool.true_and]
      by_cases h3 : r < d.length
      · have hr := vec_rd h2 hs.2.2.1 h3
        rw [if_neg (by omega), decide_eq_true h3, Bool.true_and]
        by_cases h4 : s < 1
        · rw [if_pos h4, hJ, decide_eq_false (show ¬ (s = rd d r + 1 ∧ s ≤ 1099511627776) by omega), Bool.false_and, Bool.and_false]
        · rw [if_neg h4]
          by_cases h5 : s > 1099511627776
          · rw [if_pos h5, hJ, decide_eq_false (show ¬ (s = rd d r + 1 ∧ s ≤ 1099511627776) by omega), Bool.false_and, Bool.and_false]
          · rw [if_neg h5, if_pos hs.2.2.1, if_pos h3, w64_l (by omega) (by omega)]
            by_cases h6 : s = rd d r + 1
            · rw [if_pos h6, refStamp, Option.bind_some, decide_eq_true (show s = rd d r + 1 ∧ s ≤ 1099511627776 by omega), Bool.true_and]
              cases gJ nt nr
              · rw [Bool.false_and]; exact hJ
              · rw [Bool.true_and]; exact hK
            · rw [if_neg h6, hJ, decide_eq_false (show ¬ (s = rd d r + 1 ∧ s ≤ 1099511627776) from fun h => h6 h.1), Bool.false_and, Bool.and_false]
      · rw [if_pos (by omega), hJ, decide_eq_false h3, Bool.false_and]
    · have h2' : isVec d = false := by simpa using h2
      rw [if_neg h2, hJ, h2', Bool.false_and]
  · have h1' : gJ t r = false := by simpa using h1
    rw [if_neg h1, hJ, h1', Bool.false_and]
theorem refNums_L (l : List Int) (hl : l.length ≤ 1024) (h : ∀ x ∈ l, gL x) : ∀ (d i : Nat) (acc : List Int), i ≤ l.length → l.length - i = d → acc.length + 9 * d < 140737488355328 →
    bf.L0 l acc (i : Int) = some (acc ++ encs (l.drop i)) := by
  intro d
  induction d with
  | zero =>
    intro i acc hi hd ha
    rw [bf.iX, if_neg (by omega), List.drop_of_length_le (by omega)]
    simp [encs]
  | succ d ih =>
    intro i acc hi hd ha
    have hil : i < l.length := by omega
    have hx := h l[i] (List.getElem_mem hil)
    obtain ⟨e, hx2⟩ := num_of hx
    have h9 := dI hx2
    rw [bf.iX, if_pos (by omega), if_pos (by omega), rd_nat l i hil, List.drop_eq_getElem_cons hil]
    show (aD.F l[i]).bind _ = some (acc ++ (d9 l[i].toNat ++ encs (l.drop (i + 1))))
    rw [e, refNum_F _ hx2, Option.bind_some, if_pos (by omega), w64s (by omega) (by omega), ← List.append_assoc, Int.toNat_natCast]
    exact ih (i + 1) _ (by omega) (by omega) (by rw [List.length_append]; omega)
theorem refNums (l : List Int) (hl : l.length ≤ 1024) (h : ∀ x ∈ l, gL x) : bf.F l = some (encN l) := by
  have h9 := dI (n := l.length) (by omega)
  rw [bf.gU, refNum_F l.length (by omega), Option.bind_some]
  have := refNums_L l hl h l.length 0 (d9 l.length) (by omega) (by omega) (by omega)
  rw [List.drop_zero] at this
  exact this
theorem refText (s : ByteArray) (h : s.size ≤ 65536) : bW.F s = some (encT s) := by
  have h9 := dI (n := s.size) (by omega)
  rw [bW.gU, refNum_F s.size (by omega), Option.bind_some, if_pos (by omega)]
  rfl
theorem refNum_x {x : Int} (h : gL x) : aD.F x = some (d9 x.toNat) := by
  obtain ⟨e, hx⟩ := num_of h
  rw [e, refNum_F _ hx]
  rfl
theorem refOpBytes (t r s : Int) (d : List Int) (k nt nr pr pp : Int) (key : ByteArray) (p v : Int) (h : opOk (bodyOf t r d k nt nr pr pp key p v)) :
    bg.F t r s d k nt nr pr pp key p v = some (opE (bodyOf t r d k nt nr pr pp key p v)) := by
  have hL := opE_length h
  obtain ⟨h1, h2, ⟨h3, h3'⟩, h4, h5⟩ := h
  simp only at h1 h2 h3 h3' h4 h5
  have b1 : (eU t r).length ≤ 18 := eH h1
  have b2 : (encN d).length ≤ 9225 := encN_length d (vec_nums h2).1 (vec_nums h2).2
  obtain ⟨_, hk9⟩ := num_of h3
  have b3 : (d9 k.toNat).length ≤ 9 := dI hk9
  have b4 : (eU nt nr).length ≤ 18 := eH h4
  unfold opE
  rw [bg.gU, refBytes h1, Option.bind_some, refNums d (vec_nums h2).1 (vec_nums h2).2, Option.bind_some, if_pos (by omega), Option.bind_some, refNum_x h3, Option.bind_some, if_pos (by simp only [List.length_append]; omega), Option.bind_some,
    refBytes h4, Option.bind_some, if_pos (by simp only [List.length_append]; omega), Option.bind_some]
  unfold restE
  unfold restOk at h5
  by_cases hk : k = 1
  · rw [if_pos hk] at h5
    have g1 : fF pr pp = true := h5.1.1
    have g2 : key.size ≤ 65536 := h5.1.2
    have b5 : (eU pr pp).length ≤ 18 := eH g1
    have b6 := encT_length key g2
    simp only [if_pos hk]
    rw [refBytes g1, Option.bind_some, if_pos (by simp only [List.length_append]; omega), Option.bind_some, refText key g2, Option.bind_some, if_pos (by simp only [List.length_append]; omega)]
    simp only [List.append_assoc]
  · rw [if_neg hk] at h5
    have g1 : gL p := h5.1.1
    have g2 : gL (v + 1) := h5.1.2
    obtain ⟨_, e1⟩ := num_of g1
    obtain ⟨_, e3⟩ := num_of g2
    have b5 : (d9 p.toNat).length ≤ 9 := dI e1
    have b6 : (d9 (v + 1).toNat).length ≤ 9 := dI e3
    have e2 := g2
    unfold gL at e2
    simp only [if_neg hk]
    rw [refNum_x g1, Option.bind_some, if_pos (by simp only [List.length_append]; omega), Option.bind_some, w64_l (by omega) (by omega), refNum_x g2, Option.bind_some, if_pos (by simp only [List.length_append]; omega)]
    simp only [List.append_assoc]
end Go.Proofs.Ytddnlnjmikcgfaa.PC
end
section
set_option linter.unusedVariables false
set_option linter.unusedSimpArgs false
namespace Go.Proofs.Ytddnlnjmikcgfaa.PC
open Go.RowKit Go.WB.PrintWords Go.WB.PrintLast Go.WB.PrintMore
theorem bytes_L0 (l : List S31) (hl : l.length ≤ 9223372036854775807) (hok : ∀ a ∈ l, ok_T31 a) : ∀ (d i : Nat), i ≤ l.length → l.length - i = d → ae.L0 l (i : Int) = some true := by
  intro d
  induction d with
  | zero =>
    intro i hi hd
    rw [ae.iX, if_neg (by omega), ae.J1_eq, if_neg (by simp), wakes10]
    rfl
  | succ d ih =>
    intro i hi hd
    have hil : i < l.length := by omega
    have next : ae.L0 l (wrap64 ((i : Int) + 1)) = some true := by
      rw [w64s (by omega) (by omega)]
      exact ih (i + 1) (by omega) (by omega)
    have h2 : (i : Int) < (l.length : Int) := by omega
    rw [ae.iX, if_pos h2, ae.J1_eq]
    by_cases h12 : (i : Int) < 12
    · obtain ⟨⟨_, _, hdep, _, _, _, hkey, _, _⟩, hx⟩ := hok l[i] (List.getElem_mem hil)
      have hdl : l[i].f0.f2.length < 4611686018427387904 := by have := hdep.2.1; omega
      have hkl : l[i].f0.f6.size < 4611686018427387904 := by omega
      rw [if_pos (decide_eq_true h12), if_pos (by omega), if_pos h2, rd31 l i hil, heavy10 _ _ _ _ _ _ _ _ _ _ _ _ _ hdl hkl, Option.bind_some]
      by_cases hv : 1 + l[i].f0.f2.length + l[i].f0.f6.size > 2000 ∨ l[i].f1.length > 3000
      · rw [if_pos (decide_eq_true hv)]
      · have hd2 : l[i].f0.f2.length ≤ 2000 := by omega
        rw [if_neg (by simpa using hv), refOp _ _ _ _ _ _ _ _ _ _ _ _ (by omega), Option.bind_some]
        have hc : bG.F l[i].f0.f0.f0 l[i].f0.f0.f1 l[i].f0.f1 l[i].f0.f2 l[i].f0.f3 l[i].f0.f4.f0 l[i].f0.f4.f1 l[i].f0.f5.f0 l[i].f0.f5.f1 l[i].f0.f6 l[i].f0.f7 l[i].f0.f8 = some (l[i].f0.f0.f0, l[i].f0.f0.f1, l[i].f0.f1, l[i].f0.f2, l[i].f0.f3, l[i].f0.f4.f0, l[i].f0.f4.f1, l[i].f0.f5.f0, l[i].f0.f5.f1, l[i].f0.f6, l[i].f0.f7, l[i].f0.f8) := by
          rw [bG.gU, copyNumbers _ (by omega), Option.bind_some]
        by_cases hm : mayOp l[i].f0.f0.f0 l[i].f0.f0.f1 l[i].f0.f1 l[i].f0.f2 l[i].f0.f3 l[i].f0.f4.f0 l[i].f0.f4.f1 l[i].f0.f5.f0 l[i].f0.f5.f1 l[i].f0.f6 l[i].f0.f7 l[i].f0.f8 = true
        · have hL := opE_length (may_ok hm)
          rw [if_pos hm, refOpBytes _ _ _ _ _ _ _ _ _ _ _ _ (may_ok hm), Option.bind_some, ae.J2_eq, if_pos (by omega), if_pos h2, rd31 l i hil, hc, Option.bind_some]
          simp only
          rw [opBytes _ _ _ _ _ _ _ _ _ _ _ _ (by omega), if_pos hm, Option.bind_some, opCheck _ _ _ _ _ _ _ _ _ _ _ _ (by omega), if_pos hm, Option.bind_some]
          unfold bU.f
          simp only [Option.bind_some, if_true]
          rw [eqBytes _ _ (by omega), Option.bind_some, if_pos (by simp), eqOp_self _ _ _ _ _ _ _ _ _ _ _ _ (by omega), Option.bind_some, ae.J3_eq, if_neg (by decide)]
          exact next
        · rw [if_neg hm, ae.J2_eq, if_pos (by omega), if_pos h2, rd31 l i hil, hc, Option.bind_some]
          simp only
          rw [opBytes _ _ _ _ _ _ _ _ _ _ _ _ (by omega), if_neg hm, Option.bind_some, opCheck _ _ _ _ _ _ _ _ _ _ _ _ (by omega), if_neg hm, Option.bind_some]
          unfold bU.f
          simp only [Option.bind_some, if_true]
          rw [eqBytes _ _ (by simp), Option.bind_some, if_pos (by simp), eqOp_self _ _ _ _ _ _ _ _ _ _ _ _ (by omega), Option.bind_some, ae.J3_eq, if_neg (by decide)]
          exact next
    · rw [if_neg (by simpa using h12), wakes10]
      rfl
theorem ae.proof : ae.Pure := by
  intro l ⟨hm, _, hok⟩
  refine LB.Lim.rounds (ae.bS l) ?_
  rw [ae.gU]
  exact bytes_L0 l hm hok l.length 0 (by omega) (by omega)
end Go.Proofs.Ytddnlnjmikcgfaa.PC
end
section
namespace Go.Proofs.Ytddnlnjmikcgfaa.PC
open Go.RowKit Go.WB.PrintWords Go.WB.PrintLast Go.WB.PrintMore
attribute [local go_sem] cB cZ dE dD bP bQ cO cK
set_option linter.unusedVariables false
set_option linter.unusedSimpArgs false
open Go.LB (sT sZ sS cells3 aK dQ aU)
open Go.SB (rpu rpf rtk rpu0 rpf0 rtk0 rbs rud pS)
set_option maxHeartbeats 40000000
set_option maxRecDepth 100000
theorem fe.calls (a0_0 : Int) (a0_1 : Int) (a0_2 : Int) (A0_3 : Option Addr) (c0_3 : Nat) (l0_3 : List Int) (a0_4 : Int) (a0_5 : Int) (a0_6 : Int) (a0_7 : Int) (a0_8 : Int) (a0_9 : ByteArray) (a0_10 : Int) (a0_11 : Int) (r : Int) (w : World) (hr0_3 : Kd.C (Kd.int .i64) w A0_3 l0_3.length l0_3) (hc0_3 : l0_3.length ≤ c0_3) (h : fe.f a0_0 a0_1 a0_2 l0_3 a0_4 a0_5 a0_6 a0_7 a0_8 a0_9 a0_10 a0_11 = some r) :
  Calls Try.prog 45 #[.agg #[.int .i64 a0_0, .int .i64 a0_1, .int .i64 a0_2, .slice A0_3 l0_3.length c0_3, .int .i64 a0_4, .int .i64 a0_5, .int .i64 a0_6, .int .i64 a0_7, .int .i64 a0_8, .string a0_9, .int .i64 a0_10, .int .i64 a0_11]] w fun e w' => e = .returned (.int .i64 r) ∧ Below w.heap.size w w' := by
 have hu28 := Try.underlying28;have HR0_3 := aa.mk hr0_3;have HC0_3 := aa.mk hc0_3;clear hr0_3 hc0_3;have HB := aa.mk (Below.refl w.heap.size w);have H : (some (wrap64 ((wrap64 (1 + (l0_3.length : Int))) + (a0_9.size : Int)))) = some r := h;clear h;obtain rfl := Option.some.inj H;go_enter Try.func45, Try.ntmps45;go_wp2_with (first | ((with_reducible refine bJ (N := 1) rfl ?_); refine bD ?hg (N := 1) ?hd (cs := #[.int .i64 a0_0, .int .i64 a0_1, .int .i64 a0_2, .slice A0_3 l0_3.length c0_3, .int .i64 a0_4, .int .i64 a0_5, .int .i64 a0_6, .int .i64 a0_7, .int .i64 a0_8, .string a0_9, .int .i64 a0_10, .int .i64 a0_11]) (t := 28) ?hr ?_; (case hd => rfl); (case hg => rfl); (case hr => first | (go_simp; done) | (go_simp; rfl)); intro gb101 hg w2 hbox hb; replace hb : Below (World.heap w).size w w2 := ⟨hb.os, hb.tape, hb.output, hb.size, hb.block⟩; have n0_ := aa.mk (aj HB.out hb); have n1_ := aa.mk (hbox); have n2_ := aa.mk ((by rw [hg]; exact HB.out.size : w.heap.size ≤ gb101)); have n3_ := n2_; clear HB; have HB := n0_; have BK101 := n1_; have GW101 := n2_; have GE101 := n3_; clear n0_ n1_ n2_ n3_ hb hbox hg; obtain ⟨C3_0, C3_1, C3_2, C3_3, C3_4, C3_5, C3_6, C3_7, C3_8, C3_9, C3_a, C3_b⟩ := LB.aK BK101.out; obtain ⟨F3_0, F3_1, F3_2, F3_3, F3_4, F3_5, F3_6, F3_7, F3_8, F3_9, F3_a, F3_b⟩ := LB.aU BK101.out));go_ret;exact ⟨by first | rfl | (simp [au, ak] <;> rfl) | (simp [*, au, ak] <;> rfl), by exact rud HB.out rfl rfl rfl rfl⟩
theorem eP.calls (a0_0 : Int) (a0_1 : Int) (a0_2 : Int) (A0_3 : Option Addr) (c0_3 : Nat) (l0_3 : List Int) (a0_4 : Int) (a0_5 : Int) (a0_6 : Int) (a0_7 : Int) (a0_8 : Int) (a0_9 : ByteArray) (a0_10 : Int) (a0_11 : Int) (A0_12 : Option Addr) (c0_12 : Nat) (l0_12 : List Int) (r : Bool) (w : World) (hr0_3 : Kd.C (Kd.int .i64) w A0_3 l0_3.length l0_3) (hc0_3 : l0_3.length ≤ c0_3) (hr0_12 : Kd.C (Kd.int .u8) w A0_12 l0_12.length l0_12) (hc0_12 : l0_12.length ≤ c0_12) (h : eP.f a0_0 a0_1 a0_2 l0_3 a0_4 a0_5 a0_6 a0_7 a0_8 a0_9 a0_10 a0_11 l0_12 = some r) :
  Calls Try.prog 14 #[.agg #[.int .i64 a0_0, .int .i64 a0_1, .int .i64 a0_2, .slice A0_3 l0_3.length c0_3, .int .i64 a0_4, .int .i64 a0_5, .int .i64 a0_6, .int .i64 a0_7, .int .i64 a0_8, .string a0_9, .int .i64 a0_10, .int .i64 a0_11, .slice A0_12 l0_12.length c0_12]] w fun e w' => e = .returned (.bool r) ∧ Below w.heap.size w w' := by
 have hu31 := Try.underlying31;have hu28 := Try.underlying28;have HR0_3 := aa.mk hr0_3;have HC0_3 := aa.mk hc0_3;clear hr0_3 hc0_3;have HR0_12 := aa.mk hr0_12;have HC0_12 := aa.mk hc0_12;clear hr0_12 hc0_12;have HB := aa.mk (Below.refl w.heap.size w);have H : ((fe.f a0_0 a0_1 a0_2 l0_3 a0_4 a0_5 a0_6 a0_7 a0_8 a0_9 a0_10 a0_11).bind fun t103 => (if t103 > 2000 then (some true) else (some (decide ((l0_12.length : Int) > 3000))))) = some r := h;clear h;replace H := Option.bind_eq_some_iff.mp H;obtain ⟨t103, A20, H⟩ := H;replace H : (if t103 > 2000 then (some true) else (some (decide ((l0_12.length : Int) > 3000)))) = some r := H;have A2 := aa.mk A20;clear A20;by_cases c3 : t103 > 2000
 ·rw [if_pos c3] at H
  have c3b0 : decide (2000 < t103) = true := decide_eq_true c3;clear c3;obtain rfl := Option.some.inj H;go_enter Try.func14, Try.ntmps14;go_wp2_with (first | ((with_reducible refine bJ (N := 1) rfl ?_); (try (refine fH (by rfl) ?_; dsimp only)); refine bD ?hg (N := 1) ?hd (cs := #[.int .i64 a0_0, .int .i64 a0_1, .int .i64 a0_2, .slice A0_3 l0_3.length c0_3, .int .i64 a0_4, .int .i64 a0_5, .int .i64 a0_6, .int .i64 a0_7, .int .i64 a0_8, .string a0_9, .int .i64 a0_10, .int .i64 a0_11, .slice A0_12 l0_12.length c0_12]) (t := 31) ?hr ?_; (case hd => rfl); (case hg => rfl); (case hr => first | (go_simp; done) | (go_simp; rfl)); intro gb102 hg w4 hbox hb; replace hb : Below (World.heap w).size w w4 := ⟨hb.os, hb.tape, hb.output, hb.size, hb.block⟩; have n0_ := aa.mk (aj HB.out hb); have n1_ := aa.mk (hbox); have n2_ := aa.mk ((by rw [hg]; exact HB.out.size : w.heap.size ≤ gb102)); have n3_ := n2_; clear HB; have HB := n0_; have BK102 := n1_; have GW102 := n2_; have GE102 := n3_; clear n0_ n1_ n2_ n3_ hb hbox hg; obtain ⟨C5_0, C5_1, C5_2, C5_3, C5_4, C5_5, C5_6, C5_7, C5_8, C5_9, C5_a, C5_b, C5_c⟩ := LB.cells13 BK102.out; obtain ⟨F5_0, F5_1, F5_2, F5_3, F5_4, F5_5, F5_6, F5_7, F5_8, F5_9, F5_a, F5_b, F5_c⟩ := LB.frozen13 BK102.out) | ((with_reducible refine aQ (f := 45) rfl ?_); refine bZ (some 5) rfl rfl Try.func45 (by kernel_rfl) rfl #[.agg #[.int .i64 a0_0, .int .i64 a0_1, .int .i64 a0_2, .slice A0_3 l0_3.length c0_3, .int .i64 a0_4, .int .i64 a0_5, .int .i64 a0_6, .int .i64 a0_7, .int .i64 a0_8, .string a0_9, .int .i64 a0_10, .int .i64 a0_11]] rfl (by (try simp only [SB.lA, SB.lC, SB.lN]); first | done | rfl | (simp only [SB.lD, SB.lT]; rfl)) ?_; (with_reducible refine (fe.calls a0_0 a0_1 a0_2 _ _ l0_3 a0_4 a0_5 a0_6 a0_7 a0_8 a0_9 a0_10 a0_11 t103 _ ?side1 ?side2 A2.out).mono ?_); (case side1 => repeat (first | exact (Kd.dh HR0_3.out HB.out) | with_reducible first | refine Kd.bN ?_ _ | refine Kd.bM ?_ _ | refine Kd.dm ?_)); (case side2 => exact HC0_3.out); rintro e w6 ⟨rfl, hb⟩; refine ⟨_, rfl, ?_⟩; replace hb : Below (World.heap w4).size w4 w6 := ⟨hb.os, hb.tape, hb.output, hb.size, hb.block⟩; have n0_ := aa.mk (aZ BK102.out hb); have n1_ := aa.mk (aj HB.out hb); clear BK102 HB; have BK102 := n0_; have HB := n1_; clear n0_ n1_; (try clear hb hb2 hk hi)));go_ret;exact ⟨by first | rfl | (simp [au, ak] <;> rfl) | (simp [*, au, ak] <;> rfl), by exact rud HB.out rfl rfl rfl rfl⟩
 ·rw [if_neg c3] at H
  have c3b0 : decide (2000 < t103) = false := decide_eq_false c3;clear c3;obtain rfl := Option.some.inj H;go_enter Try.func14, Try.ntmps14;go_wp2_with (first | ((with_reducible refine bJ (N := 1) rfl ?_); (try (refine fH (by rfl) ?_; dsimp only)); refine bD ?hg (N := 1) ?hd (cs := #[.int .i64 a0_0, .int .i64 a0_1, .int .i64 a0_2, .slice A0_3 l0_3.length c0_3, .int .i64 a0_4, .int .i64 a0_5, .int .i64 a0_6, .int .i64 a0_7, .int .i64 a0_8, .string a0_9, .int .i64 a0_10, .int .i64 a0_11, .slice A0_12 l0_12.length c0_12]) (t := 31) ?hr ?_; (case hd => rfl); (case hg => rfl); (case hr => first | (go_simp; done) | (go_simp; rfl)); intro gb102 hg w7 hbox hb; replace hb : Below (World.heap w).size w w7 := ⟨hb.os, hb.tape, hb.output, hb.size, hb.block⟩; have n0_ := aa.mk (aj HB.out hb); have n1_ := aa.mk (hbox); have n2_ := aa.mk ((by rw [hg]; exact HB.out.size : w.heap.size ≤ gb102)); have n3_ := n2_; clear HB; have HB := n0_; have BK102 := n1_; have GW102 := n2_; have GE102 := n3_; clear n0_ n1_ n2_ n3_ hb hbox hg; obtain ⟨C8_0, C8_1, C8_2, C8_3, C8_4, C8_5, C8_6, C8_7, C8_8, C8_9, C8_a, C8_b, C8_c⟩ := LB.cells13 BK102.out; obtain ⟨F8_0, F8_1, F8_2, F8_3, F8_4, F8_5, F8_6, F8_7, F8_8, F8_9, F8_a, F8_b, F8_c⟩ := LB.frozen13 BK102.out) | ((with_reducible refine aQ (f := 45) rfl ?_); refine bZ (some 5) rfl rfl Try.func45 (by kernel_rfl) rfl #[.agg #[.int .i64 a0_0, .int .i64 a0_1, .int .i64 a0_2, .slice A0_3 l0_3.length c0_3, .int .i64 a0_4, .int .i64 a0_5, .int .i64 a0_6, .int .i64 a0_7, .int .i64 a0_8, .string a0_9, .int .i64 a0_10, .int .i64 a0_11]] rfl (by (try simp only [SB.lA, SB.lC, SB.lN]); first | done | rfl | (simp only [SB.lD, SB.lT]; rfl)) ?_; (with_reducible refine (fe.calls a0_0 a0_1 a0_2 _ _ l0_3 a0_4 a0_5 a0_6 a0_7 a0_8 a0_9 a0_10 a0_11 t103 _ ?side1 ?side2 A2.out).mono ?_); (case side1 => repeat (first | exact (Kd.dh HR0_3.out HB.out) | with_reducible first | refine Kd.bN ?_ _ | refine Kd.bM ?_ _ | refine Kd.dm ?_)); (case side2 => exact HC0_3.out); rintro e w9 ⟨rfl, hb⟩; refine ⟨_, rfl, ?_⟩; replace hb : Below (World.heap w7).size w7 w9 := ⟨hb.os, hb.tape, hb.output, hb.size, hb.block⟩; have n0_ := aa.mk (aZ BK102.out hb); have n1_ := aa.mk (aj HB.out hb); clear BK102 HB; have BK102 := n0_; have HB := n1_; clear n0_ n1_; (try clear hb hb2 hk hi); obtain ⟨Ca_0, Ca_1, Ca_2, Ca_3, Ca_4, Ca_5, Ca_6, Ca_7, Ca_8, Ca_9, Ca_a, Ca_b, Ca_c⟩ := LB.cells13 BK102.out; obtain ⟨Fa_0, Fa_1, Fa_2, Fa_3, Fa_4, Fa_5, Fa_6, Fa_7, Fa_8, Fa_9, Fa_a, Fa_b, Fa_c⟩ := LB.frozen13 BK102.out));go_ret;exact ⟨by first | rfl | (simp [au, ak] <;> rfl) | (simp [*, au, ak] <;> rfl), by exact rud HB.out rfl rfl rfl rfl⟩
end Go.Proofs.Ytddnlnjmikcgfaa.PC
end
section
namespace Go.Proofs.Ytddnlnjmikcgfaa.PC
open Go.RowKit Go.WB.PrintWords Go.WB.PrintLast Go.WB.PrintMore
attribute [local go_sem] cB cZ dE dD bP bQ cO cK
set_option linter.unusedVariables false
set_option linter.unusedSimpArgs false
set_option maxHeartbeats 40000000
set_option maxRecDepth 100000
theorem eqA25 (d : Nat) (w : World) (x0 y0 : Int) (x1 y1 : Int) :
    (Op.equalIn (d + 2) 25 (.agg #[.int .i64 x0, .int .i64 x1]) (.agg #[.int .i64 y0, .int .i64 y1])).run Try.prog w = .ok (x0 == y0 && (x1 == y1)) w := by
  refine eqA_of Try.underlying25 (by kernel_rfl) ?_
  refine eqf_cons (by rfl) (by go_simp; rfl) (by go_simp; rfl) (by go_simp) ?_
  exact eqf_last (by rfl) (by go_simp; rfl) (by go_simp; rfl) (by go_simp)
end Go.Proofs.Ytddnlnjmikcgfaa.PC
end
section
namespace Go.Proofs.Ytddnlnjmikcgfaa.PC
open Go.RowKit Go.WB.PrintWords Go.WB.PrintLast Go.WB.PrintMore
attribute [local go_sem] cB cZ dE dD bP bQ cO cK
set_option linter.unusedVariables false
set_option linter.unusedSimpArgs false
open Go.LB (sT sZ sS cells3 aK dQ aU)
open Go.SB (rpu rpf rtk rpu0 rpf0 rtk0 rbs rud pS)
set_option maxHeartbeats 40000000
set_option maxRecDepth 100000
theorem aH.calls (k : Nat) (A0 : Option Addr) (c0 : Nat) (l0 : List Int) (A1 : Option Addr) (c1 : Nat) (l1 : List Int) (r : Bool) (w : World) (hr0 : Kd.C (Kd.int .i64) w A0 l0.length l0) (hc0 : l0.length ≤ c0) (hr1 : Kd.C (Kd.int .i64) w A1 l1.length l1) (hc1 : l1.length ≤ c1) (h : aH.f k l0 l1 = some r) :
  Calls Try.prog 52 #[.slice A0 l0.length c0, .slice A1 l1.length c1] w fun e w' => e = .returned (.bool r) ∧ bC w w' := by
 have HR0 := aa.mk hr0;have HC0 := aa.mk hc0;clear hr0 hc0;have HR1 := aa.mk hr1;have HC1 := aa.mk hc1;clear hr1 hc1;have H : (if (l0.length : Int) = (l1.length : Int) then (aH.l0 k l0 l1 0) else (some false)) = some r := h;clear h;by_cases c3 : (l0.length : Int) = (l1.length : Int)
 ·rw [if_pos c3] at H
  have c3b0 : ((l0.length : Int) == (l1.length : Int)) = true := beq_iff_eq.mpr c3;have c3b1 : ((l0.length : Int) != (l1.length : Int)) = false := bne_eq_false_iff_eq.mpr c3;have c3b2 : (l0.length == l1.length) = true := by first | simpa using c3 | (simp at c3 ⊢; omega)
  clear c3;have H' := aa.mk H;clear H;go_enter Try.func52, Try.ntmps52;go_wp2;repeat (go_quiet (fail); try go_wp2)
  go_loopg [5] k (fun kq v5 w' => ∃ (x5_1 : Int), v5 = .int .i64 x5_1 ∧ aa (aH.l0 kq l0 l1 x5_1 = some r) ∧ aa (kq ≤ k) ∧ bC w w')
  case atStart => exact ⟨(0), (by first | rfl | (simp; done) | (simp [*]; done)), H', ⟨Nat.le_refl _⟩, by repeat (first | exact bC.refl _ | apply bC.step)⟩
  case round =>
   clear H';(try clear c1 p2 c3 c3b0 c3b1 c3b2);obtain ⟨x5_1, rfl, HA, HK1, ⟨m1, rfl⟩⟩ := hrel;cases gk with
   | zero => exact absurd HA.out (by simp [aH.l0])
   | succ k1 =>
    have H := HA.out;clear HA;simp only [aH.l0] at H;by_cases c4 : x5_1 < (l0.length : Int)
    ·rw [if_pos c4] at H
     have c4b0 : decide (x5_1 < (l0.length : Int)) = true := decide_eq_true c4;clear c4;by_cases c5 : 0 ≤ x5_1
     ·rw [if_pos c5] at H
      have c5b0 : decide (0 ≤ x5_1) = true := decide_eq_true c5;clear c5;by_cases c6 : x5_1 < (l1.length : Int)
      ·rw [if_pos c6] at H
       have c6b0 : decide (x5_1 < (l1.length : Int)) = true := decide_eq_true c6;clear c6;by_cases c7 : (rd l0 x5_1) = (rd l1 x5_1)
       ·rw [if_pos c7] at H
        have c7b0 : ((rd l0 x5_1) == (rd l1 x5_1)) = true := beq_iff_eq.mpr c7;have c7b1 : ((rd l0 x5_1) != (rd l1 x5_1)) = false := bne_eq_false_iff_eq.mpr c7;clear c7;have H' := aa.mk H;clear H;have p247 : 0 ≤ (x5_1 : Int) := of_decide_eq_true (by first | (with_reducible assumption) | assumption);have q247 : x5_1 < (l0.length : Int) := of_decide_eq_true (by first | (with_reducible assumption) | assumption);obtain ⟨ad247, e247, hx247_0⟩ := Kd.fG HR0.out x5_1 p247 q247;cases e247
        replace p247 := eq_true p247;replace q247 := eq_true q247;have p248 : 0 ≤ (x5_1 : Int) := of_decide_eq_true (by first | (with_reducible assumption) | assumption);have q248 : x5_1 < (l1.length : Int) := of_decide_eq_true (by first | (with_reducible assumption) | assumption);obtain ⟨ad248, e248, hx248_0⟩ := Kd.fG HR1.out x5_1 p248 q248;cases e248
        replace p248 := eq_true p248;replace q248 := eq_true q248;go_wp2;repeat (go_quiet (fail); try go_wp2)
        go_roundg k1
        case measure => have := HK1.out; omega
        case rel => exact ⟨(wrap64 (x5_1 + 1)), (by first | rfl | (simp; done) | (simp [*]; done)), H', ⟨by have := HK1.out; omega⟩, by repeat (first | exact bC.refl _ | apply bC.step)⟩
       ·rw [if_neg c7] at H
        have c7b0 : ((rd l0 x5_1) == (rd l1 x5_1)) = false := beq_eq_false_iff_ne.mpr c7;have c7b1 : ((rd l0 x5_1) != (rd l1 x5_1)) = true := bne_iff_ne.mpr c7;obtain rfl := Option.some.inj H;have p247 : 0 ≤ (x5_1 : Int) := of_decide_eq_true (by first | (with_reducible assumption) | assumption);have q247 : x5_1 < (l0.length : Int) := of_decide_eq_true (by first | (with_reducible assumption) | assumption);obtain ⟨ad247, e247, hx247_0⟩ := Kd.fG HR0.out x5_1 p247 q247;cases e247
        replace p247 := eq_true p247;replace q247 := eq_true q247;have p248 : 0 ≤ (x5_1 : Int) := of_decide_eq_true (by first | (with_reducible assumption) | assumption);have q248 : x5_1 < (l1.length : Int) := of_decide_eq_true (by first | (with_reducible assumption) | assumption);obtain ⟨ad248, e248, hx248_0⟩ := Kd.fG HR1.out x5_1 p248 q248;cases e248
        replace p248 := eq_true p248;replace q248 := eq_true q248;go_wp2;repeat (go_quiet (fail); try go_wp2)
        go_ret;exact ⟨by first | rfl | (simp; done) | (simp [*]; done), by repeat (first | exact bC.refl _ | apply bC.step)⟩
      ·rw [if_neg c6] at H
       exact absurd H (by simp)
     ·rw [if_neg c5] at H
      exact absurd H (by simp)
    ·rw [if_neg c4] at H
     have c4b0 : decide (x5_1 < (l0.length : Int)) = false := decide_eq_false c4;clear c4;obtain rfl := Option.some.inj H;go_wp2;repeat (go_quiet (fail); try go_wp2)
     go_ret;exact ⟨by first | rfl | (simp; done) | (simp [*]; done), by repeat (first | exact bC.refl _ | apply bC.step)⟩
 ·rw [if_neg c3] at H
  have c3b0 : ((l0.length : Int) == (l1.length : Int)) = false := beq_eq_false_iff_ne.mpr c3;have c3b1 : ((l0.length : Int) != (l1.length : Int)) = true := bne_iff_ne.mpr c3;have c3b2 : (l0.length == l1.length) = false := by first | simpa using c3 | (simp at c3 ⊢; omega)
  obtain rfl := Option.some.inj H;go_enter Try.func52, Try.ntmps52;go_wp2;repeat (go_quiet (fail); try go_wp2)
  go_ret;exact ⟨by first | rfl | (simp; done) | (simp [*]; done), by repeat (first | exact bC.refl _ | apply bC.step)⟩
end Go.Proofs.Ytddnlnjmikcgfaa.PC
end
section
namespace Go.Proofs.Ytddnlnjmikcgfaa.PC
open Go.RowKit Go.WB.PrintWords Go.WB.PrintLast Go.WB.PrintMore
attribute [local go_sem] cB cZ dE dD bP bQ cO cK
set_option linter.unusedVariables false
set_option linter.unusedSimpArgs false
attribute [local go_sem high] eqA25
open Go.LB (sT sZ sS cells3 aK dQ aU)
open Go.SB (rpu rpf rtk rpu0 rpf0 rtk0 rbs rud pS)
set_option maxHeartbeats 40000000
set_option maxRecDepth 100000
theorem aV.calls (k : Nat) (a0_0 : Int) (a0_1 : Int) (a0_2 : Int) (A0_3 : Option Addr) (c0_3 : Nat) (l0_3 : List Int) (a0_4 : Int) (a0_5 : Int) (a0_6 : Int) (a0_7 : Int) (a0_8 : Int) (a0_9 : ByteArray) (a0_10 : Int) (a0_11 : Int) (a1_0 : Int) (a1_1 : Int) (a1_2 : Int) (A1_3 : Option Addr) (c1_3 : Nat) (l1_3 : List Int) (a1_4 : Int) (a1_5 : Int) (a1_6 : Int) (a1_7 : Int) (a1_8 : Int) (a1_9 : ByteArray) (a1_10 : Int) (a1_11 : Int) (r : Bool) (w : World) (hr0_3 : Kd.C (Kd.int .i64) w A0_3 l0_3.length l0_3) (hc0_3 : l0_3.length ≤ c0_3) (hr1_3 : Kd.C (Kd.int .i64) w A1_3 l1_3.length l1_3) (hc1_3 : l1_3.length ≤ c1_3) (h : aV.f k a0_0 a0_1 a0_2 l0_3 a0_4 a0_5 a0_6 a0_7 a0_8 a0_9 a0_10 a0_11 a1_0 a1_1 a1_2 l1_3 a1_4 a1_5 a1_6 a1_7 a1_8 a1_9 a1_10 a1_11 = some r) :
  Calls Try.prog 19 #[.agg #[.int .i64 a0_0, .int .i64 a0_1, .int .i64 a0_2, .slice A0_3 l0_3.length c0_3, .int .i64 a0_4, .int .i64 a0_5, .int .i64 a0_6, .int .i64 a0_7, .int .i64 a0_8, .string a0_9, .int .i64 a0_10, .int .i64 a0_11], .agg #[.int .i64 a1_0, .int .i64 a1_1, .int .i64 a1_2, .slice A1_3 l1_3.length c1_3, .int .i64 a1_4, .int .i64 a1_5, .int .i64 a1_6, .int .i64 a1_7, .int .i64 a1_8, .string a1_9, .int .i64 a1_10, .int .i64 a1_11]] w fun e w' => e = .returned (.bool r) ∧ Below w.heap.size w w' := by
 have hu28 := Try.underlying28;have hu25 := Try.underlying25;have HR0_3 := aa.mk hr0_3;have HC0_3 := aa.mk hc0_3;clear hr0_3 hc0_3;have HR1_3 := aa.mk hr1_3;have HC1_3 := aa.mk hc1_3;clear hr1_3 hc1_3;have HB := aa.mk (Below.refl w.heap.size w);have H : (if (a0_0 == a1_0 && (a0_1 == a1_1)) = true then (if a0_2 = a1_2 then ((aH.f k l0_3 l1_3).bind fun t251 => (if t251 = true then (if a0_4 = a1_4 then (if (a0_5 == a1_5 && (a0_6 == a1_6)) = true then (if (a0_7 == a1_7 && (a0_8 == a1_8)) = true then (if a0_9.toList = a1_9.toList then (if a0_10 = a1_10 then (some (a0_11 == a1_11)) else (some false)) else (some false)) else (some false)) else (some false)) else (some false)) else (some false))) else (some false)) else (some false)) = some r := h;clear h;by_cases c3 : (a0_0 == a1_0 && (a0_1 == a1_1)) = true;rotate_left
 ·rw [if_neg c3] at H
  have c3b0 : (a0_0 == a1_0 && (a0_1 == a1_1)) = false := by simpa using c3
  (try (have c3b1 : decide (a0_0 = a1_0 && (a0_1 == a1_1)) = false := by simpa using c3));(try (have c3b2 : (a0_0 == a1_0 && (a0_1 == a1_1)) = false := by simpa using c3));(try (have c3b3 : ¬ (a0_0 = a1_0 && (a0_1 == a1_1)) := by simpa using c3));clear c3;obtain rfl := Option.some.inj H;go_enter Try.func19, Try.ntmps19;go_wp2_with (first | ((with_reducible refine bJ (N := 2) rfl ?_); refine bD ?hg (N := 2) ?hd (cs := #[.int .i64 a0_0, .int .i64 a0_1, .int .i64 a0_2, .slice A0_3 l0_3.length c0_3, .int .i64 a0_4, .int .i64 a0_5, .int .i64 a0_6, .int .i64 a0_7, .int .i64 a0_8, .string a0_9, .int .i64 a0_10, .int .i64 a0_11]) (t := 28) ?hr ?_; (case hd => rfl); (case hg => rfl); (case hr => first | (go_simp; done) | (go_simp; rfl)); intro gb249 hg w52 hbox hb; replace hb : Below (World.heap w).size w w52 := ⟨hb.os, hb.tape, hb.output, hb.size, hb.block⟩; have n0_ := aa.mk (aj HB.out hb); have n1_ := aa.mk (hbox); have n2_ := aa.mk ((by rw [hg]; exact HB.out.size : w.heap.size ≤ gb249)); have n3_ := n2_; clear HB; have HB := n0_; have BK249 := n1_; have GW249 := n2_; have GE249 := n3_; clear n0_ n1_ n2_ n3_ hb hbox hg) | ((with_reducible refine bJ (N := 3) rfl ?_); refine bD ?hg (N := 3) ?hd (cs := #[.int .i64 a1_0, .int .i64 a1_1, .int .i64 a1_2, .slice A1_3 l1_3.length c1_3, .int .i64 a1_4, .int .i64 a1_5, .int .i64 a1_6, .int .i64 a1_7, .int .i64 a1_8, .string a1_9, .int .i64 a1_10, .int .i64 a1_11]) (t := 28) ?hr ?_; (case hd => rfl); (case hg => rfl); (case hr => first | (go_simp; done) | (go_simp; rfl)); intro gb250 hg w53 hbox hb; replace hb : Below (World.heap w52).size w52 w53 := ⟨hb.os, hb.tape, hb.output, hb.size, hb.block⟩; have n0_ := aa.mk (aZ BK249.out hb); have n1_ := aa.mk (aj HB.out hb); have n2_ := aa.mk (hbox); have n3_ := aa.mk ((by rw [hg]; exact HB.out.size : w.heap.size ≤ gb250)); have n4_ := n3_; have n5_ := aa.mk ((by rw [hg]; exact Nat.ne_of_lt (gB BK249.out) : gb249 ≠ gb250)); have n6_ := aa.mk (Ne.symm n5_.out); clear BK249 HB; have BK249 := n0_; have HB := n1_; have BK250 := n2_; have GW250 := n3_; have GE250 := n4_; have NB249_250 := n5_; have NB250_249 := n6_; clear n0_ n1_ n2_ n3_ n4_ n5_ n6_ hb hbox hg; have hnb54 := NB249_250.out; have hnc54 := NB250_249.out; obtain ⟨C1j_0, C1j_1, C1j_2, C1j_3, C1j_4, C1j_5, C1j_6, C1j_7, C1j_8, C1j_9, C1j_a, C1j_b⟩ := LB.aK BK249.out; obtain ⟨F1j_0, F1j_1, F1j_2, F1j_3, F1j_4, F1j_5, F1j_6, F1j_7, F1j_8, F1j_9, F1j_a, F1j_b⟩ := LB.aU BK249.out; obtain ⟨C1k_0, C1k_1, C1k_2, C1k_3, C1k_4, C1k_5, C1k_6, C1k_7, C1k_8, C1k_9, C1k_a, C1k_b⟩ := LB.aK BK250.out; obtain ⟨F1k_0, F1k_1, F1k_2, F1k_3, F1k_4, F1k_5, F1k_6, F1k_7, F1k_8, F1k_9, F1k_a, F1k_b⟩ := LB.aU BK250.out));go_ret;exact ⟨by first | rfl | (simp [au, ak] <;> rfl) | (simp [*, au, ak] <;> rfl), by exact rud HB.out rfl rfl rfl rfl⟩
 rw [if_pos c3] at H;have c3b0 : (a0_0 == a1_0 && (a0_1 == a1_1)) = true := c3;(try (have c3b1 : decide (a0_0 = a1_0 && (a0_1 == a1_1)) = true := by simpa using c3));(try (have c3b2 : (a0_0 == a1_0 && (a0_1 == a1_1)) = true := by simpa using c3));clear c3;by_cases c4 : a0_2 = a1_2;rotate_left
 ·rw [if_neg c4] at H
  have c4b0 : (a0_2 == a1_2) = false := beq_eq_false_iff_ne.mpr c4;have c4b1 : (a0_2 != a1_2) = true := bne_iff_ne.mpr c4;obtain rfl := Option.some.inj H;go_enter Try.func19, Try.ntmps19;go_wp2_with (first | ((with_reducible refine bJ (N := 2) rfl ?_); refine bD ?hg (N := 2) ?hd (cs := #[.int .i64 a0_0, .int .i64 a0_1, .int .i64 a0_2, .slice A0_3 l0_3.length c0_3, .int .i64 a0_4, .int .i64 a0_5, .int .i64 a0_6, .int .i64 a0_7, .int .i64 a0_8, .string a0_9, .int .i64 a0_10, .int .i64 a0_11]) (t := 28) ?hr ?_; (case hd => rfl); (case hg => rfl); (case hr => first | (go_simp; done) | (go_simp; rfl)); intro gb249 hg w47 hbox hb; replace hb : Below (World.heap w).size w w47 := ⟨hb.os, hb.tape, hb.output, hb.size, hb.block⟩; have n0_ := aa.mk (aj HB.out hb); have n1_ := aa.mk (hbox); have n2_ := aa.mk ((by rw [hg]; exact HB.out.size : w.heap.size ≤ gb249)); have n3_ := n2_; clear HB; have HB := n0_; have BK249 := n1_; have GW249 := n2_; have GE249 := n3_; clear n0_ n1_ n2_ n3_ hb hbox hg) | ((with_reducible refine bJ (N := 3) rfl ?_); refine bD ?hg (N := 3) ?hd (cs := #[.int .i64 a1_0, .int .i64 a1_1, .int .i64 a1_2, .slice A1_3 l1_3.length c1_3, .int .i64 a1_4, .int .i64 a1_5, .int .i64 a1_6, .int .i64 a1_7, .int .i64 a1_8, .string a1_9, .int .i64 a1_10, .int .i64 a1_11]) (t := 28) ?hr ?_; (case hd => rfl); (case hg => rfl); (case hr => first | (go_simp; done) | (go_simp; rfl)); intro gb250 hg w48 hbox hb; replace hb : Below (World.heap w47).size w47 w48 := ⟨hb.os, hb.tape, hb.output, hb.size, hb.block⟩; have n0_ := aa.mk (aZ BK249.out hb); have n1_ := aa.mk (aj HB.out hb); have n2_ := aa.mk (hbox); have n3_ := aa.mk ((by rw [hg]; exact HB.out.size : w.heap.size ≤ gb250)); have n4_ := n3_; have n5_ := aa.mk ((by rw [hg]; exact Nat.ne_of_lt (gB BK249.out) : gb249 ≠ gb250)); have n6_ := aa.mk (Ne.symm n5_.out); clear BK249 HB; have BK249 := n0_; have HB := n1_; have BK250 := n2_; have GW250 := n3_; have GE250 := n4_; have NB249_250 := n5_; have NB250_249 := n6_; clear n0_ n1_ n2_ n3_ n4_ n5_ n6_ hb hbox hg; have hnb49 := NB249_250.out; have hnc49 := NB250_249.out; obtain ⟨C1e_0, C1e_1, C1e_2, C1e_3, C1e_4, C1e_5, C1e_6, C1e_7, C1e_8, C1e_9, C1e_a, C1e_b⟩ := LB.aK BK249.out; obtain ⟨F1e_0, F1e_1, F1e_2, F1e_3, F1e_4, F1e_5, F1e_6, F1e_7, F1e_8, F1e_9, F1e_a, F1e_b⟩ := LB.aU BK249.out; obtain ⟨C1f_0, C1f_1, C1f_2, C1f_3, C1f_4, C1f_5, C1f_6, C1f_7, C1f_8, C1f_9, C1f_a, C1f_b⟩ := LB.aK BK250.out; obtain ⟨F1f_0, F1f_1, F1f_2, F1f_3, F1f_4, F1f_5, F1f_6, F1f_7, F1f_8, F1f_9, F1f_a, F1f_b⟩ := LB.aU BK250.out));go_ret;exact ⟨by first | rfl | (simp [au, ak] <;> rfl) | (simp [*, au, ak] <;> rfl), by exact rud HB.out rfl rfl rfl rfl⟩
 rw [if_pos c4] at H;have c4b0 : (a0_2 == a1_2) = true := beq_iff_eq.mpr c4;have c4b1 : (a0_2 != a1_2) = false := bne_eq_false_iff_eq.mpr c4;clear c4;replace H := Option.bind_eq_some_iff.mp H;obtain ⟨t251, A50, H⟩ := H;(try dsimp only at H);have A5 := aa.mk A50;clear A50;by_cases c6 : t251 = true;rotate_left
 ·replace c6 := Bool.eq_false_iff.mpr c6
  subst c6;have H1 : (some false) = some r := by rw [if_neg (show ¬ (false = true) by decide)] at H; exact H
  clear H;have H := H1;clear H1;obtain rfl := Option.some.inj H;go_enter Try.func19, Try.ntmps19;go_wp2_with (first | ((with_reducible refine bJ (N := 2) rfl ?_); refine bD ?hg (N := 2) ?hd (cs := #[.int .i64 a0_0, .int .i64 a0_1, .int .i64 a0_2, .slice A0_3 l0_3.length c0_3, .int .i64 a0_4, .int .i64 a0_5, .int .i64 a0_6, .int .i64 a0_7, .int .i64 a0_8, .string a0_9, .int .i64 a0_10, .int .i64 a0_11]) (t := 28) ?hr ?_; (case hd => rfl); (case hg => rfl); (case hr => first | (go_simp; done) | (go_simp; rfl)); intro gb249 hg w42 hbox hb; replace hb : Below (World.heap w).size w w42 := ⟨hb.os, hb.tape, hb.output, hb.size, hb.block⟩; have n0_ := aa.mk (aj HB.out hb); have n1_ := aa.mk (hbox); have n2_ := aa.mk ((by rw [hg]; exact HB.out.size : w.heap.size ≤ gb249)); have n3_ := n2_; clear HB; have HB := n0_; have BK249 := n1_; have GW249 := n2_; have GE249 := n3_; clear n0_ n1_ n2_ n3_ hb hbox hg) | ((with_reducible refine bJ (N := 3) rfl ?_); refine bD ?hg (N := 3) ?hd (cs := #[.int .i64 a1_0, .int .i64 a1_1, .int .i64 a1_2, .slice A1_3 l1_3.length c1_3, .int .i64 a1_4, .int .i64 a1_5, .int .i64 a1_6, .int .i64 a1_7, .int .i64 a1_8, .string a1_9, .int .i64 a1_10, .int .i64 a1_11]) (t := 28) ?hr ?_; (case hd => rfl); (case hg => rfl); (case hr => first | (go_simp; done) | (go_simp; rfl)); intro gb250 hg w43 hbox hb; replace hb : Below (World.heap w42).size w42 w43 := ⟨hb.os, hb.tape, hb.output, hb.size, hb.block⟩; have n0_ := aa.mk (aZ BK249.out hb); have n1_ := aa.mk (aj HB.out hb); have n2_ := aa.mk (hbox); have n3_ := aa.mk ((by rw [hg]; exact HB.out.size : w.heap.size ≤ gb250)); have n4_ := n3_; have n5_ := aa.mk ((by rw [hg]; exact Nat.ne_of_lt (gB BK249.out) : gb249 ≠ gb250)); have n6_ := aa.mk (Ne.symm n5_.out); clear BK249 HB; have BK249 := n0_; have HB := n1_; have BK250 := n2_; have GW250 := n3_; have GE250 := n4_; have NB249_250 := n5_; have NB250_249 := n6_; clear n0_ n1_ n2_ n3_ n4_ n5_ n6_ hb hbox hg; have hnb44 := NB249_250.out; have hnc44 := NB250_249.out; obtain ⟨C19_0, C19_1, C19_2, C19_3, C19_4, C19_5, C19_6, C19_7, C19_8, C19_9, C19_a, C19_b⟩ := LB.aK BK249.out; obtain ⟨F19_0, F19_1, F19_2, F19_3, F19_4, F19_5, F19_6, F19_7, F19_8, F19_9, F19_a, F19_b⟩ := LB.aU BK249.out; obtain ⟨C1a_0, C1a_1, C1a_2, C1a_3, C1a_4, C1a_5, C1a_6, C1a_7, C1a_8, C1a_9, C1a_a, C1a_b⟩ := LB.aK BK250.out; obtain ⟨F1a_0, F1a_1, F1a_2, F1a_3, F1a_4, F1a_5, F1a_6, F1a_7, F1a_8, F1a_9, F1a_a, F1a_b⟩ := LB.aU BK250.out) | (go_at_call 52; (with_reducible refine (aH.calls k _ _ l0_3 _ _ l1_3 false _ ?side1 ?side2 ?side3 ?side4 A5.out).mono ?_); (case side1 => repeat (first | exact (Kd.dh HR0_3.out HB.out) | with_reducible first | refine Kd.bN ?_ _ | refine Kd.bM ?_ _ | refine Kd.dm ?_)); (case side2 => exact HC0_3.out); (case side3 => repeat (first | exact (Kd.dh HR1_3.out HB.out) | with_reducible first | refine Kd.bN ?_ _ | refine Kd.bM ?_ _ | refine Kd.dm ?_)); (case side4 => exact HC1_3.out); rintro e w' ⟨rfl, ⟨nd, rfl⟩⟩));go_ret;exact ⟨by first | rfl | (simp [au, ak] <;> rfl) | (simp [*, au, ak] <;> rfl), by exact rud HB.out rfl rfl rfl rfl⟩
 subst c6;have H1 : (if a0_4 = a1_4 then (if (a0_5 == a1_5 && (a0_6 == a1_6)) = true then (if (a0_7 == a1_7 && (a0_8 == a1_8)) = true then (if a0_9.toList = a1_9.toList then (if a0_10 = a1_10 then (some (a0_11 == a1_11)) else (some false)) else (some false)) else (some false)) else (some false)) else (some false)) = some r := by rw [if_pos rfl] at H; exact H
 clear H;have H := H1;clear H1;by_cases c7 : a0_4 = a1_4;rotate_left
 ·rw [if_neg c7] at H
  have c7b0 : (a0_4 == a1_4) = false := beq_eq_false_iff_ne.mpr c7;have c7b1 : (a0_4 != a1_4) = true := bne_iff_ne.mpr c7;obtain rfl := Option.some.inj H;go_enter Try.func19, Try.ntmps19;go_wp2_with (first | ((with_reducible refine bJ (N := 2) rfl ?_); refine bD ?hg (N := 2) ?hd (cs := #[.int .i64 a0_0, .int .i64 a0_1, .int .i64 a0_2, .slice A0_3 l0_3.length c0_3, .int .i64 a0_4, .int .i64 a0_5, .int .i64 a0_6, .int .i64 a0_7, .int .i64 a0_8, .string a0_9, .int .i64 a0_10, .int .i64 a0_11]) (t := 28) ?hr ?_; (case hd => rfl); (case hg => rfl); (case hr => first | (go_simp; done) | (go_simp; rfl)); intro gb249 hg w37 hbox hb; replace hb : Below (World.heap w).size w w37 := ⟨hb.os, hb.tape, hb.output, hb.size, hb.block⟩; have n0_ := aa.mk (aj HB.out hb); have n1_ := aa.mk (hbox); have n2_ := aa.mk ((by rw [hg]; exact HB.out.size : w.heap.size ≤ gb249)); have n3_ := n2_; clear HB; have HB := n0_; have BK249 := n1_; have GW249 := n2_; have GE249 := n3_; clear n0_ n1_ n2_ n3_ hb hbox hg) | ((with_reducible refine bJ (N := 3) rfl ?_); refine bD ?hg (N := 3) ?hd (cs := #[.int .i64 a1_0, .int .i64 a1_1, .int .i64 a1_2, .slice A1_3 l1_3.length c1_3, .int .i64 a1_4, .int .i64 a1_5, .int .i64 a1_6, .int .i64 a1_7, .int .i64 a1_8, .string a1_9, .int .i64 a1_10, .int .i64 a1_11]) (t := 28) ?hr ?_; (case hd => rfl); (case hg => rfl); (case hr => first | (go_simp; done) | (go_simp; rfl)); intro gb250 hg w38 hbox hb; replace hb : Below (World.heap w37).size w37 w38 := ⟨hb.os, hb.tape, hb.output, hb.size, hb.block⟩; have n0_ := aa.mk (aZ BK249.out hb); have n1_ := aa.mk (aj HB.out hb); have n2_ := aa.mk (hbox); have n3_ := aa.mk ((by rw [hg]; exact HB.out.size : w.heap.size ≤ gb250)); have n4_ := n3_; have n5_ := aa.mk ((by rw [hg]; exact Nat.ne_of_lt (gB BK249.out) : gb249 ≠ gb250)); have n6_ := aa.mk (Ne.symm n5_.out); clear BK249 HB; have BK249 := n0_; have HB := n1_; have BK250 := n2_; have GW250 := n3_; have GE250 := n4_; have NB249_250 := n5_; have NB250_249 := n6_; clear n0_ n1_ n2_ n3_ n4_ n5_ n6_ hb hbox hg; have hnb39 := NB249_250.out; have hnc39 := NB250_249.out; obtain ⟨C14_0, C14_1, C14_2, C14_3, C14_4, C14_5, C14_6, C14_7, C14_8, C14_9, C14_a, C14_b⟩ := LB.aK BK249.out; obtain ⟨F14_0, F14_1, F14_2, F14_3, F14_4, F14_5, F14_6, F14_7, F14_8, F14_9, F14_a, F14_b⟩ := LB.aU BK249.out; obtain ⟨C15_0, C15_1, C15_2, C15_3, C15_4, C15_5, C15_6, C15_7, C15_8, C15_9, C15_a, C15_b⟩ := LB.aK BK250.out; obtain ⟨F15_0, F15_1, F15_2, F15_3, F15_4, F15_5, F15_6, F15_7, F15_8, F15_9, F15_a, F15_b⟩ := LB.aU BK250.out) | (go_at_call 52; (with_reducible refine (aH.calls k _ _ l0_3 _ _ l1_3 true _ ?side1 ?side2 ?side3 ?side4 A5.out).mono ?_); (case side1 => repeat (first | exact (Kd.dh HR0_3.out HB.out) | with_reducible first | refine Kd.bN ?_ _ | refine Kd.bM ?_ _ | refine Kd.dm ?_)); (case side2 => exact HC0_3.out); (case side3 => repeat (first | exact (Kd.dh HR1_3.out HB.out) | with_reducible first | refine Kd.bN ?_ _ | refine Kd.bM ?_ _ | refine Kd.dm ?_)); (case side4 => exact HC1_3.out); rintro e w' ⟨rfl, ⟨nd, rfl⟩⟩));go_ret;exact ⟨by first | rfl | (simp [au, ak] <;> rfl) | (simp [*, au, ak] <;> rfl), by exact rud HB.out rfl rfl rfl rfl⟩
 rw [if_pos c7] at H;have c7b0 : (a0_4 == a1_4) = true := beq_iff_eq.mpr c7;have c7b1 : (a0_4 != a1_4) = false := bne_eq_false_iff_eq.mpr c7;clear c7;by_cases c8 : (a0_5 == a1_5 && (a0_6 == a1_6)) = true;rotate_left
 ·rw [if_neg c8] at H
  have c8b0 : (a0_5 == a1_5 && (a0_6 == a1_6)) = false := by simpa using c8
  (try (have c8b1 : decide (a0_5 = a1_5 && (a0_6 == a1_6)) = false := by simpa using c8));(try (have c8b2 : (a0_5 == a1_5 && (a0_6 == a1_6)) = false := by simpa using c8));(try (have c8b3 : ¬ (a0_5 = a1_5 && (a0_6 == a1_6)) := by simpa using c8));clear c8;obtain rfl := Option.some.inj H;go_enter Try.func19, Try.ntmps19;go_wp2_with (first | ((with_reducible refine bJ (N := 2) rfl ?_); refine bD ?hg (N := 2) ?hd (cs := #[.int .i64 a0_0, .int .i64 a0_1, .int .i64 a0_2, .slice A0_3 l0_3.length c0_3, .int .i64 a0_4, .int .i64 a0_5, .int .i64 a0_6, .int .i64 a0_7, .int .i64 a0_8, .string a0_9, .int .i64 a0_10, .int .i64 a0_11]) (t := 28) ?hr ?_; (case hd => rfl); (case hg => rfl); (case hr => first | (go_simp; done) | (go_simp; rfl)); intro gb249 hg w32 hbox hb; replace hb : Below (World.heap w).size w w32 := ⟨hb.os, hb.tape, hb.output, hb.size, hb.block⟩; have n0_ := aa.mk (aj HB.out hb); have n1_ := aa.mk (hbox); have n2_ := aa.mk ((by rw [hg]; exact HB.out.size : w.heap.size ≤ gb249)); have n3_ := n2_; clear HB; have HB := n0_; have BK249 := n1_; have GW249 := n2_; have GE249 := n3_; clear n0_ n1_ n2_ n3_ hb hbox hg) | ((with_reducible refine bJ (N := 3) rfl ?_); refine bD ?hg (N := 3) ?hd (cs := #[.int .i64 a1_0, .int .i64 a1_1, .int .i64 a1_2, .slice A1_3 l1_3.length c1_3, .int .i64 a1_4, .int .i64 a1_5, .int .i64 a1_6, .int .i64 a1_7, .int .i64 a1_8, .string a1_9, .int .i64 a1_10, .int .i64 a1_11]) (t := 28) ?hr ?_; (case hd => rfl); (case hg => rfl); (case hr => first | (go_simp; done) | (go_simp; rfl)); intro gb250 hg w33 hbox hb; replace hb : Below (World.heap w32).size w32 w33 := ⟨hb.os, hb.tape, hb.output, hb.size, hb.block⟩; have n0_ := aa.mk (aZ BK249.out hb); have n1_ := aa.mk (aj HB.out hb); have n2_ := aa.mk (hbox); have n3_ := aa.mk ((by rw [hg]; exact HB.out.size : w.heap.size ≤ gb250)); have n4_ := n3_; have n5_ := aa.mk ((by rw [hg]; exact Nat.ne_of_lt (gB BK249.out) : gb249 ≠ gb250)); have n6_ := aa.mk (Ne.symm n5_.out); clear BK249 HB; have BK249 := n0_; have HB := n1_; have BK250 := n2_; have GW250 := n3_; have GE250 := n4_; have NB249_250 := n5_; have NB250_249 := n6_; clear n0_ n1_ n2_ n3_ n4_ n5_ n6_ hb hbox hg; have hnb34 := NB249_250.out; have hnc34 := NB250_249.out; obtain ⟨Cz_0, Cz_1, Cz_2, Cz_3, Cz_4, Cz_5, Cz_6, Cz_7, Cz_8, Cz_9, Cz_a, Cz_b⟩ := LB.aK BK249.out; obtain ⟨Fz_0, Fz_1, Fz_2, Fz_3, Fz_4, Fz_5, Fz_6, Fz_7, Fz_8, Fz_9, Fz_a, Fz_b⟩ := LB.aU BK249.out; obtain ⟨C10_0, C10_1, C10_2, C10_3, C10_4, C10_5, C10_6, C10_7, C10_8, C10_9, C10_a, C10_b⟩ := LB.aK BK250.out; obtain ⟨F10_0, F10_1, F10_2, F10_3, F10_4, F10_5, F10_6, F10_7, F10_8, F10_9, F10_a, F10_b⟩ := LB.aU BK250.out) | (go_at_call 52; (with_reducible refine (aH.calls k _ _ l0_3 _ _ l1_3 true _ ?side1 ?side2 ?side3 ?side4 A5.out).mono ?_); (case side1 => repeat (first | exact (Kd.dh HR0_3.out HB.out) | with_reducible first | refine Kd.bN ?_ _ | refine Kd.bM ?_ _ | refine Kd.dm ?_)); (case side2 => exact HC0_3.out); (case side3 => repeat (first | exact (Kd.dh HR1_3.out HB.out) | with_reducible first | refine Kd.bN ?_ _ | refine Kd.bM ?_ _ | refine Kd.dm ?_)); (case side4 => exact HC1_3.out); rintro e w' ⟨rfl, ⟨nd, rfl⟩⟩));go_ret;exact ⟨by first | rfl | (simp [au, ak] <;> rfl) | (simp [*, au, ak] <;> rfl), by exact rud HB.out rfl rfl rfl rfl⟩
 rw [if_pos c8] at H;have c8b0 : (a0_5 == a1_5 && (a0_6 == a1_6)) = true := c8;(try (have c8b1 : decide (a0_5 = a1_5 && (a0_6 == a1_6)) = true := by simpa using c8));(try (have c8b2 : (a0_5 == a1_5 && (a0_6 == a1_6)) = true := by simpa using c8));clear c8;by_cases c9 : (a0_7 == a1_7 && (a0_8 == a1_8)) = true;rotate_left
 ·rw [if_neg c9] at H
  have c9b0 : (a0_7 == a1_7 && (a0_8 == a1_8)) = false := by simpa using c9
  (try (have c9b1 : decide (a0_7 = a1_7 && (a0_8 == a1_8)) = false := by simpa using c9));(try (have c9b2 : (a0_7 == a1_7 && (a0_8 == a1_8)) = false := by simpa using c9));(try (have c9b3 : ¬ (a0_7 = a1_7 && (a0_8 == a1_8)) := by simpa using c9));clear c9;obtain rfl := Option.some.inj H;go_enter Try.func19, Try.ntmps19;go_wp2_with (first | ((with_reducible refine bJ (N := 2) rfl ?_); refine bD ?hg (N := 2) ?hd (cs := #[.int .i64 a0_0, .int .i64 a0_1, .int .i64 a0_2, .slice A0_3 l0_3.length c0_3, .int .i64 a0_4, .int .i64 a0_5, .int .i64 a0_6, .int .i64 a0_7, .int .i64 a0_8, .string a0_9, .int .i64 a0_10, .int .i64 a0_11]) (t := 28) ?hr ?_; (case hd => rfl); (case hg => rfl); (case hr => first | (go_simp; done) | (go_simp; rfl)); intro gb249 hg w27 hbox hb; replace hb : Below (World.heap w).size w w27 := ⟨hb.os, hb.tape, hb.output, hb.size, hb.block⟩; have n0_ := aa.mk (aj HB.out hb); have n1_ := aa.mk (hbox); have n2_ := aa.mk ((by rw [hg]; exact HB.out.size : w.heap.size ≤ gb249)); have n3_ := n2_; clear HB; have HB := n0_; have BK249 := n1_; have GW249 := n2_; have GE249 := n3_; clear n0_ n1_ n2_ n3_ hb hbox hg) | ((with_reducible refine bJ (N := 3) rfl ?_); refine bD ?hg (N := 3) ?hd (cs := #[.int .i64 a1_0, .int .i64 a1_1, .int .i64 a1_2, .slice A1_3 l1_3.length c1_3, .int .i64 a1_4, .int .i64 a1_5, .int .i64 a1_6, .int .i64 a1_7, .int .i64 a1_8, .string a1_9, .int .i64 a1_10, .int .i64 a1_11]) (t := 28) ?hr ?_; (case hd => rfl); (case hg => rfl); (case hr => first | (go_simp; done) | (go_simp; rfl)); intro gb250 hg w28 hbox hb; replace hb : Below (World.heap w27).size w27 w28 := ⟨hb.os, hb.tape, hb.output, hb.size, hb.block⟩; have n0_ := aa.mk (aZ BK249.out hb); have n1_ := aa.mk (aj HB.out hb); have n2_ := aa.mk (hbox); have n3_ := aa.mk ((by rw [hg]; exact HB.out.size : w.heap.size ≤ gb250)); have n4_ := n3_; have n5_ := aa.mk ((by rw [hg]; exact Nat.ne_of_lt (gB BK249.out) : gb249 ≠ gb250)); have n6_ := aa.mk (Ne.symm n5_.out); clear BK249 HB; have BK249 := n0_; have HB := n1_; have BK250 := n2_; have GW250 := n3_; have GE250 := n4_; have NB249_250 := n5_; have NB250_249 := n6_; clear n0_ n1_ n2_ n3_ n4_ n5_ n6_ hb hbox hg; have hnb29 := NB249_250.out; have hnc29 := NB250_249.out; obtain ⟨Cu_0, Cu_1, Cu_2, Cu_3, Cu_4, Cu_5, Cu_6, Cu_7, Cu_8, Cu_9, Cu_a, Cu_b⟩ := LB.aK BK249.out; obtain ⟨Fu_0, Fu_1, Fu_2, Fu_3, Fu_4, Fu_5, Fu_6, Fu_7, Fu_8, Fu_9, Fu_a, Fu_b⟩ := LB.aU BK249.out; obtain ⟨Cv_0, Cv_1, Cv_2, Cv_3, Cv_4, Cv_5, Cv_6, Cv_7, Cv_8, Cv_9, Cv_a, Cv_b⟩ := LB.aK BK250.out; obtain ⟨Fv_0, Fv_1, Fv_2, Fv_3, Fv_4, Fv_5, Fv_6, Fv_7, Fv_8, Fv_9, Fv_a, Fv_b⟩ := LB.aU BK250.out) | (go_at_call 52; (with_reducible refine (aH.calls k _ _ l0_3 _ _ l1_3 true _ ?side1 ?side2 ?side3 ?side4 A5.out).mono ?_); (case side1 => repeat (first | exact (Kd.dh HR0_3.out HB.out) | with_reducible first | refine Kd.bN ?_ _ | refine Kd.bM ?_ _ | refine Kd.dm ?_)); (case side2 => exact HC0_3.out); (case side3 => repeat (first | exact (Kd.dh HR1_3.out HB.out) | with_reducible first | refine Kd.bN ?_ _ | refine Kd.bM ?_ _ | refine Kd.dm ?_)); (case side4 => exact HC1_3.out); rintro e w' ⟨rfl, ⟨nd, rfl⟩⟩));go_ret;exact ⟨by first | rfl | (simp [au, ak] <;> rfl) | (simp [*, au, ak] <;> rfl), by exact rud HB.out rfl rfl rfl rfl⟩
 rw [if_pos c9] at H;have c9b0 : (a0_7 == a1_7 && (a0_8 == a1_8)) = true := c9;(try (have c9b1 : decide (a0_7 = a1_7 && (a0_8 == a1_8)) = true := by simpa using c9));(try (have c9b2 : (a0_7 == a1_7 && (a0_8 == a1_8)) = true := by simpa using c9));clear c9;by_cases c10 : a0_9.toList = a1_9.toList;rotate_left
 ·rw [if_neg c10] at H
  have c10b0 : (a0_9.toList == a1_9.toList) = false := beq_eq_false_iff_ne.mpr c10;have c10b1 : (a0_9.toList != a1_9.toList) = true := bne_iff_ne.mpr c10;obtain rfl := Option.some.inj H;go_enter Try.func19, Try.ntmps19;go_wp2_with (first | ((with_reducible refine bJ (N := 2) rfl ?_); refine bD ?hg (N := 2) ?hd (cs := #[.int .i64 a0_0, .int .i64 a0_1, .int .i64 a0_2, .slice A0_3 l0_3.length c0_3, .int .i64 a0_4, .int .i64 a0_5, .int .i64 a0_6, .int .i64 a0_7, .int .i64 a0_8, .string a0_9, .int .i64 a0_10, .int .i64 a0_11]) (t := 28) ?hr ?_; (case hd => rfl); (case hg => rfl); (case hr => first | (go_simp; done) | (go_simp; rfl)); intro gb249 hg w22 hbox hb; replace hb : Below (World.heap w).size w w22 := ⟨hb.os, hb.tape, hb.output, hb.size, hb.block⟩; have n0_ := aa.mk (aj HB.out hb); have n1_ := aa.mk (hbox); have n2_ := aa.mk ((by rw [hg]; exact HB.out.size : w.heap.size ≤ gb249)); have n3_ := n2_; clear HB; have HB := n0_; have BK249 := n1_; have GW249 := n2_; have GE249 := n3_; clear n0_ n1_ n2_ n3_ hb hbox hg) | ((with_reducible refine bJ (N := 3) rfl ?_); refine bD ?hg (N := 3) ?hd (cs := #[.int .i64 a1_0, .int .i64 a1_1, .int .i64 a1_2, .slice A1_3 l1_3.length c1_3, .int .i64 a1_4, .int .i64 a1_5, .int .i64 a1_6, .int .i64 a1_7, .int .i64 a1_8, .string a1_9, .int .i64 a1_10, .int .i64 a1_11]) (t := 28) ?hr ?_; (case hd => rfl); (case hg => rfl); (case hr => first | (go_simp; done) | (go_simp; rfl)); intro gb250 hg w23 hbox hb; replace hb : Below (World.heap w22).size w22 w23 := ⟨hb.os, hb.tape, hb.output, hb.size, hb.block⟩; have n0_ := aa.mk (aZ BK249.out hb); have n1_ := aa.mk (aj HB.out hb); have n2_ := aa.mk (hbox); have n3_ := aa.mk ((by rw [hg]; exact HB.out.size : w.heap.size ≤ gb250)); have n4_ := n3_; have n5_ := aa.mk ((by rw [hg]; exact Nat.ne_of_lt (gB BK249.out) : gb249 ≠ gb250)); have n6_ := aa.mk (Ne.symm n5_.out); clear BK249 HB; have BK249 := n0_; have HB := n1_; have BK250 := n2_; have GW250 := n3_; have GE250 := n4_; have NB249_250 := n5_; have NB250_249 := n6_; clear n0_ n1_ n2_ n3_ n4_ n5_ n6_ hb hbox hg; have hnb24 := NB249_250.out; have hnc24 := NB250_249.out; obtain ⟨Cp_0, Cp_1, Cp_2, Cp_3, Cp_4, Cp_5, Cp_6, Cp_7, Cp_8, Cp_9, Cp_a, Cp_b⟩ := LB.aK BK249.out; obtain ⟨Fp_0, Fp_1, Fp_2, Fp_3, Fp_4, Fp_5, Fp_6, Fp_7, Fp_8, Fp_9, Fp_a, Fp_b⟩ := LB.aU BK249.out; obtain ⟨Cq_0, Cq_1, Cq_2, Cq_3, Cq_4, Cq_5, Cq_6, Cq_7, Cq_8, Cq_9, Cq_a, Cq_b⟩ := LB.aK BK250.out; obtain ⟨Fq_0, Fq_1, Fq_2, Fq_3, Fq_4, Fq_5, Fq_6, Fq_7, Fq_8, Fq_9, Fq_a, Fq_b⟩ := LB.aU BK250.out) | (go_at_call 52; (with_reducible refine (aH.calls k _ _ l0_3 _ _ l1_3 true _ ?side1 ?side2 ?side3 ?side4 A5.out).mono ?_); (case side1 => repeat (first | exact (Kd.dh HR0_3.out HB.out) | with_reducible first | refine Kd.bN ?_ _ | refine Kd.bM ?_ _ | refine Kd.dm ?_)); (case side2 => exact HC0_3.out); (case side3 => repeat (first | exact (Kd.dh HR1_3.out HB.out) | with_reducible first | refine Kd.bN ?_ _ | refine Kd.bM ?_ _ | refine Kd.dm ?_)); (case side4 => exact HC1_3.out); rintro e w' ⟨rfl, ⟨nd, rfl⟩⟩));go_ret;exact ⟨by first | rfl | (simp [au, ak] <;> rfl) | (simp [*, au, ak] <;> rfl), by exact rud HB.out rfl rfl rfl rfl⟩
 rw [if_pos c10] at H;have c10b0 : (a0_9.toList == a1_9.toList) = true := beq_iff_eq.mpr c10;have c10b1 : (a0_9.toList != a1_9.toList) = false := bne_eq_false_iff_eq.mpr c10;clear c10;by_cases c11 : a0_10 = a1_10;rotate_left
 ·rw [if_neg c11] at H
  have c11b0 : (a0_10 == a1_10) = false := beq_eq_false_iff_ne.mpr c11;have c11b1 : (a0_10 != a1_10) = true := bne_iff_ne.mpr c11;obtain rfl := Option.some.inj H;go_enter Try.func19, Try.ntmps19;go_wp2_with (first | ((with_reducible refine bJ (N := 2) rfl ?_); refine bD ?hg (N := 2) ?hd (cs := #[.int .i64 a0_0, .int .i64 a0_1, .int .i64 a0_2, .slice A0_3 l0_3.length c0_3, .int .i64 a0_4, .int .i64 a0_5, .int .i64 a0_6, .int .i64 a0_7, .int .i64 a0_8, .string a0_9, .int .i64 a0_10, .int .i64 a0_11]) (t := 28) ?hr ?_; (case hd => rfl); (case hg => rfl); (case hr => first | (go_simp; done) | (go_simp; rfl)); intro gb249 hg w17 hbox hb; replace hb : Below (World.heap w).size w w17 := ⟨hb.os, hb.tape, hb.output, hb.size, hb.block⟩; have n0_ := aa.mk (aj HB.out hb); have n1_ := aa.mk (hbox); have n2_ := aa.mk ((by rw [hg]; exact HB.out.size : w.heap.size ≤ gb249)); have n3_ := n2_; clear HB; have HB := n0_; have BK249 := n1_; have GW249 := n2_; have GE249 := n3_; clear n0_ n1_ n2_ n3_ hb hbox hg) | ((with_reducible refine bJ (N := 3) rfl ?_); refine bD ?hg (N := 3) ?hd (cs := #[.int .i64 a1_0, .int .i64 a1_1, .int .i64 a1_2, .slice A1_3 l1_3.length c1_3, .int .i64 a1_4, .int .i64 a1_5, .int .i64 a1_6, .int .i64 a1_7, .int .i64 a1_8, .string a1_9, .int .i64 a1_10, .int .i64 a1_11]) (t := 28) ?hr ?_; (case hd => rfl); (case hg => rfl); (case hr => first | (go_simp; done) | (go_simp; rfl)); intro gb250 hg w18 hbox hb; replace hb : Below (World.heap w17).size w17 w18 := ⟨hb.os, hb.tape, hb.output, hb.size, hb.block⟩; have n0_ := aa.mk (aZ BK249.out hb); have n1_ := aa.mk (aj HB.out hb); have n2_ := aa.mk (hbox); have n3_ := aa.mk ((by rw [hg]; exact HB.out.size : w.heap.size ≤ gb250)); have n4_ := n3_; have n5_ := aa.mk ((by rw [hg]; exact Nat.ne_of_lt (gB BK249.out) : gb249 ≠ gb250)); have n6_ := aa.mk (Ne.symm n5_.out); clear BK249 HB; have BK249 := n0_; have HB := n1_; have BK250 := n2_; have GW250 := n3_; have GE250 := n4_; have NB249_250 := n5_; have NB250_249 := n6_; clear n0_ n1_ n2_ n3_ n4_ n5_ n6_ hb hbox hg; have hnb19 := NB249_250.out; have hnc19 := NB250_249.out; obtain ⟨Ck_0, Ck_1, Ck_2, Ck_3, Ck_4, Ck_5, Ck_6, Ck_7, Ck_8, Ck_9, Ck_a, Ck_b⟩ := LB.aK BK249.out; obtain ⟨Fk_0, Fk_1, Fk_2, Fk_3, Fk_4, Fk_5, Fk_6, Fk_7, Fk_8, Fk_9, Fk_a, Fk_b⟩ := LB.aU BK249.out; obtain ⟨Cl_0, Cl_1, Cl_2, Cl_3, Cl_4, Cl_5, Cl_6, Cl_7, Cl_8, Cl_9, Cl_a, Cl_b⟩ := LB.aK BK250.out; obtain ⟨Fl_0, Fl_1, Fl_2, Fl_3, Fl_4, Fl_5, Fl_6, Fl_7, Fl_8, Fl_9, Fl_a, Fl_b⟩ := LB.aU BK250.out) | (go_at_call 52; (with_reducible refine (aH.calls k _ _ l0_3 _ _ l1_3 true _ ?side1 ?side2 ?side3 ?side4 A5.out).mono ?_); (case side1 => repeat (first | exact (Kd.dh HR0_3.out HB.out) | with_reducible first | refine Kd.bN ?_ _ | refine Kd.bM ?_ _ | refine Kd.dm ?_)); (case side2 => exact HC0_3.out); (case side3 => repeat (first | exact (Kd.dh HR1_3.out HB.out) | with_reducible first | refine Kd.bN ?_ _ | refine Kd.bM ?_ _ | refine Kd.dm ?_)); (case side4 => exact HC1_3.out); rintro e w' ⟨rfl, ⟨nd, rfl⟩⟩));go_ret;exact ⟨by first | rfl | (simp [au, ak] <;> rfl) | (simp [*, au, ak] <;> rfl), by exact rud HB.out rfl rfl rfl rfl⟩
 rw [if_pos c11] at H;have c11b0 : (a0_10 == a1_10) = true := beq_iff_eq.mpr c11;have c11b1 : (a0_10 != a1_10) = false := bne_eq_false_iff_eq.mpr c11;clear c11;obtain rfl := Option.some.inj H;go_enter Try.func19, Try.ntmps19;go_wp2_with (first | ((with_reducible refine bJ (N := 2) rfl ?_); refine bD ?hg (N := 2) ?hd (cs := #[.int .i64 a0_0, .int .i64 a0_1, .int .i64 a0_2, .slice A0_3 l0_3.length c0_3, .int .i64 a0_4, .int .i64 a0_5, .int .i64 a0_6, .int .i64 a0_7, .int .i64 a0_8, .string a0_9, .int .i64 a0_10, .int .i64 a0_11]) (t := 28) ?hr ?_; (case hd => rfl); (case hg => rfl); (case hr => first | (go_simp; done) | (go_simp; rfl)); intro gb249 hg w12 hbox hb; replace hb : Below (World.heap w).size w w12 := ⟨hb.os, hb.tape, hb.output, hb.size, hb.block⟩; have n0_ := aa.mk (aj HB.out hb); have n1_ := aa.mk (hbox); have n2_ := aa.mk ((by rw [hg]; exact HB.out.size : w.heap.size ≤ gb249)); have n3_ := n2_; clear HB; have HB := n0_; have BK249 := n1_; have GW249 := n2_; have GE249 := n3_; clear n0_ n1_ n2_ n3_ hb hbox hg) | ((with_reducible refine bJ (N := 3) rfl ?_); refine bD ?hg (N := 3) ?hd (cs := #[.int .i64 a1_0, .int .i64 a1_1, .int .i64 a1_2, .slice A1_3 l1_3.length c1_3, .int .i64 a1_4, .int .i64 a1_5, .int .i64 a1_6, .int .i64 a1_7, .int .i64 a1_8, .string a1_9, .int .i64 a1_10, .int .i64 a1_11]) (t := 28) ?hr ?_; (case hd => rfl); (case hg => rfl); (case hr => first | (go_simp; done) | (go_simp; rfl)); intro gb250 hg w13 hbox hb; replace hb : Below (World.heap w12).size w12 w13 := ⟨hb.os, hb.tape, hb.output, hb.size, hb.block⟩; have n0_ := aa.mk (aZ BK249.out hb); have n1_ := aa.mk (aj HB.out hb); have n2_ := aa.mk (hbox); have n3_ := aa.mk ((by rw [hg]; exact HB.out.size : w.heap.size ≤ gb250)); have n4_ := n3_; have n5_ := aa.mk ((by rw [hg]; exact Nat.ne_of_lt (gB BK249.out) : gb249 ≠ gb250)); have n6_ := aa.mk (Ne.symm n5_.out); clear BK249 HB; have BK249 := n0_; have HB := n1_; have BK250 := n2_; have GW250 := n3_; have GE250 := n4_; have NB249_250 := n5_; have NB250_249 := n6_; clear n0_ n1_ n2_ n3_ n4_ n5_ n6_ hb hbox hg; have hnb14 := NB249_250.out; have hnc14 := NB250_249.out; obtain ⟨Cf_0, Cf_1, Cf_2, Cf_3, Cf_4, Cf_5, Cf_6, Cf_7, Cf_8, Cf_9, Cf_a, Cf_b⟩ := LB.aK BK249.out; obtain ⟨Ff_0, Ff_1, Ff_2, Ff_3, Ff_4, Ff_5, Ff_6, Ff_7, Ff_8, Ff_9, Ff_a, Ff_b⟩ := LB.aU BK249.out; obtain ⟨Cg_0, Cg_1, Cg_2, Cg_3, Cg_4, Cg_5, Cg_6, Cg_7, Cg_8, Cg_9, Cg_a, Cg_b⟩ := LB.aK BK250.out; obtain ⟨Fg_0, Fg_1, Fg_2, Fg_3, Fg_4, Fg_5, Fg_6, Fg_7, Fg_8, Fg_9, Fg_a, Fg_b⟩ := LB.aU BK250.out) | (go_at_call 52; (with_reducible refine (aH.calls k _ _ l0_3 _ _ l1_3 true _ ?side1 ?side2 ?side3 ?side4 A5.out).mono ?_); (case side1 => repeat (first | exact (Kd.dh HR0_3.out HB.out) | with_reducible first | refine Kd.bN ?_ _ | refine Kd.bM ?_ _ | refine Kd.dm ?_)); (case side2 => exact HC0_3.out); (case side3 => repeat (first | exact (Kd.dh HR1_3.out HB.out) | with_reducible first | refine Kd.bN ?_ _ | refine Kd.bM ?_ _ | refine Kd.dm ?_)); (case side4 => exact HC1_3.out); rintro e w' ⟨rfl, ⟨nd, rfl⟩⟩));go_ret;exact ⟨by first | rfl | (simp [au, ak] <;> rfl) | (simp [*, au, ak] <;> rfl), by exact rud HB.out rfl rfl rfl rfl⟩
end Go.Proofs.Ytddnlnjmikcgfaa.PC
end
section
namespace Go.Proofs.Ytddnlnjmikcgfaa.PC
open Go.RowKit Go.WB.PrintWords Go.WB.PrintLast Go.WB.PrintMore
attribute [local go_sem] cB cZ dE dD bP bQ cO cK
set_option linter.unusedVariables false
set_option linter.unusedSimpArgs false
set_option maxHeartbeats 40000000
set_option maxRecDepth 100000
theorem eX.calls (a0 : Int) (a1 : Int) (r : Bool) (w : World) (h : eX.f a0 a1 = some r) :
  Calls Try.prog 76 #[.int .i64 a0, .int .i64 a1] w fun e w' => e = .returned (.bool r) ∧ bC w w' := by
 have H : (if a0 ≥ 0 then (some (decide (a0 ≤ a1))) else (some false)) = some r := h;clear h;by_cases c3 : a0 ≥ 0
 ·rw [if_pos c3] at H
  have c3b0 : decide (0 ≤ a0) = true := decide_eq_true c3;clear c3;obtain rfl := Option.some.inj H;go_enter Try.func76, Try.ntmps76;go_wp2;go_ret;exact ⟨by first | rfl | (simp; done) | (simp [*]; done), by repeat (first | exact bC.refl _ | apply bC.step)⟩
 ·rw [if_neg c3] at H
  have c3b0 : decide (0 ≤ a0) = false := decide_eq_false c3;clear c3;obtain rfl := Option.some.inj H;go_enter Try.func76, Try.ntmps76;go_wp2;go_ret;exact ⟨by first | rfl | (simp; done) | (simp [*]; done), by repeat (first | exact bC.refl _ | apply bC.step)⟩
end Go.Proofs.Ytddnlnjmikcgfaa.PC
end
section
namespace Go.Proofs.Ytddnlnjmikcgfaa.PC
open Go.RowKit Go.WB.PrintWords Go.WB.PrintLast Go.WB.PrintMore
attribute [local go_sem] cB cZ dE dD bP bQ cO cK
set_option linter.unusedVariables false
set_option linter.unusedSimpArgs false
open Go.LB (sT sZ sS cells3 aK dQ aU)
open Go.SB (rpu rpf rtk rpu0 rpf0 rtk0 rbs rud pS)
set_option maxHeartbeats 40000000
set_option maxRecDepth 100000
theorem cu.calls (a0_0 : Int) (a0_1 : Int) (r : Bool) (w : World) (h : cu.f a0_0 a0_1 = some r) :
  Calls Try.prog 56 #[.agg #[.int .i64 a0_0, .int .i64 a0_1]] w fun e w' => e = .returned (.bool r) ∧ Below w.heap.size w w' := by
 have hu25 := Try.underlying25;have HB := aa.mk (Below.refl w.heap.size w);have H : (if a0_0 ≥ 1 then (if a0_0 ≤ 1099511627776 then ((eX.f a0_1 15).bind fun t253 => (some t253)) else (some false)) else (some false)) = some r := h;clear h;by_cases c2 : a0_0 ≥ 1
 ·rw [if_pos c2] at H
  have c2b0 : decide (1 ≤ a0_0) = true := decide_eq_true c2;clear c2;by_cases c3 : a0_0 ≤ 1099511627776
  ·rw [if_pos c3] at H
   have c3b0 : decide (a0_0 ≤ 1099511627776) = true := decide_eq_true c3;clear c3;replace H := Option.bind_eq_some_iff.mp H;obtain ⟨t253, A40, H⟩ := H;replace H : (some t253) = some r := H;have A4 := aa.mk A40;clear A40;obtain rfl := Option.some.inj H;go_enter Try.func56, Try.ntmps56;go_wp2_with (first | ((with_reducible refine bJ (N := 1) rfl ?_); refine bD ?hg (N := 1) ?hd (cs := #[.int .i64 a0_0, .int .i64 a0_1]) (t := 25) ?hr ?_; (case hd => rfl); (case hg => rfl); (case hr => first | (go_simp; done) | (go_simp; rfl)); intro gb252 hg w5 hbox hb; replace hb : Below (World.heap w).size w w5 := ⟨hb.os, hb.tape, hb.output, hb.size, hb.block⟩; have n0_ := aa.mk (aj HB.out hb); have n1_ := aa.mk (hbox); have n2_ := aa.mk ((by rw [hg]; exact HB.out.size : w.heap.size ≤ gb252)); have n3_ := n2_; clear HB; have HB := n0_; have BK252 := n1_; have GW252 := n2_; have GE252 := n3_; clear n0_ n1_ n2_ n3_ hb hbox hg; have C6_0 : w5.cell? ⟨gb252, 0, none⟩ = some (.int .i64 a0_0) := (ag BK252.out 0).trans rfl; have C6_1 : w5.cell? ⟨gb252, 1, none⟩ = some (.int .i64 a0_1) := (ag BK252.out 1).trans rfl; have F6_0 := aN BK252.out 0; have F6_1 := aN BK252.out 1) | (go_at_call 76; (with_reducible refine (eX.calls a0_1 15 t253 _ A4.out).mono ?_); rintro e w' ⟨rfl, ⟨nd, rfl⟩⟩));go_ret;exact ⟨by first | rfl | (simp [au, ak] <;> rfl) | (simp [*, au, ak] <;> rfl), by exact rud HB.out rfl rfl rfl rfl⟩
  ·rw [if_neg c3] at H
   have c3b0 : decide (a0_0 ≤ 1099511627776) = false := decide_eq_false c3;clear c3;obtain rfl := Option.some.inj H;go_enter Try.func56, Try.ntmps56;go_wp2_with (first | ((with_reducible refine bJ (N := 1) rfl ?_); refine bD ?hg (N := 1) ?hd (cs := #[.int .i64 a0_0, .int .i64 a0_1]) (t := 25) ?hr ?_; (case hd => rfl); (case hg => rfl); (case hr => first | (go_simp; done) | (go_simp; rfl)); intro gb252 hg w7 hbox hb; replace hb : Below (World.heap w).size w w7 := ⟨hb.os, hb.tape, hb.output, hb.size, hb.block⟩; have n0_ := aa.mk (aj HB.out hb); have n1_ := aa.mk (hbox); have n2_ := aa.mk ((by rw [hg]; exact HB.out.size : w.heap.size ≤ gb252)); have n3_ := n2_; clear HB; have HB := n0_; have BK252 := n1_; have GW252 := n2_; have GE252 := n3_; clear n0_ n1_ n2_ n3_ hb hbox hg; have C8_0 : w7.cell? ⟨gb252, 0, none⟩ = some (.int .i64 a0_0) := (ag BK252.out 0).trans rfl; have C8_1 : w7.cell? ⟨gb252, 1, none⟩ = some (.int .i64 a0_1) := (ag BK252.out 1).trans rfl; have F8_0 := aN BK252.out 0; have F8_1 := aN BK252.out 1));go_ret;exact ⟨by first | rfl | (simp [au, ak] <;> rfl) | (simp [*, au, ak] <;> rfl), by exact rud HB.out rfl rfl rfl rfl⟩
 ·rw [if_neg c2] at H
  have c2b0 : decide (1 ≤ a0_0) = false := decide_eq_false c2;clear c2;obtain rfl := Option.some.inj H;go_enter Try.func56, Try.ntmps56;go_wp2_with (first | ((with_reducible refine bJ (N := 1) rfl ?_); refine bD ?hg (N := 1) ?hd (cs := #[.int .i64 a0_0, .int .i64 a0_1]) (t := 25) ?hr ?_; (case hd => rfl); (case hg => rfl); (case hr => first | (go_simp; done) | (go_simp; rfl)); intro gb252 hg w9 hbox hb; replace hb : Below (World.heap w).size w w9 := ⟨hb.os, hb.tape, hb.output, hb.size, hb.block⟩; have n0_ := aa.mk (aj HB.out hb); have n1_ := aa.mk (hbox); have n2_ := aa.mk ((by rw [hg]; exact HB.out.size : w.heap.size ≤ gb252)); have n3_ := n2_; clear HB; have HB := n0_; have BK252 := n1_; have GW252 := n2_; have GE252 := n3_; clear n0_ n1_ n2_ n3_ hb hbox hg; have Ca_0 : w9.cell? ⟨gb252, 0, none⟩ = some (.int .i64 a0_0) := (ag BK252.out 0).trans rfl; have Ca_1 : w9.cell? ⟨gb252, 1, none⟩ = some (.int .i64 a0_1) := (ag BK252.out 1).trans rfl; have Fa_0 := aN BK252.out 0; have Fa_1 := aN BK252.out 1));go_ret;exact ⟨by first | rfl | (simp [au, ak] <;> rfl) | (simp [*, au, ak] <;> rfl), by exact rud HB.out rfl rfl rfl rfl⟩
theorem aM.calls (k : Nat) (A0 : Option Addr) (c0 : Nat) (l0 : List Int) (r : Bool) (w : World) (hr0 : Kd.C (Kd.int .i64) w A0 l0.length l0) (hc0 : l0.length ≤ c0) (h : aM.f k l0 = some r) :
  Calls Try.prog 57 #[.slice A0 l0.length c0] w fun e w' => e = .returned (.bool r) ∧ bC w w' := by
 have HR0 := aa.mk hr0;have HC0 := aa.mk hc0;clear hr0 hc0;have H : (aM.l0 k l0 0) = some r := h;clear h;have H' := aa.mk H;clear H;go_enter Try.func57, Try.ntmps57;go_wp2;go_loopg [3] k (fun kq v3 w' => ∃ (x3_1 : Int), v3 = .int .i64 x3_1 ∧ aa (aM.l0 kq l0 x3_1 = some r) ∧ aa (kq ≤ k) ∧ bC w w')
 case atStart => exact ⟨(0), (by first | rfl | (simp; done) | (simp [*]; done)), H', ⟨Nat.le_refl _⟩, by repeat (first | exact bC.refl _ | apply bC.step)⟩
 case round =>
  clear H';obtain ⟨x3_1, rfl, HA, HK1, ⟨m1, rfl⟩⟩ := hrel;cases gk with
  | zero => exact absurd HA.out (by simp [aM.l0])
  | succ k1 =>
   have H := HA.out;clear HA;simp only [aM.l0] at H;by_cases c2 : x3_1 < (l0.length : Int)
   ·rw [if_pos c2] at H
    have c2b0 : decide (x3_1 < (l0.length : Int)) = true := decide_eq_true c2;clear c2;by_cases c3 : 0 ≤ x3_1
    ·rw [if_pos c3] at H
     have c3b0 : decide (0 ≤ x3_1) = true := decide_eq_true c3;clear c3;replace H := Option.bind_eq_some_iff.mp H;obtain ⟨t255, A40, H⟩ := H;replace H : (if t255 = true then (aM.l0 k1 l0 (wrap64 (x3_1 + 1))) else (some false)) = some r := H;have A4 := aa.mk A40;clear A40;by_cases c5 : t255 = true
     ·subst c5
      have H1 : (aM.l0 k1 l0 (wrap64 (x3_1 + 1))) = some r := by rw [if_pos rfl] at H; exact H
      clear H;have H := H1;clear H1;have H' := aa.mk H;clear H;have p254 : 0 ≤ (x3_1 : Int) := of_decide_eq_true (by first | (with_reducible assumption) | assumption);have q254 : x3_1 < (l0.length : Int) := of_decide_eq_true (by first | (with_reducible assumption) | assumption);obtain ⟨ad254, e254, hx254_0⟩ := Kd.fG HR0.out x3_1 p254 q254;cases e254
      replace p254 := eq_true p254;replace q254 := eq_true q254;go_wp2_with (first | ((with_reducible refine aQ (f := 76) rfl ?_); refine bZ (some 14) rfl rfl Try.func76 (by kernel_rfl) rfl #[.int .i64 (rd l0 x3_1), .int .i64 1099511627776] rfl (by (try simp only [SB.lA, SB.lC, SB.lN]); first | done | rfl | (simp only [SB.lD, SB.lT]; rfl)) ?_; (with_reducible refine (eX.calls (rd l0 x3_1) 1099511627776 true _ A4.out).mono ?_); rintro e w' ⟨rfl, ⟨nd, rfl⟩⟩; refine ⟨_, rfl, ?_⟩));go_roundg k1
      case measure => have := HK1.out; omega
      case rel => exact ⟨(wrap64 (x3_1 + 1)), (by first | rfl | (simp; done) | (simp [*]; done)), H', ⟨by have := HK1.out; omega⟩, by repeat (first | exact bC.refl _ | apply bC.step)⟩
     ·replace c5 := Bool.eq_false_iff.mpr c5
      subst c5;have H1 : (some false) = some r := by rw [if_neg (show ¬ (false = true) by decide)] at H; exact H
      clear H;have H := H1;clear H1;obtain rfl := Option.some.inj H;have p254 : 0 ≤ (x3_1 : Int) := of_decide_eq_true (by first | (with_reducible assumption) | assumption);have q254 : x3_1 < (l0.length : Int) := of_decide_eq_true (by first | (with_reducible assumption) | assumption);obtain ⟨ad254, e254, hx254_0⟩ := Kd.fG HR0.out x3_1 p254 q254;cases e254
      replace p254 := eq_true p254;replace q254 := eq_true q254;go_wp2_with (first | ((with_reducible refine aQ (f := 76) rfl ?_); refine bZ (some 14) rfl rfl Try.func76 (by kernel_rfl) rfl #[.int .i64 (rd l0 x3_1), .int .i64 1099511627776] rfl (by (try simp only [SB.lA, SB.lC, SB.lN]); first | done | rfl | (simp only [SB.lD, SB.lT]; rfl)) ?_; (with_reducible refine (eX.calls (rd l0 x3_1) 1099511627776 false _ A4.out).mono ?_); rintro e w' ⟨rfl, ⟨nd, rfl⟩⟩; refine ⟨_, rfl, ?_⟩));go_ret;exact ⟨by first | rfl | (simp; done) | (simp [*]; done), by repeat (first | exact bC.refl _ | apply bC.step)⟩
    ·rw [if_neg c3] at H
     exact absurd H (by simp)
   ·rw [if_neg c2] at H
    have c2b0 : decide (x3_1 < (l0.length : Int)) = false := decide_eq_false c2;clear c2;by_cases c6 : (l0.length : Int) ≥ 1
    ·rw [if_pos c6] at H
     have c6b0 : decide (1 ≤ (l0.length : Int)) = true := decide_eq_true c6;have c6b1 : decide (1 ≤ l0.length) = true := decide_eq_true (by omega);clear c6;obtain rfl := Option.some.inj H;go_wp2;go_ret;exact ⟨by first | rfl | (simp; done) | (simp [*]; done), by repeat (first | exact bC.refl _ | apply bC.step)⟩
    ·rw [if_neg c6] at H
     have c6b0 : decide (1 ≤ (l0.length : Int)) = false := decide_eq_false c6;have c6b1 : decide (1 ≤ l0.length) = false := decide_eq_false (by omega);clear c6;obtain rfl := Option.some.inj H;go_wp2;go_ret;exact ⟨by first | rfl | (simp; done) | (simp [*]; done), by repeat (first | exact bC.refl _ | apply bC.step)⟩
end Go.Proofs.Ytddnlnjmikcgfaa.PC
end
section
namespace Go.Proofs.Ytddnlnjmikcgfaa.PC
open Go.RowKit Go.WB.PrintWords Go.WB.PrintLast Go.WB.PrintMore
attribute [local go_sem] cB cZ dE dD bP bQ cO cK
set_option linter.unusedVariables false
set_option linter.unusedSimpArgs false
set_option maxHeartbeats 40000000
set_option maxRecDepth 100000
theorem fV.calls  (r1 : Int) (r2 : Int) (w : World) (h : fV.f  = some (r1, r2)) :
  Calls Try.prog 93 #[] w fun e w' => e = .returned (.agg #[.int .i64 r1, .int .i64 r2]) ∧ Below w.heap.size w w' := by
 have hu25 := Try.underlying25;have HB := aa.mk (Below.refl w.heap.size w);have H : (some (0, 0)) = some (r1, r2) := h;clear h;simp only [Option.some.injEq, Prod.mk.injEq] at H;obtain ⟨rfl, rfl⟩ := H;go_enter Try.func93, Try.ntmps93;go_wp2_with (first | ((with_reducible refine bJ (N := 0) rfl ?_); refine bD ?hg (N := 0) ?hd (cs := #[.int .i64 0, .int .i64 0]) (t := 25) ?hr ?_; (case hd => rfl); (case hg => rfl); (case hr => first | (go_simp; done) | (go_simp; rfl)); intro gb256 hg w1 hbox hb; replace hb : Below (World.heap w).size w w1 := ⟨hb.os, hb.tape, hb.output, hb.size, hb.block⟩; have n0_ := aa.mk (aj HB.out hb); have n1_ := aa.mk (hbox); have n2_ := aa.mk ((by rw [hg]; exact HB.out.size : w.heap.size ≤ gb256)); have n3_ := aa.mk ((by rw [hg]; exact HB.out.size : w.heap.size ≤ gb256)); clear HB; have HB := n0_; have BK256 := n1_; have GW256 := n2_; have GE256 := n3_; clear n0_ n1_ n2_ n3_ hb hbox hg; have C2_0 : w1.cell? ⟨gb256, 0, none⟩ = some (.int .i64 0) := (ag BK256.out 0).trans rfl; have C2_1 : w1.cell? ⟨gb256, 1, none⟩ = some (.int .i64 0) := (ag BK256.out 1).trans rfl; have F2_0 := aN BK256.out 0; have F2_1 := aN BK256.out 1));refine bodyPost_ret (results_cell_row rfl _ _ gb256 25 #[.int .i64 0, .int .i64 0] (0, 0) _ rfl (by (with_reducible repeat (first | refine ax ?_ _ | refine av ?_ | refine ay ?_ _)); exact LB.put2 BK256.out) Try.underlying25 rfl (by kernel_rfl)) rfl ?_;exact ⟨by first | rfl | (simp [au, ak] <;> rfl) | (simp [*, au, ak] <;> rfl), by repeat (first | (with_reducible first | exact HB.out | apply bq | apply aT | apply aJ | refine aW ?_ GE256.out) | exact HB.out)⟩
theorem fE.calls  (r1 : Int) (r2 : Int) (w : World) (h : fE.f  = some (r1, r2)) :
  Calls Try.prog 94 #[] w fun e w' => e = .returned (.agg #[.int .i64 r1, .int .i64 r2]) ∧ Below w.heap.size w w' := by
 have hu25 := Try.underlying25;have HB := aa.mk (Below.refl w.heap.size w);have H : (some (0, 1)) = some (r1, r2) := h;clear h;simp only [Option.some.injEq, Prod.mk.injEq] at H;obtain ⟨rfl, rfl⟩ := H;go_enter Try.func94, Try.ntmps94;go_wp2_with (first | ((with_reducible refine bJ (N := 0) rfl ?_); refine bD ?hg (N := 0) ?hd (cs := #[.int .i64 0, .int .i64 0]) (t := 25) ?hr ?_; (case hd => rfl); (case hg => rfl); (case hr => first | (go_simp; done) | (go_simp; rfl)); intro gb257 hg w1 hbox hb; replace hb : Below (World.heap w).size w w1 := ⟨hb.os, hb.tape, hb.output, hb.size, hb.block⟩; have n0_ := aa.mk (aj HB.out hb); have n1_ := aa.mk (hbox); have n2_ := aa.mk ((by rw [hg]; exact HB.out.size : w.heap.size ≤ gb257)); have n3_ := aa.mk ((by rw [hg]; exact HB.out.size : w.heap.size ≤ gb257)); clear HB; have HB := n0_; have BK257 := n1_; have GW257 := n2_; have GE257 := n3_; clear n0_ n1_ n2_ n3_ hb hbox hg; have C2_0 : w1.cell? ⟨gb257, 0, none⟩ = some (.int .i64 0) := (ag BK257.out 0).trans rfl; have C2_1 : w1.cell? ⟨gb257, 1, none⟩ = some (.int .i64 0) := (ag BK257.out 1).trans rfl; have F2_0 := aN BK257.out 0; have F2_1 := aN BK257.out 1));refine bodyPost_ret (results_cell_row rfl _ _ gb257 25 #[.int .i64 0, .int .i64 1] (0, 0) _ rfl (by (with_reducible repeat (first | refine ax ?_ _ | refine av ?_ | refine ay ?_ _)); exact LB.put2 BK257.out) Try.underlying25 rfl (by kernel_rfl)) rfl ?_;exact ⟨by first | rfl | (simp [au, ak] <;> rfl) | (simp [*, au, ak] <;> rfl), by repeat (first | (with_reducible first | exact HB.out | apply bq | apply aT | apply aJ | refine aW ?_ GE257.out) | exact HB.out)⟩
end Go.Proofs.Ytddnlnjmikcgfaa.PC
end
section
namespace Go.Proofs.Ytddnlnjmikcgfaa.PC
open Go.RowKit Go.WB.PrintWords Go.WB.PrintLast Go.WB.PrintMore
attribute [local go_sem] cB cZ dE dD bP bQ cO cK
set_option linter.unusedVariables false
set_option linter.unusedSimpArgs false
attribute [local go_sem high] eqA25
open Go.LB (sT sZ sS cells3 aK dQ aU)
open Go.SB (rpu rpf rtk rpu0 rpf0 rtk0 rbs rud pS)
set_option maxHeartbeats 40000000
set_option maxRecDepth 100000
def df.T1 : Bool × List (List Nat × List Nat) := (true, [([], []), ([0], [0]), ([1, 1], [1]), ([2], [2]), ([2, 2], [2]), ([3, 4, 2], [2, 3, 4]), ([2, 5], [2, 5]), ([6, 4], [6]), ([7], [7]), ([7, 7], [7]), ([8, 9, 7], [7, 8, 9]), ([7, 10], [7, 10]), ([11, 9, 0, 1, 2, 3, 4, 5, 6, 7, 8, 9, 10, 11], [11])])
def df.B1 : List Nat := [0, 1, 3, 7, 7, 31, 63, 127, 255, 255, 1023, 2047, 4095]
theorem df.tab1 : rtab .any (opsOf Try.f58 1) = df.T1 := by kernel_rfl
theorem df.bits1 : fQ df.T1.2 df.B1 = true := by kernel_rfl
theorem df.calls (a0_0 : Int) (a0_1 : Int) (r : Bool) (w : World) (h : df.f a0_0 a0_1 = some r) :
  Calls Try.prog 58 #[.agg #[.int .i64 a0_0, .int .i64 a0_1]] w fun e w' => e = .returned (.bool r) ∧ Below w.heap.size w w' := by
 have hu25 := Try.underlying25;have HB := aa.mk (Below.refl w.heap.size w);have H : ((cu.f a0_0 a0_1).bind fun t259 => (if t259 = true then (some true) else ((fV.f).bind fun bt260 => (if (a0_0 == bt260.1 && (a0_1 == bt260.2)) = true then (some true) else ((fE.f).bind fun bt262 => (some (a0_0 == bt262.1 && (a0_1 == bt262.2)))))))) = some r := h;clear h;replace H := Option.bind_eq_some_iff.mp H;obtain ⟨t259, A20, H⟩ := H;(try dsimp only at H);have A2 := aa.mk A20;clear A20;by_cases c3 : t259 = true
 ·subst c3
  have H1 : (some true) = some r := by rw [if_pos rfl] at H; exact H
  clear H;have H := H1;clear H1;obtain rfl := Option.some.inj H;go_enter Try.func58, Try.ntmps58;try go_wp2_with (first | ((with_reducible refine bJ (N := 1) rfl ?_); refine bD ?hg (N := 1) ?hd (cs := #[.int .i64 a0_0, .int .i64 a0_1]) (t := 25) ?hr ?_; (case hd => rfl); (case hg => rfl); (case hr => first | (go_simp; done) | (go_simp; rfl)); intro gb258 hg w4 hbox hb; replace hb : Below (World.heap w).size w w4 := ⟨hb.os, hb.tape, hb.output, hb.size, hb.block⟩; have n0_ := aa.mk (aj HB.out hb); have n1_ := aa.mk (hbox); have n2_ := aa.mk ((by rw [hg]; exact HB.out.size : w.heap.size ≤ gb258)); have n3_ := n2_; clear HB; have HB := n0_; have BK258 := n1_; have GW258 := n2_; have GE258 := n3_; clear n0_ n1_ n2_ n3_ hb hbox hg))
  have n0_ := aa.mk (av BK258.out);have n1_ := aa.mk (aJ HB.out);clear BK258 HB;have BK258 := n0_;have HB := n1_;clear n0_ n1_;refine eD (n := 13) (S := fun w' => w'.cell? ⟨gb258, 0, none⟩ = some (.int .i64 a0_0) ∧ w'.cell? ⟨gb258, 1, none⟩ = some (.int .i64 a0_1)) (ds := []) (rbs 13 0) (by kernel_rfl) rfl rfl ⟨(ag BK258.out 0).trans rfl, (ag BK258.out 1).trans rfl⟩ (fun hHeld => ?_); refine dx df.tab1 df.bits1 (fun HT_ HW_ => ?_);generalize w4.drew = w5 at BK258 HB hHeld ⊢;apply rtk 0 (some 3) HT_ HW_ hHeld (rbs 13 1) rfl rfl (by kernel_rfl) (fun _ _ _ h => h) (by rfl)
  ·rintro w' ⟨s0, s1⟩;go_simp;with_reducible rfl
  ·simp only [pS];rfl
  refine gy (i := 1) (N := some 4) (rbs 13 3) rfl rfl (di HT_.out (by kernel_rfl)) (by decide) (fun K hK => ?_);refine dY Try.func56 (by kernel_rfl) rfl #[.agg #[.int .i64 a0_0, .int .i64 a0_1]] (by rfl) rfl rfl (by (try simp only [SB.lA, SB.lC, SB.lN]); first | done | rfl | (simp only [SB.lD, SB.lT]; rfl)) ?_;with_reducible refine (cu.calls a0_0 a0_1 true _ A2.out).mono ?_
  rintro e w6 ⟨rfl, hb⟩;refine ⟨_, rfl, ?_⟩;replace hb : Below (World.heap w5).size w5 w6 := ⟨hb.os, hb.tape, hb.output, hb.size, hb.block⟩
  have n0_ := aa.mk (aZ BK258.out hb);have n1_ := aa.mk (aj HB.out hb);clear BK258 HB;have BK258 := n0_;have HB := n1_;clear n0_ n1_;(try clear hb hb2 hk hi);refine hK.out _ _ ⟨(ag BK258.out 0).trans rfl, (ag BK258.out 1).trans rfl⟩ (fun hHeld => ?_);clear hK K;refine dV (a' := ?_) ?_ ?_;rotate_left
  ·show Act.put _ (some 4) _ = _
   simp only [pS];rfl
  apply rpu 2 (some 5) HT_ (rbs 13 7) rfl rfl (by kernel_rfl) (fun _ _ _ h => h) (by rfl)
  ·intro w';go_simp;with_reducible rfl
  ·simp only [pS];rfl
  apply rpf 3 (some 6) HT_ (rbs 13 15) rfl rfl (by kernel_rfl) (fun _ _ _ h => h) (by rfl)
  ·simp only [pS];rfl
  apply rpf 4 (some 7) HT_ (rbs 13 31) rfl rfl (by kernel_rfl) (fun _ _ _ h => h) (by rfl)
  ·simp only [pS];rfl
  apply rpf 5 (some 8) HT_ (rbs 13 63) rfl rfl (by kernel_rfl) (fun _ _ _ h => h) (by rfl)
  ·simp only [pS];rfl
  apply rpu 6 (some 9) HT_ (rbs 13 127) rfl rfl (by kernel_rfl) (fun _ _ _ h => h) (by rfl)
  ·intro w';go_simp;with_reducible rfl
  ·simp only [pS];rfl
  apply rpu 7 (some 10) HT_ (rbs 13 255) rfl rfl (by kernel_rfl) (fun _ _ _ h => h) (by rfl)
  ·intro w';go_simp;with_reducible rfl
  ·simp only [pS];rfl
  apply rpf 8 (some 11) HT_ (rbs 13 511) rfl rfl (by kernel_rfl) (fun _ _ _ h => h) (by rfl)
  ·simp only [pS];rfl
  apply rpf 9 (some 12) HT_ (rbs 13 1023) rfl rfl (by kernel_rfl) (fun _ _ _ h => h) (by rfl)
  ·simp only [pS];rfl
  apply rpf 10 (some 13) HT_ (rbs 13 2047) rfl rfl (by kernel_rfl) (fun _ _ _ h => h) (by rfl)
  ·simp only [pS];rfl
  apply rpu 11 (some 14) HT_ (rbs 13 4095) rfl rfl (by kernel_rfl) (fun _ _ _ h => h) (by rfl)
  ·intro w';go_simp;with_reducible rfl
  ·simp only [pS];rfl
  apply rpu 12 (some 2) HT_ (rbs 13 8191) rfl rfl (by kernel_rfl) (fun _ _ _ h => h) (by rfl)
  ·intro w';go_simp;with_reducible rfl
  ·simp only [pS];rfl
  refine gz (dS HT_.out (by kernel_rfl)) ?_;try go_wp2
  go_ret;exact ⟨by first | rfl | (simp [au, ak] <;> rfl) | (simp [*, au, ak] <;> rfl), by exact rud HB.out rfl rfl rfl rfl⟩
 replace c3 := Bool.eq_false_iff.mpr c3;subst c3;have H1 : ((fV.f).bind fun bt260 => (if (a0_0 == bt260.1 && (a0_1 == bt260.2)) = true then (some true) else ((fE.f).bind fun bt262 => (some (a0_0 == bt262.1 && (a0_1 == bt262.2)))))) = some r := by rw [if_neg (show ¬ (false = true) by decide)] at H; exact H
 clear H;have H := H1;clear H1;replace H := Option.bind_eq_some_iff.mp H;obtain ⟨⟨t260, t261⟩, A70, H⟩ := H;replace H : (if (a0_0 == t260 && (a0_1 == t261)) = true then (some true) else ((fE.f).bind fun bt262 => (some (a0_0 == bt262.1 && (a0_1 == bt262.2))))) = some r := H;have A7 := aa.mk A70;clear A70;by_cases c8 : (a0_0 == t260 && (a0_1 == t261)) = true
 ·rw [if_pos c8] at H
  have c8b0 : (a0_0 == t260 && (a0_1 == t261)) = true := c8;(try (have c8b1 : decide (a0_0 = t260 && (a0_1 == t261)) = true := by simpa using c8));(try (have c8b2 : (a0_0 == t260 && (a0_1 == t261)) = true := by simpa using c8));clear c8;obtain rfl := Option.some.inj H;go_enter Try.func58, Try.ntmps58;try go_wp2_with (first | ((with_reducible refine bJ (N := 1) rfl ?_); refine bD ?hg (N := 1) ?hd (cs := #[.int .i64 a0_0, .int .i64 a0_1]) (t := 25) ?hr ?_; (case hd => rfl); (case hg => rfl); (case hr => first | (go_simp; done) | (go_simp; rfl)); intro gb258 hg w9 hbox hb; replace hb : Below (World.heap w).size w w9 := ⟨hb.os, hb.tape, hb.output, hb.size, hb.block⟩; have n0_ := aa.mk (aj HB.out hb); have n1_ := aa.mk (hbox); have n2_ := aa.mk ((by rw [hg]; exact HB.out.size : w.heap.size ≤ gb258)); have n3_ := n2_; clear HB; have HB := n0_; have BK258 := n1_; have GW258 := n2_; have GE258 := n3_; clear n0_ n1_ n2_ n3_ hb hbox hg))
  have n0_ := aa.mk (av BK258.out);have n1_ := aa.mk (aJ HB.out);clear BK258 HB;have BK258 := n0_;have HB := n1_;clear n0_ n1_;refine eD (n := 13) (S := fun w' => w'.cell? ⟨gb258, 0, none⟩ = some (.int .i64 a0_0) ∧ w'.cell? ⟨gb258, 1, none⟩ = some (.int .i64 a0_1)) (ds := []) (rbs 13 0) (by kernel_rfl) rfl rfl ⟨(ag BK258.out 0).trans rfl, (ag BK258.out 1).trans rfl⟩ (fun hHeld => ?_); refine dx df.tab1 df.bits1 (fun HT_ HW_ => ?_);generalize w9.drew = w10 at BK258 HB hHeld ⊢;apply rtk 0 (some 3) HT_ HW_ hHeld (rbs 13 1) rfl rfl (by kernel_rfl) (fun _ _ _ h => h) (by rfl)
  ·rintro w' ⟨s0, s1⟩;go_simp;with_reducible rfl
  ·simp only [pS];rfl
  refine gy (i := 1) (N := some 4) (rbs 13 3) rfl rfl (di HT_.out (by kernel_rfl)) (by decide) (fun K hK => ?_);refine dY Try.func56 (by kernel_rfl) rfl #[.agg #[.int .i64 a0_0, .int .i64 a0_1]] (by rfl) rfl rfl (by (try simp only [SB.lA, SB.lC, SB.lN]); first | done | rfl | (simp only [SB.lD, SB.lT]; rfl)) ?_;with_reducible refine (cu.calls a0_0 a0_1 false _ A2.out).mono ?_
  rintro e w11 ⟨rfl, hb⟩;refine ⟨_, rfl, ?_⟩;replace hb : Below (World.heap w10).size w10 w11 := ⟨hb.os, hb.tape, hb.output, hb.size, hb.block⟩
  have n0_ := aa.mk (aZ BK258.out hb);have n1_ := aa.mk (aj HB.out hb);clear BK258 HB;have BK258 := n0_;have HB := n1_;clear n0_ n1_;(try clear hb hb2 hk hi);refine hK.out _ _ ⟨(ag BK258.out 0).trans rfl, (ag BK258.out 1).trans rfl⟩ (fun hHeld => ?_);clear hK K;refine dV (a' := ?_) ?_ ?_;rotate_left
  ·show Act.put _ (some 4) _ = _
   simp only [pS];rfl
  apply rpu 2 (some 5) HT_ (rbs 13 7) rfl rfl (by kernel_rfl) (fun _ _ _ h => h) (by rfl)
  ·intro w';go_simp;with_reducible rfl
  ·simp only [pS];rfl
  apply rtk 3 (some 6) HT_ HW_ hHeld (rbs 13 15) rfl rfl (by kernel_rfl) (fun _ _ _ h => h) (by rfl)
  ·rintro w' ⟨s0, s1⟩;go_simp;with_reducible rfl
  ·simp only [pS];rfl
  refine gy (i := 4) (N := some 7) (rbs 13 31) rfl rfl (di HT_.out (by kernel_rfl)) (by decide) (fun K hK => ?_);refine dY Try.func93 (by kernel_rfl) rfl #[] (by rfl) rfl rfl (by (try simp only [SB.lA, SB.lC, SB.lN]); first | done | rfl | (simp only [SB.lD, SB.lT]; rfl)) ?_;with_reducible refine (fV.calls  t260 t261 _ A7.out).mono ?_
  rintro e w12 ⟨rfl, hb⟩;refine ⟨_, rfl, ?_⟩;replace hb : Below (World.heap w11).size w11 w12 := ⟨hb.os, hb.tape, hb.output, hb.size, hb.block⟩
  have n0_ := aa.mk (aZ BK258.out hb);have n1_ := aa.mk (aj HB.out hb);clear BK258 HB;have BK258 := n0_;have HB := n1_;clear n0_ n1_;(try clear hb hb2 hk hi);refine hK.out _ _ ⟨(ag BK258.out 0).trans rfl, (ag BK258.out 1).trans rfl⟩ (fun hHeld => ?_);clear hK K;refine dV (a' := ?_) ?_ ?_;rotate_left
  ·show Act.put _ (some 7) _ = _
   simp only [pS];rfl
  apply rpu 5 (some 8) HT_ (rbs 13 63) rfl rfl (by kernel_rfl) (fun _ _ _ h => h) (by rfl)
  ·intro w';go_simp;with_reducible rfl
  ·simp only [pS];rfl
  apply rpu 6 (some 9) HT_ (rbs 13 127) rfl rfl (by kernel_rfl) (fun _ _ _ h => h) (by rfl)
  ·intro w';go_simp;with_reducible rfl
  ·simp only [pS];rfl
  apply rpu 7 (some 10) HT_ (rbs 13 255) rfl rfl (by kernel_rfl) (fun _ _ _ h => h) (by rfl)
  ·intro w';go_simp;with_reducible rfl
  ·simp only [pS];rfl
  apply rpf 8 (some 11) HT_ (rbs 13 511) rfl rfl (by kernel_rfl) (fun _ _ _ h => h) (by rfl)
  ·simp only [pS];rfl
  apply rpf 9 (some 12) HT_ (rbs 13 1023) rfl rfl (by kernel_rfl) (fun _ _ _ h => h) (by rfl)
  ·simp only [pS];rfl
  apply rpf 10 (some 13) HT_ (rbs 13 2047) rfl rfl (by kernel_rfl) (fun _ _ _ h => h) (by rfl)
  ·simp only [pS];rfl
  apply rpu 11 (some 14) HT_ (rbs 13 4095) rfl rfl (by kernel_rfl) (fun _ _ _ h => h) (by rfl)
  ·intro w';go_simp;with_reducible rfl
  ·simp only [pS];rfl
  apply rpu 12 (some 2) HT_ (rbs 13 8191) rfl rfl (by kernel_rfl) (fun _ _ _ h => h) (by rfl)
  ·intro w';go_simp;with_reducible rfl
  ·simp only [pS];rfl
  refine gz (dS HT_.out (by kernel_rfl)) ?_;try go_wp2
  go_ret;exact ⟨by first | rfl | (simp [au, ak] <;> rfl) | (simp [*, au, ak] <;> rfl), by exact rud HB.out rfl rfl rfl rfl⟩
 rw [if_neg c8] at H;have c8b0 : (a0_0 == t260 && (a0_1 == t261)) = false := by simpa using c8
 (try (have c8b1 : decide (a0_0 = t260 && (a0_1 == t261)) = false := by simpa using c8));(try (have c8b2 : (a0_0 == t260 && (a0_1 == t261)) = false := by simpa using c8));(try (have c8b3 : ¬ (a0_0 = t260 && (a0_1 == t261)) := by simpa using c8));clear c8;replace H := Option.bind_eq_some_iff.mp H;obtain ⟨⟨t262, t263⟩, A130, H⟩ := H;replace H : (some (a0_0 == t262 && (a0_1 == t263))) = some r := H;have A13 := aa.mk A130;clear A130;obtain rfl := Option.some.inj H;go_enter Try.func58, Try.ntmps58;try go_wp2_with (first | ((with_reducible refine bJ (N := 1) rfl ?_); refine bD ?hg (N := 1) ?hd (cs := #[.int .i64 a0_0, .int .i64 a0_1]) (t := 25) ?hr ?_; (case hd => rfl); (case hg => rfl); (case hr => first | (go_simp; done) | (go_simp; rfl)); intro gb258 hg w14 hbox hb; replace hb : Below (World.heap w).size w w14 := ⟨hb.os, hb.tape, hb.output, hb.size, hb.block⟩; have n0_ := aa.mk (aj HB.out hb); have n1_ := aa.mk (hbox); have n2_ := aa.mk ((by rw [hg]; exact HB.out.size : w.heap.size ≤ gb258)); have n3_ := n2_; clear HB; have HB := n0_; have BK258 := n1_; have GW258 := n2_; have GE258 := n3_; clear n0_ n1_ n2_ n3_ hb hbox hg))
 have n0_ := aa.mk (av BK258.out);have n1_ := aa.mk (aJ HB.out);clear BK258 HB;have BK258 := n0_;have HB := n1_;clear n0_ n1_;refine eD (n := 13) (S := fun w' => w'.cell? ⟨gb258, 0, none⟩ = some (.int .i64 a0_0) ∧ w'.cell? ⟨gb258, 1, none⟩ = some (.int .i64 a0_1)) (ds := []) (rbs 13 0) (by kernel_rfl) rfl rfl ⟨(ag BK258.out 0).trans rfl, (ag BK258.out 1).trans rfl⟩ (fun hHeld => ?_); refine dx df.tab1 df.bits1 (fun HT_ HW_ => ?_);generalize w14.drew = w15 at BK258 HB hHeld ⊢;apply rtk 0 (some 3) HT_ HW_ hHeld (rbs 13 1) rfl rfl (by kernel_rfl) (fun _ _ _ h => h) (by rfl)
 ·rintro w' ⟨s0, s1⟩;go_simp;with_reducible rfl
 ·simp only [pS];rfl
 refine gy (i := 1) (N := some 4) (rbs 13 3) rfl rfl (di HT_.out (by kernel_rfl)) (by decide) (fun K hK => ?_);refine dY Try.func56 (by kernel_rfl) rfl #[.agg #[.int .i64 a0_0, .int .i64 a0_1]] (by rfl) rfl rfl (by (try simp only [SB.lA, SB.lC, SB.lN]); first | done | rfl | (simp only [SB.lD, SB.lT]; rfl)) ?_;with_reducible refine (cu.calls a0_0 a0_1 false _ A2.out).mono ?_
 rintro e w16 ⟨rfl, hb⟩;refine ⟨_, rfl, ?_⟩;replace hb : Below (World.heap w15).size w15 w16 := ⟨hb.os, hb.tape, hb.output, hb.size, hb.block⟩
 have n0_ := aa.mk (aZ BK258.out hb);have n1_ := aa.mk (aj HB.out hb);clear BK258 HB;have BK258 := n0_;have HB := n1_;clear n0_ n1_;(try clear hb hb2 hk hi);refine hK.out _ _ ⟨(ag BK258.out 0).trans rfl, (ag BK258.out 1).trans rfl⟩ (fun hHeld => ?_);clear hK K;refine dV (a' := ?_) ?_ ?_;rotate_left
 ·show Act.put _ (some 4) _ = _
  simp only [pS];rfl
 apply rpu 2 (some 5) HT_ (rbs 13 7) rfl rfl (by kernel_rfl) (fun _ _ _ h => h) (by rfl)
 ·intro w';go_simp;with_reducible rfl
 ·simp only [pS];rfl
 apply rtk 3 (some 6) HT_ HW_ hHeld (rbs 13 15) rfl rfl (by kernel_rfl) (fun _ _ _ h => h) (by rfl)
 ·rintro w' ⟨s0, s1⟩;go_simp;with_reducible rfl
 ·simp only [pS];rfl
 refine gy (i := 4) (N := some 7) (rbs 13 31) rfl rfl (di HT_.out (by kernel_rfl)) (by decide) (fun K hK => ?_);refine dY Try.func93 (by kernel_rfl) rfl #[] (by rfl) rfl rfl (by (try simp only [SB.lA, SB.lC, SB.lN]); first | done | rfl | (simp only [SB.lD, SB.lT]; rfl)) ?_;with_reducible refine (fV.calls  t260 t261 _ A7.out).mono ?_
 rintro e w17 ⟨rfl, hb⟩;refine ⟨_, rfl, ?_⟩;replace hb : Below (World.heap w16).size w16 w17 := ⟨hb.os, hb.tape, hb.output, hb.size, hb.block⟩
 have n0_ := aa.mk (aZ BK258.out hb);have n1_ := aa.mk (aj HB.out hb);clear BK258 HB;have BK258 := n0_;have HB := n1_;clear n0_ n1_;(try clear hb hb2 hk hi);refine hK.out _ _ ⟨(ag BK258.out 0).trans rfl, (ag BK258.out 1).trans rfl⟩ (fun hHeld => ?_);clear hK K;refine dV (a' := ?_) ?_ ?_;rotate_left
 ·show Act.put _ (some 7) _ = _
  simp only [pS];rfl
 apply rpu 5 (some 8) HT_ (rbs 13 63) rfl rfl (by kernel_rfl) (fun _ _ _ h => h) (by rfl)
 ·intro w';go_simp;with_reducible rfl
 ·simp only [pS];rfl
 apply rpu 6 (some 9) HT_ (rbs 13 127) rfl rfl (by kernel_rfl) (fun _ _ _ h => h) (by rfl)
 ·intro w';go_simp;with_reducible rfl
 ·simp only [pS];rfl
 apply rpu 7 (some 10) HT_ (rbs 13 255) rfl rfl (by kernel_rfl) (fun _ _ _ h => h) (by rfl)
 ·intro w';go_simp;with_reducible rfl
 ·simp only [pS];rfl
 apply rtk 8 (some 11) HT_ HW_ hHeld (rbs 13 511) rfl rfl (by kernel_rfl) (fun _ _ _ h => h) (by rfl)
 ·rintro w' ⟨s0, s1⟩;go_simp;with_reducible rfl
 ·simp only [pS];rfl
 refine gy (i := 9) (N := some 12) (rbs 13 1023) rfl rfl (di HT_.out (by kernel_rfl)) (by decide) (fun K hK => ?_);refine dY Try.func94 (by kernel_rfl) rfl #[] (by rfl) rfl rfl (by (try simp only [SB.lA, SB.lC, SB.lN]); first | done | rfl | (simp only [SB.lD, SB.lT]; rfl)) ?_;with_reducible refine (fE.calls  t262 t263 _ A13.out).mono ?_
 rintro e w18 ⟨rfl, hb⟩;refine ⟨_, rfl, ?_⟩;replace hb : Below (World.heap w17).size w17 w18 := ⟨hb.os, hb.tape, hb.output, hb.size, hb.block⟩
 have n0_ := aa.mk (aZ BK258.out hb);have n1_ := aa.mk (aj HB.out hb);clear BK258 HB;have BK258 := n0_;have HB := n1_;clear n0_ n1_;(try clear hb hb2 hk hi);refine hK.out _ _ ⟨(ag BK258.out 0).trans rfl, (ag BK258.out 1).trans rfl⟩ (fun hHeld => ?_);clear hK K;refine dV (a' := ?_) ?_ ?_;rotate_left
 ·show Act.put _ (some 12) _ = _
  simp only [pS];rfl
 apply rpu 10 (some 13) HT_ (rbs 13 2047) rfl rfl (by kernel_rfl) (fun _ _ _ h => h) (by rfl)
 ·intro w';go_simp;with_reducible rfl
 ·simp only [pS];rfl
 apply rpu 11 (some 14) HT_ (rbs 13 4095) rfl rfl (by kernel_rfl) (fun _ _ _ h => h) (by rfl)
 ·intro w';go_simp;with_reducible rfl
 ·simp only [pS];rfl
 apply rpu 12 (some 2) HT_ (rbs 13 8191) rfl rfl (by kernel_rfl) (fun _ _ _ h => h) (by rfl)
 ·intro w';go_simp;with_reducible rfl
 ·simp only [pS];rfl
 refine gz (dS HT_.out (by kernel_rfl)) ?_;try go_wp2
 go_ret;exact ⟨by first | rfl | (simp [au, ak] <;> rfl) | (simp [*, au, ak] <;> rfl), by exact rud HB.out rfl rfl rfl rfl⟩
end Go.Proofs.Ytddnlnjmikcgfaa.PC
end
