/- Own texts and the words of this seat, as far as this claim reads them: PCx2, PCx3, Opens, StatOpStyles, LibR, LibP, LibO. -/
import Derived.Test.YtddnlnjmikcgfaaPkSty0
import Derived.Deep.Slices
import Derived.KernelRfl
import Derived.Laws.Bits128
import Derived.Laws.BitsLemmas
import Derived.SizedLaws
section
namespace Go.Proofs.Ytddnlnjmikcgfaa.PC
open Go.RowKit Go.WB.PrintWords Go.WB.PrintLast Go.WB.PrintMore
attribute [local go_sem] dh dm eB eD bZ cu di dn
set_option linter.unusedVariables false
set_option linter.unusedSimpArgs false
set_option maxHeartbeats 40000000
set_option maxRecDepth 100000
def iH.f (a0_0 a0_1 a0_2 : Int) (l0_3 : List Int) (a0_4 a0_5 a0_6 a0_7 a0_8 : Int) (a0_9 : ByteArray) (a0_10 a0_11 : Int) : Option (Int) := some (wrap64 ((wrap64 (1 + (l0_3.length : Int))) + (a0_9.size : Int)))
def iA.f (a0_0 a0_1 a0_2 : Int) (l0_3 : List Int) (a0_4 a0_5 a0_6 a0_7 a0_8 : Int) (a0_9 : ByteArray) (a0_10 a0_11 : Int) (l0_12 : List Int) : Option (Bool) := (iH.f a0_0 a0_1 a0_2 l0_3 a0_4 a0_5 a0_6 a0_7 a0_8 a0_9 a0_10 a0_11).bind fun t103 => (if t103 > 2000 then (some true) else (some (decide ((l0_12.length : Int) > 3000))))
def az.l0 : Nat → List Int → List Int → Int → Option (List Int)
 | 0, _, _, _ => none
 | k + 1, x0, x3, x4 => if x4 < (x0.length : Int) then (if 0 ≤ x4 then (if x3.length < 140737488355328 then (az.l0 k x0 (x3 ++ [rd x0 x4]) (wrap64 (x4 + 1))) else (none)) else (none)) else (some x3)
def az.f (k : Nat) (l0 : List Int) : Option (List Int) := az.l0 k l0 ([] : List Int) 0
theorem az.dJ : ∀ k, (∀ y0 y1 y2, LeO (az.l0 k y0 y1 y2) (az.l0 (k + 1) y0 y1 y2))
 | 0 => fun _ _ _ r h => by simp [az.l0] at h
 | k + 1 => by
  have ih0 := az.dJ k
  ·intro y0 y1 y2
   unfold az.l0
   repeat' first | (with_reducible first | exact ih0 _ _ _ | exact LeO.refl _ | exact LeO.none _ | refine LeO.ite ?_ ?_ | refine LeO.bind ?_ (fun _ => ?_)) | exact ih0 _ _ _ | exact LeO.none _ | refine LeO.ite ?_ ?_ | refine LeO.bind ?_ (fun _ => ?_)
theorem az.mono : ∀ a0 k, LeO (az.f k a0) (az.f (k + 1) a0) := by
 intro a0 k
 have ih0 := az.dJ k
 unfold az.f
 repeat' first | (with_reducible first | exact ih0 _ _ _ | exact LeO.refl _ | exact LeO.none _ | refine LeO.ite ?_ ?_ | refine LeO.bind ?_ (fun _ => ?_)) | exact ih0 _ _ _ | exact LeO.none _ | refine LeO.ite ?_ ?_ | refine LeO.bind ?_ (fun _ => ?_)
noncomputable def az.L0 (x0 x3 : List Int) (x4 : Int) : Option (List Int) := LB.lim (fun k => az.l0 k x0 x3 x4)
theorem az.fQ (x0 x3 : List Int) (x4 : Int) : LB.Lim (fun k => az.l0 k x0 x3 x4) (az.L0 x0 x3 x4) := LB.bX (fun k => (az.dJ k) x0 x3 x4)
theorem az.ky (x0 x3 : List Int) (x4 : Int) : az.L0 x0 x3 x4 = (if x4 < (x0.length : Int) then (if 0 ≤ x4 then (if x3.length < 140737488355328 then (az.L0 x0 (x3 ++ [rd x0 x4]) (wrap64 (x4 + 1))) else (none)) else (none)) else (some x3)) := by
  refine LB.Lim.unique (az.fQ x0 x3 x4).shift ?_
  simp only [az.l0]
  (repeat' (first | exact LB.Lim.const _ | exact az.fQ _ _ _ | refine LB.Lim.ite ?_ ?_ | refine LB.Lim.bind ?_ (fun _ => ?_)))
noncomputable def az.F (l0 : List Int) : Option (List Int) := LB.lim (fun k => az.f k l0)
theorem az.bK (l0 : List Int) : LB.Lim (fun k => az.f k l0) (az.F l0) := LB.bX (az.mono l0)
theorem az.jQ (l0 : List Int) : az.F l0 = (az.L0 l0 ([] : List Int) 0) := by
  refine LB.Lim.unique (az.bK l0) ?_
  simp only [az.f]
  (repeat' (first | exact LB.Lim.const _ | exact az.fQ _ _ _ | refine LB.Lim.ite ?_ ?_ | refine LB.Lim.bind ?_ (fun _ => ?_)))
/-- A state of type 79 at block g of W; what its slices lead to came in by w0. -/
def bF (w0 W : World) (g : Nat) (f0 : List Int) (f1 f2 : Int) : Prop := ∃ A0 c0, W.heap[g]? = some (.cells #[.slice A0 f0.length c0, .int .i64 f1, .int .i64 f2] 79 (0, 0)) ∧ w0.heap.size ≤ g ∧ Kd.C (Kd.int .u8) w0 A0 f0.length f0 ∧ f0.length ≤ c0
theorem bF.grown {w0 W : World} {g : Nat} {f0 : List Int} {f1 : Int} {f2 : Int} {W1 : World} {row : Option Nat} (h : bF w0 W g f0 f1 f2) (hw : W.grownBy W1 row) (hne : some g ≠ row) : bF w0 W1 g f0 f1 f2 := by
 obtain ⟨A0, c0, hb, hg, hr0, hk0⟩ := h
 exact ⟨A0, c0, kr hb hw hne, hg, hr0, hk0⟩
theorem bF.kept {w0 W : World} {g : Nat} {f0 : List Int} {f1 : Int} {f2 : Int} {W1 : World} {S : Nat → Prop} (h : bF w0 W g f0 f1 f2) (hk : Kept W W1 S) (hne : ¬ S g) : bF w0 W1 g f0 f1 f2 := by
 obtain ⟨A0, c0, hb, hg, hr0, hk0⟩ := h
 exact ⟨A0, c0, jT hb hk hne, hg, hr0, hk0⟩
theorem bF.below {w0 W : World} {g : Nat} {f0 : List Int} {f1 : Int} {f2 : Int} {W1 : World} (h : bF w0 W g f0 f1 f2) (hw : Below W.heap.size W W1) : bF w0 W1 g f0 f1 f2 := h.grown (grown_of_below hw none) (by simp)
theorem bF.alloc {w0 W : World} {g : Nat} {f0 : List Int} {f1 : Int} {f2 : Int} (h : bF w0 W g f0 f1 f2) (o : Obj) : bF w0 (W.alloc o) g f0 f1 f2 := h.below (aY (Below.refl _ _) o)
theorem bF.drewN {w0 W : World} {g : Nat} {f0 : List Int} {f1 : Int} {f2 : Int} (h : bF w0 W g f0 f1 f2) (m : Nat) : bF w0 (W.drewN m) g f0 f1 f2 := h
theorem bF.drew {w0 W : World} {g : Nat} {f0 : List Int} {f1 : Int} {f2 : Int} (h : bF w0 W g f0 f1 f2) : bF w0 W.drew g f0 f1 f2 := h
theorem bF.at_ {w0 W : World} {g : Nat} {f0 : List Int} {f1 : Int} {f2 : Int} {w' : World} {m : Nat} (hq : W.drewN m = w') (h : bF w0 W g f0 f1 f2) : bF w0 w' g f0 f1 f2 := by subst hq; exact bF.drewN h m
theorem bF.apart {w0 W : World} {g : Nat} {f0 : List Int} {f1 : Int} {f2 : Int} {α : Type} {d : Kd α} {e : Nat} {base : Nat} {ok : Nat → Prop} {v : Value} {xs : List α} (h : bF w0 W g f0 f1 f2) (ho : d.R e W base ok v xs) (ht : ∀ q, q ∈ e :: d.E → q ≠ 79) : d.R e W base (fun k => ok k ∧ k ≠ g) v xs := by
 obtain ⟨A0, c0, hb, hg, hr0, hk0⟩ := h
 exact Kd.fu ho hb ht
theorem bF.own_ne {w0 W : World} {g : Nat} {f0 : List Int} {f1 : Int} {f2 : Int} {α : Type} {d : Kd α} {e : Nat} {base : Nat} {ok : Nat → Prop} {v : Value} {xs : List α} (h : bF w0 W g f0 f1 f2) (ho : d.R e W base ok v xs) (ht : e ≠ 79) : some g ≠ v.ownBlock := by
 obtain ⟨A0, c0, hb, hg, hr0, hk0⟩ := h
 exact Kd.R_ne ho hb ht
theorem bF.lt {w0 W : World} {g : Nat} {f0 : List Int} {f1 : Int} {f2 : Int} (h : bF w0 W g f0 f1 f2) : g < W.heap.size := by
 obtain ⟨A0, c0, hb, hg, hr0, hk0⟩ := h
 exact iK hb
theorem bF.ge {w0 W : World} {g : Nat} {f0 : List Int} {f1 : Int} {f2 : Int} (h : bF w0 W g f0 f1 f2) : w0.heap.size ≤ g := by
 obtain ⟨A0, c0, hb, hg, hr0, hk0⟩ := h
 exact hg
theorem bF.far {w0 W : World} {g : Nat} {f0 : List Int} {f1 : Int} {f2 : Int} {p : Addr} (h : bF w0 W g f0 f1 f2) (hne : g ≠ p.block) (u : Value) : bF w0 (W.setCell p u) g f0 f1 f2 := by
 obtain ⟨A0, c0, hb, hg, hr0, hk0⟩ := h
 exact ⟨A0, c0, gz hb hne u, hg, hr0, hk0⟩
theorem kT {W : World} {g : Nat} {A0 : Option Addr} {c0 : Nat} {f0 : List Int} {f1 : Int} {f2 : Int} (h : W.heap[g]? = some (.cells #[.slice A0 f0.length c0, .int .i64 f1, .int .i64 f2] 79 (0, 0))) : W.cell? ⟨g, 0, none⟩ = some (.slice A0 f0.length c0) := (ai h 0).trans rfl
theorem kU {W : World} {g : Nat} {A0 : Option Addr} {c0 : Nat} {f0 : List Int} {f1 : Int} {f2 : Int} (h : W.heap[g]? = some (.cells #[.slice A0 f0.length c0, .int .i64 f1, .int .i64 f2] 79 (0, 0))) : W.cell? ⟨g, 1, none⟩ = some (.int .i64 f1) := (ai h 1).trans rfl
theorem bF.ku {w0 W : World} {g : Nat} {f0 : List Int} {f1 : Int} {f2 : Int} (h : bF w0 W g f0 f1 f2) (x : Int) : bF w0 (W.setCell ⟨g, 1, none⟩ (.int .i64 x)) g f0 x f2 := by
 obtain ⟨A0, c0, hb, hg, hr0, hk0⟩ := h
 exact ⟨A0, c0, by simpa using blk_set hb 1 (.int .i64 x), hg, hr0, hk0⟩
theorem kV {W : World} {g : Nat} {A0 : Option Addr} {c0 : Nat} {f0 : List Int} {f1 : Int} {f2 : Int} (h : W.heap[g]? = some (.cells #[.slice A0 f0.length c0, .int .i64 f1, .int .i64 f2] 79 (0, 0))) : W.cell? ⟨g, 2, none⟩ = some (.int .i64 f2) := (ai h 2).trans rfl
theorem bF.kv {w0 W : World} {g : Nat} {f0 : List Int} {f1 : Int} {f2 : Int} (h : bF w0 W g f0 f1 f2) (x : Int) : bF w0 (W.setCell ⟨g, 2, none⟩ (.int .i64 x)) g f0 f1 x := by
 obtain ⟨A0, c0, hb, hg, hr0, hk0⟩ := h
 exact ⟨A0, c0, by simpa using blk_set hb 2 (.int .i64 x), hg, hr0, hk0⟩
def dx.f (s0_0 : List Int) (s0_1 s0_2 a1 a2 : Int) : Option (Int × Int) := if s0_2 = 0 then (some (wrap64 (s0_1 + a1), a2)) else (some (s0_1, s0_2))
mutual
def ak.l0 : Nat → List Int → Int → Int → Option (Int × Int × Int)
 | 0, _, _, _ => none
 | k + 1, x0, x2, x5 => if x5 = (x0.length : Int) then (some (0, 0, 7)) else (if 0 ≤ x5 then (if x5 < (x0.length : Int) then (if (rd x0 x5) ≥ 128 then (ak.j1 k x0 x2 x5 (x5 == 8)) else (ak.j1 k x0 x2 x5 false)) else (none)) else (none))
def ak.j1 : Nat → List Int → Int → Int → Bool → Option (Int × Int × Int)
 | 0, _, _, _, _ => none
 | k + 1, x0, x2, x5, x18 => if x18 = true then (some (0, 0, 1)) else (if 0 ≤ x5 then (if x5 < (x0.length : Int) then (if 0 ≤ (wrap64 (7 * x5)) then (if (rd x0 x5) ≥ 128 then (ak.l0 k x0 (Go.bits .or .i64 x2 (shl .i64 (wrap64 (Go.bits .and .u8 (rd x0 x5) 127)) (wrap64 (7 * x5)))) (wrap64 (x5 + 1))) else (if (rd x0 x5) = 0 then (if x5 > 0 then (ak.j2 k (Go.bits .or .i64 x2 (shl .i64 (wrap64 (Go.bits .and .u8 (rd x0 x5) 127)) (wrap64 (7 * x5)))) x5 true) else (ak.j2 k (Go.bits .or .i64 x2 (shl .i64 (wrap64 (Go.bits .and .u8 (rd x0 x5) 127)) (wrap64 (7 * x5)))) x5 (decide ((Go.bits .or .i64 x2 (shl .i64 (wrap64 (Go.bits .and .u8 (rd x0 x5) 127)) (wrap64 (7 * x5)))) > 4611686018427387904)))) else (ak.j2 k (Go.bits .or .i64 x2 (shl .i64 (wrap64 (Go.bits .and .u8 (rd x0 x5) 127)) (wrap64 (7 * x5)))) x5 (decide ((Go.bits .or .i64 x2 (shl .i64 (wrap64 (Go.bits .and .u8 (rd x0 x5) 127)) (wrap64 (7 * x5)))) > 4611686018427387904))))) else (none)) else (none)) else (none))
def ak.j2 : Nat → Int → Int → Bool → Option (Int × Int × Int)
 | 0, _, _, _ => none
 | k + 1, x2, x5, x49 => if x49 = true then (some (0, 0, 1)) else (some (x2, wrap64 (x5 + 1), 0))
end
def ak.f (k : Nat) (l0 : List Int) : Option (Int × Int × Int) := ak.l0 k l0 0 0
theorem ak.dJ : ∀ k, (∀ y0 y1 y2, LeO (ak.l0 k y0 y1 y2) (ak.l0 (k + 1) y0 y1 y2)) ∧ (∀ y0 y1 y2 y3, LeO (ak.j1 k y0 y1 y2 y3) (ak.j1 (k + 1) y0 y1 y2 y3)) ∧ (∀ y0 y1 y2, LeO (ak.j2 k y0 y1 y2) (ak.j2 (k + 1) y0 y1 y2))
 | 0 => ⟨fun _ _ _ r h => by simp [ak.l0] at h, fun _ _ _ _ r h => by simp [ak.j1] at h, fun _ _ _ r h => by simp [ak.j2] at h⟩
 | k + 1 => by
  obtain ⟨ih0, ih1, ih2⟩ := ak.dJ k
  refine ⟨?_, ?_, ?_⟩
  ·intro y0 y1 y2
   unfold ak.l0
   repeat' first | (with_reducible first | exact ih0 _ _ _ | exact ih1 _ _ _ _ | exact ih2 _ _ _ | exact LeO.refl _ | exact LeO.none _ | refine LeO.ite ?_ ?_ | refine LeO.bind ?_ (fun _ => ?_)) | exact ih0 _ _ _ | exact ih1 _ _ _ _ | exact ih2 _ _ _ | exact LeO.none _ | refine LeO.ite ?_ ?_ | refine LeO.bind ?_ (fun _ => ?_)
  ·intro y0 y1 y2 y3
   unfold ak.j1
   repeat' first | (with_reducible first | exact ih0 _ _ _ | exact ih1 _ _ _ _ | exact ih2 _ _ _ | exact LeO.refl _ | exact LeO.none _ | refine LeO.ite ?_ ?_ | refine LeO.bind ?_ (fun _ => ?_)) | exact ih0 _ _ _ | exact ih1 _ _ _ _ | exact ih2 _ _ _ | exact LeO.none _ | refine LeO.ite ?_ ?_ | refine LeO.bind ?_ (fun _ => ?_)
  ·intro y0 y1 y2
   unfold ak.j2
   repeat' first | (with_reducible first | exact ih0 _ _ _ | exact ih1 _ _ _ _ | exact ih2 _ _ _ | exact LeO.refl _ | exact LeO.none _ | refine LeO.ite ?_ ?_ | refine LeO.bind ?_ (fun _ => ?_)) | exact ih0 _ _ _ | exact ih1 _ _ _ _ | exact ih2 _ _ _ | exact LeO.none _ | refine LeO.ite ?_ ?_ | refine LeO.bind ?_ (fun _ => ?_)
theorem ak.mono : ∀ a0 k, LeO (ak.f k a0) (ak.f (k + 1) a0) := by
 intro a0 k
 obtain ⟨ih0, ih1, ih2⟩ := ak.dJ k
 unfold ak.f
 repeat' first | (with_reducible first | exact ih0 _ _ _ | exact ih1 _ _ _ _ | exact ih2 _ _ _ | exact LeO.refl _ | exact LeO.none _ | refine LeO.ite ?_ ?_ | refine LeO.bind ?_ (fun _ => ?_)) | exact ih0 _ _ _ | exact ih1 _ _ _ _ | exact ih2 _ _ _ | exact LeO.none _ | refine LeO.ite ?_ ?_ | refine LeO.bind ?_ (fun _ => ?_)
noncomputable def ak.L0 (x0 : List Int) (x2 x5 : Int) : Option (Int × Int × Int) := LB.lim (fun k => ak.l0 k x0 x2 x5)
noncomputable def ak.J1 (x0 : List Int) (x2 x5 : Int) (x18 : Bool) : Option (Int × Int × Int) := LB.lim (fun k => ak.j1 k x0 x2 x5 x18)
noncomputable def ak.J2 (x2 x5 : Int) (x49 : Bool) : Option (Int × Int × Int) := LB.lim (fun k => ak.j2 k x2 x5 x49)
theorem ak.fQ (x0 : List Int) (x2 x5 : Int) : LB.Lim (fun k => ak.l0 k x0 x2 x5) (ak.L0 x0 x2 x5) := LB.bX (fun k => (ak.dJ k).1 x0 x2 x5)
theorem ak.gZ (x0 : List Int) (x2 x5 : Int) (x18 : Bool) : LB.Lim (fun k => ak.j1 k x0 x2 x5 x18) (ak.J1 x0 x2 x5 x18) := LB.bX (fun k => (ak.dJ k).2.1 x0 x2 x5 x18)
theorem ak.jm (x2 x5 : Int) (x49 : Bool) : LB.Lim (fun k => ak.j2 k x2 x5 x49) (ak.J2 x2 x5 x49) := LB.bX (fun k => (ak.dJ k).2.2 x2 x5 x49)
theorem ak.ky (x0 : List Int) (x2 x5 : Int) : ak.L0 x0 x2 x5 = (if x5 = (x0.length : Int) then (some (0, 0, 7)) else (if 0 ≤ x5 then (if x5 < (x0.length : Int) then (if (rd x0 x5) ≥ 128 then (ak.J1 x0 x2 x5 (x5 == 8)) else (ak.J1 x0 x2 x5 false)) else (none)) else (none))) := by
  refine LB.Lim.unique (ak.fQ x0 x2 x5).shift ?_
  simp only [ak.l0]
  (repeat' (first | exact LB.Lim.const _ | exact ak.fQ _ _ _ | exact ak.gZ _ _ _ _ | exact ak.jm _ _ _ | refine LB.Lim.ite ?_ ?_ | refine LB.Lim.bind ?_ (fun _ => ?_)))
theorem ak.J1_eq (x0 : List Int) (x2 x5 : Int) (x18 : Bool) : ak.J1 x0 x2 x5 x18 = (if x18 = true then (some (0, 0, 1)) else (if 0 ≤ x5 then (if x5 < (x0.length : Int) then (if 0 ≤ (wrap64 (7 * x5)) then (if (rd x0 x5) ≥ 128 then (ak.L0 x0 (Go.bits .or .i64 x2 (shl .i64 (wrap64 (Go.bits .and .u8 (rd x0 x5) 127)) (wrap64 (7 * x5)))) (wrap64 (x5 + 1))) else (if (rd x0 x5) = 0 then (if x5 > 0 then (ak.J2 (Go.bits .or .i64 x2 (shl .i64 (wrap64 (Go.bits .and .u8 (rd x0 x5) 127)) (wrap64 (7 * x5)))) x5 true) else (ak.J2 (Go.bits .or .i64 x2 (shl .i64 (wrap64 (Go.bits .and .u8 (rd x0 x5) 127)) (wrap64 (7 * x5)))) x5 (decide ((Go.bits .or .i64 x2 (shl .i64 (wrap64 (Go.bits .and .u8 (rd x0 x5) 127)) (wrap64 (7 * x5)))) > 4611686018427387904)))) else (ak.J2 (Go.bits .or .i64 x2 (shl .i64 (wrap64 (Go.bits .and .u8 (rd x0 x5) 127)) (wrap64 (7 * x5)))) x5 (decide ((Go.bits .or .i64 x2 (shl .i64 (wrap64 (Go.bits .and .u8 (rd x0 x5) 127)) (wrap64 (7 * x5)))) > 4611686018427387904))))) else (none)) else (none)) else (none))) := by
  refine LB.Lim.unique (ak.gZ x0 x2 x5 x18).shift ?_
  simp only [ak.j1]
  (repeat' (first | exact LB.Lim.const _ | exact ak.fQ _ _ _ | exact ak.gZ _ _ _ _ | exact ak.jm _ _ _ | refine LB.Lim.ite ?_ ?_ | refine LB.Lim.bind ?_ (fun _ => ?_)))
theorem ak.J2_eq (x2 x5 : Int) (x49 : Bool) : ak.J2 x2 x5 x49 = (if x49 = true then (some (0, 0, 1)) else (some (x2, wrap64 (x5 + 1), 0))) := by
  refine LB.Lim.unique (ak.jm x2 x5 x49).shift ?_
  simp only [ak.j2]
  (repeat' (first | exact LB.Lim.const _ | exact ak.fQ _ _ _ | exact ak.gZ _ _ _ _ | exact ak.jm _ _ _ | refine LB.Lim.ite ?_ ?_ | refine LB.Lim.bind ?_ (fun _ => ?_)))
noncomputable def ak.F (l0 : List Int) : Option (Int × Int × Int) := LB.lim (fun k => ak.f k l0)
theorem ak.bK (l0 : List Int) : LB.Lim (fun k => ak.f k l0) (ak.F l0) := LB.bX (ak.mono l0)
theorem ak.jQ (l0 : List Int) : ak.F l0 = (ak.L0 l0 0 0) := by
  refine LB.Lim.unique (ak.bK l0) ?_
  simp only [ak.f]
  (repeat' (first | exact LB.Lim.const _ | exact ak.fQ _ _ _ | exact ak.gZ _ _ _ _ | exact ak.jm _ _ _ | refine LB.Lim.ite ?_ ?_ | refine LB.Lim.bind ?_ (fun _ => ?_)))
def iX.f (a0_0 a0_1 : Int) : Option (Bool) := if a0_0 ≥ 1 then (if a0_0 ≤ 1099511627776 then (if a0_1 ≥ 0 then (some (decide (a0_1 < 16))) else (some false)) else (some false)) else (some false)
def jd.f  : Option (Int × Int) := some (0, 0)
def kX.f  : Option (Int × Int) := some (0, 1)
def fq.f (a0_0 a0_1 : Int) : Option (Bool) := (iX.f a0_0 a0_1).bind fun t116 => (if t116 = true then (some true) else ((jd.f).bind fun bt117 => (if (a0_0 == bt117.1 && (a0_1 == bt117.2)) = true then (some true) else ((kX.f).bind fun bt119 => (some (a0_0 == bt119.1 && (a0_1 == bt119.2)))))))
def fZ.f (k : Nat) (l0 : List Int) : Option (Int × Int × Int × Int) := (ak.f k l0).bind fun bt122 => (if bt122.2.2 = 0 then (if 0 ≤ bt122.2.1 then (if bt122.2.1 ≤ (l0.length : Int) then ((ak.f k (l0.drop (bt122.2.1 : Int).toNat)).bind fun bt126 => (if bt126.2.2 = 0 then ((fq.f bt122.1 bt126.1).bind fun t129 => (if t129 = true then (some (bt122.1, bt126.1, wrap64 (bt122.2.1 + bt126.2.1), 0)) else (some (0, 0, 0, 1)))) else (some (0, 0, 0, bt126.2.2)))) else (none)) else (none)) else (some (0, 0, 0, bt122.2.2)))
theorem fZ.mono : ∀ a0 k, LeO (fZ.f k a0) (fZ.f (k + 1) a0) := by
 intro a0 k
 unfold fZ.f
 repeat' first | (with_reducible first | exact ak.mono _ _ | exact LeO.refl _ | exact LeO.none _ | refine LeO.ite ?_ ?_ | refine LeO.bind ?_ (fun _ => ?_)) | exact ak.mono _ _ | exact LeO.none _ | refine LeO.ite ?_ ?_ | refine LeO.bind ?_ (fun _ => ?_)
noncomputable def fZ.F (l0 : List Int) : Option (Int × Int × Int × Int) := LB.lim (fun k => fZ.f k l0)
theorem fZ.bK (l0 : List Int) : LB.Lim (fun k => fZ.f k l0) (fZ.F l0) := LB.bX (fZ.mono l0)
theorem fZ.jQ (l0 : List Int) : fZ.F l0 = ((ak.F l0).bind fun bt122 => (if bt122.2.2 = 0 then (if 0 ≤ bt122.2.1 then (if bt122.2.1 ≤ (l0.length : Int) then ((ak.F (l0.drop (bt122.2.1 : Int).toNat)).bind fun bt126 => (if bt126.2.2 = 0 then ((fq.f bt122.1 bt126.1).bind fun t129 => (if t129 = true then (some (bt122.1, bt126.1, wrap64 (bt122.2.1 + bt126.2.1), 0)) else (some (0, 0, 0, 1)))) else (some (0, 0, 0, bt126.2.2)))) else (none)) else (none)) else (some (0, 0, 0, bt122.2.2)))) := by
  refine LB.Lim.unique (fZ.bK l0) ?_
  simp only [fZ.f]
  (repeat' (first | exact LB.Lim.const _ | exact ak.bK _ | refine LB.Lim.ite ?_ ?_ | refine LB.Lim.bind ?_ (fun _ => ?_)))
def bD.f (k : Nat) (s0_0 : List Int) (s0_1 s0_2 : Int) : Option (Int × Int × Int × Int) := if 0 ≤ s0_1 then (if s0_1 ≤ (s0_0.length : Int) then ((fZ.f k (s0_0.drop (s0_1 : Int).toNat)).bind fun bt132 => ((dx.f s0_0 s0_1 s0_2 bt132.2.2.1 bt132.2.2.2).bind fun bt137 => (some (bt132.1, bt132.2.1, bt137.1, bt137.2)))) else (none)) else (none)
theorem bD.mono : ∀ a0 a1 a2 k, LeO (bD.f k a0 a1 a2) (bD.f (k + 1) a0 a1 a2) := by
 intro a0 a1 a2 k
 unfold bD.f
 repeat' first | (with_reducible first | exact fZ.mono _ _ | exact LeO.refl _ | exact LeO.none _ | refine LeO.ite ?_ ?_ | refine LeO.bind ?_ (fun _ => ?_)) | exact fZ.mono _ _ | exact LeO.none _ | refine LeO.ite ?_ ?_ | refine LeO.bind ?_ (fun _ => ?_)
noncomputable def bD.F (s0_0 : List Int) (s0_1 s0_2 : Int) : Option (Int × Int × Int × Int) := LB.lim (fun k => bD.f k s0_0 s0_1 s0_2)
theorem bD.bK (s0_0 : List Int) (s0_1 s0_2 : Int) : LB.Lim (fun k => bD.f k s0_0 s0_1 s0_2) (bD.F s0_0 s0_1 s0_2) := LB.bX (bD.mono s0_0 s0_1 s0_2)
theorem bD.jQ (s0_0 : List Int) (s0_1 s0_2 : Int) : bD.F s0_0 s0_1 s0_2 = (if 0 ≤ s0_1 then (if s0_1 ≤ (s0_0.length : Int) then ((fZ.F (s0_0.drop (s0_1 : Int).toNat)).bind fun bt132 => ((dx.f s0_0 s0_1 s0_2 bt132.2.2.1 bt132.2.2.2).bind fun bt137 => (some (bt132.1, bt132.2.1, bt137.1, bt137.2)))) else (none)) else (none)) := by
  refine LB.Lim.unique (bD.bK s0_0 s0_1 s0_2) ?_
  simp only [bD.f]
  (repeat' (first | exact LB.Lim.const _ | exact fZ.bK _ | refine LB.Lim.ite ?_ ?_ | refine LB.Lim.bind ?_ (fun _ => ?_)))
def dP.l0 : Nat → List Int → Int → Option (Bool)
 | 0, _, _ => none
 | k + 1, x0, x3 => if x3 = (x0.length : Int) then (if x3 ≥ 1 then (some (decide (x3 ≤ 16))) else (some false)) else (if 0 ≤ x3 then (if x3 < (x0.length : Int) then (if (rd x0 x3) ≥ 0 then (if (rd x0 x3) ≤ 1099511627776 then (dP.l0 k x0 (wrap64 (x3 + 1))) else (some false)) else (some false)) else (none)) else (none))
def dP.f (k : Nat) (l0 : List Int) : Option (Bool) := dP.l0 k l0 0
theorem dP.dJ : ∀ k, (∀ y0 y1, LeO (dP.l0 k y0 y1) (dP.l0 (k + 1) y0 y1))
 | 0 => fun _ _ r h => by simp [dP.l0] at h
 | k + 1 => by
  have ih0 := dP.dJ k
  ·intro y0 y1
   unfold dP.l0
   repeat' first | (with_reducible first | exact ih0 _ _ | exact LeO.refl _ | exact LeO.none _ | refine LeO.ite ?_ ?_ | refine LeO.bind ?_ (fun _ => ?_)) | exact ih0 _ _ | exact LeO.none _ | refine LeO.ite ?_ ?_ | refine LeO.bind ?_ (fun _ => ?_)
theorem dP.mono : ∀ a0 k, LeO (dP.f k a0) (dP.f (k + 1) a0) := by
 intro a0 k
 have ih0 := dP.dJ k
 unfold dP.f
 repeat' first | (with_reducible first | exact ih0 _ _ | exact LeO.refl _ | exact LeO.none _ | refine LeO.ite ?_ ?_ | refine LeO.bind ?_ (fun _ => ?_)) | exact ih0 _ _ | exact LeO.none _ | refine LeO.ite ?_ ?_ | refine LeO.bind ?_ (fun _ => ?_)
noncomputable def dP.L0 (x0 : List Int) (x3 : Int) : Option (Bool) := LB.lim (fun k => dP.l0 k x0 x3)
theorem dP.fQ (x0 : List Int) (x3 : Int) : LB.Lim (fun k => dP.l0 k x0 x3) (dP.L0 x0 x3) := LB.bX (fun k => (dP.dJ k) x0 x3)
theorem dP.ky (x0 : List Int) (x3 : Int) : dP.L0 x0 x3 = (if x3 = (x0.length : Int) then (if x3 ≥ 1 then (some (decide (x3 ≤ 16))) else (some false)) else (if 0 ≤ x3 then (if x3 < (x0.length : Int) then (if (rd x0 x3) ≥ 0 then (if (rd x0 x3) ≤ 1099511627776 then (dP.L0 x0 (wrap64 (x3 + 1))) else (some false)) else (some false)) else (none)) else (none))) := by
  refine LB.Lim.unique (dP.fQ x0 x3).shift ?_
  simp only [dP.l0]
  (repeat' (first | exact LB.Lim.const _ | exact dP.fQ _ _ | refine LB.Lim.ite ?_ ?_ | refine LB.Lim.bind ?_ (fun _ => ?_)))
noncomputable def dP.F (l0 : List Int) : Option (Bool) := LB.lim (fun k => dP.f k l0)
theorem dP.bK (l0 : List Int) : LB.Lim (fun k => dP.f k l0) (dP.F l0) := LB.bX (dP.mono l0)
theorem dP.jQ (l0 : List Int) : dP.F l0 = (dP.L0 l0 0) := by
  refine LB.Lim.unique (dP.bK l0) ?_
  simp only [dP.f]
  (repeat' (first | exact LB.Lim.const _ | exact dP.fQ _ _ | refine LB.Lim.ite ?_ ?_ | refine LB.Lim.bind ?_ (fun _ => ?_)))
def bB.l0 : Nat → List Int → List Int → Int → Int → Int → Option (List Int × Int × Int)
 | 0, _, _, _, _, _ => none
 | k + 1, x0, x2, x3, x20, x21 => if x21 < x20 then (if 0 ≤ x3 then (if x3 ≤ (x0.length : Int) then ((ak.f k (x0.drop (x3 : Int).toNat)).bind fun bt145 => (if bt145.2.2 = 0 then (if x2.length < 17592186044416 then (bB.l0 k x0 (x2 ++ [bt145.1]) (wrap64 (x3 + bt145.2.1)) x20 (wrap64 (x21 + 1))) else (none)) else (some (([] : List Int), 0, bt145.2.2)))) else (none)) else (none)) else (some (x2, x3, 0))
def bB.f (k : Nat) (l0 : List Int) : Option (List Int × Int × Int) := (ak.f k l0).bind fun bt141 => (if bt141.2.2 = 0 then (if bt141.1 > 1024 then (some (([] : List Int), 0, 1)) else (bB.l0 k l0 ([] : List Int) bt141.2.1 bt141.1 0)) else (some (([] : List Int), 0, bt141.2.2)))
theorem bB.dJ : ∀ k, (∀ y0 y1 y2 y3 y4, LeO (bB.l0 k y0 y1 y2 y3 y4) (bB.l0 (k + 1) y0 y1 y2 y3 y4))
 | 0 => fun _ _ _ _ _ r h => by simp [bB.l0] at h
 | k + 1 => by
  have ih0 := bB.dJ k
  ·intro y0 y1 y2 y3 y4
   unfold bB.l0
   repeat' first | (with_reducible first | exact ih0 _ _ _ _ _ | exact ak.mono _ _ | exact LeO.refl _ | exact LeO.none _ | refine LeO.ite ?_ ?_ | refine LeO.bind ?_ (fun _ => ?_)) | exact ih0 _ _ _ _ _ | exact ak.mono _ _ | exact LeO.none _ | refine LeO.ite ?_ ?_ | refine LeO.bind ?_ (fun _ => ?_)
theorem bB.mono : ∀ a0 k, LeO (bB.f k a0) (bB.f (k + 1) a0) := by
 intro a0 k
 have ih0 := bB.dJ k
 unfold bB.f
 repeat' first | (with_reducible first | exact ih0 _ _ _ _ _ | exact ak.mono _ _ | exact LeO.refl _ | exact LeO.none _ | refine LeO.ite ?_ ?_ | refine LeO.bind ?_ (fun _ => ?_)) | exact ih0 _ _ _ _ _ | exact ak.mono _ _ | exact LeO.none _ | refine LeO.ite ?_ ?_ | refine LeO.bind ?_ (fun _ => ?_)
noncomputable def bB.L0 (x0 x2 : List Int) (x3 x20 x21 : Int) : Option (List Int × Int × Int) := LB.lim (fun k => bB.l0 k x0 x2 x3 x20 x21)
theorem bB.fQ (x0 x2 : List Int) (x3 x20 x21 : Int) : LB.Lim (fun k => bB.l0 k x0 x2 x3 x20 x21) (bB.L0 x0 x2 x3 x20 x21) := LB.bX (fun k => (bB.dJ k) x0 x2 x3 x20 x21)
theorem bB.ky (x0 x2 : List Int) (x3 x20 x21 : Int) : bB.L0 x0 x2 x3 x20 x21 = (if x21 < x20 then (if 0 ≤ x3 then (if x3 ≤ (x0.length : Int) then ((ak.F (x0.drop (x3 : Int).toNat)).bind fun bt145 => (if bt145.2.2 = 0 then (if x2.length < 17592186044416 then (bB.L0 x0 (x2 ++ [bt145.1]) (wrap64 (x3 + bt145.2.1)) x20 (wrap64 (x21 + 1))) else (none)) else (some (([] : List Int), 0, bt145.2.2)))) else (none)) else (none)) else (some (x2, x3, 0))) := by
  refine LB.Lim.unique (bB.fQ x0 x2 x3 x20 x21).shift ?_
  simp only [bB.l0]
  (repeat' (first | exact LB.Lim.const _ | exact bB.fQ _ _ _ _ _ | exact ak.bK _ | refine LB.Lim.ite ?_ ?_ | refine LB.Lim.bind ?_ (fun _ => ?_)))
noncomputable def bB.F (l0 : List Int) : Option (List Int × Int × Int) := LB.lim (fun k => bB.f k l0)
theorem bB.bK (l0 : List Int) : LB.Lim (fun k => bB.f k l0) (bB.F l0) := LB.bX (bB.mono l0)
theorem bB.jQ (l0 : List Int) : bB.F l0 = ((ak.F l0).bind fun bt141 => (if bt141.2.2 = 0 then (if bt141.1 > 1024 then (some (([] : List Int), 0, 1)) else (bB.L0 l0 ([] : List Int) bt141.2.1 bt141.1 0)) else (some (([] : List Int), 0, bt141.2.2)))) := by
  refine LB.Lim.unique (bB.bK l0) ?_
  simp only [bB.f]
  (repeat' (first | exact LB.Lim.const _ | exact bB.fQ _ _ _ _ _ | exact ak.bK _ | refine LB.Lim.ite ?_ ?_ | refine LB.Lim.bind ?_ (fun _ => ?_)))
def fT.f (k : Nat) (l0 : List Int) : Option (List Int × Int × Int) := (bB.f k l0).bind fun bt151 => (if bt151.2.2 = 0 then ((dP.f k bt151.1).bind fun t156 => (if t156 = true then (some (bt151.1, bt151.2.1, 0)) else (some (([] : List Int), 0, 1)))) else (some (([] : List Int), 0, bt151.2.2)))
theorem fT.mono : ∀ a0 k, LeO (fT.f k a0) (fT.f (k + 1) a0) := by
 intro a0 k
 unfold fT.f
 repeat' first | (with_reducible first | exact bB.mono _ _ | exact dP.mono _ _ | exact LeO.refl _ | exact LeO.none _ | refine LeO.ite ?_ ?_ | refine LeO.bind ?_ (fun _ => ?_)) | exact bB.mono _ _ | exact dP.mono _ _ | exact LeO.none _ | refine LeO.ite ?_ ?_ | refine LeO.bind ?_ (fun _ => ?_)
noncomputable def fT.F (l0 : List Int) : Option (List Int × Int × Int) := LB.lim (fun k => fT.f k l0)
theorem fT.bK (l0 : List Int) : LB.Lim (fun k => fT.f k l0) (fT.F l0) := LB.bX (fT.mono l0)
theorem fT.jQ (l0 : List Int) : fT.F l0 = ((bB.F l0).bind fun bt151 => (if bt151.2.2 = 0 then ((dP.F bt151.1).bind fun t156 => (if t156 = true then (some (bt151.1, bt151.2.1, 0)) else (some (([] : List Int), 0, 1)))) else (some (([] : List Int), 0, bt151.2.2)))) := by
  refine LB.Lim.unique (fT.bK l0) ?_
  simp only [fT.f]
  (repeat' (first | exact LB.Lim.const _ | exact bB.bK _ | exact dP.bK _ | refine LB.Lim.ite ?_ ?_ | refine LB.Lim.bind ?_ (fun _ => ?_)))
def bH.f (k : Nat) (s0_0 : List Int) (s0_1 s0_2 : Int) : Option (Int × Int × Int) := if 0 ≤ s0_1 then (if s0_1 ≤ (s0_0.length : Int) then ((ak.f k (s0_0.drop (s0_1 : Int).toNat)).bind fun bt158 => ((dx.f s0_0 s0_1 s0_2 bt158.2.1 bt158.2.2).bind fun bt161 => (some (bt158.1, bt161.1, bt161.2)))) else (none)) else (none)
theorem bH.mono : ∀ a0 a1 a2 k, LeO (bH.f k a0 a1 a2) (bH.f (k + 1) a0 a1 a2) := by
 intro a0 a1 a2 k
 unfold bH.f
 repeat' first | (with_reducible first | exact ak.mono _ _ | exact LeO.refl _ | exact LeO.none _ | refine LeO.ite ?_ ?_ | refine LeO.bind ?_ (fun _ => ?_)) | exact ak.mono _ _ | exact LeO.none _ | refine LeO.ite ?_ ?_ | refine LeO.bind ?_ (fun _ => ?_)
noncomputable def bH.F (s0_0 : List Int) (s0_1 s0_2 : Int) : Option (Int × Int × Int) := LB.lim (fun k => bH.f k s0_0 s0_1 s0_2)
theorem bH.bK (s0_0 : List Int) (s0_1 s0_2 : Int) : LB.Lim (fun k => bH.f k s0_0 s0_1 s0_2) (bH.F s0_0 s0_1 s0_2) := LB.bX (bH.mono s0_0 s0_1 s0_2)
theorem bH.jQ (s0_0 : List Int) (s0_1 s0_2 : Int) : bH.F s0_0 s0_1 s0_2 = (if 0 ≤ s0_1 then (if s0_1 ≤ (s0_0.length : Int) then ((ak.F (s0_0.drop (s0_1 : Int).toNat)).bind fun bt158 => ((dx.f s0_0 s0_1 s0_2 bt158.2.1 bt158.2.2).bind fun bt161 => (some (bt158.1, bt161.1, bt161.2)))) else (none)) else (none)) := by
  refine LB.Lim.unique (bH.bK s0_0 s0_1 s0_2) ?_
  simp only [bH.f]
  (repeat' (first | exact LB.Lim.const _ | exact ak.bK _ | refine LB.Lim.ite ?_ ?_ | refine LB.Lim.bind ?_ (fun _ => ?_)))
def d9.f (k : Nat) (l0 : List Int) : Option (ByteArray × Int × Int) := (ak.f k l0).bind fun bt163 => (if bt163.2.2 = 0 then (if bt163.1 > 65536 then (some ((⟨#[]⟩ : ByteArray), 0, 1)) else (if bt163.1 > (wrap64 ((l0.length : Int) - bt163.2.1)) then (some ((⟨#[]⟩ : ByteArray), 0, 7)) else (if 0 ≤ bt163.2.1 then (if bt163.2.1 ≤ (wrap64 (bt163.2.1 + bt163.1)) then (if (wrap64 (bt163.2.1 + bt163.1)) ≤ (l0.length : Int) then (some (strOfNums ((l0.take ((wrap64 (bt163.2.1 + bt163.1)) : Int).toNat).drop (bt163.2.1 : Int).toNat), wrap64 (bt163.2.1 + bt163.1), 0)) else (none)) else (none)) else (none)))) else (some ((⟨#[]⟩ : ByteArray), 0, bt163.2.2)))
theorem d9.mono : ∀ a0 k, LeO (d9.f k a0) (d9.f (k + 1) a0) := by
 intro a0 k
 unfold d9.f
 repeat' first | (with_reducible first | exact ak.mono _ _ | exact LeO.refl _ | exact LeO.none _ | refine LeO.ite ?_ ?_ | refine LeO.bind ?_ (fun _ => ?_)) | exact ak.mono _ _ | exact LeO.none _ | refine LeO.ite ?_ ?_ | refine LeO.bind ?_ (fun _ => ?_)
noncomputable def d9.F (l0 : List Int) : Option (ByteArray × Int × Int) := LB.lim (fun k => d9.f k l0)
theorem d9.bK (l0 : List Int) : LB.Lim (fun k => d9.f k l0) (d9.F l0) := LB.bX (d9.mono l0)
theorem d9.jQ (l0 : List Int) : d9.F l0 = ((ak.F l0).bind fun bt163 => (if bt163.2.2 = 0 then (if bt163.1 > 65536 then (some ((⟨#[]⟩ : ByteArray), 0, 1)) else (if bt163.1 > (wrap64 ((l0.length : Int) - bt163.2.1)) then (some ((⟨#[]⟩ : ByteArray), 0, 7)) else (if 0 ≤ bt163.2.1 then (if bt163.2.1 ≤ (wrap64 (bt163.2.1 + bt163.1)) then (if (wrap64 (bt163.2.1 + bt163.1)) ≤ (l0.length : Int) then (some (strOfNums ((l0.take ((wrap64 (bt163.2.1 + bt163.1)) : Int).toNat).drop (bt163.2.1 : Int).toNat), wrap64 (bt163.2.1 + bt163.1), 0)) else (none)) else (none)) else (none)))) else (some ((⟨#[]⟩ : ByteArray), 0, bt163.2.2)))) := by
  refine LB.Lim.unique (d9.bK l0) ?_
  simp only [d9.f]
  (repeat' (first | exact LB.Lim.const _ | exact ak.bK _ | refine LB.Lim.ite ?_ ?_ | refine LB.Lim.bind ?_ (fun _ => ?_)))
mutual
def ay.j0 : Nat → Bool → List Int → Int → Int → Int → Int → Int → List Int → Int → Int → Int → Int → Int → ByteArray → Int → Int → Option (Int × Int × Int × List Int × Int × Int × Int × Int × Int × ByteArray × Int × Int × Int × Int)
 | 0, _, _, _, _, _, _, _, _, _, _, _, _, _, _, _, _ => none
 | k + 1, x42, x1000, x1001, x1002, je, jf, jg, jh, iQ, jO, jP, jB, jC, jD, jE, jF => if x42 = true then ((dx.f x1000 x1001 x1002 0 1).bind fun bt183 => (ay.j1 k x1000 bt183.1 bt183.2 je jf jg jh iQ jO jP jB jC jD jE jF)) else (ay.j1 k x1000 x1001 x1002 je jf jg jh iQ jO jP jB jC jD jE jF)
def ay.j1 : Nat → List Int → Int → Int → Int → Int → Int → List Int → Int → Int → Int → Int → Int → ByteArray → Int → Int → Option (Int × Int × Int × List Int × Int × Int × Int × Int × Int × ByteArray × Int × Int × Int × Int)
 | 0, _, _, _, _, _, _, _, _, _, _, _, _, _, _, _ => none
 | k + 1, x1000, x1001, x1002, je, jf, jg, jh, iQ, jO, jP, jB, jC, jD, jE, jF => (bD.f k x1000 x1001 x1002).bind fun bt185 => (if iQ = 1 then ((bD.f k x1000 bt185.2.2.1 bt185.2.2.2).bind fun bt189 => (if 0 ≤ bt189.2.2.1 then (if bt189.2.2.1 ≤ (x1000.length : Int) then ((d9.f k (x1000.drop (bt189.2.2.1 : Int).toNat)).bind fun bt194 => ((dx.f x1000 bt189.2.2.1 bt189.2.2.2 bt194.2.1 bt194.2.2).bind fun bt197 => (some (je, jf, jg, jh, iQ, bt185.1, bt185.2.1, bt189.1, bt189.2.1, bt194.1, jE, jF, bt197.1, bt197.2)))) else (none)) else (none))) else ((bH.f k x1000 bt185.2.2.1 bt185.2.2.2).bind fun bt199 => ((bH.f k x1000 bt199.2.1 bt199.2.2).bind fun bt202 => (some (je, jf, jg, jh, iQ, bt185.1, bt185.2.1, jB, jC, jD, bt199.1, wrap64 (bt202.1 - 1), bt202.2.1, bt202.2.2)))))
end
def ay.f (k : Nat) (s0_0 : List Int) (s0_1 s0_2 : Int) : Option (Int × Int × Int × List Int × Int × Int × Int × Int × Int × ByteArray × Int × Int × Int × Int) := (bD.f k s0_0 s0_1 s0_2).bind fun bt168 => (if 0 ≤ bt168.2.2.1 then (if bt168.2.2.1 ≤ (s0_0.length : Int) then ((fT.f k (s0_0.drop (bt168.2.2.1 : Int).toNat)).bind fun bt173 => ((dx.f s0_0 bt168.2.2.1 bt168.2.2.2 bt173.2.1 bt173.2.2).bind fun bt178 => ((bH.f k s0_0 bt178.1 bt178.2).bind fun bt180 => (if bt180.1 = 1 then (ay.j0 k false s0_0 bt180.2.1 bt180.2.2 bt168.1 bt168.2.1 0 bt173.1 bt180.1 0 0 0 0 (⟨#[]⟩ : ByteArray) 0 0) else (ay.j0 k (bt180.1 != 2) s0_0 bt180.2.1 bt180.2.2 bt168.1 bt168.2.1 0 bt173.1 bt180.1 0 0 0 0 (⟨#[]⟩ : ByteArray) 0 0))))) else (none)) else (none))
theorem ay.dJ : ∀ k, (∀ y0 y1 y2 y3 y4 y5 y6 y7 y8 y9 y10 y11 y12 y13 y14 y15, LeO (ay.j0 k y0 y1 y2 y3 y4 y5 y6 y7 y8 y9 y10 y11 y12 y13 y14 y15) (ay.j0 (k + 1) y0 y1 y2 y3 y4 y5 y6 y7 y8 y9 y10 y11 y12 y13 y14 y15)) ∧ (∀ y0 y1 y2 y3 y4 y5 y6 y7 y8 y9 y10 y11 y12 y13 y14, LeO (ay.j1 k y0 y1 y2 y3 y4 y5 y6 y7 y8 y9 y10 y11 y12 y13 y14) (ay.j1 (k + 1) y0 y1 y2 y3 y4 y5 y6 y7 y8 y9 y10 y11 y12 y13 y14))
 | 0 => ⟨fun _ _ _ _ _ _ _ _ _ _ _ _ _ _ _ _ r h => by simp [ay.j0] at h, fun _ _ _ _ _ _ _ _ _ _ _ _ _ _ _ r h => by simp [ay.j1] at h⟩
 | k + 1 => by
  obtain ⟨ih0, ih1⟩ := ay.dJ k
  refine ⟨?_, ?_⟩
  ·intro y0 y1 y2 y3 y4 y5 y6 y7 y8 y9 y10 y11 y12 y13 y14 y15
   unfold ay.j0
   repeat' first | (with_reducible first | exact ih0 _ _ _ _ _ _ _ _ _ _ _ _ _ _ _ _ | exact ih1 _ _ _ _ _ _ _ _ _ _ _ _ _ _ _ | exact d9.mono _ _ | exact fT.mono _ _ | exact bH.mono _ _ _ _ | exact bD.mono _ _ _ _ | exact LeO.refl _ | exact LeO.none _ | refine LeO.ite ?_ ?_ | refine LeO.bind ?_ (fun _ => ?_)) | exact ih0 _ _ _ _ _ _ _ _ _ _ _ _ _ _ _ _ | exact ih1 _ _ _ _ _ _ _ _ _ _ _ _ _ _ _ | exact d9.mono _ _ | exact fT.mono _ _ | exact bH.mono _ _ _ _ | exact bD.mono _ _ _ _ | exact LeO.none _ | refine LeO.ite ?_ ?_ | refine LeO.bind ?_ (fun _ => ?_)
  ·intro y0 y1 y2 y3 y4 y5 y6 y7 y8 y9 y10 y11 y12 y13 y14
   unfold ay.j1
   repeat' first | (with_reducible first | exact ih0 _ _ _ _ _ _ _ _ _ _ _ _ _ _ _ _ | exact ih1 _ _ _ _ _ _ _ _ _ _ _ _ _ _ _ | exact d9.mono _ _ | exact fT.mono _ _ | exact bH.mono _ _ _ _ | exact bD.mono _ _ _ _ | exact LeO.refl _ | exact LeO.none _ | refine LeO.ite ?_ ?_ | refine LeO.bind ?_ (fun _ => ?_)) | exact ih0 _ _ _ _ _ _ _ _ _ _ _ _ _ _ _ _ | exact ih1 _ _ _ _ _ _ _ _ _ _ _ _ _ _ _ | exact d9.mono _ _ | exact fT.mono _ _ | exact bH.mono _ _ _ _ | exact bD.mono _ _ _ _ | exact LeO.none _ | refine LeO.ite ?_ ?_ | refine LeO.bind ?_ (fun _ => ?_)
theorem ay.mono : ∀ a0 a1 a2 k, LeO (ay.f k a0 a1 a2) (ay.f (k + 1) a0 a1 a2) := by
 intro a0 a1 a2 k
 obtain ⟨ih0, ih1⟩ := ay.dJ k
 unfold ay.f
 repeat' first | (with_reducible first | exact ih0 _ _ _ _ _ _ _ _ _ _ _ _ _ _ _ _ | exact ih1 _ _ _ _ _ _ _ _ _ _ _ _ _ _ _ | exact d9.mono _ _ | exact fT.mono _ _ | exact bH.mono _ _ _ _ | exact bD.mono _ _ _ _ | exact LeO.refl _ | exact LeO.none _ | refine LeO.ite ?_ ?_ | refine LeO.bind ?_ (fun _ => ?_)) | exact ih0 _ _ _ _ _ _ _ _ _ _ _ _ _ _ _ _ | exact ih1 _ _ _ _ _ _ _ _ _ _ _ _ _ _ _ | exact d9.mono _ _ | exact fT.mono _ _ | exact bH.mono _ _ _ _ | exact bD.mono _ _ _ _ | exact LeO.none _ | refine LeO.ite ?_ ?_ | refine LeO.bind ?_ (fun _ => ?_)
noncomputable def ay.J0 (x42 : Bool) (x1000 : List Int) (x1001 x1002 je jf jg : Int) (jh : List Int) (iQ jO jP jB jC : Int) (jD : ByteArray) (jE jF : Int) : Option (Int × Int × Int × List Int × Int × Int × Int × Int × Int × ByteArray × Int × Int × Int × Int) := LB.lim (fun k => ay.j0 k x42 x1000 x1001 x1002 je jf jg jh iQ jO jP jB jC jD jE jF)
noncomputable def ay.J1 (x1000 : List Int) (x1001 x1002 je jf jg : Int) (jh : List Int) (iQ jO jP jB jC : Int) (jD : ByteArray) (jE jF : Int) : Option (Int × Int × Int × List Int × Int × Int × Int × Int × Int × ByteArray × Int × Int × Int × Int) := LB.lim (fun k => ay.j1 k x1000 x1001 x1002 je jf jg jh iQ jO jP jB jC jD jE jF)
theorem ay.jJ (x42 : Bool) (x1000 : List Int) (x1001 x1002 je jf jg : Int) (jh : List Int) (iQ jO jP jB jC : Int) (jD : ByteArray) (jE jF : Int) : LB.Lim (fun k => ay.j0 k x42 x1000 x1001 x1002 je jf jg jh iQ jO jP jB jC jD jE jF) (ay.J0 x42 x1000 x1001 x1002 je jf jg jh iQ jO jP jB jC jD jE jF) := LB.bX (fun k => (ay.dJ k).1 x42 x1000 x1001 x1002 je jf jg jh iQ jO jP jB jC jD jE jF)
theorem ay.gZ (x1000 : List Int) (x1001 x1002 je jf jg : Int) (jh : List Int) (iQ jO jP jB jC : Int) (jD : ByteArray) (jE jF : Int) : LB.Lim (fun k => ay.j1 k x1000 x1001 x1002 je jf jg jh iQ jO jP jB jC jD jE jF) (ay.J1 x1000 x1001 x1002 je jf jg jh iQ jO jP jB jC jD jE jF) := LB.bX (fun k => (ay.dJ k).2 x1000 x1001 x1002 je jf jg jh iQ jO jP jB jC jD jE jF)
theorem ay.J0_eq (x42 : Bool) (x1000 : List Int) (x1001 x1002 je jf jg : Int) (jh : List Int) (iQ jO jP jB jC : Int) (jD : ByteArray) (jE jF : Int) : ay.J0 x42 x1000 x1001 x1002 je jf jg jh iQ jO jP jB jC jD jE jF = (if x42 = true then ((dx.f x1000 x1001 x1002 0 1).bind fun bt183 => (ay.J1 x1000 bt183.1 bt183.2 je jf jg jh iQ jO jP jB jC jD jE jF)) else (ay.J1 x1000 x1001 x1002 je jf jg jh iQ jO jP jB jC jD jE jF)) := by
  refine LB.Lim.unique (ay.jJ x42 x1000 x1001 x1002 je jf jg jh iQ jO jP jB jC jD jE jF).shift ?_
  simp only [ay.j0]
  (repeat' (first | exact LB.Lim.const _ | exact ay.jJ _ _ _ _ _ _ _ _ _ _ _ _ _ _ _ _ | exact ay.gZ _ _ _ _ _ _ _ _ _ _ _ _ _ _ _ | exact d9.bK _ | exact fT.bK _ | exact bH.bK _ _ _ | exact bD.bK _ _ _ | refine LB.Lim.ite ?_ ?_ | refine LB.Lim.bind ?_ (fun _ => ?_)))
theorem ay.J1_eq (x1000 : List Int) (x1001 x1002 je jf jg : Int) (jh : List Int) (iQ jO jP jB jC : Int) (jD : ByteArray) (jE jF : Int) : ay.J1 x1000 x1001 x1002 je jf jg jh iQ jO jP jB jC jD jE jF = ((bD.F x1000 x1001 x1002).bind fun bt185 => (if iQ = 1 then ((bD.F x1000 bt185.2.2.1 bt185.2.2.2).bind fun bt189 => (if 0 ≤ bt189.2.2.1 then (if bt189.2.2.1 ≤ (x1000.length : Int) then ((d9.F (x1000.drop (bt189.2.2.1 : Int).toNat)).bind fun bt194 => ((dx.f x1000 bt189.2.2.1 bt189.2.2.2 bt194.2.1 bt194.2.2).bind fun bt197 => (some (je, jf, jg, jh, iQ, bt185.1, bt185.2.1, bt189.1, bt189.2.1, bt194.1, jE, jF, bt197.1, bt197.2)))) else (none)) else (none))) else ((bH.F x1000 bt185.2.2.1 bt185.2.2.2).bind fun bt199 => ((bH.F x1000 bt199.2.1 bt199.2.2).bind fun bt202 => (some (je, jf, jg, jh, iQ, bt185.1, bt185.2.1, jB, jC, jD, bt199.1, wrap64 (bt202.1 - 1), bt202.2.1, bt202.2.2)))))) := by
  refine LB.Lim.unique (ay.gZ x1000 x1001 x1002 je jf jg jh iQ jO jP jB jC jD jE jF).shift ?_
  simp only [ay.j1]
  (repeat' (first | exact LB.Lim.const _ | exact ay.jJ _ _ _ _ _ _ _ _ _ _ _ _ _ _ _ _ | exact ay.gZ _ _ _ _ _ _ _ _ _ _ _ _ _ _ _ | exact d9.bK _ | exact fT.bK _ | exact bH.bK _ _ _ | exact bD.bK _ _ _ | refine LB.Lim.ite ?_ ?_ | refine LB.Lim.bind ?_ (fun _ => ?_)))
noncomputable def ay.F (s0_0 : List Int) (s0_1 s0_2 : Int) : Option (Int × Int × Int × List Int × Int × Int × Int × Int × Int × ByteArray × Int × Int × Int × Int) := LB.lim (fun k => ay.f k s0_0 s0_1 s0_2)
theorem ay.bK (s0_0 : List Int) (s0_1 s0_2 : Int) : LB.Lim (fun k => ay.f k s0_0 s0_1 s0_2) (ay.F s0_0 s0_1 s0_2) := LB.bX (ay.mono s0_0 s0_1 s0_2)
theorem ay.jQ (s0_0 : List Int) (s0_1 s0_2 : Int) : ay.F s0_0 s0_1 s0_2 = ((bD.F s0_0 s0_1 s0_2).bind fun bt168 => (if 0 ≤ bt168.2.2.1 then (if bt168.2.2.1 ≤ (s0_0.length : Int) then ((fT.F (s0_0.drop (bt168.2.2.1 : Int).toNat)).bind fun bt173 => ((dx.f s0_0 bt168.2.2.1 bt168.2.2.2 bt173.2.1 bt173.2.2).bind fun bt178 => ((bH.F s0_0 bt178.1 bt178.2).bind fun bt180 => (if bt180.1 = 1 then (ay.J0 false s0_0 bt180.2.1 bt180.2.2 bt168.1 bt168.2.1 0 bt173.1 bt180.1 0 0 0 0 (⟨#[]⟩ : ByteArray) 0 0) else (ay.J0 (bt180.1 != 2) s0_0 bt180.2.1 bt180.2.2 bt168.1 bt168.2.1 0 bt173.1 bt180.1 0 0 0 0 (⟨#[]⟩ : ByteArray) 0 0))))) else (none)) else (none))) := by
  refine LB.Lim.unique (ay.bK s0_0 s0_1 s0_2) ?_
  simp only [ay.f]
  (repeat' (first | exact LB.Lim.const _ | exact ay.jJ _ _ _ _ _ _ _ _ _ _ _ _ _ _ _ _ | exact ay.gZ _ _ _ _ _ _ _ _ _ _ _ _ _ _ _ | exact d9.bK _ | exact fT.bK _ | exact bH.bK _ _ _ | exact bD.bK _ _ _ | refine LB.Lim.ite ?_ ?_ | refine LB.Lim.bind ?_ (fun _ => ?_)))
def key_Is.f (a0 : ByteArray) : Option (Bool) := if (a0.size : Int) ≥ 1 then (if (a0.size : Int) ≤ 64 then (if 0 ≤ (wrap64 ((a0.size : Int) - 1)) then (if (wrap64 ((a0.size : Int) - 1)) < (a0.size : Int) then (some ((bt a0 (wrap64 ((a0.size : Int) - 1))) != 0)) else (none)) else (none)) else (some false)) else (some false)
def prop_Is.f (a0 : Int) : Option (Bool) := if a0 ≥ 0 then (some (decide (a0 < 19))) else (some false)
mutual
def aD.j0 : Nat → Int → Bool → Option (Int × Int × Int × Bool)
 | 0, _, _ => none
 | k + 1, x3, x7 => if x7 = true then (some (0, 1, 0, false)) else (if x3 = 3 then (aD.j1 k x3 (x3 == 3)) else (if x3 = 4 then (aD.j1 k x3 (x3 == 4)) else (if x3 = 6 then (aD.j1 k x3 (x3 == 6)) else (if x3 = 8 then (aD.j1 k x3 (x3 == 8)) else (aD.j1 k x3 (x3 == 11))))))
def aD.j1 : Nat → Int → Bool → Option (Int × Int × Int × Bool)
 | 0, _, _ => none
 | k + 1, x3, x11 => if x11 = true then (some ((-1), 1099511627776, (-1), false)) else (if x3 = 5 then (aD.j2 k x3 (x3 == 5)) else (aD.j2 k x3 (x3 == 7)))
def aD.j2 : Nat → Int → Bool → Option (Int × Int × Int × Bool)
 | 0, _, _ => none
 | k + 1, x3, x18 => if x18 = true then (some (0, 1099511627776, 0, false)) else (if x3 = 9 then (some (0, 1048576, 0, false)) else (if x3 = 10 then (some (0, 1048576, 1, false)) else (if x3 = 15 then (some (0, 4, 0, false)) else (if x3 = 16 then (some (0, 3, 0, false)) else (if x3 = 17 then (some (0, 16777215, 0, true)) else (if x3 = 18 then (some (64, 64000, 1024, true)) else (some (0, 1073741824, 0, false))))))))
end
def aD.f (k : Nat) (a0 : Int) : Option (Int × Int × Int × Bool) := if a0 = 0 then (some (0, 2, 0, false)) else (if a0 = 1 then (aD.j0 k a0 (a0 == 1)) else (aD.j0 k a0 (a0 == 2)))
theorem aD.dJ : ∀ k, (∀ y0 y1, LeO (aD.j0 k y0 y1) (aD.j0 (k + 1) y0 y1)) ∧ (∀ y0 y1, LeO (aD.j1 k y0 y1) (aD.j1 (k + 1) y0 y1)) ∧ (∀ y0 y1, LeO (aD.j2 k y0 y1) (aD.j2 (k + 1) y0 y1))
 | 0 => ⟨fun _ _ r h => by simp [aD.j0] at h, fun _ _ r h => by simp [aD.j1] at h, fun _ _ r h => by simp [aD.j2] at h⟩
 | k + 1 => by
  obtain ⟨ih0, ih1, ih2⟩ := aD.dJ k
  refine ⟨?_, ?_, ?_⟩
  ·intro y0 y1
   unfold aD.j0
   repeat' first | (with_reducible first | exact ih0 _ _ | exact ih1 _ _ | exact ih2 _ _ | exact LeO.refl _ | exact LeO.none _ | refine LeO.ite ?_ ?_ | refine LeO.bind ?_ (fun _ => ?_)) | exact ih0 _ _ | exact ih1 _ _ | exact ih2 _ _ | exact LeO.none _ | refine LeO.ite ?_ ?_ | refine LeO.bind ?_ (fun _ => ?_)
  ·intro y0 y1
   unfold aD.j1
   repeat' first | (with_reducible first | exact ih0 _ _ | exact ih1 _ _ | exact ih2 _ _ | exact LeO.refl _ | exact LeO.none _ | refine LeO.ite ?_ ?_ | refine LeO.bind ?_ (fun _ => ?_)) | exact ih0 _ _ | exact ih1 _ _ | exact ih2 _ _ | exact LeO.none _ | refine LeO.ite ?_ ?_ | refine LeO.bind ?_ (fun _ => ?_)
  ·intro y0 y1
   unfold aD.j2
   repeat' first | (with_reducible first | exact ih0 _ _ | exact ih1 _ _ | exact ih2 _ _ | exact LeO.refl _ | exact LeO.none _ | refine LeO.ite ?_ ?_ | refine LeO.bind ?_ (fun _ => ?_)) | exact ih0 _ _ | exact ih1 _ _ | exact ih2 _ _ | exact LeO.none _ | refine LeO.ite ?_ ?_ | refine LeO.bind ?_ (fun _ => ?_)
theorem aD.mono : ∀ a0 k, LeO (aD.f k a0) (aD.f (k + 1) a0) := by
 intro a0 k
 obtain ⟨ih0, ih1, ih2⟩ := aD.dJ k
 unfold aD.f
 repeat' first | (with_reducible first | exact ih0 _ _ | exact ih1 _ _ | exact ih2 _ _ | exact LeO.refl _ | exact LeO.none _ | refine LeO.ite ?_ ?_ | refine LeO.bind ?_ (fun _ => ?_)) | exact ih0 _ _ | exact ih1 _ _ | exact ih2 _ _ | exact LeO.none _ | refine LeO.ite ?_ ?_ | refine LeO.bind ?_ (fun _ => ?_)
noncomputable def aD.J0 (x3 : Int) (x7 : Bool) : Option (Int × Int × Int × Bool) := LB.lim (fun k => aD.j0 k x3 x7)
noncomputable def aD.J1 (x3 : Int) (x11 : Bool) : Option (Int × Int × Int × Bool) := LB.lim (fun k => aD.j1 k x3 x11)
noncomputable def aD.J2 (x3 : Int) (x18 : Bool) : Option (Int × Int × Int × Bool) := LB.lim (fun k => aD.j2 k x3 x18)
theorem aD.jJ (x3 : Int) (x7 : Bool) : LB.Lim (fun k => aD.j0 k x3 x7) (aD.J0 x3 x7) := LB.bX (fun k => (aD.dJ k).1 x3 x7)
theorem aD.gZ (x3 : Int) (x11 : Bool) : LB.Lim (fun k => aD.j1 k x3 x11) (aD.J1 x3 x11) := LB.bX (fun k => (aD.dJ k).2.1 x3 x11)
theorem aD.jm (x3 : Int) (x18 : Bool) : LB.Lim (fun k => aD.j2 k x3 x18) (aD.J2 x3 x18) := LB.bX (fun k => (aD.dJ k).2.2 x3 x18)
theorem aD.J0_eq (x3 : Int) (x7 : Bool) : aD.J0 x3 x7 = (if x7 = true then (some (0, 1, 0, false)) else (if x3 = 3 then (aD.J1 x3 (x3 == 3)) else (if x3 = 4 then (aD.J1 x3 (x3 == 4)) else (if x3 = 6 then (aD.J1 x3 (x3 == 6)) else (if x3 = 8 then (aD.J1 x3 (x3 == 8)) else (aD.J1 x3 (x3 == 11))))))) := by
  refine LB.Lim.unique (aD.jJ x3 x7).shift ?_
  simp only [aD.j0]
  (repeat' (first | exact LB.Lim.const _ | exact aD.jJ _ _ | exact aD.gZ _ _ | exact aD.jm _ _ | refine LB.Lim.ite ?_ ?_ | refine LB.Lim.bind ?_ (fun _ => ?_)))
theorem aD.J1_eq (x3 : Int) (x11 : Bool) : aD.J1 x3 x11 = (if x11 = true then (some ((-1), 1099511627776, (-1), false)) else (if x3 = 5 then (aD.J2 x3 (x3 == 5)) else (aD.J2 x3 (x3 == 7)))) := by
  refine LB.Lim.unique (aD.gZ x3 x11).shift ?_
  simp only [aD.j1]
  (repeat' (first | exact LB.Lim.const _ | exact aD.jJ _ _ | exact aD.gZ _ _ | exact aD.jm _ _ | refine LB.Lim.ite ?_ ?_ | refine LB.Lim.bind ?_ (fun _ => ?_)))
theorem aD.J2_eq (x3 : Int) (x18 : Bool) : aD.J2 x3 x18 = (if x18 = true then (some (0, 1099511627776, 0, false)) else (if x3 = 9 then (some (0, 1048576, 0, false)) else (if x3 = 10 then (some (0, 1048576, 1, false)) else (if x3 = 15 then (some (0, 4, 0, false)) else (if x3 = 16 then (some (0, 3, 0, false)) else (if x3 = 17 then (some (0, 16777215, 0, true)) else (if x3 = 18 then (some (64, 64000, 1024, true)) else (some (0, 1073741824, 0, false))))))))) := by
  refine LB.Lim.unique (aD.jm x3 x18).shift ?_
  simp only [aD.j2]
  (repeat' (first | exact LB.Lim.const _ | exact aD.jJ _ _ | exact aD.gZ _ _ | exact aD.jm _ _ | refine LB.Lim.ite ?_ ?_ | refine LB.Lim.bind ?_ (fun _ => ?_)))
noncomputable def aD.F (a0 : Int) : Option (Int × Int × Int × Bool) := LB.lim (fun k => aD.f k a0)
theorem aD.bK (a0 : Int) : LB.Lim (fun k => aD.f k a0) (aD.F a0) := LB.bX (aD.mono a0)
theorem aD.jQ (a0 : Int) : aD.F a0 = (if a0 = 0 then (some (0, 2, 0, false)) else (if a0 = 1 then (aD.J0 a0 (a0 == 1)) else (aD.J0 a0 (a0 == 2)))) := by
  refine LB.Lim.unique (aD.bK a0) ?_
  simp only [aD.f]
  (repeat' (first | exact LB.Lim.const _ | exact aD.jJ _ _ | exact aD.gZ _ _ | exact aD.jm _ _ | refine LB.Lim.ite ?_ ?_ | refine LB.Lim.bind ?_ (fun _ => ?_)))
def gX.f (k : Nat) (a0 a1 : Int) : Option (Bool) := (prop_Is.f a0).bind fun t206 => (if t206 = true then ((aD.f k a0).bind fun bt207 => (if a1 ≥ bt207.1 then ((aD.f k a0).bind fun bt211 => (some (decide (a1 ≤ bt211.2.1)))) else (some false))) else (some false))
theorem gX.mono : ∀ a0 a1 k, LeO (gX.f k a0 a1) (gX.f (k + 1) a0 a1) := by
 intro a0 a1 k
 unfold gX.f
 repeat' first | (with_reducible first | exact aD.mono _ _ | exact LeO.refl _ | exact LeO.none _ | refine LeO.ite ?_ ?_ | refine LeO.bind ?_ (fun _ => ?_)) | exact aD.mono _ _ | exact LeO.none _ | refine LeO.ite ?_ ?_ | refine LeO.bind ?_ (fun _ => ?_)
noncomputable def gX.F (a0 a1 : Int) : Option (Bool) := LB.lim (fun k => gX.f k a0 a1)
theorem gX.bK (a0 a1 : Int) : LB.Lim (fun k => gX.f k a0 a1) (gX.F a0 a1) := LB.bX (gX.mono a0 a1)
theorem gX.jQ (a0 a1 : Int) : gX.F a0 a1 = ((prop_Is.f a0).bind fun t206 => (if t206 = true then ((aD.F a0).bind fun bt207 => (if a1 ≥ bt207.1 then ((aD.F a0).bind fun bt211 => (some (decide (a1 ≤ bt211.2.1)))) else (some false))) else (some false))) := by
  refine LB.Lim.unique (gX.bK a0 a1) ?_
  simp only [gX.f]
  (repeat' (first | exact LB.Lim.const _ | exact aD.bK _ | refine LB.Lim.ite ?_ ?_ | refine LB.Lim.bind ?_ (fun _ => ?_)))
def gD.f (k : Nat) (a0_0 a0_1 a0_2 : Int) (l0_3 : List Int) (a0_4 a0_5 a0_6 a0_7 a0_8 : Int) (a0_9 : ByteArray) (a0_10 a0_11 : Int) : Option (Bool) := if a0_4 = 1 then ((fq.f a0_7 a0_8).bind fun t216 => (if t216 = true then ((key_Is.f a0_9).bind fun t217 => (if t217 = true then (if a0_10 = 0 then (some (a0_11 == 0)) else (some false)) else (some false))) else (some false))) else (if a0_4 = 2 then ((gX.f k a0_10 a0_11).bind fun t218 => (if t218 = true then ((jd.f).bind fun bt219 => (if (a0_7 == bt219.1 && (a0_8 == bt219.2)) = true then (some (a0_9.toList == ([] : List UInt8))) else (some false))) else (some false))) else (some false))
theorem gD.mono : ∀ a0 a1 a2 a3 a4 a5 a6 a7 a8 a9 a10 a11 k, LeO (gD.f k a0 a1 a2 a3 a4 a5 a6 a7 a8 a9 a10 a11) (gD.f (k + 1) a0 a1 a2 a3 a4 a5 a6 a7 a8 a9 a10 a11) := by
 intro a0 a1 a2 a3 a4 a5 a6 a7 a8 a9 a10 a11 k
 unfold gD.f
 repeat' first | (with_reducible first | exact gX.mono _ _ _ | exact LeO.refl _ | exact LeO.none _ | refine LeO.ite ?_ ?_ | refine LeO.bind ?_ (fun _ => ?_)) | exact gX.mono _ _ _ | exact LeO.none _ | refine LeO.ite ?_ ?_ | refine LeO.bind ?_ (fun _ => ?_)
noncomputable def gD.F (a0_0 a0_1 a0_2 : Int) (l0_3 : List Int) (a0_4 a0_5 a0_6 a0_7 a0_8 : Int) (a0_9 : ByteArray) (a0_10 a0_11 : Int) : Option (Bool) := LB.lim (fun k => gD.f k a0_0 a0_1 a0_2 l0_3 a0_4 a0_5 a0_6 a0_7 a0_8 a0_9 a0_10 a0_11)
theorem gD.bK (a0_0 a0_1 a0_2 : Int) (l0_3 : List Int) (a0_4 a0_5 a0_6 a0_7 a0_8 : Int) (a0_9 : ByteArray) (a0_10 a0_11 : Int) : LB.Lim (fun k => gD.f k a0_0 a0_1 a0_2 l0_3 a0_4 a0_5 a0_6 a0_7 a0_8 a0_9 a0_10 a0_11) (gD.F a0_0 a0_1 a0_2 l0_3 a0_4 a0_5 a0_6 a0_7 a0_8 a0_9 a0_10 a0_11) := LB.bX (gD.mono a0_0 a0_1 a0_2 l0_3 a0_4 a0_5 a0_6 a0_7 a0_8 a0_9 a0_10 a0_11)
theorem gD.jQ (a0_0 a0_1 a0_2 : Int) (l0_3 : List Int) (a0_4 a0_5 a0_6 a0_7 a0_8 : Int) (a0_9 : ByteArray) (a0_10 a0_11 : Int) : gD.F a0_0 a0_1 a0_2 l0_3 a0_4 a0_5 a0_6 a0_7 a0_8 a0_9 a0_10 a0_11 = (if a0_4 = 1 then ((fq.f a0_7 a0_8).bind fun t216 => (if t216 = true then ((key_Is.f a0_9).bind fun t217 => (if t217 = true then (if a0_10 = 0 then (some (a0_11 == 0)) else (some false)) else (some false))) else (some false))) else (if a0_4 = 2 then ((gX.F a0_10 a0_11).bind fun t218 => (if t218 = true then ((jd.f).bind fun bt219 => (if (a0_7 == bt219.1 && (a0_8 == bt219.2)) = true then (some (a0_9.toList == ([] : List UInt8))) else (some false))) else (some false))) else (some false))) := by
  refine LB.Lim.unique (gD.bK a0_0 a0_1 a0_2 l0_3 a0_4 a0_5 a0_6 a0_7 a0_8 a0_9 a0_10 a0_11) ?_
  simp only [gD.f]
  (repeat' (first | exact LB.Lim.const _ | exact gX.bK _ _ | refine LB.Lim.ite ?_ ?_ | refine LB.Lim.bind ?_ (fun _ => ?_)))
def dO.j0 : Nat → Bool → Int → Int → Int → List Int → Int → Int → Int → Int → Int → ByteArray → Int → Int → Option (Bool)
 | 0, _, _, _, _, _, _, _, _, _, _, _, _, _ => none
 | k + 1, x27, x222000, kY, lQ, lS, x222004, x222005, x222006, x222007, x222008, x222009, x222010, x222011 => if x27 = true then (some false) else (if 0 ≤ kY then (if kY < (lS.length : Int) then (if lQ = (wrap64 ((rd lS kY) + 1)) then (if lQ ≤ 1099511627776 then ((gD.f k x222000 kY lQ lS x222004 x222005 x222006 x222007 x222008 x222009 x222010 x222011).bind fun t226 => (some t226)) else (some false)) else (some false)) else (none)) else (none))
def dO.f (k : Nat) (a0_0 a0_1 a0_2 : Int) (l0_3 : List Int) (a0_4 a0_5 a0_6 a0_7 a0_8 : Int) (a0_9 : ByteArray) (a0_10 a0_11 : Int) : Option (Bool) := (iX.f a0_0 a0_1).bind fun t222 => (if t222 = true then ((dP.f k l0_3).bind fun t223 => (if t223 = true then (if (l0_3.length : Int) ≤ a0_1 then (dO.j0 k true a0_0 a0_1 a0_2 l0_3 a0_4 a0_5 a0_6 a0_7 a0_8 a0_9 a0_10 a0_11) else ((iX.f a0_5 a0_6).bind fun t224 => (dO.j0 k (!t224) a0_0 a0_1 a0_2 l0_3 a0_4 a0_5 a0_6 a0_7 a0_8 a0_9 a0_10 a0_11))) else (dO.j0 k true a0_0 a0_1 a0_2 l0_3 a0_4 a0_5 a0_6 a0_7 a0_8 a0_9 a0_10 a0_11))) else (dO.j0 k true a0_0 a0_1 a0_2 l0_3 a0_4 a0_5 a0_6 a0_7 a0_8 a0_9 a0_10 a0_11))
theorem dO.dJ : ∀ k, (∀ y0 y1 y2 y3 y4 y5 y6 y7 y8 y9 y10 y11 y12, LeO (dO.j0 k y0 y1 y2 y3 y4 y5 y6 y7 y8 y9 y10 y11 y12) (dO.j0 (k + 1) y0 y1 y2 y3 y4 y5 y6 y7 y8 y9 y10 y11 y12))
 | 0 => fun _ _ _ _ _ _ _ _ _ _ _ _ _ r h => by simp [dO.j0] at h
 | k + 1 => by
  have ih0 := dO.dJ k
  ·intro y0 y1 y2 y3 y4 y5 y6 y7 y8 y9 y10 y11 y12
   unfold dO.j0
   repeat' first | (with_reducible first | exact ih0 _ _ _ _ _ _ _ _ _ _ _ _ _ | exact dP.mono _ _ | exact gD.mono _ _ _ _ _ _ _ _ _ _ _ _ _ | exact LeO.refl _ | exact LeO.none _ | refine LeO.ite ?_ ?_ | refine LeO.bind ?_ (fun _ => ?_)) | exact ih0 _ _ _ _ _ _ _ _ _ _ _ _ _ | exact dP.mono _ _ | exact gD.mono _ _ _ _ _ _ _ _ _ _ _ _ _ | exact LeO.none _ | refine LeO.ite ?_ ?_ | refine LeO.bind ?_ (fun _ => ?_)
theorem dO.mono : ∀ a0 a1 a2 a3 a4 a5 a6 a7 a8 a9 a10 a11 k, LeO (dO.f k a0 a1 a2 a3 a4 a5 a6 a7 a8 a9 a10 a11) (dO.f (k + 1) a0 a1 a2 a3 a4 a5 a6 a7 a8 a9 a10 a11) := by
 intro a0 a1 a2 a3 a4 a5 a6 a7 a8 a9 a10 a11 k
 have ih0 := dO.dJ k
 unfold dO.f
 repeat' first | (with_reducible first | exact ih0 _ _ _ _ _ _ _ _ _ _ _ _ _ | exact dP.mono _ _ | exact gD.mono _ _ _ _ _ _ _ _ _ _ _ _ _ | exact LeO.refl _ | exact LeO.none _ | refine LeO.ite ?_ ?_ | refine LeO.bind ?_ (fun _ => ?_)) | exact ih0 _ _ _ _ _ _ _ _ _ _ _ _ _ | exact dP.mono _ _ | exact gD.mono _ _ _ _ _ _ _ _ _ _ _ _ _ | exact LeO.none _ | refine LeO.ite ?_ ?_ | refine LeO.bind ?_ (fun _ => ?_)
noncomputable def dO.J0 (x27 : Bool) (x222000 kY lQ : Int) (lS : List Int) (x222004 x222005 x222006 x222007 x222008 : Int) (x222009 : ByteArray) (x222010 x222011 : Int) : Option (Bool) := LB.lim (fun k => dO.j0 k x27 x222000 kY lQ lS x222004 x222005 x222006 x222007 x222008 x222009 x222010 x222011)
theorem dO.jJ (x27 : Bool) (x222000 kY lQ : Int) (lS : List Int) (x222004 x222005 x222006 x222007 x222008 : Int) (x222009 : ByteArray) (x222010 x222011 : Int) : LB.Lim (fun k => dO.j0 k x27 x222000 kY lQ lS x222004 x222005 x222006 x222007 x222008 x222009 x222010 x222011) (dO.J0 x27 x222000 kY lQ lS x222004 x222005 x222006 x222007 x222008 x222009 x222010 x222011) := LB.bX (fun k => (dO.dJ k) x27 x222000 kY lQ lS x222004 x222005 x222006 x222007 x222008 x222009 x222010 x222011)
theorem dO.J0_eq (x27 : Bool) (x222000 kY lQ : Int) (lS : List Int) (x222004 x222005 x222006 x222007 x222008 : Int) (x222009 : ByteArray) (x222010 x222011 : Int) : dO.J0 x27 x222000 kY lQ lS x222004 x222005 x222006 x222007 x222008 x222009 x222010 x222011 = (if x27 = true then (some false) else (if 0 ≤ kY then (if kY < (lS.length : Int) then (if lQ = (wrap64 ((rd lS kY) + 1)) then (if lQ ≤ 1099511627776 then ((gD.F x222000 kY lQ lS x222004 x222005 x222006 x222007 x222008 x222009 x222010 x222011).bind fun t226 => (some t226)) else (some false)) else (some false)) else (none)) else (none))) := by
  refine LB.Lim.unique (dO.jJ x27 x222000 kY lQ lS x222004 x222005 x222006 x222007 x222008 x222009 x222010 x222011).shift ?_
  simp only [dO.j0]
  (repeat' (first | exact LB.Lim.const _ | exact dO.jJ _ _ _ _ _ _ _ _ _ _ _ _ _ | exact dP.bK _ | exact gD.bK _ _ _ _ _ _ _ _ _ _ _ _ | refine LB.Lim.ite ?_ ?_ | refine LB.Lim.bind ?_ (fun _ => ?_)))
noncomputable def dO.F (a0_0 a0_1 a0_2 : Int) (l0_3 : List Int) (a0_4 a0_5 a0_6 a0_7 a0_8 : Int) (a0_9 : ByteArray) (a0_10 a0_11 : Int) : Option (Bool) := LB.lim (fun k => dO.f k a0_0 a0_1 a0_2 l0_3 a0_4 a0_5 a0_6 a0_7 a0_8 a0_9 a0_10 a0_11)
theorem dO.bK (a0_0 a0_1 a0_2 : Int) (l0_3 : List Int) (a0_4 a0_5 a0_6 a0_7 a0_8 : Int) (a0_9 : ByteArray) (a0_10 a0_11 : Int) : LB.Lim (fun k => dO.f k a0_0 a0_1 a0_2 l0_3 a0_4 a0_5 a0_6 a0_7 a0_8 a0_9 a0_10 a0_11) (dO.F a0_0 a0_1 a0_2 l0_3 a0_4 a0_5 a0_6 a0_7 a0_8 a0_9 a0_10 a0_11) := LB.bX (dO.mono a0_0 a0_1 a0_2 l0_3 a0_4 a0_5 a0_6 a0_7 a0_8 a0_9 a0_10 a0_11)
theorem dO.jQ (a0_0 a0_1 a0_2 : Int) (l0_3 : List Int) (a0_4 a0_5 a0_6 a0_7 a0_8 : Int) (a0_9 : ByteArray) (a0_10 a0_11 : Int) : dO.F a0_0 a0_1 a0_2 l0_3 a0_4 a0_5 a0_6 a0_7 a0_8 a0_9 a0_10 a0_11 = ((iX.f a0_0 a0_1).bind fun t222 => (if t222 = true then ((dP.F l0_3).bind fun t223 => (if t223 = true then (if (l0_3.length : Int) ≤ a0_1 then (dO.J0 true a0_0 a0_1 a0_2 l0_3 a0_4 a0_5 a0_6 a0_7 a0_8 a0_9 a0_10 a0_11) else ((iX.f a0_5 a0_6).bind fun t224 => (dO.J0 (!t224) a0_0 a0_1 a0_2 l0_3 a0_4 a0_5 a0_6 a0_7 a0_8 a0_9 a0_10 a0_11))) else (dO.J0 true a0_0 a0_1 a0_2 l0_3 a0_4 a0_5 a0_6 a0_7 a0_8 a0_9 a0_10 a0_11))) else (dO.J0 true a0_0 a0_1 a0_2 l0_3 a0_4 a0_5 a0_6 a0_7 a0_8 a0_9 a0_10 a0_11))) := by
  refine LB.Lim.unique (dO.bK a0_0 a0_1 a0_2 l0_3 a0_4 a0_5 a0_6 a0_7 a0_8 a0_9 a0_10 a0_11) ?_
  simp only [dO.f]
  (repeat' (first | exact LB.Lim.const _ | exact dO.jJ _ _ _ _ _ _ _ _ _ _ _ _ _ | exact dP.bK _ | exact gD.bK _ _ _ _ _ _ _ _ _ _ _ _ | refine LB.Lim.ite ?_ ?_ | refine LB.Lim.bind ?_ (fun _ => ?_)))
def eF.f (k : Nat) (l0 : List Int) : Option (Int × Int × Int × List Int × Int × Int × Int × Int × Int × ByteArray × Int × Int × Int × Int) := (ay.f k l0 0 0).bind fun bt229 => (if bt229.2.2.2.2.2.2.2.2.2.2.2.2.2 = 0 then (if bt229.2.1 ≥ (bt229.2.2.2.1.length : Int) then (some (0, 0, 0, ([] : List Int), 0, 0, 0, 0, 0, (⟨#[]⟩ : ByteArray), 0, 0, 0, 1)) else (if 0 ≤ bt229.2.1 then (if bt229.2.1 < (bt229.2.2.2.1.length : Int) then ((dO.f k bt229.1 bt229.2.1 (wrap64 ((rd bt229.2.2.2.1 bt229.2.1) + 1)) bt229.2.2.2.1 bt229.2.2.2.2.1 bt229.2.2.2.2.2.1 bt229.2.2.2.2.2.2.1 bt229.2.2.2.2.2.2.2.1 bt229.2.2.2.2.2.2.2.2.1 bt229.2.2.2.2.2.2.2.2.2.1 bt229.2.2.2.2.2.2.2.2.2.2.1 bt229.2.2.2.2.2.2.2.2.2.2.2.1).bind fun t246 => (if t246 = true then (some (bt229.1, bt229.2.1, wrap64 ((rd bt229.2.2.2.1 bt229.2.1) + 1), bt229.2.2.2.1, bt229.2.2.2.2.1, bt229.2.2.2.2.2.1, bt229.2.2.2.2.2.2.1, bt229.2.2.2.2.2.2.2.1, bt229.2.2.2.2.2.2.2.2.1, bt229.2.2.2.2.2.2.2.2.2.1, bt229.2.2.2.2.2.2.2.2.2.2.1, bt229.2.2.2.2.2.2.2.2.2.2.2.1, bt229.2.2.2.2.2.2.2.2.2.2.2.2.1, 0)) else (some (0, 0, 0, ([] : List Int), 0, 0, 0, 0, 0, (⟨#[]⟩ : ByteArray), 0, 0, 0, 1)))) else (none)) else (none))) else (some (0, 0, 0, ([] : List Int), 0, 0, 0, 0, 0, (⟨#[]⟩ : ByteArray), 0, 0, 0, bt229.2.2.2.2.2.2.2.2.2.2.2.2.2)))
theorem eF.mono : ∀ a0 k, LeO (eF.f k a0) (eF.f (k + 1) a0) := by
 intro a0 k
 unfold eF.f
 repeat' first | (with_reducible first | exact dO.mono _ _ _ _ _ _ _ _ _ _ _ _ _ | exact ay.mono _ _ _ _ | exact LeO.refl _ | exact LeO.none _ | refine LeO.ite ?_ ?_ | refine LeO.bind ?_ (fun _ => ?_)) | exact dO.mono _ _ _ _ _ _ _ _ _ _ _ _ _ | exact ay.mono _ _ _ _ | exact LeO.none _ | refine LeO.ite ?_ ?_ | refine LeO.bind ?_ (fun _ => ?_)
noncomputable def eF.F (l0 : List Int) : Option (Int × Int × Int × List Int × Int × Int × Int × Int × Int × ByteArray × Int × Int × Int × Int) := LB.lim (fun k => eF.f k l0)
theorem eF.bK (l0 : List Int) : LB.Lim (fun k => eF.f k l0) (eF.F l0) := LB.bX (eF.mono l0)
theorem eF.jQ (l0 : List Int) : eF.F l0 = ((ay.F l0 0 0).bind fun bt229 => (if bt229.2.2.2.2.2.2.2.2.2.2.2.2.2 = 0 then (if bt229.2.1 ≥ (bt229.2.2.2.1.length : Int) then (some (0, 0, 0, ([] : List Int), 0, 0, 0, 0, 0, (⟨#[]⟩ : ByteArray), 0, 0, 0, 1)) else (if 0 ≤ bt229.2.1 then (if bt229.2.1 < (bt229.2.2.2.1.length : Int) then ((dO.F bt229.1 bt229.2.1 (wrap64 ((rd bt229.2.2.2.1 bt229.2.1) + 1)) bt229.2.2.2.1 bt229.2.2.2.2.1 bt229.2.2.2.2.2.1 bt229.2.2.2.2.2.2.1 bt229.2.2.2.2.2.2.2.1 bt229.2.2.2.2.2.2.2.2.1 bt229.2.2.2.2.2.2.2.2.2.1 bt229.2.2.2.2.2.2.2.2.2.2.1 bt229.2.2.2.2.2.2.2.2.2.2.2.1).bind fun t246 => (if t246 = true then (some (bt229.1, bt229.2.1, wrap64 ((rd bt229.2.2.2.1 bt229.2.1) + 1), bt229.2.2.2.1, bt229.2.2.2.2.1, bt229.2.2.2.2.2.1, bt229.2.2.2.2.2.2.1, bt229.2.2.2.2.2.2.2.1, bt229.2.2.2.2.2.2.2.2.1, bt229.2.2.2.2.2.2.2.2.2.1, bt229.2.2.2.2.2.2.2.2.2.2.1, bt229.2.2.2.2.2.2.2.2.2.2.2.1, bt229.2.2.2.2.2.2.2.2.2.2.2.2.1, 0)) else (some (0, 0, 0, ([] : List Int), 0, 0, 0, 0, 0, (⟨#[]⟩ : ByteArray), 0, 0, 0, 1)))) else (none)) else (none))) else (some (0, 0, 0, ([] : List Int), 0, 0, 0, 0, 0, (⟨#[]⟩ : ByteArray), 0, 0, 0, bt229.2.2.2.2.2.2.2.2.2.2.2.2.2)))) := by
  refine LB.Lim.unique (eF.bK l0) ?_
  simp only [eF.f]
  (repeat' (first | exact LB.Lim.const _ | exact dO.bK _ _ _ _ _ _ _ _ _ _ _ _ | exact ay.bK _ _ _ | refine LB.Lim.ite ?_ ?_ | refine LB.Lim.bind ?_ (fun _ => ?_)))
def aM.l0 : Nat → List Int → List Int → Int → Option (Bool)
 | 0, _, _, _ => none
 | k + 1, x0, x1, x5 => if x5 < (x0.length : Int) then (if 0 ≤ x5 then (if x5 < (x1.length : Int) then (if (rd x0 x5) = (rd x1 x5) then (aM.l0 k x0 x1 (wrap64 (x5 + 1))) else (some false)) else (none)) else (none)) else (some true)
def aM.f (k : Nat) (l0 l1 : List Int) : Option (Bool) := if (l0.length : Int) = (l1.length : Int) then (aM.l0 k l0 l1 0) else (some false)
theorem aM.dJ : ∀ k, (∀ y0 y1 y2, LeO (aM.l0 k y0 y1 y2) (aM.l0 (k + 1) y0 y1 y2))
 | 0 => fun _ _ _ r h => by simp [aM.l0] at h
 | k + 1 => by
  have ih0 := aM.dJ k
  ·intro y0 y1 y2
   unfold aM.l0
   repeat' first | (with_reducible first | exact ih0 _ _ _ | exact LeO.refl _ | exact LeO.none _ | refine LeO.ite ?_ ?_ | refine LeO.bind ?_ (fun _ => ?_)) | exact ih0 _ _ _ | exact LeO.none _ | refine LeO.ite ?_ ?_ | refine LeO.bind ?_ (fun _ => ?_)
theorem aM.mono : ∀ a0 a1 k, LeO (aM.f k a0 a1) (aM.f (k + 1) a0 a1) := by
 intro a0 a1 k
 have ih0 := aM.dJ k
 unfold aM.f
 repeat' first | (with_reducible first | exact ih0 _ _ _ | exact LeO.refl _ | exact LeO.none _ | refine LeO.ite ?_ ?_ | refine LeO.bind ?_ (fun _ => ?_)) | exact ih0 _ _ _ | exact LeO.none _ | refine LeO.ite ?_ ?_ | refine LeO.bind ?_ (fun _ => ?_)
noncomputable def aM.L0 (x0 x1 : List Int) (x5 : Int) : Option (Bool) := LB.lim (fun k => aM.l0 k x0 x1 x5)
theorem aM.fQ (x0 x1 : List Int) (x5 : Int) : LB.Lim (fun k => aM.l0 k x0 x1 x5) (aM.L0 x0 x1 x5) := LB.bX (fun k => (aM.dJ k) x0 x1 x5)
theorem aM.ky (x0 x1 : List Int) (x5 : Int) : aM.L0 x0 x1 x5 = (if x5 < (x0.length : Int) then (if 0 ≤ x5 then (if x5 < (x1.length : Int) then (if (rd x0 x5) = (rd x1 x5) then (aM.L0 x0 x1 (wrap64 (x5 + 1))) else (some false)) else (none)) else (none)) else (some true)) := by
  refine LB.Lim.unique (aM.fQ x0 x1 x5).shift ?_
  simp only [aM.l0]
  (repeat' (first | exact LB.Lim.const _ | exact aM.fQ _ _ _ | refine LB.Lim.ite ?_ ?_ | refine LB.Lim.bind ?_ (fun _ => ?_)))
noncomputable def aM.F (l0 l1 : List Int) : Option (Bool) := LB.lim (fun k => aM.f k l0 l1)
theorem aM.bK (l0 l1 : List Int) : LB.Lim (fun k => aM.f k l0 l1) (aM.F l0 l1) := LB.bX (aM.mono l0 l1)
theorem aM.jQ (l0 l1 : List Int) : aM.F l0 l1 = (if (l0.length : Int) = (l1.length : Int) then (aM.L0 l0 l1 0) else (some false)) := by
  refine LB.Lim.unique (aM.bK l0 l1) ?_
  simp only [aM.f]
  (repeat' (first | exact LB.Lim.const _ | exact aM.fQ _ _ _ | refine LB.Lim.ite ?_ ?_ | refine LB.Lim.bind ?_ (fun _ => ?_)))
def aX.f (k : Nat) (a0_0 a0_1 a0_2 : Int) (l0_3 : List Int) (a0_4 a0_5 a0_6 a0_7 a0_8 : Int) (a0_9 : ByteArray) (a0_10 a0_11 a1_0 a1_1 a1_2 : Int) (l1_3 : List Int) (a1_4 a1_5 a1_6 a1_7 a1_8 : Int) (a1_9 : ByteArray) (a1_10 a1_11 : Int) : Option (Bool) := if (a0_0 == a1_0 && (a0_1 == a1_1)) = true then (if a0_2 = a1_2 then ((aM.f k l0_3 l1_3).bind fun t251 => (if t251 = true then (if a0_4 = a1_4 then (if (a0_5 == a1_5 && (a0_6 == a1_6)) = true then (if (a0_7 == a1_7 && (a0_8 == a1_8)) = true then (if a0_9.toList = a1_9.toList then (if a0_10 = a1_10 then (some (a0_11 == a1_11)) else (some false)) else (some false)) else (some false)) else (some false)) else (some false)) else (some false))) else (some false)) else (some false)
theorem aX.mono : ∀ a0 a1 a2 a3 a4 a5 a6 a7 a8 a9 a10 a11 a12 a13 a14 a15 a16 a17 a18 a19 a20 a21 a22 a23 k, LeO (aX.f k a0 a1 a2 a3 a4 a5 a6 a7 a8 a9 a10 a11 a12 a13 a14 a15 a16 a17 a18 a19 a20 a21 a22 a23) (aX.f (k + 1) a0 a1 a2 a3 a4 a5 a6 a7 a8 a9 a10 a11 a12 a13 a14 a15 a16 a17 a18 a19 a20 a21 a22 a23) := by
 intro a0 a1 a2 a3 a4 a5 a6 a7 a8 a9 a10 a11 a12 a13 a14 a15 a16 a17 a18 a19 a20 a21 a22 a23 k
 unfold aX.f
 repeat' first | (with_reducible first | exact aM.mono _ _ _ | exact LeO.refl _ | exact LeO.none _ | refine LeO.ite ?_ ?_ | refine LeO.bind ?_ (fun _ => ?_)) | exact aM.mono _ _ _ | exact LeO.none _ | refine LeO.ite ?_ ?_ | refine LeO.bind ?_ (fun _ => ?_)
noncomputable def aX.F (a0_0 a0_1 a0_2 : Int) (l0_3 : List Int) (a0_4 a0_5 a0_6 a0_7 a0_8 : Int) (a0_9 : ByteArray) (a0_10 a0_11 a1_0 a1_1 a1_2 : Int) (l1_3 : List Int) (a1_4 a1_5 a1_6 a1_7 a1_8 : Int) (a1_9 : ByteArray) (a1_10 a1_11 : Int) : Option (Bool) := LB.lim (fun k => aX.f k a0_0 a0_1 a0_2 l0_3 a0_4 a0_5 a0_6 a0_7 a0_8 a0_9 a0_10 a0_11 a1_0 a1_1 a1_2 l1_3 a1_4 a1_5 a1_6 a1_7 a1_8 a1_9 a1_10 a1_11)
theorem aX.bK (a0_0 a0_1 a0_2 : Int) (l0_3 : List Int) (a0_4 a0_5 a0_6 a0_7 a0_8 : Int) (a0_9 : ByteArray) (a0_10 a0_11 a1_0 a1_1 a1_2 : Int) (l1_3 : List Int) (a1_4 a1_5 a1_6 a1_7 a1_8 : Int) (a1_9 : ByteArray) (a1_10 a1_11 : Int) : LB.Lim (fun k => aX.f k a0_0 a0_1 a0_2 l0_3 a0_4 a0_5 a0_6 a0_7 a0_8 a0_9 a0_10 a0_11 a1_0 a1_1 a1_2 l1_3 a1_4 a1_5 a1_6 a1_7 a1_8 a1_9 a1_10 a1_11) (aX.F a0_0 a0_1 a0_2 l0_3 a0_4 a0_5 a0_6 a0_7 a0_8 a0_9 a0_10 a0_11 a1_0 a1_1 a1_2 l1_3 a1_4 a1_5 a1_6 a1_7 a1_8 a1_9 a1_10 a1_11) := LB.bX (aX.mono a0_0 a0_1 a0_2 l0_3 a0_4 a0_5 a0_6 a0_7 a0_8 a0_9 a0_10 a0_11 a1_0 a1_1 a1_2 l1_3 a1_4 a1_5 a1_6 a1_7 a1_8 a1_9 a1_10 a1_11)
theorem aX.jQ (a0_0 a0_1 a0_2 : Int) (l0_3 : List Int) (a0_4 a0_5 a0_6 a0_7 a0_8 : Int) (a0_9 : ByteArray) (a0_10 a0_11 a1_0 a1_1 a1_2 : Int) (l1_3 : List Int) (a1_4 a1_5 a1_6 a1_7 a1_8 : Int) (a1_9 : ByteArray) (a1_10 a1_11 : Int) : aX.F a0_0 a0_1 a0_2 l0_3 a0_4 a0_5 a0_6 a0_7 a0_8 a0_9 a0_10 a0_11 a1_0 a1_1 a1_2 l1_3 a1_4 a1_5 a1_6 a1_7 a1_8 a1_9 a1_10 a1_11 = (if (a0_0 == a1_0 && (a0_1 == a1_1)) = true then (if a0_2 = a1_2 then ((aM.F l0_3 l1_3).bind fun t251 => (if t251 = true then (if a0_4 = a1_4 then (if (a0_5 == a1_5 && (a0_6 == a1_6)) = true then (if (a0_7 == a1_7 && (a0_8 == a1_8)) = true then (if a0_9.toList = a1_9.toList then (if a0_10 = a1_10 then (some (a0_11 == a1_11)) else (some false)) else (some false)) else (some false)) else (some false)) else (some false)) else (some false))) else (some false)) else (some false)) := by
  refine LB.Lim.unique (aX.bK a0_0 a0_1 a0_2 l0_3 a0_4 a0_5 a0_6 a0_7 a0_8 a0_9 a0_10 a0_11 a1_0 a1_1 a1_2 l1_3 a1_4 a1_5 a1_6 a1_7 a1_8 a1_9 a1_10 a1_11) ?_
  simp only [aX.f]
  (repeat' (first | exact LB.Lim.const _ | exact aM.bK _ _ | refine LB.Lim.ite ?_ ?_ | refine LB.Lim.bind ?_ (fun _ => ?_)))
def iI.f (a0 a1 : Int) : Option (Bool) := if a0 ≥ 0 then (some (decide (a0 ≤ a1))) else (some false)
def dC.f (a0_0 a0_1 : Int) : Option (Bool) := if a0_0 ≥ 1 then (if a0_0 ≤ 1099511627776 then ((iI.f a0_1 15).bind fun t253 => (some t253)) else (some false)) else (some false)
def aQ.l0 : Nat → List Int → Int → Option (Bool)
 | 0, _, _ => none
 | k + 1, x0, x3 => if x3 < (x0.length : Int) then (if 0 ≤ x3 then ((iI.f (rd x0 x3) 1099511627776).bind fun t255 => (if t255 = true then (aQ.l0 k x0 (wrap64 (x3 + 1))) else (some false))) else (none)) else (if (x0.length : Int) ≥ 1 then (some (decide ((x0.length : Int) ≤ 16))) else (some false))
def aQ.f (k : Nat) (l0 : List Int) : Option (Bool) := aQ.l0 k l0 0
theorem aQ.dJ : ∀ k, (∀ y0 y1, LeO (aQ.l0 k y0 y1) (aQ.l0 (k + 1) y0 y1))
 | 0 => fun _ _ r h => by simp [aQ.l0] at h
 | k + 1 => by
  have ih0 := aQ.dJ k
  ·intro y0 y1
   unfold aQ.l0
   repeat' first | (with_reducible first | exact ih0 _ _ | exact LeO.refl _ | exact LeO.none _ | refine LeO.ite ?_ ?_ | refine LeO.bind ?_ (fun _ => ?_)) | exact ih0 _ _ | exact LeO.none _ | refine LeO.ite ?_ ?_ | refine LeO.bind ?_ (fun _ => ?_)
theorem aQ.mono : ∀ a0 k, LeO (aQ.f k a0) (aQ.f (k + 1) a0) := by
 intro a0 k
 have ih0 := aQ.dJ k
 unfold aQ.f
 repeat' first | (with_reducible first | exact ih0 _ _ | exact LeO.refl _ | exact LeO.none _ | refine LeO.ite ?_ ?_ | refine LeO.bind ?_ (fun _ => ?_)) | exact ih0 _ _ | exact LeO.none _ | refine LeO.ite ?_ ?_ | refine LeO.bind ?_ (fun _ => ?_)
noncomputable def aQ.L0 (x0 : List Int) (x3 : Int) : Option (Bool) := LB.lim (fun k => aQ.l0 k x0 x3)
theorem aQ.fQ (x0 : List Int) (x3 : Int) : LB.Lim (fun k => aQ.l0 k x0 x3) (aQ.L0 x0 x3) := LB.bX (fun k => (aQ.dJ k) x0 x3)
theorem aQ.ky (x0 : List Int) (x3 : Int) : aQ.L0 x0 x3 = (if x3 < (x0.length : Int) then (if 0 ≤ x3 then ((iI.f (rd x0 x3) 1099511627776).bind fun t255 => (if t255 = true then (aQ.L0 x0 (wrap64 (x3 + 1))) else (some false))) else (none)) else (if (x0.length : Int) ≥ 1 then (some (decide ((x0.length : Int) ≤ 16))) else (some false))) := by
  refine LB.Lim.unique (aQ.fQ x0 x3).shift ?_
  simp only [aQ.l0]
  (repeat' (first | exact LB.Lim.const _ | exact aQ.fQ _ _ | refine LB.Lim.ite ?_ ?_ | refine LB.Lim.bind ?_ (fun _ => ?_)))
noncomputable def aQ.F (l0 : List Int) : Option (Bool) := LB.lim (fun k => aQ.f k l0)
theorem aQ.bK (l0 : List Int) : LB.Lim (fun k => aQ.f k l0) (aQ.F l0) := LB.bX (aQ.mono l0)
theorem aQ.jQ (l0 : List Int) : aQ.F l0 = (aQ.L0 l0 0) := by
  refine LB.Lim.unique (aQ.bK l0) ?_
  simp only [aQ.f]
  (repeat' (first | exact LB.Lim.const _ | exact aQ.fQ _ _ | refine LB.Lim.ite ?_ ?_ | refine LB.Lim.bind ?_ (fun _ => ?_)))
def jM.f  : Option (Int × Int) := some (0, 0)
def jr.f  : Option (Int × Int) := some (0, 1)
def cZ.f (a0_0 a0_1 : Int) : Option (Bool) := (dC.f a0_0 a0_1).bind fun t259 => (if t259 = true then (some true) else ((jM.f).bind fun bt260 => (if (a0_0 == bt260.1 && (a0_1 == bt260.2)) = true then (some true) else ((jr.f).bind fun bt262 => (some (a0_0 == bt262.1 && (a0_1 == bt262.2)))))))
def jk.f (a0 : ByteArray) : Option (Bool) := if (a0.size : Int) ≥ 1 then (if (a0.size : Int) ≤ 64 then (if 0 ≤ (wrap64 ((a0.size : Int) - 1)) then (if (wrap64 ((a0.size : Int) - 1)) < (a0.size : Int) then (some ((bt a0 (wrap64 ((a0.size : Int) - 1))) != 0)) else (none)) else (none)) else (some false)) else (some false)
mutual
def ag.j0 : Nat → Int → Bool → Option (Int × Int × Int × Bool)
 | 0, _, _ => none
 | k + 1, x6, x9 => if x9 = true then (some (0, 1, 0, true)) else (if x6 = 3 then (ag.j1 k x6 (x6 == 3)) else (if x6 = 4 then (ag.j1 k x6 (x6 == 4)) else (if x6 = 6 then (ag.j1 k x6 (x6 == 6)) else (if x6 = 8 then (ag.j1 k x6 (x6 == 8)) else (ag.j1 k x6 (x6 == 11))))))
def ag.j1 : Nat → Int → Bool → Option (Int × Int × Int × Bool)
 | 0, _, _ => none
 | k + 1, x6, x12 => if x12 = true then (some ((-1), 1099511627776, (-1), true)) else (if x6 = 5 then (ag.j2 k x6 (x6 == 5)) else (ag.j2 k x6 (x6 == 7)))
def ag.j2 : Nat → Int → Bool → Option (Int × Int × Int × Bool)
 | 0, _, _ => none
 | k + 1, x6, x18 => if x18 = true then (some (0, 1099511627776, 0, true)) else (if x6 = 9 then (some (0, 1048576, 0, true)) else (if x6 = 10 then (some (0, 1048576, 1, true)) else (if x6 = 12 then (ag.j3 k x6 (x6 == 12)) else (if x6 = 13 then (ag.j3 k x6 (x6 == 13)) else (ag.j3 k x6 (x6 == 14))))))
def ag.j3 : Nat → Int → Bool → Option (Int × Int × Int × Bool)
 | 0, _, _ => none
 | k + 1, x6, x25 => if x25 = true then (some (0, 1073741824, 0, true)) else (if x6 = 15 then (some (0, 4, 0, true)) else (if x6 = 16 then (some (0, 3, 0, true)) else (if x6 = 17 then (some (0, 16777215, 0, true)) else (if x6 = 18 then (some (64, 64000, 1024, true)) else (some (0, 0, 0, false))))))
end
def ag.f (k : Nat) (a0 : Int) : Option (Int × Int × Int × Bool) := if a0 = 0 then (some (0, 2, 0, true)) else (if a0 = 1 then (ag.j0 k a0 (a0 == 1)) else (ag.j0 k a0 (a0 == 2)))
theorem ag.dJ : ∀ k, (∀ y0 y1, LeO (ag.j0 k y0 y1) (ag.j0 (k + 1) y0 y1)) ∧ (∀ y0 y1, LeO (ag.j1 k y0 y1) (ag.j1 (k + 1) y0 y1)) ∧ (∀ y0 y1, LeO (ag.j2 k y0 y1) (ag.j2 (k + 1) y0 y1)) ∧ (∀ y0 y1, LeO (ag.j3 k y0 y1) (ag.j3 (k + 1) y0 y1))
 | 0 => ⟨fun _ _ r h => by simp [ag.j0] at h, fun _ _ r h => by simp [ag.j1] at h, fun _ _ r h => by simp [ag.j2] at h, fun _ _ r h => by simp [ag.j3] at h⟩
 | k + 1 => by
  obtain ⟨ih0, ih1, ih2, ih3⟩ := ag.dJ k
  refine ⟨?_, ?_, ?_, ?_⟩
  ·intro y0 y1
   unfold ag.j0
   repeat' first | (with_reducible first | exact ih0 _ _ | exact ih1 _ _ | exact ih2 _ _ | exact ih3 _ _ | exact LeO.refl _ | exact LeO.none _ | refine LeO.ite ?_ ?_ | refine LeO.bind ?_ (fun _ => ?_)) | exact ih0 _ _ | exact ih1 _ _ | exact ih2 _ _ | exact ih3 _ _ | exact LeO.none _ | refine LeO.ite ?_ ?_ | refine LeO.bind ?_ (fun _ => ?_)
  ·intro y0 y1
   unfold ag.j1
   repeat' first | (with_reducible first | exact ih0 _ _ | exact ih1 _ _ | exact ih2 _ _ | exact ih3 _ _ | exact LeO.refl _ | exact LeO.none _ | refine LeO.ite ?_ ?_ | refine LeO.bind ?_ (fun _ => ?_)) | exact ih0 _ _ | exact ih1 _ _ | exact ih2 _ _ | exact ih3 _ _ | exact LeO.none _ | refine LeO.ite ?_ ?_ | refine LeO.bind ?_ (fun _ => ?_)
  ·intro y0 y1
   unfold ag.j2
   repeat' first | (with_reducible first | exact ih0 _ _ | exact ih1 _ _ | exact ih2 _ _ | exact ih3 _ _ | exact LeO.refl _ | exact LeO.none _ | refine LeO.ite ?_ ?_ | refine LeO.bind ?_ (fun _ => ?_)) | exact ih0 _ _ | exact ih1 _ _ | exact ih2 _ _ | exact ih3 _ _ | exact LeO.none _ | refine LeO.ite ?_ ?_ | refine LeO.bind ?_ (fun _ => ?_)
  ·intro y0 y1
   unfold ag.j3
   repeat' first | (with_reducible first | exact ih0 _ _ | exact ih1 _ _ | exact ih2 _ _ | exact ih3 _ _ | exact LeO.refl _ | exact LeO.none _ | refine LeO.ite ?_ ?_ | refine LeO.bind ?_ (fun _ => ?_)) | exact ih0 _ _ | exact ih1 _ _ | exact ih2 _ _ | exact ih3 _ _ | exact LeO.none _ | refine LeO.ite ?_ ?_ | refine LeO.bind ?_ (fun _ => ?_)
theorem ag.mono : ∀ a0 k, LeO (ag.f k a0) (ag.f (k + 1) a0) := by
 intro a0 k
 obtain ⟨ih0, ih1, ih2, ih3⟩ := ag.dJ k
 unfold ag.f
 repeat' first | (with_reducible first | exact ih0 _ _ | exact ih1 _ _ | exact ih2 _ _ | exact ih3 _ _ | exact LeO.refl _ | exact LeO.none _ | refine LeO.ite ?_ ?_ | refine LeO.bind ?_ (fun _ => ?_)) | exact ih0 _ _ | exact ih1 _ _ | exact ih2 _ _ | exact ih3 _ _ | exact LeO.none _ | refine LeO.ite ?_ ?_ | refine LeO.bind ?_ (fun _ => ?_)
noncomputable def ag.J0 (x6 : Int) (x9 : Bool) : Option (Int × Int × Int × Bool) := LB.lim (fun k => ag.j0 k x6 x9)
noncomputable def ag.J1 (x6 : Int) (x12 : Bool) : Option (Int × Int × Int × Bool) := LB.lim (fun k => ag.j1 k x6 x12)
noncomputable def ag.J2 (x6 : Int) (x18 : Bool) : Option (Int × Int × Int × Bool) := LB.lim (fun k => ag.j2 k x6 x18)
noncomputable def ag.J3 (x6 : Int) (x25 : Bool) : Option (Int × Int × Int × Bool) := LB.lim (fun k => ag.j3 k x6 x25)
theorem ag.jJ (x6 : Int) (x9 : Bool) : LB.Lim (fun k => ag.j0 k x6 x9) (ag.J0 x6 x9) := LB.bX (fun k => (ag.dJ k).1 x6 x9)
theorem ag.gZ (x6 : Int) (x12 : Bool) : LB.Lim (fun k => ag.j1 k x6 x12) (ag.J1 x6 x12) := LB.bX (fun k => (ag.dJ k).2.1 x6 x12)
theorem ag.jm (x6 : Int) (x18 : Bool) : LB.Lim (fun k => ag.j2 k x6 x18) (ag.J2 x6 x18) := LB.bX (fun k => (ag.dJ k).2.2.1 x6 x18)
theorem ag.kN (x6 : Int) (x25 : Bool) : LB.Lim (fun k => ag.j3 k x6 x25) (ag.J3 x6 x25) := LB.bX (fun k => (ag.dJ k).2.2.2 x6 x25)
theorem ag.J0_eq (x6 : Int) (x9 : Bool) : ag.J0 x6 x9 = (if x9 = true then (some (0, 1, 0, true)) else (if x6 = 3 then (ag.J1 x6 (x6 == 3)) else (if x6 = 4 then (ag.J1 x6 (x6 == 4)) else (if x6 = 6 then (ag.J1 x6 (x6 == 6)) else (if x6 = 8 then (ag.J1 x6 (x6 == 8)) else (ag.J1 x6 (x6 == 11))))))) := by
  refine LB.Lim.unique (ag.jJ x6 x9).shift ?_
  simp only [ag.j0]
  (repeat' (first | exact LB.Lim.const _ | exact ag.jJ _ _ | exact ag.gZ _ _ | exact ag.jm _ _ | exact ag.kN _ _ | refine LB.Lim.ite ?_ ?_ | refine LB.Lim.bind ?_ (fun _ => ?_)))
theorem ag.J1_eq (x6 : Int) (x12 : Bool) : ag.J1 x6 x12 = (if x12 = true then (some ((-1), 1099511627776, (-1), true)) else (if x6 = 5 then (ag.J2 x6 (x6 == 5)) else (ag.J2 x6 (x6 == 7)))) := by
  refine LB.Lim.unique (ag.gZ x6 x12).shift ?_
  simp only [ag.j1]
  (repeat' (first | exact LB.Lim.const _ | exact ag.jJ _ _ | exact ag.gZ _ _ | exact ag.jm _ _ | exact ag.kN _ _ | refine LB.Lim.ite ?_ ?_ | refine LB.Lim.bind ?_ (fun _ => ?_)))
theorem ag.J2_eq (x6 : Int) (x18 : Bool) : ag.J2 x6 x18 = (if x18 = true then (some (0, 1099511627776, 0, true)) else (if x6 = 9 then (some (0, 1048576, 0, true)) else (if x6 = 10 then (some (0, 1048576, 1, true)) else (if x6 = 12 then (ag.J3 x6 (x6 == 12)) else (if x6 = 13 then (ag.J3 x6 (x6 == 13)) else (ag.J3 x6 (x6 == 14))))))) := by
  refine LB.Lim.unique (ag.jm x6 x18).shift ?_
  simp only [ag.j2]
  (repeat' (first | exact LB.Lim.const _ | exact ag.jJ _ _ | exact ag.gZ _ _ | exact ag.jm _ _ | exact ag.kN _ _ | refine LB.Lim.ite ?_ ?_ | refine LB.Lim.bind ?_ (fun _ => ?_)))
theorem ag.J3_eq (x6 : Int) (x25 : Bool) : ag.J3 x6 x25 = (if x25 = true then (some (0, 1073741824, 0, true)) else (if x6 = 15 then (some (0, 4, 0, true)) else (if x6 = 16 then (some (0, 3, 0, true)) else (if x6 = 17 then (some (0, 16777215, 0, true)) else (if x6 = 18 then (some (64, 64000, 1024, true)) else (some (0, 0, 0, false))))))) := by
  refine LB.Lim.unique (ag.kN x6 x25).shift ?_
  simp only [ag.j3]
  (repeat' (first | exact LB.Lim.const _ | exact ag.jJ _ _ | exact ag.gZ _ _ | exact ag.jm _ _ | exact ag.kN _ _ | refine LB.Lim.ite ?_ ?_ | refine LB.Lim.bind ?_ (fun _ => ?_)))
noncomputable def ag.F (a0 : Int) : Option (Int × Int × Int × Bool) := LB.lim (fun k => ag.f k a0)
theorem ag.bK (a0 : Int) : LB.Lim (fun k => ag.f k a0) (ag.F a0) := LB.bX (ag.mono a0)
theorem ag.jQ (a0 : Int) : ag.F a0 = (if a0 = 0 then (some (0, 2, 0, true)) else (if a0 = 1 then (ag.J0 a0 (a0 == 1)) else (ag.J0 a0 (a0 == 2)))) := by
  refine LB.Lim.unique (ag.bK a0) ?_
  simp only [ag.f]
  (repeat' (first | exact LB.Lim.const _ | exact ag.jJ _ _ | exact ag.gZ _ _ | exact ag.jm _ _ | exact ag.kN _ _ | refine LB.Lim.ite ?_ ?_ | refine LB.Lim.bind ?_ (fun _ => ?_)))
def cK.f (k : Nat) (a0 a1 : Int) : Option (Int) := (ag.f k a0).bind fun bt264 => (if bt264.2.2.2 = true then (if a1 < bt264.1 then (some 9) else (if a1 > bt264.2.1 then (some 9) else (some 0))) else (some 3))
theorem cK.mono : ∀ a0 a1 k, LeO (cK.f k a0 a1) (cK.f (k + 1) a0 a1) := by
 intro a0 a1 k
 unfold cK.f
 repeat' first | (with_reducible first | exact ag.mono _ _ | exact LeO.refl _ | exact LeO.none _ | refine LeO.ite ?_ ?_ | refine LeO.bind ?_ (fun _ => ?_)) | exact ag.mono _ _ | exact LeO.none _ | refine LeO.ite ?_ ?_ | refine LeO.bind ?_ (fun _ => ?_)
noncomputable def cK.F (a0 a1 : Int) : Option (Int) := LB.lim (fun k => cK.f k a0 a1)
theorem cK.bK (a0 a1 : Int) : LB.Lim (fun k => cK.f k a0 a1) (cK.F a0 a1) := LB.bX (cK.mono a0 a1)
theorem cK.jQ (a0 a1 : Int) : cK.F a0 a1 = ((ag.F a0).bind fun bt264 => (if bt264.2.2.2 = true then (if a1 < bt264.1 then (some 9) else (if a1 > bt264.2.1 then (some 9) else (some 0))) else (some 3))) := by
  refine LB.Lim.unique (cK.bK a0 a1) ?_
  simp only [cK.f]
  (repeat' (first | exact LB.Lim.const _ | exact ag.bK _ | refine LB.Lim.ite ?_ ?_ | refine LB.Lim.bind ?_ (fun _ => ?_)))
def aj.j0 : Nat → Bool → Int → Int → Int → List Int → Int → Int → Int → Int → Int → ByteArray → Int → Int → Option (Bool)
 | 0, _, _, _, _, _, _, _, _, _, _, _, _, _ => none
 | k + 1, x51, kZ, lc, lg, lh, jX, ll, lm, lq, lu, lv, lw, l5 => if x51 = true then (some false) else (if jX = 1 then ((aX.f k kZ lc lg lh jX ll lm lq lu lv 0 0 kZ lc lg lh jX ll lm lq lu lv lw l5).bind fun t274 => (if t274 = true then ((cZ.f lq lu).bind fun t275 => (if t275 = true then ((jk.f lv).bind fun t276 => (some t276)) else (some false))) else (some false))) else (if jX = 2 then ((aX.f k kZ lc lg lh jX ll lm 0 0 (⟨#[]⟩ : ByteArray) lw l5 kZ lc lg lh jX ll lm lq lu lv lw l5).bind fun t277 => (if t277 = true then ((cK.f k lw l5).bind fun t278 => (some (t278 == 0))) else (some false))) else (some false)))
def aj.f (k : Nat) (a0_0 a0_1 a0_2 : Int) (l0_3 : List Int) (a0_4 a0_5 a0_6 a0_7 a0_8 : Int) (a0_9 : ByteArray) (a0_10 a0_11 : Int) : Option (Bool) := (dC.f a0_0 a0_1).bind fun t269 => (if t269 = true then ((aQ.f k l0_3).bind fun t270 => (if t270 = true then (if (l0_3.length : Int) ≤ a0_1 then (aj.j0 k true a0_0 a0_1 a0_2 l0_3 a0_4 a0_5 a0_6 a0_7 a0_8 a0_9 a0_10 a0_11) else (if a0_2 < 1 then (aj.j0 k true a0_0 a0_1 a0_2 l0_3 a0_4 a0_5 a0_6 a0_7 a0_8 a0_9 a0_10 a0_11) else (if a0_2 > 1099511627776 then (aj.j0 k true a0_0 a0_1 a0_2 l0_3 a0_4 a0_5 a0_6 a0_7 a0_8 a0_9 a0_10 a0_11) else (if 0 ≤ a0_1 then (if a0_1 < (l0_3.length : Int) then (if a0_2 = (wrap64 ((rd l0_3 a0_1) + 1)) then ((dC.f a0_5 a0_6).bind fun t272 => (aj.j0 k (!t272) a0_0 a0_1 a0_2 l0_3 a0_4 a0_5 a0_6 a0_7 a0_8 a0_9 a0_10 a0_11)) else (aj.j0 k true a0_0 a0_1 a0_2 l0_3 a0_4 a0_5 a0_6 a0_7 a0_8 a0_9 a0_10 a0_11)) else (none)) else (none))))) else (aj.j0 k true a0_0 a0_1 a0_2 l0_3 a0_4 a0_5 a0_6 a0_7 a0_8 a0_9 a0_10 a0_11))) else (aj.j0 k true a0_0 a0_1 a0_2 l0_3 a0_4 a0_5 a0_6 a0_7 a0_8 a0_9 a0_10 a0_11))
theorem aj.dJ : ∀ k, (∀ y0 y1 y2 y3 y4 y5 y6 y7 y8 y9 y10 y11 y12, LeO (aj.j0 k y0 y1 y2 y3 y4 y5 y6 y7 y8 y9 y10 y11 y12) (aj.j0 (k + 1) y0 y1 y2 y3 y4 y5 y6 y7 y8 y9 y10 y11 y12))
 | 0 => fun _ _ _ _ _ _ _ _ _ _ _ _ _ r h => by simp [aj.j0] at h
 | k + 1 => by
  have ih0 := aj.dJ k
  ·intro y0 y1 y2 y3 y4 y5 y6 y7 y8 y9 y10 y11 y12
   unfold aj.j0
   repeat' first | (with_reducible first | exact ih0 _ _ _ _ _ _ _ _ _ _ _ _ _ | exact aX.mono _ _ _ _ _ _ _ _ _ _ _ _ _ _ _ _ _ _ _ _ _ _ _ _ _ | exact aQ.mono _ _ | exact cK.mono _ _ _ | exact LeO.refl _ | exact LeO.none _ | refine LeO.ite ?_ ?_ | refine LeO.bind ?_ (fun _ => ?_)) | exact ih0 _ _ _ _ _ _ _ _ _ _ _ _ _ | exact aX.mono _ _ _ _ _ _ _ _ _ _ _ _ _ _ _ _ _ _ _ _ _ _ _ _ _ | exact aQ.mono _ _ | exact cK.mono _ _ _ | exact LeO.none _ | refine LeO.ite ?_ ?_ | refine LeO.bind ?_ (fun _ => ?_)
theorem aj.mono : ∀ a0 a1 a2 a3 a4 a5 a6 a7 a8 a9 a10 a11 k, LeO (aj.f k a0 a1 a2 a3 a4 a5 a6 a7 a8 a9 a10 a11) (aj.f (k + 1) a0 a1 a2 a3 a4 a5 a6 a7 a8 a9 a10 a11) := by
 intro a0 a1 a2 a3 a4 a5 a6 a7 a8 a9 a10 a11 k
 have ih0 := aj.dJ k
 unfold aj.f
 repeat' first | (with_reducible first | exact ih0 _ _ _ _ _ _ _ _ _ _ _ _ _ | exact aX.mono _ _ _ _ _ _ _ _ _ _ _ _ _ _ _ _ _ _ _ _ _ _ _ _ _ | exact aQ.mono _ _ | exact cK.mono _ _ _ | exact LeO.refl _ | exact LeO.none _ | refine LeO.ite ?_ ?_ | refine LeO.bind ?_ (fun _ => ?_)) | exact ih0 _ _ _ _ _ _ _ _ _ _ _ _ _ | exact aX.mono _ _ _ _ _ _ _ _ _ _ _ _ _ _ _ _ _ _ _ _ _ _ _ _ _ | exact aQ.mono _ _ | exact cK.mono _ _ _ | exact LeO.none _ | refine LeO.ite ?_ ?_ | refine LeO.bind ?_ (fun _ => ?_)
noncomputable def aj.J0 (x51 : Bool) (kZ lc lg : Int) (lh : List Int) (jX ll lm lq lu : Int) (lv : ByteArray) (lw l5 : Int) : Option (Bool) := LB.lim (fun k => aj.j0 k x51 kZ lc lg lh jX ll lm lq lu lv lw l5)
theorem aj.jJ (x51 : Bool) (kZ lc lg : Int) (lh : List Int) (jX ll lm lq lu : Int) (lv : ByteArray) (lw l5 : Int) : LB.Lim (fun k => aj.j0 k x51 kZ lc lg lh jX ll lm lq lu lv lw l5) (aj.J0 x51 kZ lc lg lh jX ll lm lq lu lv lw l5) := LB.bX (fun k => (aj.dJ k) x51 kZ lc lg lh jX ll lm lq lu lv lw l5)
theorem aj.J0_eq (x51 : Bool) (kZ lc lg : Int) (lh : List Int) (jX ll lm lq lu : Int) (lv : ByteArray) (lw l5 : Int) : aj.J0 x51 kZ lc lg lh jX ll lm lq lu lv lw l5 = (if x51 = true then (some false) else (if jX = 1 then ((aX.F kZ lc lg lh jX ll lm lq lu lv 0 0 kZ lc lg lh jX ll lm lq lu lv lw l5).bind fun t274 => (if t274 = true then ((cZ.f lq lu).bind fun t275 => (if t275 = true then ((jk.f lv).bind fun t276 => (some t276)) else (some false))) else (some false))) else (if jX = 2 then ((aX.F kZ lc lg lh jX ll lm 0 0 (⟨#[]⟩ : ByteArray) lw l5 kZ lc lg lh jX ll lm lq lu lv lw l5).bind fun t277 => (if t277 = true then ((cK.F lw l5).bind fun t278 => (some (t278 == 0))) else (some false))) else (some false)))) := by
  refine LB.Lim.unique (aj.jJ x51 kZ lc lg lh jX ll lm lq lu lv lw l5).shift ?_
  simp only [aj.j0]
  (repeat' (first | exact LB.Lim.const _ | exact aj.jJ _ _ _ _ _ _ _ _ _ _ _ _ _ | exact aX.bK _ _ _ _ _ _ _ _ _ _ _ _ _ _ _ _ _ _ _ _ _ _ _ _ | exact aQ.bK _ | exact cK.bK _ _ | refine LB.Lim.ite ?_ ?_ | refine LB.Lim.bind ?_ (fun _ => ?_)))
noncomputable def aj.F (a0_0 a0_1 a0_2 : Int) (l0_3 : List Int) (a0_4 a0_5 a0_6 a0_7 a0_8 : Int) (a0_9 : ByteArray) (a0_10 a0_11 : Int) : Option (Bool) := LB.lim (fun k => aj.f k a0_0 a0_1 a0_2 l0_3 a0_4 a0_5 a0_6 a0_7 a0_8 a0_9 a0_10 a0_11)
theorem aj.bK (a0_0 a0_1 a0_2 : Int) (l0_3 : List Int) (a0_4 a0_5 a0_6 a0_7 a0_8 : Int) (a0_9 : ByteArray) (a0_10 a0_11 : Int) : LB.Lim (fun k => aj.f k a0_0 a0_1 a0_2 l0_3 a0_4 a0_5 a0_6 a0_7 a0_8 a0_9 a0_10 a0_11) (aj.F a0_0 a0_1 a0_2 l0_3 a0_4 a0_5 a0_6 a0_7 a0_8 a0_9 a0_10 a0_11) := LB.bX (aj.mono a0_0 a0_1 a0_2 l0_3 a0_4 a0_5 a0_6 a0_7 a0_8 a0_9 a0_10 a0_11)
theorem aj.jQ (a0_0 a0_1 a0_2 : Int) (l0_3 : List Int) (a0_4 a0_5 a0_6 a0_7 a0_8 : Int) (a0_9 : ByteArray) (a0_10 a0_11 : Int) : aj.F a0_0 a0_1 a0_2 l0_3 a0_4 a0_5 a0_6 a0_7 a0_8 a0_9 a0_10 a0_11 = ((dC.f a0_0 a0_1).bind fun t269 => (if t269 = true then ((aQ.F l0_3).bind fun t270 => (if t270 = true then (if (l0_3.length : Int) ≤ a0_1 then (aj.J0 true a0_0 a0_1 a0_2 l0_3 a0_4 a0_5 a0_6 a0_7 a0_8 a0_9 a0_10 a0_11) else (if a0_2 < 1 then (aj.J0 true a0_0 a0_1 a0_2 l0_3 a0_4 a0_5 a0_6 a0_7 a0_8 a0_9 a0_10 a0_11) else (if a0_2 > 1099511627776 then (aj.J0 true a0_0 a0_1 a0_2 l0_3 a0_4 a0_5 a0_6 a0_7 a0_8 a0_9 a0_10 a0_11) else (if 0 ≤ a0_1 then (if a0_1 < (l0_3.length : Int) then (if a0_2 = (wrap64 ((rd l0_3 a0_1) + 1)) then ((dC.f a0_5 a0_6).bind fun t272 => (aj.J0 (!t272) a0_0 a0_1 a0_2 l0_3 a0_4 a0_5 a0_6 a0_7 a0_8 a0_9 a0_10 a0_11)) else (aj.J0 true a0_0 a0_1 a0_2 l0_3 a0_4 a0_5 a0_6 a0_7 a0_8 a0_9 a0_10 a0_11)) else (none)) else (none))))) else (aj.J0 true a0_0 a0_1 a0_2 l0_3 a0_4 a0_5 a0_6 a0_7 a0_8 a0_9 a0_10 a0_11))) else (aj.J0 true a0_0 a0_1 a0_2 l0_3 a0_4 a0_5 a0_6 a0_7 a0_8 a0_9 a0_10 a0_11))) := by
  refine LB.Lim.unique (aj.bK a0_0 a0_1 a0_2 l0_3 a0_4 a0_5 a0_6 a0_7 a0_8 a0_9 a0_10 a0_11) ?_
  simp only [aj.f]
  (repeat' (first | exact LB.Lim.const _ | exact aj.jJ _ _ _ _ _ _ _ _ _ _ _ _ _ | exact aX.bK _ _ _ _ _ _ _ _ _ _ _ _ _ _ _ _ _ _ _ _ _ _ _ _ | exact aQ.bK _ | exact cK.bK _ _ | refine LB.Lim.ite ?_ ?_ | refine LB.Lim.bind ?_ (fun _ => ?_)))
mutual
def ah.l0 : Nat → List Int → Int → Int → Option (Int × Int × Int)
 | 0, _, _, _ => none
 | k + 1, x0, x5, x6 => if x6 ≥ (x0.length : Int) then (some (0, 0, 7)) else (if 0 ≤ x6 then (if x6 < (x0.length : Int) then (if 0 ≤ (wrap64 (7 * x6)) then (if (rd x0 x6) ≥ 128 then (if x6 = 8 then (some (0, 0, 1)) else (ah.l0 k x0 (Go.bits .or .u64 x5 (shl .u64 (IntKind.u64.wrap (Go.bits .and .u8 (rd x0 x6) 127)) (wrap64 (7 * x6)))) (wrap64 (x6 + 1)))) else (if (rd x0 x6) = 0 then (if x6 > 0 then (ah.j1 k (Go.bits .or .u64 x5 (shl .u64 (IntKind.u64.wrap (Go.bits .and .u8 (rd x0 x6) 127)) (wrap64 (7 * x6)))) x6 true) else (ah.j1 k (Go.bits .or .u64 x5 (shl .u64 (IntKind.u64.wrap (Go.bits .and .u8 (rd x0 x6) 127)) (wrap64 (7 * x6)))) x6 (decide ((Go.bits .or .u64 x5 (shl .u64 (IntKind.u64.wrap (Go.bits .and .u8 (rd x0 x6) 127)) (wrap64 (7 * x6)))) > 4611686018427387904)))) else (ah.j1 k (Go.bits .or .u64 x5 (shl .u64 (IntKind.u64.wrap (Go.bits .and .u8 (rd x0 x6) 127)) (wrap64 (7 * x6)))) x6 (decide ((Go.bits .or .u64 x5 (shl .u64 (IntKind.u64.wrap (Go.bits .and .u8 (rd x0 x6) 127)) (wrap64 (7 * x6)))) > 4611686018427387904))))) else (none)) else (none)) else (none))
def ah.j1 : Nat → Int → Int → Bool → Option (Int × Int × Int)
 | 0, _, _, _ => none
 | k + 1, x5, x6, x39 => if x39 = true then (some (0, 0, 1)) else (some (wrap64 (x5), wrap64 (x6 + 1), 0))
end
def ah.f (k : Nat) (l0 : List Int) : Option (Int × Int × Int) := ah.l0 k l0 0 0
theorem ah.dJ : ∀ k, (∀ y0 y1 y2, LeO (ah.l0 k y0 y1 y2) (ah.l0 (k + 1) y0 y1 y2)) ∧ (∀ y0 y1 y2, LeO (ah.j1 k y0 y1 y2) (ah.j1 (k + 1) y0 y1 y2))
 | 0 => ⟨fun _ _ _ r h => by simp [ah.l0] at h, fun _ _ _ r h => by simp [ah.j1] at h⟩
 | k + 1 => by
  obtain ⟨ih0, ih1⟩ := ah.dJ k
  refine ⟨?_, ?_⟩
  ·intro y0 y1 y2
   unfold ah.l0
   repeat' first | (with_reducible first | exact ih0 _ _ _ | exact ih1 _ _ _ | exact LeO.refl _ | exact LeO.none _ | refine LeO.ite ?_ ?_ | refine LeO.bind ?_ (fun _ => ?_)) | exact ih0 _ _ _ | exact ih1 _ _ _ | exact LeO.none _ | refine LeO.ite ?_ ?_ | refine LeO.bind ?_ (fun _ => ?_)
  ·intro y0 y1 y2
   unfold ah.j1
   repeat' first | (with_reducible first | exact ih0 _ _ _ | exact ih1 _ _ _ | exact LeO.refl _ | exact LeO.none _ | refine LeO.ite ?_ ?_ | refine LeO.bind ?_ (fun _ => ?_)) | exact ih0 _ _ _ | exact ih1 _ _ _ | exact LeO.none _ | refine LeO.ite ?_ ?_ | refine LeO.bind ?_ (fun _ => ?_)
theorem ah.mono : ∀ a0 k, LeO (ah.f k a0) (ah.f (k + 1) a0) := by
 intro a0 k
 obtain ⟨ih0, ih1⟩ := ah.dJ k
 unfold ah.f
 repeat' first | (with_reducible first | exact ih0 _ _ _ | exact ih1 _ _ _ | exact LeO.refl _ | exact LeO.none _ | refine LeO.ite ?_ ?_ | refine LeO.bind ?_ (fun _ => ?_)) | exact ih0 _ _ _ | exact ih1 _ _ _ | exact LeO.none _ | refine LeO.ite ?_ ?_ | refine LeO.bind ?_ (fun _ => ?_)
noncomputable def ah.L0 (x0 : List Int) (x5 x6 : Int) : Option (Int × Int × Int) := LB.lim (fun k => ah.l0 k x0 x5 x6)
noncomputable def ah.J1 (x5 x6 : Int) (x39 : Bool) : Option (Int × Int × Int) := LB.lim (fun k => ah.j1 k x5 x6 x39)
theorem ah.fQ (x0 : List Int) (x5 x6 : Int) : LB.Lim (fun k => ah.l0 k x0 x5 x6) (ah.L0 x0 x5 x6) := LB.bX (fun k => (ah.dJ k).1 x0 x5 x6)
theorem ah.gZ (x5 x6 : Int) (x39 : Bool) : LB.Lim (fun k => ah.j1 k x5 x6 x39) (ah.J1 x5 x6 x39) := LB.bX (fun k => (ah.dJ k).2 x5 x6 x39)
theorem ah.ky (x0 : List Int) (x5 x6 : Int) : ah.L0 x0 x5 x6 = (if x6 ≥ (x0.length : Int) then (some (0, 0, 7)) else (if 0 ≤ x6 then (if x6 < (x0.length : Int) then (if 0 ≤ (wrap64 (7 * x6)) then (if (rd x0 x6) ≥ 128 then (if x6 = 8 then (some (0, 0, 1)) else (ah.L0 x0 (Go.bits .or .u64 x5 (shl .u64 (IntKind.u64.wrap (Go.bits .and .u8 (rd x0 x6) 127)) (wrap64 (7 * x6)))) (wrap64 (x6 + 1)))) else (if (rd x0 x6) = 0 then (if x6 > 0 then (ah.J1 (Go.bits .or .u64 x5 (shl .u64 (IntKind.u64.wrap (Go.bits .and .u8 (rd x0 x6) 127)) (wrap64 (7 * x6)))) x6 true) else (ah.J1 (Go.bits .or .u64 x5 (shl .u64 (IntKind.u64.wrap (Go.bits .and .u8 (rd x0 x6) 127)) (wrap64 (7 * x6)))) x6 (decide ((Go.bits .or .u64 x5 (shl .u64 (IntKind.u64.wrap (Go.bits .and .u8 (rd x0 x6) 127)) (wrap64 (7 * x6)))) > 4611686018427387904)))) else (ah.J1 (Go.bits .or .u64 x5 (shl .u64 (IntKind.u64.wrap (Go.bits .and .u8 (rd x0 x6) 127)) (wrap64 (7 * x6)))) x6 (decide ((Go.bits .or .u64 x5 (shl .u64 (IntKind.u64.wrap (Go.bits .and .u8 (rd x0 x6) 127)) (wrap64 (7 * x6)))) > 4611686018427387904))))) else (none)) else (none)) else (none))) := by
  refine LB.Lim.unique (ah.fQ x0 x5 x6).shift ?_
  simp only [ah.l0]
  (repeat' (first | exact LB.Lim.const _ | exact ah.fQ _ _ _ | exact ah.gZ _ _ _ | refine LB.Lim.ite ?_ ?_ | refine LB.Lim.bind ?_ (fun _ => ?_)))
theorem ah.J1_eq (x5 x6 : Int) (x39 : Bool) : ah.J1 x5 x6 x39 = (if x39 = true then (some (0, 0, 1)) else (some (wrap64 (x5), wrap64 (x6 + 1), 0))) := by
  refine LB.Lim.unique (ah.gZ x5 x6 x39).shift ?_
  simp only [ah.j1]
  (repeat' (first | exact LB.Lim.const _ | exact ah.fQ _ _ _ | exact ah.gZ _ _ _ | refine LB.Lim.ite ?_ ?_ | refine LB.Lim.bind ?_ (fun _ => ?_)))
noncomputable def ah.F (l0 : List Int) : Option (Int × Int × Int) := LB.lim (fun k => ah.f k l0)
theorem ah.bK (l0 : List Int) : LB.Lim (fun k => ah.f k l0) (ah.F l0) := LB.bX (ah.mono l0)
theorem ah.jQ (l0 : List Int) : ah.F l0 = (ah.L0 l0 0 0) := by
  refine LB.Lim.unique (ah.bK l0) ?_
  simp only [ah.f]
  (repeat' (first | exact LB.Lim.const _ | exact ah.fQ _ _ _ | exact ah.gZ _ _ _ | refine LB.Lim.ite ?_ ?_ | refine LB.Lim.bind ?_ (fun _ => ?_)))
def dH.f (k : Nat) (l0 : List Int) : Option (Int × Int × Int × Int) := (ah.f k l0).bind fun bt281 => (if bt281.2.2 = 0 then (if 0 ≤ bt281.2.1 then (if bt281.2.1 ≤ (l0.length : Int) then ((ah.f k (l0.drop (bt281.2.1 : Int).toNat)).bind fun bt285 => (if bt285.2.2 = 0 then ((cZ.f bt281.1 bt285.1).bind fun t289 => (if t289 = true then (some (bt281.1, bt285.1, wrap64 (bt281.2.1 + bt285.2.1), 0)) else (some (0, 0, 0, 1)))) else (some (0, 0, 0, bt285.2.2)))) else (none)) else (none)) else (some (0, 0, 0, bt281.2.2)))
theorem dH.mono : ∀ a0 k, LeO (dH.f k a0) (dH.f (k + 1) a0) := by
 intro a0 k
 unfold dH.f
 repeat' first | (with_reducible first | exact ah.mono _ _ | exact LeO.refl _ | exact LeO.none _ | refine LeO.ite ?_ ?_ | refine LeO.bind ?_ (fun _ => ?_)) | exact ah.mono _ _ | exact LeO.none _ | refine LeO.ite ?_ ?_ | refine LeO.bind ?_ (fun _ => ?_)
noncomputable def dH.F (l0 : List Int) : Option (Int × Int × Int × Int) := LB.lim (fun k => dH.f k l0)
theorem dH.bK (l0 : List Int) : LB.Lim (fun k => dH.f k l0) (dH.F l0) := LB.bX (dH.mono l0)
theorem dH.jQ (l0 : List Int) : dH.F l0 = ((ah.F l0).bind fun bt281 => (if bt281.2.2 = 0 then (if 0 ≤ bt281.2.1 then (if bt281.2.1 ≤ (l0.length : Int) then ((ah.F (l0.drop (bt281.2.1 : Int).toNat)).bind fun bt285 => (if bt285.2.2 = 0 then ((cZ.f bt281.1 bt285.1).bind fun t289 => (if t289 = true then (some (bt281.1, bt285.1, wrap64 (bt281.2.1 + bt285.2.1), 0)) else (some (0, 0, 0, 1)))) else (some (0, 0, 0, bt285.2.2)))) else (none)) else (none)) else (some (0, 0, 0, bt281.2.2)))) := by
  refine LB.Lim.unique (dH.bK l0) ?_
  simp only [dH.f]
  (repeat' (first | exact LB.Lim.const _ | exact ah.bK _ | refine LB.Lim.ite ?_ ?_ | refine LB.Lim.bind ?_ (fun _ => ?_)))
/-- A state of type 82 at block g of W; what its slices lead to came in by w0. -/
def bV (w0 W : World) (g : Nat) (f0 : List Int) (f1 f2 : Int) : Prop := ∃ A0 c0, W.heap[g]? = some (.cells #[.slice A0 f0.length c0, .int .i64 f1, .int .i64 f2] 82 (0, 0)) ∧ w0.heap.size ≤ g ∧ Kd.C (Kd.int .u8) w0 A0 f0.length f0 ∧ f0.length ≤ c0
theorem bV.grown {w0 W : World} {g : Nat} {f0 : List Int} {f1 : Int} {f2 : Int} {W1 : World} {row : Option Nat} (h : bV w0 W g f0 f1 f2) (hw : W.grownBy W1 row) (hne : some g ≠ row) : bV w0 W1 g f0 f1 f2 := by
 obtain ⟨A0, c0, hb, hg, hr0, hk0⟩ := h
 exact ⟨A0, c0, kr hb hw hne, hg, hr0, hk0⟩
theorem bV.kept {w0 W : World} {g : Nat} {f0 : List Int} {f1 : Int} {f2 : Int} {W1 : World} {S : Nat → Prop} (h : bV w0 W g f0 f1 f2) (hk : Kept W W1 S) (hne : ¬ S g) : bV w0 W1 g f0 f1 f2 := by
 obtain ⟨A0, c0, hb, hg, hr0, hk0⟩ := h
 exact ⟨A0, c0, jT hb hk hne, hg, hr0, hk0⟩
theorem bV.below {w0 W : World} {g : Nat} {f0 : List Int} {f1 : Int} {f2 : Int} {W1 : World} (h : bV w0 W g f0 f1 f2) (hw : Below W.heap.size W W1) : bV w0 W1 g f0 f1 f2 := h.grown (grown_of_below hw none) (by simp)
theorem bV.alloc {w0 W : World} {g : Nat} {f0 : List Int} {f1 : Int} {f2 : Int} (h : bV w0 W g f0 f1 f2) (o : Obj) : bV w0 (W.alloc o) g f0 f1 f2 := h.below (aY (Below.refl _ _) o)
theorem bV.drewN {w0 W : World} {g : Nat} {f0 : List Int} {f1 : Int} {f2 : Int} (h : bV w0 W g f0 f1 f2) (m : Nat) : bV w0 (W.drewN m) g f0 f1 f2 := h
theorem bV.drew {w0 W : World} {g : Nat} {f0 : List Int} {f1 : Int} {f2 : Int} (h : bV w0 W g f0 f1 f2) : bV w0 W.drew g f0 f1 f2 := h
theorem bV.at_ {w0 W : World} {g : Nat} {f0 : List Int} {f1 : Int} {f2 : Int} {w' : World} {m : Nat} (hq : W.drewN m = w') (h : bV w0 W g f0 f1 f2) : bV w0 w' g f0 f1 f2 := by subst hq; exact bV.drewN h m
theorem bV.apart {w0 W : World} {g : Nat} {f0 : List Int} {f1 : Int} {f2 : Int} {α : Type} {d : Kd α} {e : Nat} {base : Nat} {ok : Nat → Prop} {v : Value} {xs : List α} (h : bV w0 W g f0 f1 f2) (ho : d.R e W base ok v xs) (ht : ∀ q, q ∈ e :: d.E → q ≠ 82) : d.R e W base (fun k => ok k ∧ k ≠ g) v xs := by
 obtain ⟨A0, c0, hb, hg, hr0, hk0⟩ := h
 exact Kd.fu ho hb ht
theorem bV.own_ne {w0 W : World} {g : Nat} {f0 : List Int} {f1 : Int} {f2 : Int} {α : Type} {d : Kd α} {e : Nat} {base : Nat} {ok : Nat → Prop} {v : Value} {xs : List α} (h : bV w0 W g f0 f1 f2) (ho : d.R e W base ok v xs) (ht : e ≠ 82) : some g ≠ v.ownBlock := by
 obtain ⟨A0, c0, hb, hg, hr0, hk0⟩ := h
 exact Kd.R_ne ho hb ht
theorem bV.lt {w0 W : World} {g : Nat} {f0 : List Int} {f1 : Int} {f2 : Int} (h : bV w0 W g f0 f1 f2) : g < W.heap.size := by
 obtain ⟨A0, c0, hb, hg, hr0, hk0⟩ := h
 exact iK hb
theorem bV.ge {w0 W : World} {g : Nat} {f0 : List Int} {f1 : Int} {f2 : Int} (h : bV w0 W g f0 f1 f2) : w0.heap.size ≤ g := by
 obtain ⟨A0, c0, hb, hg, hr0, hk0⟩ := h
 exact hg
theorem bV.far {w0 W : World} {g : Nat} {f0 : List Int} {f1 : Int} {f2 : Int} {p : Addr} (h : bV w0 W g f0 f1 f2) (hne : g ≠ p.block) (u : Value) : bV w0 (W.setCell p u) g f0 f1 f2 := by
 obtain ⟨A0, c0, hb, hg, hr0, hk0⟩ := h
 exact ⟨A0, c0, gz hb hne u, hg, hr0, hk0⟩
theorem iL {W : World} {g : Nat} {A0 : Option Addr} {c0 : Nat} {f0 : List Int} {f1 : Int} {f2 : Int} (h : W.heap[g]? = some (.cells #[.slice A0 f0.length c0, .int .i64 f1, .int .i64 f2] 82 (0, 0))) : W.cell? ⟨g, 0, none⟩ = some (.slice A0 f0.length c0) := (ai h 0).trans rfl
theorem iM {W : World} {g : Nat} {A0 : Option Addr} {c0 : Nat} {f0 : List Int} {f1 : Int} {f2 : Int} (h : W.heap[g]? = some (.cells #[.slice A0 f0.length c0, .int .i64 f1, .int .i64 f2] 82 (0, 0))) : W.cell? ⟨g, 1, none⟩ = some (.int .i64 f1) := (ai h 1).trans rfl
theorem bV.ku {w0 W : World} {g : Nat} {f0 : List Int} {f1 : Int} {f2 : Int} (h : bV w0 W g f0 f1 f2) (x : Int) : bV w0 (W.setCell ⟨g, 1, none⟩ (.int .i64 x)) g f0 x f2 := by
 obtain ⟨A0, c0, hb, hg, hr0, hk0⟩ := h
 exact ⟨A0, c0, by simpa using blk_set hb 1 (.int .i64 x), hg, hr0, hk0⟩
theorem iN {W : World} {g : Nat} {A0 : Option Addr} {c0 : Nat} {f0 : List Int} {f1 : Int} {f2 : Int} (h : W.heap[g]? = some (.cells #[.slice A0 f0.length c0, .int .i64 f1, .int .i64 f2] 82 (0, 0))) : W.cell? ⟨g, 2, none⟩ = some (.int .i64 f2) := (ai h 2).trans rfl
theorem bV.kv {w0 W : World} {g : Nat} {f0 : List Int} {f1 : Int} {f2 : Int} (h : bV w0 W g f0 f1 f2) (x : Int) : bV w0 (W.setCell ⟨g, 2, none⟩ (.int .i64 x)) g f0 f1 x := by
 obtain ⟨A0, c0, hb, hg, hr0, hk0⟩ := h
 exact ⟨A0, c0, by simpa using blk_set hb 2 (.int .i64 x), hg, hr0, hk0⟩
def aG.f (k : Nat) (s0_0 : List Int) (s0_1 s0_2 : Int) : Option (Int × Int × Int × Int) := if s0_2 = 0 then (if 0 ≤ s0_1 then (if s0_1 ≤ (s0_0.length : Int) then ((dH.f k (s0_0.drop (s0_1 : Int).toNat)).bind fun bt292 => (some (bt292.1, bt292.2.1, wrap64 (s0_1 + bt292.2.2.1), bt292.2.2.2))) else (none)) else (none)) else (some (0, 0, s0_1, s0_2))
theorem aG.mono : ∀ a0 a1 a2 k, LeO (aG.f k a0 a1 a2) (aG.f (k + 1) a0 a1 a2) := by
 intro a0 a1 a2 k
 unfold aG.f
 repeat' first | (with_reducible first | exact dH.mono _ _ | exact LeO.refl _ | exact LeO.none _ | refine LeO.ite ?_ ?_ | refine LeO.bind ?_ (fun _ => ?_)) | exact dH.mono _ _ | exact LeO.none _ | refine LeO.ite ?_ ?_ | refine LeO.bind ?_ (fun _ => ?_)
noncomputable def aG.F (s0_0 : List Int) (s0_1 s0_2 : Int) : Option (Int × Int × Int × Int) := LB.lim (fun k => aG.f k s0_0 s0_1 s0_2)
theorem aG.bK (s0_0 : List Int) (s0_1 s0_2 : Int) : LB.Lim (fun k => aG.f k s0_0 s0_1 s0_2) (aG.F s0_0 s0_1 s0_2) := LB.bX (aG.mono s0_0 s0_1 s0_2)
theorem aG.jQ (s0_0 : List Int) (s0_1 s0_2 : Int) : aG.F s0_0 s0_1 s0_2 = (if s0_2 = 0 then (if 0 ≤ s0_1 then (if s0_1 ≤ (s0_0.length : Int) then ((dH.F (s0_0.drop (s0_1 : Int).toNat)).bind fun bt292 => (some (bt292.1, bt292.2.1, wrap64 (s0_1 + bt292.2.2.1), bt292.2.2.2))) else (none)) else (none)) else (some (0, 0, s0_1, s0_2))) := by
  refine LB.Lim.unique (aG.bK s0_0 s0_1 s0_2) ?_
  simp only [aG.f]
  (repeat' (first | exact LB.Lim.const _ | exact dH.bK _ | refine LB.Lim.ite ?_ ?_ | refine LB.Lim.bind ?_ (fun _ => ?_)))
def aV.l0 : Nat → List Int → Int → Int → List Int → Int → Option (List Int × Int × Int)
 | 0, _, _, _, _, _ => none
 | k + 1, x0, x5, x6, x8, x9 => if x9 < x5 then (if 0 ≤ x6 then (if x6 ≤ (x0.length : Int) then ((ah.f k (x0.drop (x6 : Int).toNat)).bind fun bt301 => (if bt301.2.2 = 0 then (if x8.length < 17592186044416 then (aV.l0 k x0 x5 (wrap64 (x6 + bt301.2.1)) (x8 ++ [bt301.1]) (wrap64 (x9 + 1))) else (none)) else (some (([] : List Int), 0, bt301.2.2)))) else (none)) else (none)) else (some (x8, x6, 0))
def aV.f (k : Nat) (l0 : List Int) : Option (List Int × Int × Int) := (ah.f k l0).bind fun bt297 => (if bt297.2.2 = 0 then (if bt297.1 > 1024 then (some (([] : List Int), 0, 1)) else (aV.l0 k l0 bt297.1 bt297.2.1 ([] : List Int) 0)) else (some (([] : List Int), 0, bt297.2.2)))
theorem aV.dJ : ∀ k, (∀ y0 y1 y2 y3 y4, LeO (aV.l0 k y0 y1 y2 y3 y4) (aV.l0 (k + 1) y0 y1 y2 y3 y4))
 | 0 => fun _ _ _ _ _ r h => by simp [aV.l0] at h
 | k + 1 => by
  have ih0 := aV.dJ k
  ·intro y0 y1 y2 y3 y4
   unfold aV.l0
   repeat' first | (with_reducible first | exact ih0 _ _ _ _ _ | exact ah.mono _ _ | exact LeO.refl _ | exact LeO.none _ | refine LeO.ite ?_ ?_ | refine LeO.bind ?_ (fun _ => ?_)) | exact ih0 _ _ _ _ _ | exact ah.mono _ _ | exact LeO.none _ | refine LeO.ite ?_ ?_ | refine LeO.bind ?_ (fun _ => ?_)
theorem aV.mono : ∀ a0 k, LeO (aV.f k a0) (aV.f (k + 1) a0) := by
 intro a0 k
 have ih0 := aV.dJ k
 unfold aV.f
 repeat' first | (with_reducible first | exact ih0 _ _ _ _ _ | exact ah.mono _ _ | exact LeO.refl _ | exact LeO.none _ | refine LeO.ite ?_ ?_ | refine LeO.bind ?_ (fun _ => ?_)) | exact ih0 _ _ _ _ _ | exact ah.mono _ _ | exact LeO.none _ | refine LeO.ite ?_ ?_ | refine LeO.bind ?_ (fun _ => ?_)
noncomputable def aV.L0 (x0 : List Int) (x5 x6 : Int) (x8 : List Int) (x9 : Int) : Option (List Int × Int × Int) := LB.lim (fun k => aV.l0 k x0 x5 x6 x8 x9)
theorem aV.fQ (x0 : List Int) (x5 x6 : Int) (x8 : List Int) (x9 : Int) : LB.Lim (fun k => aV.l0 k x0 x5 x6 x8 x9) (aV.L0 x0 x5 x6 x8 x9) := LB.bX (fun k => (aV.dJ k) x0 x5 x6 x8 x9)
theorem aV.ky (x0 : List Int) (x5 x6 : Int) (x8 : List Int) (x9 : Int) : aV.L0 x0 x5 x6 x8 x9 = (if x9 < x5 then (if 0 ≤ x6 then (if x6 ≤ (x0.length : Int) then ((ah.F (x0.drop (x6 : Int).toNat)).bind fun bt301 => (if bt301.2.2 = 0 then (if x8.length < 17592186044416 then (aV.L0 x0 x5 (wrap64 (x6 + bt301.2.1)) (x8 ++ [bt301.1]) (wrap64 (x9 + 1))) else (none)) else (some (([] : List Int), 0, bt301.2.2)))) else (none)) else (none)) else (some (x8, x6, 0))) := by
  refine LB.Lim.unique (aV.fQ x0 x5 x6 x8 x9).shift ?_
  simp only [aV.l0]
  (repeat' (first | exact LB.Lim.const _ | exact aV.fQ _ _ _ _ _ | exact ah.bK _ | refine LB.Lim.ite ?_ ?_ | refine LB.Lim.bind ?_ (fun _ => ?_)))
noncomputable def aV.F (l0 : List Int) : Option (List Int × Int × Int) := LB.lim (fun k => aV.f k l0)
theorem aV.bK (l0 : List Int) : LB.Lim (fun k => aV.f k l0) (aV.F l0) := LB.bX (aV.mono l0)
theorem aV.jQ (l0 : List Int) : aV.F l0 = ((ah.F l0).bind fun bt297 => (if bt297.2.2 = 0 then (if bt297.1 > 1024 then (some (([] : List Int), 0, 1)) else (aV.L0 l0 bt297.1 bt297.2.1 ([] : List Int) 0)) else (some (([] : List Int), 0, bt297.2.2)))) := by
  refine LB.Lim.unique (aV.bK l0) ?_
  simp only [aV.f]
  (repeat' (first | exact LB.Lim.const _ | exact aV.fQ _ _ _ _ _ | exact ah.bK _ | refine LB.Lim.ite ?_ ?_ | refine LB.Lim.bind ?_ (fun _ => ?_)))
def bq.f (k : Nat) (l0 : List Int) : Option (List Int × Int × Int) := (aV.f k l0).bind fun bt307 => (if bt307.2.2 = 0 then ((aQ.f k bt307.1).bind fun t312 => (if t312 = true then (some (bt307.1, bt307.2.1, 0)) else (some (([] : List Int), 0, 1)))) else (some (([] : List Int), 0, bt307.2.2)))
theorem bq.mono : ∀ a0 k, LeO (bq.f k a0) (bq.f (k + 1) a0) := by
 intro a0 k
 unfold bq.f
 repeat' first | (with_reducible first | exact aV.mono _ _ | exact aQ.mono _ _ | exact LeO.refl _ | exact LeO.none _ | refine LeO.ite ?_ ?_ | refine LeO.bind ?_ (fun _ => ?_)) | exact aV.mono _ _ | exact aQ.mono _ _ | exact LeO.none _ | refine LeO.ite ?_ ?_ | refine LeO.bind ?_ (fun _ => ?_)
noncomputable def bq.F (l0 : List Int) : Option (List Int × Int × Int) := LB.lim (fun k => bq.f k l0)
theorem bq.bK (l0 : List Int) : LB.Lim (fun k => bq.f k l0) (bq.F l0) := LB.bX (bq.mono l0)
theorem bq.jQ (l0 : List Int) : bq.F l0 = ((aV.F l0).bind fun bt307 => (if bt307.2.2 = 0 then ((aQ.F bt307.1).bind fun t312 => (if t312 = true then (some (bt307.1, bt307.2.1, 0)) else (some (([] : List Int), 0, 1)))) else (some (([] : List Int), 0, bt307.2.2)))) := by
  refine LB.Lim.unique (bq.bK l0) ?_
  simp only [bq.f]
  (repeat' (first | exact LB.Lim.const _ | exact aV.bK _ | exact aQ.bK _ | refine LB.Lim.ite ?_ ?_ | refine LB.Lim.bind ?_ (fun _ => ?_)))
def bf.f (k : Nat) (s0_0 : List Int) (s0_1 s0_2 : Int) : Option (Int × Int × Int) := if s0_2 = 0 then (if 0 ≤ s0_1 then (if s0_1 ≤ (s0_0.length : Int) then ((ah.f k (s0_0.drop (s0_1 : Int).toNat)).bind fun bt314 => (some (bt314.1, wrap64 (s0_1 + bt314.2.1), bt314.2.2))) else (none)) else (none)) else (some (0, s0_1, s0_2))
theorem bf.mono : ∀ a0 a1 a2 k, LeO (bf.f k a0 a1 a2) (bf.f (k + 1) a0 a1 a2) := by
 intro a0 a1 a2 k
 unfold bf.f
 repeat' first | (with_reducible first | exact ah.mono _ _ | exact LeO.refl _ | exact LeO.none _ | refine LeO.ite ?_ ?_ | refine LeO.bind ?_ (fun _ => ?_)) | exact ah.mono _ _ | exact LeO.none _ | refine LeO.ite ?_ ?_ | refine LeO.bind ?_ (fun _ => ?_)
noncomputable def bf.F (s0_0 : List Int) (s0_1 s0_2 : Int) : Option (Int × Int × Int) := LB.lim (fun k => bf.f k s0_0 s0_1 s0_2)
theorem bf.bK (s0_0 : List Int) (s0_1 s0_2 : Int) : LB.Lim (fun k => bf.f k s0_0 s0_1 s0_2) (bf.F s0_0 s0_1 s0_2) := LB.bX (bf.mono s0_0 s0_1 s0_2)
theorem bf.jQ (s0_0 : List Int) (s0_1 s0_2 : Int) : bf.F s0_0 s0_1 s0_2 = (if s0_2 = 0 then (if 0 ≤ s0_1 then (if s0_1 ≤ (s0_0.length : Int) then ((ah.F (s0_0.drop (s0_1 : Int).toNat)).bind fun bt314 => (some (bt314.1, wrap64 (s0_1 + bt314.2.1), bt314.2.2))) else (none)) else (none)) else (some (0, s0_1, s0_2))) := by
  refine LB.Lim.unique (bf.bK s0_0 s0_1 s0_2) ?_
  simp only [bf.f]
  (repeat' (first | exact LB.Lim.const _ | exact ah.bK _ | refine LB.Lim.ite ?_ ?_ | refine LB.Lim.bind ?_ (fun _ => ?_)))
def bz.f (k : Nat) (l0 : List Int) : Option (ByteArray × Int × Int) := (ah.f k l0).bind fun bt317 => (if bt317.2.2 = 0 then (if bt317.1 > 65536 then (some ((⟨#[]⟩ : ByteArray), 0, 1)) else (if bt317.1 > (wrap64 ((l0.length : Int) - bt317.2.1)) then (some ((⟨#[]⟩ : ByteArray), 0, 7)) else (if 0 ≤ bt317.2.1 then (if bt317.2.1 ≤ (wrap64 (bt317.2.1 + bt317.1)) then (if (wrap64 (bt317.2.1 + bt317.1)) ≤ (l0.length : Int) then (some (strOfNums ((l0.take ((wrap64 (bt317.2.1 + bt317.1)) : Int).toNat).drop (bt317.2.1 : Int).toNat), wrap64 (bt317.2.1 + bt317.1), 0)) else (none)) else (none)) else (none)))) else (some ((⟨#[]⟩ : ByteArray), 0, bt317.2.2)))
theorem bz.mono : ∀ a0 k, LeO (bz.f k a0) (bz.f (k + 1) a0) := by
 intro a0 k
 unfold bz.f
 repeat' first | (with_reducible first | exact ah.mono _ _ | exact LeO.refl _ | exact LeO.none _ | refine LeO.ite ?_ ?_ | refine LeO.bind ?_ (fun _ => ?_)) | exact ah.mono _ _ | exact LeO.none _ | refine LeO.ite ?_ ?_ | refine LeO.bind ?_ (fun _ => ?_)
noncomputable def bz.F (l0 : List Int) : Option (ByteArray × Int × Int) := LB.lim (fun k => bz.f k l0)
theorem bz.bK (l0 : List Int) : LB.Lim (fun k => bz.f k l0) (bz.F l0) := LB.bX (bz.mono l0)
theorem bz.jQ (l0 : List Int) : bz.F l0 = ((ah.F l0).bind fun bt317 => (if bt317.2.2 = 0 then (if bt317.1 > 65536 then (some ((⟨#[]⟩ : ByteArray), 0, 1)) else (if bt317.1 > (wrap64 ((l0.length : Int) - bt317.2.1)) then (some ((⟨#[]⟩ : ByteArray), 0, 7)) else (if 0 ≤ bt317.2.1 then (if bt317.2.1 ≤ (wrap64 (bt317.2.1 + bt317.1)) then (if (wrap64 (bt317.2.1 + bt317.1)) ≤ (l0.length : Int) then (some (strOfNums ((l0.take ((wrap64 (bt317.2.1 + bt317.1)) : Int).toNat).drop (bt317.2.1 : Int).toNat), wrap64 (bt317.2.1 + bt317.1), 0)) else (none)) else (none)) else (none)))) else (some ((⟨#[]⟩ : ByteArray), 0, bt317.2.2)))) := by
  refine LB.Lim.unique (bz.bK l0) ?_
  simp only [bz.f]
  (repeat' (first | exact LB.Lim.const _ | exact ah.bK _ | refine LB.Lim.ite ?_ ?_ | refine LB.Lim.bind ?_ (fun _ => ?_)))
mutual
def af.j0 : Nat → List Int → List Int → Int → Int → Int → Int → Int → List Int → Int → Int → Int → Int → Int → ByteArray → Int → Int → Option (Int × Int × Int × List Int × Int × Int × Int × Int × Int × ByteArray × Int × Int × Int × Int)
 | 0, _, _, _, _, _, _, _, _, _, _, _, _, _, _, _, _ => none
 | k + 1, x0, dA, eT, eU, dI, dB, dK, dD, dR, dX, dY, dS, dU, dL, dM, dN => (bf.f k dA eT eU).bind fun bt334 => (if bt334.2.2 = 0 then (if bt334.1 = 1 then (af.j1 k x0 false dA bt334.2.1 bt334.2.2 dI dB dK dD bt334.1 dX dY dS dU dL dM dN) else (af.j1 k x0 (bt334.1 != 2) dA bt334.2.1 bt334.2.2 dI dB dK dD bt334.1 dX dY dS dU dL dM dN)) else (af.j1 k x0 false dA bt334.2.1 bt334.2.2 dI dB dK dD bt334.1 dX dY dS dU dL dM dN))
def af.j1 : Nat → List Int → Bool → List Int → Int → Int → Int → Int → Int → List Int → Int → Int → Int → Int → Int → ByteArray → Int → Int → Option (Int × Int × Int × List Int × Int × Int × Int × Int × Int × ByteArray × Int × Int × Int × Int)
 | 0, _, _, _, _, _, _, _, _, _, _, _, _, _, _, _, _, _ => none
 | k + 1, x0, x67, dA, eT, eU, dI, dB, dK, dD, dR, dX, dY, dS, dU, dL, dM, dN => if x67 = true then (af.j2 k x0 dA eT 1 dI dB dK dD dR dX dY dS dU dL dM dN) else (af.j2 k x0 dA eT eU dI dB dK dD dR dX dY dS dU dL dM dN)
def af.j2 : Nat → List Int → List Int → Int → Int → Int → Int → Int → List Int → Int → Int → Int → Int → Int → ByteArray → Int → Int → Option (Int × Int × Int × List Int × Int × Int × Int × Int × Int × ByteArray × Int × Int × Int × Int)
 | 0, _, _, _, _, _, _, _, _, _, _, _, _, _, _, _, _ => none
 | k + 1, x0, dA, eT, eU, dI, dB, dK, dD, dR, dX, dY, dS, dU, dL, dM, dN => (aG.f k dA eT eU).bind fun bt337 => (if dR = 1 then ((aG.f k dA bt337.2.2.1 bt337.2.2.2).bind fun bt341 => (if bt341.2.2.2 = 0 then (if 0 ≤ bt341.2.2.1 then (if bt341.2.2.1 ≤ (x0.length : Int) then ((bz.f k (x0.drop (bt341.2.2.1 : Int).toNat)).bind fun bt346 => (af.j3 k dA (wrap64 (bt341.2.2.1 + bt346.2.1)) bt346.2.2 dI dB dK dD dR bt337.1 bt337.2.1 bt341.1 bt341.2.1 bt346.1 dM dN)) else (none)) else (none)) else (af.j3 k dA bt341.2.2.1 bt341.2.2.2 dI dB dK dD dR bt337.1 bt337.2.1 bt341.1 bt341.2.1 dL dM dN))) else ((bf.f k dA bt337.2.2.1 bt337.2.2.2).bind fun bt349 => ((bf.f k dA bt349.2.1 bt349.2.2).bind fun bt352 => (af.j3 k dA bt352.2.1 bt352.2.2 dI dB dK dD dR bt337.1 bt337.2.1 dS dU dL bt349.1 (wrap64 (bt352.1 - 1))))))
def af.j3 : Nat → List Int → Int → Int → Int → Int → Int → List Int → Int → Int → Int → Int → Int → ByteArray → Int → Int → Option (Int × Int × Int × List Int × Int × Int × Int × Int × Int × ByteArray × Int × Int × Int × Int)
 | 0, _, _, _, _, _, _, _, _, _, _, _, _, _, _, _ => none
 | k + 1, dA, eT, eU, dI, dB, dK, dD, dR, dX, dY, dS, dU, dL, dM, dN => if eU = 0 then (if dB < (dD.length : Int) then (if 0 ≤ dB then (af.j4 k dA eT eU dI dB (wrap64 ((rd dD dB) + 1)) dD dR dX dY dS dU dL dM dN) else (none)) else (af.j4 k dA eT eU dI dB dK dD dR dX dY dS dU dL dM dN)) else (some (0, 0, 0, ([] : List Int), 0, 0, 0, 0, 0, (⟨#[]⟩ : ByteArray), 0, 0, 0, eU))
def af.j4 : Nat → List Int → Int → Int → Int → Int → Int → List Int → Int → Int → Int → Int → Int → ByteArray → Int → Int → Option (Int × Int × Int × List Int × Int × Int × Int × Int × Int × ByteArray × Int × Int × Int × Int)
 | 0, _, _, _, _, _, _, _, _, _, _, _, _, _, _, _ => none
 | k + 1, dA, eT, eU, dI, dB, dK, dD, dR, dX, dY, dS, dU, dL, dM, dN => (aj.f k dI dB dK dD dR dX dY dS dU dL dM dN).bind fun t356 => (if t356 = true then (some (dI, dB, dK, dD, dR, dX, dY, dS, dU, dL, dM, dN, eT, 0)) else (some (0, 0, 0, ([] : List Int), 0, 0, 0, 0, 0, (⟨#[]⟩ : ByteArray), 0, 0, 0, 1)))
end
def af.f (k : Nat) (l0 : List Int) : Option (Int × Int × Int × List Int × Int × Int × Int × Int × Int × ByteArray × Int × Int × Int × Int) := (aG.f k l0 0 0).bind fun bt323 => (if bt323.2.2.2 = 0 then (if 0 ≤ bt323.2.2.1 then (if bt323.2.2.1 ≤ (l0.length : Int) then ((bq.f k (l0.drop (bt323.2.2.1 : Int).toNat)).bind fun bt329 => (af.j0 k l0 l0 (wrap64 (bt323.2.2.1 + bt329.2.1)) bt329.2.2 bt323.1 bt323.2.1 0 bt329.1 0 0 0 0 0 (⟨#[]⟩ : ByteArray) 0 0)) else (none)) else (none)) else (af.j0 k l0 l0 bt323.2.2.1 bt323.2.2.2 bt323.1 bt323.2.1 0 ([] : List Int) 0 0 0 0 0 (⟨#[]⟩ : ByteArray) 0 0))
theorem af.dJ : ∀ k, (∀ y0 y1 y2 y3 y4 y5 y6 y7 y8 y9 y10 y11 y12 y13 y14 y15, LeO (af.j0 k y0 y1 y2 y3 y4 y5 y6 y7 y8 y9 y10 y11 y12 y13 y14 y15) (af.j0 (k + 1) y0 y1 y2 y3 y4 y5 y6 y7 y8 y9 y10 y11 y12 y13 y14 y15)) ∧ (∀ y0 y1 y2 y3 y4 y5 y6 y7 y8 y9 y10 y11 y12 y13 y14 y15 y16, LeO (af.j1 k y0 y1 y2 y3 y4 y5 y6 y7 y8 y9 y10 y11 y12 y13 y14 y15 y16) (af.j1 (k + 1) y0 y1 y2 y3 y4 y5 y6 y7 y8 y9 y10 y11 y12 y13 y14 y15 y16)) ∧ (∀ y0 y1 y2 y3 y4 y5 y6 y7 y8 y9 y10 y11 y12 y13 y14 y15, LeO (af.j2 k y0 y1 y2 y3 y4 y5 y6 y7 y8 y9 y10 y11 y12 y13 y14 y15) (af.j2 (k + 1) y0 y1 y2 y3 y4 y5 y6 y7 y8 y9 y10 y11 y12 y13 y14 y15)) ∧ (∀ y0 y1 y2 y3 y4 y5 y6 y7 y8 y9 y10 y11 y12 y13 y14, LeO (af.j3 k y0 y1 y2 y3 y4 y5 y6 y7 y8 y9 y10 y11 y12 y13 y14) (af.j3 (k + 1) y0 y1 y2 y3 y4 y5 y6 y7 y8 y9 y10 y11 y12 y13 y14)) ∧ (∀ y0 y1 y2 y3 y4 y5 y6 y7 y8 y9 y10 y11 y12 y13 y14, LeO (af.j4 k y0 y1 y2 y3 y4 y5 y6 y7 y8 y9 y10 y11 y12 y13 y14) (af.j4 (k + 1) y0 y1 y2 y3 y4 y5 y6 y7 y8 y9 y10 y11 y12 y13 y14))
 | 0 => ⟨fun _ _ _ _ _ _ _ _ _ _ _ _ _ _ _ _ r h => by simp [af.j0] at h, fun _ _ _ _ _ _ _ _ _ _ _ _ _ _ _ _ _ r h => by simp [af.j1] at h, fun _ _ _ _ _ _ _ _ _ _ _ _ _ _ _ _ r h => by simp [af.j2] at h, fun _ _ _ _ _ _ _ _ _ _ _ _ _ _ _ r h => by simp [af.j3] at h, fun _ _ _ _ _ _ _ _ _ _ _ _ _ _ _ r h => by simp [af.j4] at h⟩
 | k + 1 => by
  obtain ⟨ih0, ih1, ih2, ih3, ih4⟩ := af.dJ k
  refine ⟨?_, ?_, ?_, ?_, ?_⟩
  ·intro y0 y1 y2 y3 y4 y5 y6 y7 y8 y9 y10 y11 y12 y13 y14 y15
   unfold af.j0
   repeat' first | (with_reducible first | exact ih0 _ _ _ _ _ _ _ _ _ _ _ _ _ _ _ _ | exact ih1 _ _ _ _ _ _ _ _ _ _ _ _ _ _ _ _ _ | exact ih2 _ _ _ _ _ _ _ _ _ _ _ _ _ _ _ _ | exact ih3 _ _ _ _ _ _ _ _ _ _ _ _ _ _ _ | exact ih4 _ _ _ _ _ _ _ _ _ _ _ _ _ _ _ | exact aj.mono _ _ _ _ _ _ _ _ _ _ _ _ _ | exact bf.mono _ _ _ _ | exact aG.mono _ _ _ _ | exact bz.mono _ _ | exact bq.mono _ _ | exact LeO.refl _ | exact LeO.none _ | refine LeO.ite ?_ ?_ | refine LeO.bind ?_ (fun _ => ?_)) | exact ih0 _ _ _ _ _ _ _ _ _ _ _ _ _ _ _ _ | exact ih1 _ _ _ _ _ _ _ _ _ _ _ _ _ _ _ _ _ | exact ih2 _ _ _ _ _ _ _ _ _ _ _ _ _ _ _ _ | exact ih3 _ _ _ _ _ _ _ _ _ _ _ _ _ _ _ | exact ih4 _ _ _ _ _ _ _ _ _ _ _ _ _ _ _ | exact aj.mono _ _ _ _ _ _ _ _ _ _ _ _ _ | exact bf.mono _ _ _ _ | exact aG.mono _ _ _ _ | exact bz.mono _ _ | exact bq.mono _ _ | exact LeO.none _ | refine LeO.ite ?_ ?_ | refine LeO.bind ?_ (fun _ => ?_)
  ·intro y0 y1 y2 y3 y4 y5 y6 y7 y8 y9 y10 y11 y12 y13 y14 y15 y16
   unfold af.j1
   repeat' first | (with_reducible first | exact ih0 _ _ _ _ _ _ _ _ _ _ _ _ _ _ _ _ | exact ih1 _ _ _ _ _ _ _ _ _ _ _ _ _ _ _ _ _ | exact ih2 _ _ _ _ _ _ _ _ _ _ _ _ _ _ _ _ | exact ih3 _ _ _ _ _ _ _ _ _ _ _ _ _ _ _ | exact ih4 _ _ _ _ _ _ _ _ _ _ _ _ _ _ _ | exact aj.mono _ _ _ _ _ _ _ _ _ _ _ _ _ | exact bf.mono _ _ _ _ | exact aG.mono _ _ _ _ | exact bz.mono _ _ | exact bq.mono _ _ | exact LeO.refl _ | exact LeO.none _ | refine LeO.ite ?_ ?_ | refine LeO.bind ?_ (fun _ => ?_)) | exact ih0 _ _ _ _ _ _ _ _ _ _ _ _ _ _ _ _ | exact ih1 _ _ _ _ _ _ _ _ _ _ _ _ _ _ _ _ _ | exact ih2 _ _ _ _ _ _ _ _ _ _ _ _ _ _ _ _ | exact ih3 _ _ _ _ _ _ _ _ _ _ _ _ _ _ _ | exact ih4 _ _ _ _ _ _ _ _ _ _ _ _ _ _ _ | exact aj.mono _ _ _ _ _ _ _ _ _ _ _ _ _ | exact bf.mono _ _ _ _ | exact aG.mono _ _ _ _ | exact bz.mono _ _ | exact bq.mono _ _ | exact LeO.none _ | refine LeO.ite ?_ ?_ | refine LeO.bind ?_ (fun _ => ?_)
  ·intro y0 y1 y2 y3 y4 y5 y6 y7 y8 y9 y10 y11 y12 y13 y14 y15
   unfold af.j2
   repeat' first | (with_reducible first | exact ih0 _ _ _ _ _ _ _ _ _ _ _ _ _ _ _ _ | exact ih1 _ _ _ _ _ _ _ _ _ _ _ _ _ _ _ _ _ | exact ih2 _ _ _ _ _ _ _ _ _ _ _ _ _ _ _ _ | exact ih3 _ _ _ _ _ _ _ _ _ _ _ _ _ _ _ | exact ih4 _ _ _ _ _ _ _ _ _ _ _ _ _ _ _ | exact aj.mono _ _ _ _ _ _ _ _ _ _ _ _ _ | exact bf.mono _ _ _ _ | exact aG.mono _ _ _ _ | exact bz.mono _ _ | exact bq.mono _ _ | exact LeO.refl _ | exact LeO.none _ | refine LeO.ite ?_ ?_ | refine LeO.bind ?_ (fun _ => ?_)) | exact ih0 _ _ _ _ _ _ _ _ _ _ _ _ _ _ _ _ | exact ih1 _ _ _ _ _ _ _ _ _ _ _ _ _ _ _ _ _ | exact ih2 _ _ _ _ _ _ _ _ _ _ _ _ _ _ _ _ | exact ih3 _ _ _ _ _ _ _ _ _ _ _ _ _ _ _ | exact ih4 _ _ _ _ _ _ _ _ _ _ _ _ _ _ _ | exact aj.mono _ _ _ _ _ _ _ _ _ _ _ _ _ | exact bf.mono _ _ _ _ | exact aG.mono _ _ _ _ | exact bz.mono _ _ | exact bq.mono _ _ | exact LeO.none _ | refine LeO.ite ?_ ?_ | refine LeO.bind ?_ (fun _ => ?_)
  ·intro y0 y1 y2 y3 y4 y5 y6 y7 y8 y9 y10 y11 y12 y13 y14
   unfold af.j3
   repeat' first | (with_reducible first | exact ih0 _ _ _ _ _ _ _ _ _ _ _ _ _ _ _ _ | exact ih1 _ _ _ _ _ _ _ _ _ _ _ _ _ _ _ _ _ | exact ih2 _ _ _ _ _ _ _ _ _ _ _ _ _ _ _ _ | exact ih3 _ _ _ _ _ _ _ _ _ _ _ _ _ _ _ | exact ih4 _ _ _ _ _ _ _ _ _ _ _ _ _ _ _ | exact aj.mono _ _ _ _ _ _ _ _ _ _ _ _ _ | exact bf.mono _ _ _ _ | exact aG.mono _ _ _ _ | exact bz.mono _ _ | exact bq.mono _ _ | exact LeO.refl _ | exact LeO.none _ | refine LeO.ite ?_ ?_ | refine LeO.bind ?_ (fun _ => ?_)) | exact ih0 _ _ _ _ _ _ _ _ _ _ _ _ _ _ _ _ | exact ih1 _ _ _ _ _ _ _ _ _ _ _ _ _ _ _ _ _ | exact ih2 _ _ _ _ _ _ _ _ _ _ _ _ _ _ _ _ | exact ih3 _ _ _ _ _ _ _ _ _ _ _ _ _ _ _ | exact ih4 _ _ _ _ _ _ _ _ _ _ _ _ _ _ _ | exact aj.mono _ _ _ _ _ _ _ _ _ _ _ _ _ | exact bf.mono _ _ _ _ | exact aG.mono _ _ _ _ | exact bz.mono _ _ | exact bq.mono _ _ | exact LeO.none _ | refine LeO.ite ?_ ?_ | refine LeO.bind ?_ (fun _ => ?_)
  ·intro y0 y1 y2 y3 y4 y5 y6 y7 y8 y9 y10 y11 y12 y13 y14
   unfold af.j4
   repeat' first | (with_reducible first | exact ih0 _ _ _ _ _ _ _ _ _ _ _ _ _ _ _ _ | exact ih1 _ _ _ _ _ _ _ _ _ _ _ _ _ _ _ _ _ | exact ih2 _ _ _ _ _ _ _ _ _ _ _ _ _ _ _ _ | exact ih3 _ _ _ _ _ _ _ _ _ _ _ _ _ _ _ | exact ih4 _ _ _ _ _ _ _ _ _ _ _ _ _ _ _ | exact aj.mono _ _ _ _ _ _ _ _ _ _ _ _ _ | exact bf.mono _ _ _ _ | exact aG.mono _ _ _ _ | exact bz.mono _ _ | exact bq.mono _ _ | exact LeO.refl _ | exact LeO.none _ | refine LeO.ite ?_ ?_ | refine LeO.bind ?_ (fun _ => ?_)) | exact ih0 _ _ _ _ _ _ _ _ _ _ _ _ _ _ _ _ | exact ih1 _ _ _ _ _ _ _ _ _ _ _ _ _ _ _ _ _ | exact ih2 _ _ _ _ _ _ _ _ _ _ _ _ _ _ _ _ | exact ih3 _ _ _ _ _ _ _ _ _ _ _ _ _ _ _ | exact ih4 _ _ _ _ _ _ _ _ _ _ _ _ _ _ _ | exact aj.mono _ _ _ _ _ _ _ _ _ _ _ _ _ | exact bf.mono _ _ _ _ | exact aG.mono _ _ _ _ | exact bz.mono _ _ | exact bq.mono _ _ | exact LeO.none _ | refine LeO.ite ?_ ?_ | refine LeO.bind ?_ (fun _ => ?_)
theorem af.mono : ∀ a0 k, LeO (af.f k a0) (af.f (k + 1) a0) := by
 intro a0 k
 obtain ⟨ih0, ih1, ih2, ih3, ih4⟩ := af.dJ k
 unfold af.f
 repeat' first | (with_reducible first | exact ih0 _ _ _ _ _ _ _ _ _ _ _ _ _ _ _ _ | exact ih1 _ _ _ _ _ _ _ _ _ _ _ _ _ _ _ _ _ | exact ih2 _ _ _ _ _ _ _ _ _ _ _ _ _ _ _ _ | exact ih3 _ _ _ _ _ _ _ _ _ _ _ _ _ _ _ | exact ih4 _ _ _ _ _ _ _ _ _ _ _ _ _ _ _ | exact aj.mono _ _ _ _ _ _ _ _ _ _ _ _ _ | exact bf.mono _ _ _ _ | exact aG.mono _ _ _ _ | exact bz.mono _ _ | exact bq.mono _ _ | exact LeO.refl _ | exact LeO.none _ | refine LeO.ite ?_ ?_ | refine LeO.bind ?_ (fun _ => ?_)) | exact ih0 _ _ _ _ _ _ _ _ _ _ _ _ _ _ _ _ | exact ih1 _ _ _ _ _ _ _ _ _ _ _ _ _ _ _ _ _ | exact ih2 _ _ _ _ _ _ _ _ _ _ _ _ _ _ _ _ | exact ih3 _ _ _ _ _ _ _ _ _ _ _ _ _ _ _ | exact ih4 _ _ _ _ _ _ _ _ _ _ _ _ _ _ _ | exact aj.mono _ _ _ _ _ _ _ _ _ _ _ _ _ | exact bf.mono _ _ _ _ | exact aG.mono _ _ _ _ | exact bz.mono _ _ | exact bq.mono _ _ | exact LeO.none _ | refine LeO.ite ?_ ?_ | refine LeO.bind ?_ (fun _ => ?_)
noncomputable def af.J0 (x0 dA : List Int) (eT eU dI dB dK : Int) (dD : List Int) (dR dX dY dS dU : Int) (dL : ByteArray) (dM dN : Int) : Option (Int × Int × Int × List Int × Int × Int × Int × Int × Int × ByteArray × Int × Int × Int × Int) := LB.lim (fun k => af.j0 k x0 dA eT eU dI dB dK dD dR dX dY dS dU dL dM dN)
noncomputable def af.J1 (x0 : List Int) (x67 : Bool) (dA : List Int) (eT eU dI dB dK : Int) (dD : List Int) (dR dX dY dS dU : Int) (dL : ByteArray) (dM dN : Int) : Option (Int × Int × Int × List Int × Int × Int × Int × Int × Int × ByteArray × Int × Int × Int × Int) := LB.lim (fun k => af.j1 k x0 x67 dA eT eU dI dB dK dD dR dX dY dS dU dL dM dN)
noncomputable def af.J2 (x0 dA : List Int) (eT eU dI dB dK : Int) (dD : List Int) (dR dX dY dS dU : Int) (dL : ByteArray) (dM dN : Int) : Option (Int × Int × Int × List Int × Int × Int × Int × Int × Int × ByteArray × Int × Int × Int × Int) := LB.lim (fun k => af.j2 k x0 dA eT eU dI dB dK dD dR dX dY dS dU dL dM dN)
noncomputable def af.J3 (dA : List Int) (eT eU dI dB dK : Int) (dD : List Int) (dR dX dY dS dU : Int) (dL : ByteArray) (dM dN : Int) : Option (Int × Int × Int × List Int × Int × Int × Int × Int × Int × ByteArray × Int × Int × Int × Int) := LB.lim (fun k => af.j3 k dA eT eU dI dB dK dD dR dX dY dS dU dL dM dN)
noncomputable def af.J4 (dA : List Int) (eT eU dI dB dK : Int) (dD : List Int) (dR dX dY dS dU : Int) (dL : ByteArray) (dM dN : Int) : Option (Int × Int × Int × List Int × Int × Int × Int × Int × Int × ByteArray × Int × Int × Int × Int) := LB.lim (fun k => af.j4 k dA eT eU dI dB dK dD dR dX dY dS dU dL dM dN)
theorem af.jJ (x0 dA : List Int) (eT eU dI dB dK : Int) (dD : List Int) (dR dX dY dS dU : Int) (dL : ByteArray) (dM dN : Int) : LB.Lim (fun k => af.j0 k x0 dA eT eU dI dB dK dD dR dX dY dS dU dL dM dN) (af.J0 x0 dA eT eU dI dB dK dD dR dX dY dS dU dL dM dN) := LB.bX (fun k => (af.dJ k).1 x0 dA eT eU dI dB dK dD dR dX dY dS dU dL dM dN)
theorem af.gZ (x0 : List Int) (x67 : Bool) (dA : List Int) (eT eU dI dB dK : Int) (dD : List Int) (dR dX dY dS dU : Int) (dL : ByteArray) (dM dN : Int) : LB.Lim (fun k => af.j1 k x0 x67 dA eT eU dI dB dK dD dR dX dY dS dU dL dM dN) (af.J1 x0 x67 dA eT eU dI dB dK dD dR dX dY dS dU dL dM dN) := LB.bX (fun k => (af.dJ k).2.1 x0 x67 dA eT eU dI dB dK dD dR dX dY dS dU dL dM dN)
theorem af.jm (x0 dA : List Int) (eT eU dI dB dK : Int) (dD : List Int) (dR dX dY dS dU : Int) (dL : ByteArray) (dM dN : Int) : LB.Lim (fun k => af.j2 k x0 dA eT eU dI dB dK dD dR dX dY dS dU dL dM dN) (af.J2 x0 dA eT eU dI dB dK dD dR dX dY dS dU dL dM dN) := LB.bX (fun k => (af.dJ k).2.2.1 x0 dA eT eU dI dB dK dD dR dX dY dS dU dL dM dN)
theorem af.kN (dA : List Int) (eT eU dI dB dK : Int) (dD : List Int) (dR dX dY dS dU : Int) (dL : ByteArray) (dM dN : Int) : LB.Lim (fun k => af.j3 k dA eT eU dI dB dK dD dR dX dY dS dU dL dM dN) (af.J3 dA eT eU dI dB dK dD dR dX dY dS dU dL dM dN) := LB.bX (fun k => (af.dJ k).2.2.2.1 dA eT eU dI dB dK dD dR dX dY dS dU dL dM dN)
theorem af.J4_lim (dA : List Int) (eT eU dI dB dK : Int) (dD : List Int) (dR dX dY dS dU : Int) (dL : ByteArray) (dM dN : Int) : LB.Lim (fun k => af.j4 k dA eT eU dI dB dK dD dR dX dY dS dU dL dM dN) (af.J4 dA eT eU dI dB dK dD dR dX dY dS dU dL dM dN) := LB.bX (fun k => (af.dJ k).2.2.2.2 dA eT eU dI dB dK dD dR dX dY dS dU dL dM dN)
theorem af.J0_eq (x0 dA : List Int) (eT eU dI dB dK : Int) (dD : List Int) (dR dX dY dS dU : Int) (dL : ByteArray) (dM dN : Int) : af.J0 x0 dA eT eU dI dB dK dD dR dX dY dS dU dL dM dN = ((bf.F dA eT eU).bind fun bt334 => (if bt334.2.2 = 0 then (if bt334.1 = 1 then (af.J1 x0 false dA bt334.2.1 bt334.2.2 dI dB dK dD bt334.1 dX dY dS dU dL dM dN) else (af.J1 x0 (bt334.1 != 2) dA bt334.2.1 bt334.2.2 dI dB dK dD bt334.1 dX dY dS dU dL dM dN)) else (af.J1 x0 false dA bt334.2.1 bt334.2.2 dI dB dK dD bt334.1 dX dY dS dU dL dM dN))) := by
  refine LB.Lim.unique (af.jJ x0 dA eT eU dI dB dK dD dR dX dY dS dU dL dM dN).shift ?_
  simp only [af.j0]
  (repeat' (first | exact LB.Lim.const _ | exact af.jJ _ _ _ _ _ _ _ _ _ _ _ _ _ _ _ _ | exact af.gZ _ _ _ _ _ _ _ _ _ _ _ _ _ _ _ _ _ | exact af.jm _ _ _ _ _ _ _ _ _ _ _ _ _ _ _ _ | exact af.kN _ _ _ _ _ _ _ _ _ _ _ _ _ _ _ | exact af.J4_lim _ _ _ _ _ _ _ _ _ _ _ _ _ _ _ | exact aj.bK _ _ _ _ _ _ _ _ _ _ _ _ | exact bf.bK _ _ _ | exact aG.bK _ _ _ | exact bz.bK _ | exact bq.bK _ | refine LB.Lim.ite ?_ ?_ | refine LB.Lim.bind ?_ (fun _ => ?_)))
theorem af.J1_eq (x0 : List Int) (x67 : Bool) (dA : List Int) (eT eU dI dB dK : Int) (dD : List Int) (dR dX dY dS dU : Int) (dL : ByteArray) (dM dN : Int) : af.J1 x0 x67 dA eT eU dI dB dK dD dR dX dY dS dU dL dM dN = (if x67 = true then (af.J2 x0 dA eT 1 dI dB dK dD dR dX dY dS dU dL dM dN) else (af.J2 x0 dA eT eU dI dB dK dD dR dX dY dS dU dL dM dN)) := by
  refine LB.Lim.unique (af.gZ x0 x67 dA eT eU dI dB dK dD dR dX dY dS dU dL dM dN).shift ?_
  simp only [af.j1]
  (repeat' (first | exact LB.Lim.const _ | exact af.jJ _ _ _ _ _ _ _ _ _ _ _ _ _ _ _ _ | exact af.gZ _ _ _ _ _ _ _ _ _ _ _ _ _ _ _ _ _ | exact af.jm _ _ _ _ _ _ _ _ _ _ _ _ _ _ _ _ | exact af.kN _ _ _ _ _ _ _ _ _ _ _ _ _ _ _ | exact af.J4_lim _ _ _ _ _ _ _ _ _ _ _ _ _ _ _ | exact aj.bK _ _ _ _ _ _ _ _ _ _ _ _ | exact bf.bK _ _ _ | exact aG.bK _ _ _ | exact bz.bK _ | exact bq.bK _ | refine LB.Lim.ite ?_ ?_ | refine LB.Lim.bind ?_ (fun _ => ?_)))
theorem af.J2_eq (x0 dA : List Int) (eT eU dI dB dK : Int) (dD : List Int) (dR dX dY dS dU : Int) (dL : ByteArray) (dM dN : Int) : af.J2 x0 dA eT eU dI dB dK dD dR dX dY dS dU dL dM dN = ((aG.F dA eT eU).bind fun bt337 => (if dR = 1 then ((aG.F dA bt337.2.2.1 bt337.2.2.2).bind fun bt341 => (if bt341.2.2.2 = 0 then (if 0 ≤ bt341.2.2.1 then (if bt341.2.2.1 ≤ (x0.length : Int) then ((bz.F (x0.drop (bt341.2.2.1 : Int).toNat)).bind fun bt346 => (af.J3 dA (wrap64 (bt341.2.2.1 + bt346.2.1)) bt346.2.2 dI dB dK dD dR bt337.1 bt337.2.1 bt341.1 bt341.2.1 bt346.1 dM dN)) else (none)) else (none)) else (af.J3 dA bt341.2.2.1 bt341.2.2.2 dI dB dK dD dR bt337.1 bt337.2.1 bt341.1 bt341.2.1 dL dM dN))) else ((bf.F dA bt337.2.2.1 bt337.2.2.2).bind fun bt349 => ((bf.F dA bt349.2.1 bt349.2.2).bind fun bt352 => (af.J3 dA bt352.2.1 bt352.2.2 dI dB dK dD dR bt337.1 bt337.2.1 dS dU dL bt349.1 (wrap64 (bt352.1 - 1))))))) := by
  refine LB.Lim.unique (af.jm x0 dA eT eU dI dB dK dD dR dX dY dS dU dL dM dN).shift ?_
  simp only [af.j2]
  (repeat' (first | exact LB.Lim.const _ | exact af.jJ _ _ _ _ _ _ _ _ _ _ _ _ _ _ _ _ | exact af.gZ _ _ _ _ _ _ _ _ _ _ _ _ _ _ _ _ _ | exact af.jm _ _ _ _ _ _ _ _ _ _ _ _ _ _ _ _ | exact af.kN _ _ _ _ _ _ _ _ _ _ _ _ _ _ _ | exact af.J4_lim _ _ _ _ _ _ _ _ _ _ _ _ _ _ _ | exact aj.bK _ _ _ _ _ _ _ _ _ _ _ _ | exact bf.bK _ _ _ | exact aG.bK _ _ _ | exact bz.bK _ | exact bq.bK _ | refine LB.Lim.ite ?_ ?_ | refine LB.Lim.bind ?_ (fun _ => ?_)))
theorem af.J3_eq (dA : List Int) (eT eU dI dB dK : Int) (dD : List Int) (dR dX dY dS dU : Int) (dL : ByteArray) (dM dN : Int) : af.J3 dA eT eU dI dB dK dD dR dX dY dS dU dL dM dN = (if eU = 0 then (if dB < (dD.length : Int) then (if 0 ≤ dB then (af.J4 dA eT eU dI dB (wrap64 ((rd dD dB) + 1)) dD dR dX dY dS dU dL dM dN) else (none)) else (af.J4 dA eT eU dI dB dK dD dR dX dY dS dU dL dM dN)) else (some (0, 0, 0, ([] : List Int), 0, 0, 0, 0, 0, (⟨#[]⟩ : ByteArray), 0, 0, 0, eU))) := by
  refine LB.Lim.unique (af.kN dA eT eU dI dB dK dD dR dX dY dS dU dL dM dN).shift ?_
  simp only [af.j3]
  (repeat' (first | exact LB.Lim.const _ | exact af.jJ _ _ _ _ _ _ _ _ _ _ _ _ _ _ _ _ | exact af.gZ _ _ _ _ _ _ _ _ _ _ _ _ _ _ _ _ _ | exact af.jm _ _ _ _ _ _ _ _ _ _ _ _ _ _ _ _ | exact af.kN _ _ _ _ _ _ _ _ _ _ _ _ _ _ _ | exact af.J4_lim _ _ _ _ _ _ _ _ _ _ _ _ _ _ _ | exact aj.bK _ _ _ _ _ _ _ _ _ _ _ _ | exact bf.bK _ _ _ | exact aG.bK _ _ _ | exact bz.bK _ | exact bq.bK _ | refine LB.Lim.ite ?_ ?_ | refine LB.Lim.bind ?_ (fun _ => ?_)))
theorem af.J4_eq (dA : List Int) (eT eU dI dB dK : Int) (dD : List Int) (dR dX dY dS dU : Int) (dL : ByteArray) (dM dN : Int) : af.J4 dA eT eU dI dB dK dD dR dX dY dS dU dL dM dN = ((aj.F dI dB dK dD dR dX dY dS dU dL dM dN).bind fun t356 => (if t356 = true then (some (dI, dB, dK, dD, dR, dX, dY, dS, dU, dL, dM, dN, eT, 0)) else (some (0, 0, 0, ([] : List Int), 0, 0, 0, 0, 0, (⟨#[]⟩ : ByteArray), 0, 0, 0, 1)))) := by
  refine LB.Lim.unique (af.J4_lim dA eT eU dI dB dK dD dR dX dY dS dU dL dM dN).shift ?_
  simp only [af.j4]
  (repeat' (first | exact LB.Lim.const _ | exact af.jJ _ _ _ _ _ _ _ _ _ _ _ _ _ _ _ _ | exact af.gZ _ _ _ _ _ _ _ _ _ _ _ _ _ _ _ _ _ | exact af.jm _ _ _ _ _ _ _ _ _ _ _ _ _ _ _ _ | exact af.kN _ _ _ _ _ _ _ _ _ _ _ _ _ _ _ | exact af.J4_lim _ _ _ _ _ _ _ _ _ _ _ _ _ _ _ | exact aj.bK _ _ _ _ _ _ _ _ _ _ _ _ | exact bf.bK _ _ _ | exact aG.bK _ _ _ | exact bz.bK _ | exact bq.bK _ | refine LB.Lim.ite ?_ ?_ | refine LB.Lim.bind ?_ (fun _ => ?_)))
noncomputable def af.F (l0 : List Int) : Option (Int × Int × Int × List Int × Int × Int × Int × Int × Int × ByteArray × Int × Int × Int × Int) := LB.lim (fun k => af.f k l0)
theorem af.bK (l0 : List Int) : LB.Lim (fun k => af.f k l0) (af.F l0) := LB.bX (af.mono l0)
theorem af.jQ (l0 : List Int) : af.F l0 = ((aG.F l0 0 0).bind fun bt323 => (if bt323.2.2.2 = 0 then (if 0 ≤ bt323.2.2.1 then (if bt323.2.2.1 ≤ (l0.length : Int) then ((bq.F (l0.drop (bt323.2.2.1 : Int).toNat)).bind fun bt329 => (af.J0 l0 l0 (wrap64 (bt323.2.2.1 + bt329.2.1)) bt329.2.2 bt323.1 bt323.2.1 0 bt329.1 0 0 0 0 0 (⟨#[]⟩ : ByteArray) 0 0)) else (none)) else (none)) else (af.J0 l0 l0 bt323.2.2.1 bt323.2.2.2 bt323.1 bt323.2.1 0 ([] : List Int) 0 0 0 0 0 (⟨#[]⟩ : ByteArray) 0 0))) := by
  refine LB.Lim.unique (af.bK l0) ?_
  simp only [af.f]
  (repeat' (first | exact LB.Lim.const _ | exact af.jJ _ _ _ _ _ _ _ _ _ _ _ _ _ _ _ _ | exact af.gZ _ _ _ _ _ _ _ _ _ _ _ _ _ _ _ _ _ | exact af.jm _ _ _ _ _ _ _ _ _ _ _ _ _ _ _ _ | exact af.kN _ _ _ _ _ _ _ _ _ _ _ _ _ _ _ | exact af.J4_lim _ _ _ _ _ _ _ _ _ _ _ _ _ _ _ | exact aj.bK _ _ _ _ _ _ _ _ _ _ _ _ | exact bf.bK _ _ _ | exact aG.bK _ _ _ | exact bz.bK _ | exact bq.bK _ | refine LB.Lim.ite ?_ ?_ | refine LB.Lim.bind ?_ (fun _ => ?_)))
def bT.f (a0 : Int) : Option (Int) := some a0
def aK.l0 : Nat → List Int → List Int → Int → Option (Bool)
 | 0, _, _, _ => none
 | k + 1, x0, x1, x5 => if x5 < (x0.length : Int) then (if 0 ≤ x5 then (if x5 < (x1.length : Int) then (if (rd x0 x5) = (rd x1 x5) then (aK.l0 k x0 x1 (wrap64 (x5 + 1))) else (some false)) else (none)) else (none)) else (some true)
def aK.f (k : Nat) (l0 l1 : List Int) : Option (Bool) := if (l0.length : Int) = (l1.length : Int) then (aK.l0 k l0 l1 0) else (some false)
theorem aK.dJ : ∀ k, (∀ y0 y1 y2, LeO (aK.l0 k y0 y1 y2) (aK.l0 (k + 1) y0 y1 y2))
 | 0 => fun _ _ _ r h => by simp [aK.l0] at h
 | k + 1 => by
  have ih0 := aK.dJ k
  ·intro y0 y1 y2
   unfold aK.l0
   repeat' first | (with_reducible first | exact ih0 _ _ _ | exact LeO.refl _ | exact LeO.none _ | refine LeO.ite ?_ ?_ | refine LeO.bind ?_ (fun _ => ?_)) | exact ih0 _ _ _ | exact LeO.none _ | refine LeO.ite ?_ ?_ | refine LeO.bind ?_ (fun _ => ?_)
theorem aK.mono : ∀ a0 a1 k, LeO (aK.f k a0 a1) (aK.f (k + 1) a0 a1) := by
 intro a0 a1 k
 have ih0 := aK.dJ k
 unfold aK.f
 repeat' first | (with_reducible first | exact ih0 _ _ _ | exact LeO.refl _ | exact LeO.none _ | refine LeO.ite ?_ ?_ | refine LeO.bind ?_ (fun _ => ?_)) | exact ih0 _ _ _ | exact LeO.none _ | refine LeO.ite ?_ ?_ | refine LeO.bind ?_ (fun _ => ?_)
noncomputable def aK.L0 (x0 x1 : List Int) (x5 : Int) : Option (Bool) := LB.lim (fun k => aK.l0 k x0 x1 x5)
theorem aK.fQ (x0 x1 : List Int) (x5 : Int) : LB.Lim (fun k => aK.l0 k x0 x1 x5) (aK.L0 x0 x1 x5) := LB.bX (fun k => (aK.dJ k) x0 x1 x5)
theorem aK.ky (x0 x1 : List Int) (x5 : Int) : aK.L0 x0 x1 x5 = (if x5 < (x0.length : Int) then (if 0 ≤ x5 then (if x5 < (x1.length : Int) then (if (rd x0 x5) = (rd x1 x5) then (aK.L0 x0 x1 (wrap64 (x5 + 1))) else (some false)) else (none)) else (none)) else (some true)) := by
  refine LB.Lim.unique (aK.fQ x0 x1 x5).shift ?_
  simp only [aK.l0]
  (repeat' (first | exact LB.Lim.const _ | exact aK.fQ _ _ _ | refine LB.Lim.ite ?_ ?_ | refine LB.Lim.bind ?_ (fun _ => ?_)))
noncomputable def aK.F (l0 l1 : List Int) : Option (Bool) := LB.lim (fun k => aK.f k l0 l1)
theorem aK.bK (l0 l1 : List Int) : LB.Lim (fun k => aK.f k l0 l1) (aK.F l0 l1) := LB.bX (aK.mono l0 l1)
theorem aK.jQ (l0 l1 : List Int) : aK.F l0 l1 = (if (l0.length : Int) = (l1.length : Int) then (aK.L0 l0 l1 0) else (some false)) := by
  refine LB.Lim.unique (aK.bK l0 l1) ?_
  simp only [aK.f]
  (repeat' (first | exact LB.Lim.const _ | exact aK.fQ _ _ _ | refine LB.Lim.ite ?_ ?_ | refine LB.Lim.bind ?_ (fun _ => ?_)))
end Go.Proofs.Ytddnlnjmikcgfaa.PC
end
section
namespace Go.Proofs.Ytddnlnjmikcgfaa.PC
open Go.RowKit Go.WB.PrintWords Go.WB.PrintLast Go.WB.PrintMore
attribute [local go_sem] dh dm eB eD bZ cu di dn
set_option linter.unusedVariables false
set_option linter.unusedSimpArgs false
set_option maxHeartbeats 40000000
set_option maxRecDepth 100000
def bI.l0 : Nat → List Int → Int → Option (List Int)
 | 0, _, _ => none
 | k + 1, x0, x1 => if x1 ≥ 128 then (if x0.length < 140737488355328 then (bI.l0 k (x0 ++ [Go.bits .or .u8 ((x1) % 256) 128]) (x1 / 128)) else (none)) else (if x0.length < 140737488355328 then (some (x0 ++ [(x1) % 256])) else (none))
def bI.f (k : Nat) (l0 : List Int) (a1 : Int) : Option (List Int) := bI.l0 k l0 a1
theorem bI.dJ : ∀ k, (∀ y0 y1, LeO (bI.l0 k y0 y1) (bI.l0 (k + 1) y0 y1))
 | 0 => fun _ _ r h => by simp [bI.l0] at h
 | k + 1 => by
  have ih0 := bI.dJ k
  ·intro y0 y1
   unfold bI.l0
   repeat' first | (with_reducible first | exact ih0 _ _ | exact LeO.refl _ | exact LeO.none _ | refine LeO.ite ?_ ?_ | refine LeO.bind ?_ (fun _ => ?_)) | exact ih0 _ _ | exact LeO.none _ | refine LeO.ite ?_ ?_ | refine LeO.bind ?_ (fun _ => ?_)
theorem bI.mono : ∀ a0 a1 k, LeO (bI.f k a0 a1) (bI.f (k + 1) a0 a1) := by
 intro a0 a1 k
 have ih0 := bI.dJ k
 unfold bI.f
 repeat' first | (with_reducible first | exact ih0 _ _ | exact LeO.refl _ | exact LeO.none _ | refine LeO.ite ?_ ?_ | refine LeO.bind ?_ (fun _ => ?_)) | exact ih0 _ _ | exact LeO.none _ | refine LeO.ite ?_ ?_ | refine LeO.bind ?_ (fun _ => ?_)
noncomputable def bI.L0 (x0 : List Int) (x1 : Int) : Option (List Int) := LB.lim (fun k => bI.l0 k x0 x1)
theorem bI.fQ (x0 : List Int) (x1 : Int) : LB.Lim (fun k => bI.l0 k x0 x1) (bI.L0 x0 x1) := LB.bX (fun k => (bI.dJ k) x0 x1)
theorem bI.ky (x0 : List Int) (x1 : Int) : bI.L0 x0 x1 = (if x1 ≥ 128 then (if x0.length < 140737488355328 then (bI.L0 (x0 ++ [Go.bits .or .u8 ((x1) % 256) 128]) (x1 / 128)) else (none)) else (if x0.length < 140737488355328 then (some (x0 ++ [(x1) % 256])) else (none))) := by
  refine LB.Lim.unique (bI.fQ x0 x1).shift ?_
  simp only [bI.l0]
  (repeat' (first | exact LB.Lim.const _ | exact bI.fQ _ _ | refine LB.Lim.ite ?_ ?_ | refine LB.Lim.bind ?_ (fun _ => ?_)))
noncomputable def bI.F (l0 : List Int) (a1 : Int) : Option (List Int) := LB.lim (fun k => bI.f k l0 a1)
theorem bI.bK (l0 : List Int) (a1 : Int) : LB.Lim (fun k => bI.f k l0 a1) (bI.F l0 a1) := LB.bX (bI.mono l0 a1)
theorem bI.jQ (l0 : List Int) (a1 : Int) : bI.F l0 a1 = (bI.L0 l0 a1) := by
  refine LB.Lim.unique (bI.bK l0 a1) ?_
  simp only [bI.f]
  (repeat' (first | exact LB.Lim.const _ | exact bI.fQ _ _ | refine LB.Lim.ite ?_ ?_ | refine LB.Lim.bind ?_ (fun _ => ?_)))
def bN.l0 : Nat → List Int → List Int → Int → Int → Option (List Int)
 | 0, _, _, _, _ => none
 | k + 1, x0, x11, x12, x13 => if x13 < x12 then (if 0 ≤ x13 then (if x13 < (x11.length : Int) then ((bI.f k x0 (rd x11 x13)).bind fun t374 => (bN.l0 k t374 x11 x12 (wrap64 (x13 + 1)))) else (none)) else (none)) else (some x0)
def bN.f (k : Nat) (l0 l1 : List Int) : Option (List Int) := (bI.f k l0 (l1.length : Int)).bind fun t370 => (bN.l0 k t370 l1 (l1.length : Int) 0)
theorem bN.dJ : ∀ k, (∀ y0 y1 y2 y3, LeO (bN.l0 k y0 y1 y2 y3) (bN.l0 (k + 1) y0 y1 y2 y3))
 | 0 => fun _ _ _ _ r h => by simp [bN.l0] at h
 | k + 1 => by
  have ih0 := bN.dJ k
  ·intro y0 y1 y2 y3
   unfold bN.l0
   repeat' first | (with_reducible first | exact ih0 _ _ _ _ | exact bI.mono _ _ _ | exact LeO.refl _ | exact LeO.none _ | refine LeO.ite ?_ ?_ | refine LeO.bind ?_ (fun _ => ?_)) | exact ih0 _ _ _ _ | exact bI.mono _ _ _ | exact LeO.none _ | refine LeO.ite ?_ ?_ | refine LeO.bind ?_ (fun _ => ?_)
theorem bN.mono : ∀ a0 a1 k, LeO (bN.f k a0 a1) (bN.f (k + 1) a0 a1) := by
 intro a0 a1 k
 have ih0 := bN.dJ k
 unfold bN.f
 repeat' first | (with_reducible first | exact ih0 _ _ _ _ | exact bI.mono _ _ _ | exact LeO.refl _ | exact LeO.none _ | refine LeO.ite ?_ ?_ | refine LeO.bind ?_ (fun _ => ?_)) | exact ih0 _ _ _ _ | exact bI.mono _ _ _ | exact LeO.none _ | refine LeO.ite ?_ ?_ | refine LeO.bind ?_ (fun _ => ?_)
noncomputable def bN.L0 (x0 x11 : List Int) (x12 x13 : Int) : Option (List Int) := LB.lim (fun k => bN.l0 k x0 x11 x12 x13)
theorem bN.fQ (x0 x11 : List Int) (x12 x13 : Int) : LB.Lim (fun k => bN.l0 k x0 x11 x12 x13) (bN.L0 x0 x11 x12 x13) := LB.bX (fun k => (bN.dJ k) x0 x11 x12 x13)
theorem bN.ky (x0 x11 : List Int) (x12 x13 : Int) : bN.L0 x0 x11 x12 x13 = (if x13 < x12 then (if 0 ≤ x13 then (if x13 < (x11.length : Int) then ((bI.F x0 (rd x11 x13)).bind fun t374 => (bN.L0 t374 x11 x12 (wrap64 (x13 + 1)))) else (none)) else (none)) else (some x0)) := by
  refine LB.Lim.unique (bN.fQ x0 x11 x12 x13).shift ?_
  simp only [bN.l0]
  (repeat' (first | exact LB.Lim.const _ | exact bN.fQ _ _ _ _ | exact bI.bK _ _ | refine LB.Lim.ite ?_ ?_ | refine LB.Lim.bind ?_ (fun _ => ?_)))
noncomputable def bN.F (l0 l1 : List Int) : Option (List Int) := LB.lim (fun k => bN.f k l0 l1)
theorem bN.bK (l0 l1 : List Int) : LB.Lim (fun k => bN.f k l0 l1) (bN.F l0 l1) := LB.bX (bN.mono l0 l1)
theorem bN.jQ (l0 l1 : List Int) : bN.F l0 l1 = ((bI.F l0 (l1.length : Int)).bind fun t370 => (bN.L0 t370 l1 (l1.length : Int) 0)) := by
  refine LB.Lim.unique (bN.bK l0 l1) ?_
  simp only [bN.f]
  (repeat' (first | exact LB.Lim.const _ | exact bN.fQ _ _ _ _ | exact bI.bK _ _ | refine LB.Lim.ite ?_ ?_ | refine LB.Lim.bind ?_ (fun _ => ?_)))
def eu.f (k : Nat) (l0 : List Int) (a1_0 a1_1 : Int) : Option (List Int) := (bI.f k l0 a1_0).bind fun t378 => ((bI.f k t378 a1_1).bind fun t381 => (some t381))
theorem eu.mono : ∀ a0 a1 a2 k, LeO (eu.f k a0 a1 a2) (eu.f (k + 1) a0 a1 a2) := by
 intro a0 a1 a2 k
 unfold eu.f
 repeat' first | (with_reducible first | exact bI.mono _ _ _ | exact LeO.refl _ | exact LeO.none _ | refine LeO.ite ?_ ?_ | refine LeO.bind ?_ (fun _ => ?_)) | exact bI.mono _ _ _ | exact LeO.none _ | refine LeO.ite ?_ ?_ | refine LeO.bind ?_ (fun _ => ?_)
noncomputable def eu.F (l0 : List Int) (a1_0 a1_1 : Int) : Option (List Int) := LB.lim (fun k => eu.f k l0 a1_0 a1_1)
theorem eu.bK (l0 : List Int) (a1_0 a1_1 : Int) : LB.Lim (fun k => eu.f k l0 a1_0 a1_1) (eu.F l0 a1_0 a1_1) := LB.bX (eu.mono l0 a1_0 a1_1)
theorem eu.jQ (l0 : List Int) (a1_0 a1_1 : Int) : eu.F l0 a1_0 a1_1 = ((bI.F l0 a1_0).bind fun t378 => ((bI.F t378 a1_1).bind fun t381 => (some t381))) := by
  refine LB.Lim.unique (eu.bK l0 a1_0 a1_1) ?_
  simp only [eu.f]
  (repeat' (first | exact LB.Lim.const _ | exact bI.bK _ _ | refine LB.Lim.ite ?_ ?_ | refine LB.Lim.bind ?_ (fun _ => ?_)))
def eZ.f (k : Nat) (l0 : List Int) (a1 : ByteArray) : Option (List Int) := (bI.f k l0 (a1.size : Int)).bind fun t384 => (if t384.length + a1.size < 140737488355328 then (some (t384 ++ bytesOf a1)) else (none))
theorem eZ.mono : ∀ a0 a1 k, LeO (eZ.f k a0 a1) (eZ.f (k + 1) a0 a1) := by
 intro a0 a1 k
 unfold eZ.f
 repeat' first | (with_reducible first | exact bI.mono _ _ _ | exact LeO.refl _ | exact LeO.none _ | refine LeO.ite ?_ ?_ | refine LeO.bind ?_ (fun _ => ?_)) | exact bI.mono _ _ _ | exact LeO.none _ | refine LeO.ite ?_ ?_ | refine LeO.bind ?_ (fun _ => ?_)
noncomputable def eZ.F (l0 : List Int) (a1 : ByteArray) : Option (List Int) := LB.lim (fun k => eZ.f k l0 a1)
theorem eZ.bK (l0 : List Int) (a1 : ByteArray) : LB.Lim (fun k => eZ.f k l0 a1) (eZ.F l0 a1) := LB.bX (eZ.mono l0 a1)
theorem eZ.jQ (l0 : List Int) (a1 : ByteArray) : eZ.F l0 a1 = ((bI.F l0 (a1.size : Int)).bind fun t384 => (if t384.length + a1.size < 140737488355328 then (some (t384 ++ bytesOf a1)) else (none))) := by
  refine LB.Lim.unique (eZ.bK l0 a1) ?_
  simp only [eZ.f]
  (repeat' (first | exact LB.Lim.const _ | exact bI.bK _ _ | refine LB.Lim.ite ?_ ?_ | refine LB.Lim.bind ?_ (fun _ => ?_)))
def fK.f (k : Nat) (l0 : List Int) (a1_0 a1_1 a1_2 : Int) (l1_3 : List Int) (a1_4 a1_5 a1_6 a1_7 a1_8 : Int) (a1_9 : ByteArray) (a1_10 a1_11 : Int) : Option (List Int) := (eu.f k l0 a1_0 a1_1).bind fun t391 => ((bN.f k t391 l1_3).bind fun t394 => ((bI.f k t394 a1_4).bind fun t397 => ((eu.f k t397 a1_5 a1_6).bind fun t400 => (if a1_4 = 1 then ((eu.f k t400 a1_7 a1_8).bind fun t403 => ((eZ.f k t403 a1_9).bind fun t406 => (some t406))) else ((bI.f k t400 a1_10).bind fun t409 => ((bI.f k t409 (wrap64 (a1_11 + 1))).bind fun t412 => (some t412)))))))
theorem fK.mono : ∀ a0 a1 a2 a3 a4 a5 a6 a7 a8 a9 a10 a11 a12 k, LeO (fK.f k a0 a1 a2 a3 a4 a5 a6 a7 a8 a9 a10 a11 a12) (fK.f (k + 1) a0 a1 a2 a3 a4 a5 a6 a7 a8 a9 a10 a11 a12) := by
 intro a0 a1 a2 a3 a4 a5 a6 a7 a8 a9 a10 a11 a12 k
 unfold fK.f
 repeat' first | (with_reducible first | exact bI.mono _ _ _ | exact bN.mono _ _ _ | exact eZ.mono _ _ _ | exact eu.mono _ _ _ _ | exact LeO.refl _ | exact LeO.none _ | refine LeO.ite ?_ ?_ | refine LeO.bind ?_ (fun _ => ?_)) | exact bI.mono _ _ _ | exact bN.mono _ _ _ | exact eZ.mono _ _ _ | exact eu.mono _ _ _ _ | exact LeO.none _ | refine LeO.ite ?_ ?_ | refine LeO.bind ?_ (fun _ => ?_)
noncomputable def fK.F (l0 : List Int) (a1_0 a1_1 a1_2 : Int) (l1_3 : List Int) (a1_4 a1_5 a1_6 a1_7 a1_8 : Int) (a1_9 : ByteArray) (a1_10 a1_11 : Int) : Option (List Int) := LB.lim (fun k => fK.f k l0 a1_0 a1_1 a1_2 l1_3 a1_4 a1_5 a1_6 a1_7 a1_8 a1_9 a1_10 a1_11)
theorem fK.bK (l0 : List Int) (a1_0 a1_1 a1_2 : Int) (l1_3 : List Int) (a1_4 a1_5 a1_6 a1_7 a1_8 : Int) (a1_9 : ByteArray) (a1_10 a1_11 : Int) : LB.Lim (fun k => fK.f k l0 a1_0 a1_1 a1_2 l1_3 a1_4 a1_5 a1_6 a1_7 a1_8 a1_9 a1_10 a1_11) (fK.F l0 a1_0 a1_1 a1_2 l1_3 a1_4 a1_5 a1_6 a1_7 a1_8 a1_9 a1_10 a1_11) := LB.bX (fK.mono l0 a1_0 a1_1 a1_2 l1_3 a1_4 a1_5 a1_6 a1_7 a1_8 a1_9 a1_10 a1_11)
theorem fK.jQ (l0 : List Int) (a1_0 a1_1 a1_2 : Int) (l1_3 : List Int) (a1_4 a1_5 a1_6 a1_7 a1_8 : Int) (a1_9 : ByteArray) (a1_10 a1_11 : Int) : fK.F l0 a1_0 a1_1 a1_2 l1_3 a1_4 a1_5 a1_6 a1_7 a1_8 a1_9 a1_10 a1_11 = ((eu.F l0 a1_0 a1_1).bind fun t391 => ((bN.F t391 l1_3).bind fun t394 => ((bI.F t394 a1_4).bind fun t397 => ((eu.F t397 a1_5 a1_6).bind fun t400 => (if a1_4 = 1 then ((eu.F t400 a1_7 a1_8).bind fun t403 => ((eZ.F t403 a1_9).bind fun t406 => (some t406))) else ((bI.F t400 a1_10).bind fun t409 => ((bI.F t409 (wrap64 (a1_11 + 1))).bind fun t412 => (some t412)))))))) := by
  refine LB.Lim.unique (fK.bK l0 a1_0 a1_1 a1_2 l1_3 a1_4 a1_5 a1_6 a1_7 a1_8 a1_9 a1_10 a1_11) ?_
  simp only [fK.f]
  (repeat' (first | exact LB.Lim.const _ | exact bI.bK _ _ | exact bN.bK _ _ | exact eZ.bK _ _ | exact eu.bK _ _ _ | refine LB.Lim.ite ?_ ?_ | refine LB.Lim.bind ?_ (fun _ => ?_)))
def dZ.f (k : Nat) (a0_0 a0_1 a0_2 : Int) (l0_3 : List Int) (a0_4 a0_5 a0_6 a0_7 a0_8 : Int) (a0_9 : ByteArray) (a0_10 a0_11 : Int) : Option (List Int × Int) := (dO.f k a0_0 a0_1 a0_2 l0_3 a0_4 a0_5 a0_6 a0_7 a0_8 a0_9 a0_10 a0_11).bind fun t416 => (if t416 = true then ((fK.f k ([] : List Int) a0_0 a0_1 a0_2 l0_3 a0_4 a0_5 a0_6 a0_7 a0_8 a0_9 a0_10 a0_11).bind fun t417 => (some (t417, 0))) else (some (([] : List Int), 1)))
theorem dZ.mono : ∀ a0 a1 a2 a3 a4 a5 a6 a7 a8 a9 a10 a11 k, LeO (dZ.f k a0 a1 a2 a3 a4 a5 a6 a7 a8 a9 a10 a11) (dZ.f (k + 1) a0 a1 a2 a3 a4 a5 a6 a7 a8 a9 a10 a11) := by
 intro a0 a1 a2 a3 a4 a5 a6 a7 a8 a9 a10 a11 k
 unfold dZ.f
 repeat' first | (with_reducible first | exact dO.mono _ _ _ _ _ _ _ _ _ _ _ _ _ | exact fK.mono _ _ _ _ _ _ _ _ _ _ _ _ _ _ | exact LeO.refl _ | exact LeO.none _ | refine LeO.ite ?_ ?_ | refine LeO.bind ?_ (fun _ => ?_)) | exact dO.mono _ _ _ _ _ _ _ _ _ _ _ _ _ | exact fK.mono _ _ _ _ _ _ _ _ _ _ _ _ _ _ | exact LeO.none _ | refine LeO.ite ?_ ?_ | refine LeO.bind ?_ (fun _ => ?_)
noncomputable def dZ.F (a0_0 a0_1 a0_2 : Int) (l0_3 : List Int) (a0_4 a0_5 a0_6 a0_7 a0_8 : Int) (a0_9 : ByteArray) (a0_10 a0_11 : Int) : Option (List Int × Int) := LB.lim (fun k => dZ.f k a0_0 a0_1 a0_2 l0_3 a0_4 a0_5 a0_6 a0_7 a0_8 a0_9 a0_10 a0_11)
theorem dZ.bK (a0_0 a0_1 a0_2 : Int) (l0_3 : List Int) (a0_4 a0_5 a0_6 a0_7 a0_8 : Int) (a0_9 : ByteArray) (a0_10 a0_11 : Int) : LB.Lim (fun k => dZ.f k a0_0 a0_1 a0_2 l0_3 a0_4 a0_5 a0_6 a0_7 a0_8 a0_9 a0_10 a0_11) (dZ.F a0_0 a0_1 a0_2 l0_3 a0_4 a0_5 a0_6 a0_7 a0_8 a0_9 a0_10 a0_11) := LB.bX (dZ.mono a0_0 a0_1 a0_2 l0_3 a0_4 a0_5 a0_6 a0_7 a0_8 a0_9 a0_10 a0_11)
theorem dZ.jQ (a0_0 a0_1 a0_2 : Int) (l0_3 : List Int) (a0_4 a0_5 a0_6 a0_7 a0_8 : Int) (a0_9 : ByteArray) (a0_10 a0_11 : Int) : dZ.F a0_0 a0_1 a0_2 l0_3 a0_4 a0_5 a0_6 a0_7 a0_8 a0_9 a0_10 a0_11 = ((dO.F a0_0 a0_1 a0_2 l0_3 a0_4 a0_5 a0_6 a0_7 a0_8 a0_9 a0_10 a0_11).bind fun t416 => (if t416 = true then ((fK.F ([] : List Int) a0_0 a0_1 a0_2 l0_3 a0_4 a0_5 a0_6 a0_7 a0_8 a0_9 a0_10 a0_11).bind fun t417 => (some (t417, 0))) else (some (([] : List Int), 1)))) := by
  refine LB.Lim.unique (dZ.bK a0_0 a0_1 a0_2 l0_3 a0_4 a0_5 a0_6 a0_7 a0_8 a0_9 a0_10 a0_11) ?_
  simp only [dZ.f]
  (repeat' (first | exact LB.Lim.const _ | exact dO.bK _ _ _ _ _ _ _ _ _ _ _ _ | exact fK.bK _ _ _ _ _ _ _ _ _ _ _ _ _ | refine LB.Lim.ite ?_ ?_ | refine LB.Lim.bind ?_ (fun _ => ?_)))
def ic.f  : Option (Int × Int × Int × List Int × Int × Int × Int × Int × Int × ByteArray × Int × Int) := some (1, 0, 1, (([0] : List Int)), 1, 1, 0, 0, 0, (⟨#[107]⟩ : ByteArray), 0, 0)
def bg.f (k : Nat)  : Option (Bool) := (ic.f).bind fun bt424 => ((dZ.f k bt424.1 bt424.2.1 bt424.2.2.1 bt424.2.2.2.1 bt424.2.2.2.2.1 bt424.2.2.2.2.2.1 bt424.2.2.2.2.2.2.1 bt424.2.2.2.2.2.2.2.1 bt424.2.2.2.2.2.2.2.2.1 bt424.2.2.2.2.2.2.2.2.2.1 bt424.2.2.2.2.2.2.2.2.2.2.1 bt424.2.2.2.2.2.2.2.2.2.2.2).bind fun bt438 => ((eF.f k bt438.1).bind fun bt442 => ((bT.f bt438.2).bind fun t459 => (if t459 = 0 then ((bT.f bt442.2.2.2.2.2.2.2.2.2.2.2.2.2).bind fun t460 => (if t460 = 0 then (if bt442.2.2.2.2.2.2.2.2.2.2.2.2.1 = (bt438.1.length : Int) then ((ic.f).bind fun bt461 => ((aX.f k bt442.1 bt442.2.1 bt442.2.2.1 bt442.2.2.2.1 bt442.2.2.2.2.1 bt442.2.2.2.2.2.1 bt442.2.2.2.2.2.2.1 bt442.2.2.2.2.2.2.2.1 bt442.2.2.2.2.2.2.2.2.1 bt442.2.2.2.2.2.2.2.2.2.1 bt442.2.2.2.2.2.2.2.2.2.2.1 bt442.2.2.2.2.2.2.2.2.2.2.2.1 bt461.1 bt461.2.1 bt461.2.2.1 bt461.2.2.2.1 bt461.2.2.2.2.1 bt461.2.2.2.2.2.1 bt461.2.2.2.2.2.2.1 bt461.2.2.2.2.2.2.2.1 bt461.2.2.2.2.2.2.2.2.1 bt461.2.2.2.2.2.2.2.2.2.1 bt461.2.2.2.2.2.2.2.2.2.2.1 bt461.2.2.2.2.2.2.2.2.2.2.2).bind fun t475 => (some t475))) else (some false)) else (some false))) else (some false)))))
theorem bg.mono : ∀ k, LeO (bg.f k ) (bg.f (k + 1) ) := by
 intro  k
 unfold bg.f
 repeat' first | (with_reducible first | exact aX.mono _ _ _ _ _ _ _ _ _ _ _ _ _ _ _ _ _ _ _ _ _ _ _ _ _ | exact dZ.mono _ _ _ _ _ _ _ _ _ _ _ _ _ | exact eF.mono _ _ | exact LeO.refl _ | exact LeO.none _ | refine LeO.ite ?_ ?_ | refine LeO.bind ?_ (fun _ => ?_)) | exact aX.mono _ _ _ _ _ _ _ _ _ _ _ _ _ _ _ _ _ _ _ _ _ _ _ _ _ | exact dZ.mono _ _ _ _ _ _ _ _ _ _ _ _ _ | exact eF.mono _ _ | exact LeO.none _ | refine LeO.ite ?_ ?_ | refine LeO.bind ?_ (fun _ => ?_)
noncomputable def bg.F  : Option (Bool) := LB.lim (fun k => bg.f k )
theorem bg.bK  : LB.Lim (fun k => bg.f k ) (bg.F ) := LB.bX (bg.mono )
theorem bg.jQ  : bg.F  = ((ic.f).bind fun bt424 => ((dZ.F bt424.1 bt424.2.1 bt424.2.2.1 bt424.2.2.2.1 bt424.2.2.2.2.1 bt424.2.2.2.2.2.1 bt424.2.2.2.2.2.2.1 bt424.2.2.2.2.2.2.2.1 bt424.2.2.2.2.2.2.2.2.1 bt424.2.2.2.2.2.2.2.2.2.1 bt424.2.2.2.2.2.2.2.2.2.2.1 bt424.2.2.2.2.2.2.2.2.2.2.2).bind fun bt438 => ((eF.F bt438.1).bind fun bt442 => ((bT.f bt438.2).bind fun t459 => (if t459 = 0 then ((bT.f bt442.2.2.2.2.2.2.2.2.2.2.2.2.2).bind fun t460 => (if t460 = 0 then (if bt442.2.2.2.2.2.2.2.2.2.2.2.2.1 = (bt438.1.length : Int) then ((ic.f).bind fun bt461 => ((aX.F bt442.1 bt442.2.1 bt442.2.2.1 bt442.2.2.2.1 bt442.2.2.2.2.1 bt442.2.2.2.2.2.1 bt442.2.2.2.2.2.2.1 bt442.2.2.2.2.2.2.2.1 bt442.2.2.2.2.2.2.2.2.1 bt442.2.2.2.2.2.2.2.2.2.1 bt442.2.2.2.2.2.2.2.2.2.2.1 bt442.2.2.2.2.2.2.2.2.2.2.2.1 bt461.1 bt461.2.1 bt461.2.2.1 bt461.2.2.2.1 bt461.2.2.2.2.1 bt461.2.2.2.2.2.1 bt461.2.2.2.2.2.2.1 bt461.2.2.2.2.2.2.2.1 bt461.2.2.2.2.2.2.2.2.1 bt461.2.2.2.2.2.2.2.2.2.1 bt461.2.2.2.2.2.2.2.2.2.2.1 bt461.2.2.2.2.2.2.2.2.2.2.2).bind fun t475 => (some t475))) else (some false)) else (some false))) else (some false)))))) := by
  refine LB.Lim.unique (bg.bK ) ?_
  simp only [bg.f]
  (repeat' (first | exact LB.Lim.const _ | exact aX.bK _ _ _ _ _ _ _ _ _ _ _ _ _ _ _ _ _ _ _ _ _ _ _ _ | exact dZ.bK _ _ _ _ _ _ _ _ _ _ _ _ | exact eF.bK _ | refine LB.Lim.ite ?_ ?_ | refine LB.Lim.bind ?_ (fun _ => ?_)))
def aJ.l0 : Nat → Int → List Int → Option (List Int)
 | 0, _, _ => none
 | k + 1, x0, x3 => if x0 > 127 then (if x3.length < 140737488355328 then (aJ.l0 k (x0 / 128) (x3 ++ [Go.bits .or .u8 ((Go.bits .and .i64 x0 127) % 256) 128])) else (none)) else (if x3.length < 140737488355328 then (some (x3 ++ [(x0) % 256])) else (none))
def aJ.f (k : Nat) (a0 : Int) : Option (List Int) := aJ.l0 k a0 ([] : List Int)
theorem aJ.dJ : ∀ k, (∀ y0 y1, LeO (aJ.l0 k y0 y1) (aJ.l0 (k + 1) y0 y1))
 | 0 => fun _ _ r h => by simp [aJ.l0] at h
 | k + 1 => by
  have ih0 := aJ.dJ k
  ·intro y0 y1
   unfold aJ.l0
   repeat' first | (with_reducible first | exact ih0 _ _ | exact LeO.refl _ | exact LeO.none _ | refine LeO.ite ?_ ?_ | refine LeO.bind ?_ (fun _ => ?_)) | exact ih0 _ _ | exact LeO.none _ | refine LeO.ite ?_ ?_ | refine LeO.bind ?_ (fun _ => ?_)
theorem aJ.mono : ∀ a0 k, LeO (aJ.f k a0) (aJ.f (k + 1) a0) := by
 intro a0 k
 have ih0 := aJ.dJ k
 unfold aJ.f
 repeat' first | (with_reducible first | exact ih0 _ _ | exact LeO.refl _ | exact LeO.none _ | refine LeO.ite ?_ ?_ | refine LeO.bind ?_ (fun _ => ?_)) | exact ih0 _ _ | exact LeO.none _ | refine LeO.ite ?_ ?_ | refine LeO.bind ?_ (fun _ => ?_)
noncomputable def aJ.L0 (x0 : Int) (x3 : List Int) : Option (List Int) := LB.lim (fun k => aJ.l0 k x0 x3)
theorem aJ.fQ (x0 : Int) (x3 : List Int) : LB.Lim (fun k => aJ.l0 k x0 x3) (aJ.L0 x0 x3) := LB.bX (fun k => (aJ.dJ k) x0 x3)
theorem aJ.ky (x0 : Int) (x3 : List Int) : aJ.L0 x0 x3 = (if x0 > 127 then (if x3.length < 140737488355328 then (aJ.L0 (x0 / 128) (x3 ++ [Go.bits .or .u8 ((Go.bits .and .i64 x0 127) % 256) 128])) else (none)) else (if x3.length < 140737488355328 then (some (x3 ++ [(x0) % 256])) else (none))) := by
  refine LB.Lim.unique (aJ.fQ x0 x3).shift ?_
  simp only [aJ.l0]
  (repeat' (first | exact LB.Lim.const _ | exact aJ.fQ _ _ | refine LB.Lim.ite ?_ ?_ | refine LB.Lim.bind ?_ (fun _ => ?_)))
noncomputable def aJ.F (a0 : Int) : Option (List Int) := LB.lim (fun k => aJ.f k a0)
theorem aJ.bK (a0 : Int) : LB.Lim (fun k => aJ.f k a0) (aJ.F a0) := LB.bX (aJ.mono a0)
theorem aJ.jQ (a0 : Int) : aJ.F a0 = (aJ.L0 a0 ([] : List Int)) := by
  refine LB.Lim.unique (aJ.bK a0) ?_
  simp only [aJ.f]
  (repeat' (first | exact LB.Lim.const _ | exact aJ.fQ _ _ | refine LB.Lim.ite ?_ ?_ | refine LB.Lim.bind ?_ (fun _ => ?_)))
def bA.f (k : Nat) (a0_0 a0_1 : Int) : Option (List Int) := (aJ.f k a0_0).bind fun t614 => ((aJ.f k a0_1).bind fun t617 => (if t614.length + t617.length < 140737488355328 then (some (t614 ++ t617)) else (none)))
theorem bA.mono : ∀ a0 a1 k, LeO (bA.f k a0 a1) (bA.f (k + 1) a0 a1) := by
 intro a0 a1 k
 unfold bA.f
 repeat' first | (with_reducible first | exact aJ.mono _ _ | exact LeO.refl _ | exact LeO.none _ | refine LeO.ite ?_ ?_ | refine LeO.bind ?_ (fun _ => ?_)) | exact aJ.mono _ _ | exact LeO.none _ | refine LeO.ite ?_ ?_ | refine LeO.bind ?_ (fun _ => ?_)
noncomputable def bA.F (a0_0 a0_1 : Int) : Option (List Int) := LB.lim (fun k => bA.f k a0_0 a0_1)
theorem bA.bK (a0_0 a0_1 : Int) : LB.Lim (fun k => bA.f k a0_0 a0_1) (bA.F a0_0 a0_1) := LB.bX (bA.mono a0_0 a0_1)
theorem bA.jQ (a0_0 a0_1 : Int) : bA.F a0_0 a0_1 = ((aJ.F a0_0).bind fun t614 => ((aJ.F a0_1).bind fun t617 => (if t614.length + t617.length < 140737488355328 then (some (t614 ++ t617)) else (none)))) := by
  refine LB.Lim.unique (bA.bK a0_0 a0_1) ?_
  simp only [bA.f]
  (repeat' (first | exact LB.Lim.const _ | exact aJ.bK _ | refine LB.Lim.ite ?_ ?_ | refine LB.Lim.bind ?_ (fun _ => ?_)))
def bu.l0 : Nat → List Int → List Int → Int → Option (List Int)
 | 0, _, _, _ => none
 | k + 1, x0, x3, x4 => if x4 < (x0.length : Int) then (if 0 ≤ x4 then ((aJ.f k (rd x0 x4)).bind fun t627 => (if x3.length + t627.length < 140737488355328 then (bu.l0 k x0 (x3 ++ t627) (wrap64 (x4 + 1))) else (none))) else (none)) else (some x3)
def bu.f (k : Nat) (l0 : List Int) : Option (List Int) := (aJ.f k (l0.length : Int)).bind fun t623 => (bu.l0 k l0 t623 0)
theorem bu.dJ : ∀ k, (∀ y0 y1 y2, LeO (bu.l0 k y0 y1 y2) (bu.l0 (k + 1) y0 y1 y2))
 | 0 => fun _ _ _ r h => by simp [bu.l0] at h
 | k + 1 => by
  have ih0 := bu.dJ k
  ·intro y0 y1 y2
   unfold bu.l0
   repeat' first | (with_reducible first | exact ih0 _ _ _ | exact aJ.mono _ _ | exact LeO.refl _ | exact LeO.none _ | refine LeO.ite ?_ ?_ | refine LeO.bind ?_ (fun _ => ?_)) | exact ih0 _ _ _ | exact aJ.mono _ _ | exact LeO.none _ | refine LeO.ite ?_ ?_ | refine LeO.bind ?_ (fun _ => ?_)
theorem bu.mono : ∀ a0 k, LeO (bu.f k a0) (bu.f (k + 1) a0) := by
 intro a0 k
 have ih0 := bu.dJ k
 unfold bu.f
 repeat' first | (with_reducible first | exact ih0 _ _ _ | exact aJ.mono _ _ | exact LeO.refl _ | exact LeO.none _ | refine LeO.ite ?_ ?_ | refine LeO.bind ?_ (fun _ => ?_)) | exact ih0 _ _ _ | exact aJ.mono _ _ | exact LeO.none _ | refine LeO.ite ?_ ?_ | refine LeO.bind ?_ (fun _ => ?_)
noncomputable def bu.L0 (x0 x3 : List Int) (x4 : Int) : Option (List Int) := LB.lim (fun k => bu.l0 k x0 x3 x4)
theorem bu.fQ (x0 x3 : List Int) (x4 : Int) : LB.Lim (fun k => bu.l0 k x0 x3 x4) (bu.L0 x0 x3 x4) := LB.bX (fun k => (bu.dJ k) x0 x3 x4)
theorem bu.ky (x0 x3 : List Int) (x4 : Int) : bu.L0 x0 x3 x4 = (if x4 < (x0.length : Int) then (if 0 ≤ x4 then ((aJ.F (rd x0 x4)).bind fun t627 => (if x3.length + t627.length < 140737488355328 then (bu.L0 x0 (x3 ++ t627) (wrap64 (x4 + 1))) else (none))) else (none)) else (some x3)) := by
  refine LB.Lim.unique (bu.fQ x0 x3 x4).shift ?_
  simp only [bu.l0]
  (repeat' (first | exact LB.Lim.const _ | exact bu.fQ _ _ _ | exact aJ.bK _ | refine LB.Lim.ite ?_ ?_ | refine LB.Lim.bind ?_ (fun _ => ?_)))
noncomputable def bu.F (l0 : List Int) : Option (List Int) := LB.lim (fun k => bu.f k l0)
theorem bu.bK (l0 : List Int) : LB.Lim (fun k => bu.f k l0) (bu.F l0) := LB.bX (bu.mono l0)
theorem bu.jQ (l0 : List Int) : bu.F l0 = ((aJ.F (l0.length : Int)).bind fun t623 => (bu.L0 l0 t623 0)) := by
  refine LB.Lim.unique (bu.bK l0) ?_
  simp only [bu.f]
  (repeat' (first | exact LB.Lim.const _ | exact bu.fQ _ _ _ | exact aJ.bK _ | refine LB.Lim.ite ?_ ?_ | refine LB.Lim.bind ?_ (fun _ => ?_)))
def dw.f (k : Nat) (a0 : ByteArray) : Option (List Int) := (aJ.f k (a0.size : Int)).bind fun t633 => (if t633.length + a0.size < 140737488355328 then (some (t633 ++ bytesOf a0)) else (none))
theorem dw.mono : ∀ a0 k, LeO (dw.f k a0) (dw.f (k + 1) a0) := by
 intro a0 k
 unfold dw.f
 repeat' first | (with_reducible first | exact aJ.mono _ _ | exact LeO.refl _ | exact LeO.none _ | refine LeO.ite ?_ ?_ | refine LeO.bind ?_ (fun _ => ?_)) | exact aJ.mono _ _ | exact LeO.none _ | refine LeO.ite ?_ ?_ | refine LeO.bind ?_ (fun _ => ?_)
noncomputable def dw.F (a0 : ByteArray) : Option (List Int) := LB.lim (fun k => dw.f k a0)
theorem dw.bK (a0 : ByteArray) : LB.Lim (fun k => dw.f k a0) (dw.F a0) := LB.bX (dw.mono a0)
theorem dw.jQ (a0 : ByteArray) : dw.F a0 = ((aJ.F (a0.size : Int)).bind fun t633 => (if t633.length + a0.size < 140737488355328 then (some (t633 ++ bytesOf a0)) else (none))) := by
  refine LB.Lim.unique (dw.bK a0) ?_
  simp only [dw.f]
  (repeat' (first | exact LB.Lim.const _ | exact aJ.bK _ | refine LB.Lim.ite ?_ ?_ | refine LB.Lim.bind ?_ (fun _ => ?_)))
def bi.f (k : Nat) (a0_0 a0_1 a0_2 : Int) (l0_3 : List Int) (a0_4 a0_5 a0_6 a0_7 a0_8 : Int) (a0_9 : ByteArray) (a0_10 a0_11 : Int) : Option (List Int) := (bA.f k a0_0 a0_1).bind fun t640 => ((bu.f k l0_3).bind fun t643 => (if t640.length + t643.length < 140737488355328 then ((some (t640 ++ t643 : List Int)).bind fun y646 => ((aJ.f k a0_4).bind fun t649 => (if y646.length + t649.length < 140737488355328 then ((some (y646 ++ t649 : List Int)).bind fun y652 => ((bA.f k a0_5 a0_6).bind fun t655 => (if y652.length + t655.length < 140737488355328 then ((some (y652 ++ t655 : List Int)).bind fun y658 => (if a0_4 = 1 then ((bA.f k a0_7 a0_8).bind fun t661 => (if y658.length + t661.length < 140737488355328 then ((some (y658 ++ t661 : List Int)).bind fun y664 => ((dw.f k a0_9).bind fun t667 => (if y664.length + t667.length < 140737488355328 then (some (y664 ++ t667)) else (none)))) else (none))) else ((aJ.f k a0_10).bind fun t673 => (if y658.length + t673.length < 140737488355328 then ((some (y658 ++ t673 : List Int)).bind fun y676 => ((aJ.f k (wrap64 (a0_11 + 1))).bind fun t679 => (if y676.length + t679.length < 140737488355328 then (some (y676 ++ t679)) else (none)))) else (none))))) else (none)))) else (none)))) else (none)))
theorem bi.mono : ∀ a0 a1 a2 a3 a4 a5 a6 a7 a8 a9 a10 a11 k, LeO (bi.f k a0 a1 a2 a3 a4 a5 a6 a7 a8 a9 a10 a11) (bi.f (k + 1) a0 a1 a2 a3 a4 a5 a6 a7 a8 a9 a10 a11) := by
 intro a0 a1 a2 a3 a4 a5 a6 a7 a8 a9 a10 a11 k
 unfold bi.f
 repeat' first | (with_reducible first | exact aJ.mono _ _ | exact bu.mono _ _ | exact dw.mono _ _ | exact bA.mono _ _ _ | exact LeO.refl _ | exact LeO.none _ | refine LeO.ite ?_ ?_ | refine LeO.bind ?_ (fun _ => ?_)) | exact aJ.mono _ _ | exact bu.mono _ _ | exact dw.mono _ _ | exact bA.mono _ _ _ | exact LeO.none _ | refine LeO.ite ?_ ?_ | refine LeO.bind ?_ (fun _ => ?_)
noncomputable def bi.F (a0_0 a0_1 a0_2 : Int) (l0_3 : List Int) (a0_4 a0_5 a0_6 a0_7 a0_8 : Int) (a0_9 : ByteArray) (a0_10 a0_11 : Int) : Option (List Int) := LB.lim (fun k => bi.f k a0_0 a0_1 a0_2 l0_3 a0_4 a0_5 a0_6 a0_7 a0_8 a0_9 a0_10 a0_11)
theorem bi.bK (a0_0 a0_1 a0_2 : Int) (l0_3 : List Int) (a0_4 a0_5 a0_6 a0_7 a0_8 : Int) (a0_9 : ByteArray) (a0_10 a0_11 : Int) : LB.Lim (fun k => bi.f k a0_0 a0_1 a0_2 l0_3 a0_4 a0_5 a0_6 a0_7 a0_8 a0_9 a0_10 a0_11) (bi.F a0_0 a0_1 a0_2 l0_3 a0_4 a0_5 a0_6 a0_7 a0_8 a0_9 a0_10 a0_11) := LB.bX (bi.mono a0_0 a0_1 a0_2 l0_3 a0_4 a0_5 a0_6 a0_7 a0_8 a0_9 a0_10 a0_11)
theorem bi.jQ (a0_0 a0_1 a0_2 : Int) (l0_3 : List Int) (a0_4 a0_5 a0_6 a0_7 a0_8 : Int) (a0_9 : ByteArray) (a0_10 a0_11 : Int) : bi.F a0_0 a0_1 a0_2 l0_3 a0_4 a0_5 a0_6 a0_7 a0_8 a0_9 a0_10 a0_11 = ((bA.F a0_0 a0_1).bind fun t640 => ((bu.F l0_3).bind fun t643 => (if t640.length + t643.length < 140737488355328 then ((some (t640 ++ t643 : List Int)).bind fun y646 => ((aJ.F a0_4).bind fun t649 => (if y646.length + t649.length < 140737488355328 then ((some (y646 ++ t649 : List Int)).bind fun y652 => ((bA.F a0_5 a0_6).bind fun t655 => (if y652.length + t655.length < 140737488355328 then ((some (y652 ++ t655 : List Int)).bind fun y658 => (if a0_4 = 1 then ((bA.F a0_7 a0_8).bind fun t661 => (if y658.length + t661.length < 140737488355328 then ((some (y658 ++ t661 : List Int)).bind fun y664 => ((dw.F a0_9).bind fun t667 => (if y664.length + t667.length < 140737488355328 then (some (y664 ++ t667)) else (none)))) else (none))) else ((aJ.F a0_10).bind fun t673 => (if y658.length + t673.length < 140737488355328 then ((some (y658 ++ t673 : List Int)).bind fun y676 => ((aJ.F (wrap64 (a0_11 + 1))).bind fun t679 => (if y676.length + t679.length < 140737488355328 then (some (y676 ++ t679)) else (none)))) else (none))))) else (none)))) else (none)))) else (none)))) := by
  refine LB.Lim.unique (bi.bK a0_0 a0_1 a0_2 l0_3 a0_4 a0_5 a0_6 a0_7 a0_8 a0_9 a0_10 a0_11) ?_
  simp only [bi.f]
  (repeat' (first | exact LB.Lim.const _ | exact aJ.bK _ | exact bu.bK _ | exact dw.bK _ | exact bA.bK _ _ | refine LB.Lim.ite ?_ ?_ | refine LB.Lim.bind ?_ (fun _ => ?_)))
def jy.f (a0 a1 : Int) : Option (Int) := if (IntKind.u64.wrap (a1)) = 0 then (none) else (some (wrap64 (Int.tmod (IntKind.u64.wrap (a0)) (IntKind.u64.wrap (a1)))))
mutual
def ae.l0 : Nat → List (S31) → Int → Int → Option (Bool)
 | 0, _, _, _ => none
 | k + 1, x0, x1, x5 => if x5 < (x0.length : Int) then (ae.j1 k x0 x1 x5 (decide (x5 < 12))) else (ae.j1 k x0 x1 x5 false)
def ae.j1 : Nat → List (S31) → Int → Int → Bool → Option (Bool)
 | 0, _, _, _, _ => none
 | k + 1, x0, x1, x5, x27 => if x27 = true then (if 0 ≤ x5 then (if x5 < (x0.length : Int) then ((iA.f ((au x0 x5).f0.f0.f0) ((au x0 x5).f0.f0.f1) ((au x0 x5).f0.f1) ((au x0 x5).f0.f2) ((au x0 x5).f0.f3) ((au x0 x5).f0.f4.f0) ((au x0 x5).f0.f4.f1) ((au x0 x5).f0.f5.f0) ((au x0 x5).f0.f5.f1) ((au x0 x5).f0.f6) ((au x0 x5).f0.f7) ((au x0 x5).f0.f8) ((au x0 x5).f1)).bind fun t687 => (if t687 = true then (some true) else (if ((au x0 x5).f0.f3) = x1 then ((aj.f k ((au x0 x5).f0.f0.f0) ((au x0 x5).f0.f0.f1) ((au x0 x5).f0.f1) ((au x0 x5).f0.f2) ((au x0 x5).f0.f3) ((au x0 x5).f0.f4.f0) ((au x0 x5).f0.f4.f1) ((au x0 x5).f0.f5.f0) ((au x0 x5).f0.f5.f1) ((au x0 x5).f0.f6) ((au x0 x5).f0.f7) ((au x0 x5).f0.f8)).bind fun t690 => (ae.j2 k x0 x1 x5 (!t690) ((au x0 x5).f0.f0.f0) ((au x0 x5).f0.f0.f1) ((au x0 x5).f0.f1) ((au x0 x5).f0.f2) ((au x0 x5).f0.f3) ((au x0 x5).f0.f4.f0) ((au x0 x5).f0.f4.f1) ((au x0 x5).f0.f5.f0) ((au x0 x5).f0.f5.f1) ((au x0 x5).f0.f6) ((au x0 x5).f0.f7) ((au x0 x5).f0.f8))) else (ae.j2 k x0 x1 x5 true ((au x0 x5).f0.f0.f0) ((au x0 x5).f0.f0.f1) ((au x0 x5).f0.f1) ((au x0 x5).f0.f2) ((au x0 x5).f0.f3) ((au x0 x5).f0.f4.f0) ((au x0 x5).f0.f4.f1) ((au x0 x5).f0.f5.f0) ((au x0 x5).f0.f5.f1) ((au x0 x5).f0.f6) ((au x0 x5).f0.f7) ((au x0 x5).f0.f8))))) else (none)) else (none)) else ((bg.f k).bind fun t685 => (some t685))
def ae.j2 : Nat → List (S31) → Int → Int → Bool → Int → Int → Int → List Int → Int → Int → Int → Int → Int → ByteArray → Int → Int → Option (Bool)
 | 0, _, _, _, _, _, _, _, _, _, _, _, _, _, _, _, _ => none
 | k + 1, x0, x1, x5, x48, lU, lV, lW, lX, lY, lZ, ma, mf, mg, mh, mi, mo => if x48 = true then (ae.l0 k x0 x1 (wrap64 (x5 + 1))) else ((dZ.f k lU lV lW lX lY lZ ma mf mg mh mi mo).bind fun bt691 => ((eF.f k bt691.1).bind fun bt695 => ((bT.f bt691.2).bind fun t712 => (if t712 = 0 then ((bT.f bt695.2.2.2.2.2.2.2.2.2.2.2.2.2).bind fun t713 => (if t713 = 0 then (if bt695.2.2.2.2.2.2.2.2.2.2.2.2.1 = (bt691.1.length : Int) then ((aX.f k bt695.1 bt695.2.1 bt695.2.2.1 bt695.2.2.2.1 bt695.2.2.2.2.1 bt695.2.2.2.2.2.1 bt695.2.2.2.2.2.2.1 bt695.2.2.2.2.2.2.2.1 bt695.2.2.2.2.2.2.2.2.1 bt695.2.2.2.2.2.2.2.2.2.1 bt695.2.2.2.2.2.2.2.2.2.2.1 bt695.2.2.2.2.2.2.2.2.2.2.2.1 lU lV lW lX lY lZ ma mf mg mh mi mo).bind fun t714 => (if t714 = true then ((bi.f k lU lV lW lX lY lZ ma mf mg mh mi mo).bind fun t715 => ((aK.f k bt691.1 t715).bind fun t718 => (ae.j3 k x0 x1 x5 bt691.1 (!t718)))) else (ae.j3 k x0 x1 x5 bt691.1 true))) else (ae.j3 k x0 x1 x5 bt691.1 true)) else (ae.j3 k x0 x1 x5 bt691.1 true))) else (ae.j3 k x0 x1 x5 bt691.1 true)))))
def ae.j3 : Nat → List (S31) → Int → Int → List Int → Bool → Option (Bool)
 | 0, _, _, _, _, _ => none
 | k + 1, x0, x1, x5, x7, x86 => if x86 = true then (some false) else (ae.l1 k x0 x1 x5 x7 0)
def ae.l1 : Nat → List (S31) → Int → Int → List Int → Int → Option (Bool)
 | 0, _, _, _, _, _ => none
 | k + 1, x0, x1, x5, x7, x12 => if x12 < (x7.length : Int) then ((az.f k x7).bind fun t719 => (if 0 ≤ x12 then (if x12 < (t719.length : Int) then ((jy.f (wrap64 (x5 + x12)) 255).bind fun t723 => ((some (t719.set (x12 : Int).toNat (Go.bits .xor .u8 (rd t719 x12) ((wrap64 (1 + t723)) % 256)) : List Int)).bind fun y724 => ((eF.f k y724).bind fun bt725 => ((af.f k y724).bind fun bt742 => ((bT.f bt725.2.2.2.2.2.2.2.2.2.2.2.2.2).bind fun t759 => (if t759 = bt742.2.2.2.2.2.2.2.2.2.2.2.2.2 then (if bt725.2.2.2.2.2.2.2.2.2.2.2.2.1 = bt742.2.2.2.2.2.2.2.2.2.2.2.2.1 then ((aX.f k bt725.1 bt725.2.1 bt725.2.2.1 bt725.2.2.2.1 bt725.2.2.2.2.1 bt725.2.2.2.2.2.1 bt725.2.2.2.2.2.2.1 bt725.2.2.2.2.2.2.2.1 bt725.2.2.2.2.2.2.2.2.1 bt725.2.2.2.2.2.2.2.2.2.1 bt725.2.2.2.2.2.2.2.2.2.2.1 bt725.2.2.2.2.2.2.2.2.2.2.2.1 bt742.1 bt742.2.1 bt742.2.2.1 bt742.2.2.2.1 bt742.2.2.2.2.1 bt742.2.2.2.2.2.1 bt742.2.2.2.2.2.2.1 bt742.2.2.2.2.2.2.2.1 bt742.2.2.2.2.2.2.2.2.1 bt742.2.2.2.2.2.2.2.2.2.1 bt742.2.2.2.2.2.2.2.2.2.2.1 bt742.2.2.2.2.2.2.2.2.2.2.2.1).bind fun t760 => (ae.j5 k x0 x1 x5 x7 x12 (!t760))) else (ae.j5 k x0 x1 x5 x7 x12 true)) else (ae.j5 k x0 x1 x5 x7 x12 true))))))) else (none)) else (none))) else (ae.l0 k x0 x1 (wrap64 (x5 + 1)))
def ae.j5 : Nat → List (S31) → Int → Int → List Int → Int → Bool → Option (Bool)
 | 0, _, _, _, _, _, _ => none
 | k + 1, x0, x1, x5, x7, x12, x135 => if x135 = true then (some false) else (ae.l1 k x0 x1 x5 x7 (wrap64 (x12 + 1)))
end
def ae.f (k : Nat) (l0 : List (S31)) (a1 : Int) : Option (Bool) := ae.l0 k l0 a1 0
theorem ae.dJ : ∀ k, (∀ y0 y1 y2, LeO (ae.l0 k y0 y1 y2) (ae.l0 (k + 1) y0 y1 y2)) ∧ (∀ y0 y1 y2 y3, LeO (ae.j1 k y0 y1 y2 y3) (ae.j1 (k + 1) y0 y1 y2 y3)) ∧ (∀ y0 y1 y2 y3 y4 y5 y6 y7 y8 y9 y10 y11 y12 y13 y14 y15, LeO (ae.j2 k y0 y1 y2 y3 y4 y5 y6 y7 y8 y9 y10 y11 y12 y13 y14 y15) (ae.j2 (k + 1) y0 y1 y2 y3 y4 y5 y6 y7 y8 y9 y10 y11 y12 y13 y14 y15)) ∧ (∀ y0 y1 y2 y3 y4, LeO (ae.j3 k y0 y1 y2 y3 y4) (ae.j3 (k + 1) y0 y1 y2 y3 y4)) ∧ (∀ y0 y1 y2 y3 y4, LeO (ae.l1 k y0 y1 y2 y3 y4) (ae.l1 (k + 1) y0 y1 y2 y3 y4)) ∧ (∀ y0 y1 y2 y3 y4 y5, LeO (ae.j5 k y0 y1 y2 y3 y4 y5) (ae.j5 (k + 1) y0 y1 y2 y3 y4 y5))
 | 0 => ⟨fun _ _ _ r h => by simp [ae.l0] at h, fun _ _ _ _ r h => by simp [ae.j1] at h, fun _ _ _ _ _ _ _ _ _ _ _ _ _ _ _ _ r h => by simp [ae.j2] at h, fun _ _ _ _ _ r h => by simp [ae.j3] at h, fun _ _ _ _ _ r h => by simp [ae.l1] at h, fun _ _ _ _ _ _ r h => by simp [ae.j5] at h⟩
 | k + 1 => by
  obtain ⟨ih0, ih1, ih2, ih3, ih4, ih5⟩ := ae.dJ k
  refine ⟨?_, ?_, ?_, ?_, ?_, ?_⟩
  ·intro y0 y1 y2
   unfold ae.l0
   repeat' first | (with_reducible first | exact ih0 _ _ _ | exact ih1 _ _ _ _ | exact ih2 _ _ _ _ _ _ _ _ _ _ _ _ _ _ _ _ | exact ih3 _ _ _ _ _ | exact ih4 _ _ _ _ _ | exact ih5 _ _ _ _ _ _ | exact bg.mono _ | exact az.mono _ _ | exact aK.mono _ _ _ | exact aX.mono _ _ _ _ _ _ _ _ _ _ _ _ _ _ _ _ _ _ _ _ _ _ _ _ _ | exact bi.mono _ _ _ _ _ _ _ _ _ _ _ _ _ | exact aj.mono _ _ _ _ _ _ _ _ _ _ _ _ _ | exact af.mono _ _ | exact dZ.mono _ _ _ _ _ _ _ _ _ _ _ _ _ | exact eF.mono _ _ | exact LeO.refl _ | exact LeO.none _ | refine LeO.ite ?_ ?_ | refine LeO.bind ?_ (fun _ => ?_)) | exact ih0 _ _ _ | exact ih1 _ _ _ _ | exact ih2 _ _ _ _ _ _ _ _ _ _ _ _ _ _ _ _ | exact ih3 _ _ _ _ _ | exact ih4 _ _ _ _ _ | exact ih5 _ _ _ _ _ _ | exact bg.mono _ | exact az.mono _ _ | exact aK.mono _ _ _ | exact aX.mono _ _ _ _ _ _ _ _ _ _ _ _ _ _ _ _ _ _ _ _ _ _ _ _ _ | exact bi.mono _ _ _ _ _ _ _ _ _ _ _ _ _ | exact aj.mono _ _ _ _ _ _ _ _ _ _ _ _ _ | exact af.mono _ _ | exact dZ.mono _ _ _ _ _ _ _ _ _ _ _ _ _ | exact eF.mono _ _ | exact LeO.none _ | refine LeO.ite ?_ ?_ | refine LeO.bind ?_ (fun _ => ?_)
  ·intro y0 y1 y2 y3
   unfold ae.j1
   repeat' first | (with_reducible first | exact ih0 _ _ _ | exact ih1 _ _ _ _ | exact ih2 _ _ _ _ _ _ _ _ _ _ _ _ _ _ _ _ | exact ih3 _ _ _ _ _ | exact ih4 _ _ _ _ _ | exact ih5 _ _ _ _ _ _ | exact bg.mono _ | exact az.mono _ _ | exact aK.mono _ _ _ | exact aX.mono _ _ _ _ _ _ _ _ _ _ _ _ _ _ _ _ _ _ _ _ _ _ _ _ _ | exact bi.mono _ _ _ _ _ _ _ _ _ _ _ _ _ | exact aj.mono _ _ _ _ _ _ _ _ _ _ _ _ _ | exact af.mono _ _ | exact dZ.mono _ _ _ _ _ _ _ _ _ _ _ _ _ | exact eF.mono _ _ | exact LeO.refl _ | exact LeO.none _ | refine LeO.ite ?_ ?_ | refine LeO.bind ?_ (fun _ => ?_)) | exact ih0 _ _ _ | exact ih1 _ _ _ _ | exact ih2 _ _ _ _ _ _ _ _ _ _ _ _ _ _ _ _ | exact ih3 _ _ _ _ _ | exact ih4 _ _ _ _ _ | exact ih5 _ _ _ _ _ _ | exact bg.mono _ | exact az.mono _ _ | exact aK.mono _ _ _ | exact aX.mono _ _ _ _ _ _ _ _ _ _ _ _ _ _ _ _ _ _ _ _ _ _ _ _ _ | exact bi.mono _ _ _ _ _ _ _ _ _ _ _ _ _ | exact aj.mono _ _ _ _ _ _ _ _ _ _ _ _ _ | exact af.mono _ _ | exact dZ.mono _ _ _ _ _ _ _ _ _ _ _ _ _ | exact eF.mono _ _ | exact LeO.none _ | refine LeO.ite ?_ ?_ | refine LeO.bind ?_ (fun _ => ?_)
  ·intro y0 y1 y2 y3 y4 y5 y6 y7 y8 y9 y10 y11 y12 y13 y14 y15
   unfold ae.j2
   repeat' first | (with_reducible first | exact ih0 _ _ _ | exact ih1 _ _ _ _ | exact ih2 _ _ _ _ _ _ _ _ _ _ _ _ _ _ _ _ | exact ih3 _ _ _ _ _ | exact ih4 _ _ _ _ _ | exact ih5 _ _ _ _ _ _ | exact bg.mono _ | exact az.mono _ _ | exact aK.mono _ _ _ | exact aX.mono _ _ _ _ _ _ _ _ _ _ _ _ _ _ _ _ _ _ _ _ _ _ _ _ _ | exact bi.mono _ _ _ _ _ _ _ _ _ _ _ _ _ | exact aj.mono _ _ _ _ _ _ _ _ _ _ _ _ _ | exact af.mono _ _ | exact dZ.mono _ _ _ _ _ _ _ _ _ _ _ _ _ | exact eF.mono _ _ | exact LeO.refl _ | exact LeO.none _ | refine LeO.ite ?_ ?_ | refine LeO.bind ?_ (fun _ => ?_)) | exact ih0 _ _ _ | exact ih1 _ _ _ _ | exact ih2 _ _ _ _ _ _ _ _ _ _ _ _ _ _ _ _ | exact ih3 _ _ _ _ _ | exact ih4 _ _ _ _ _ | exact ih5 _ _ _ _ _ _ | exact bg.mono _ | exact az.mono _ _ | exact aK.mono _ _ _ | exact aX.mono _ _ _ _ _ _ _ _ _ _ _ _ _ _ _ _ _ _ _ _ _ _ _ _ _ | exact bi.mono _ _ _ _ _ _ _ _ _ _ _ _ _ | exact aj.mono _ _ _ _ _ _ _ _ _ _ _ _ _ | exact af.mono _ _ | exact dZ.mono _ _ _ _ _ _ _ _ _ _ _ _ _ | exact eF.mono _ _ | exact LeO.none _ | refine LeO.ite ?_ ?_ | refine LeO.bind ?_ (fun _ => ?_)
  ·intro y0 y1 y2 y3 y4
   unfold ae.j3
   repeat' first | (with_reducible first | exact ih0 _ _ _ | exact ih1 _ _ _ _ | exact ih2 _ _ _ _ _ _ _ _ _ _ _ _ _ _ _ _ | exact ih3 _ _ _ _ _ | exact ih4 _ _ _ _ _ | exact ih5 _ _ _ _ _ _ | exact bg.mono _ | exact az.mono _ _ | exact aK.mono _ _ _ | exact aX.mono _ _ _ _ _ _ _ _ _ _ _ _ _ _ _ _ _ _ _ _ _ _ _ _ _ | exact bi.mono _ _ _ _ _ _ _ _ _ _ _ _ _ | exact aj.mono _ _ _ _ _ _ _ _ _ _ _ _ _ | exact af.mono _ _ | exact dZ.mono _ _ _ _ _ _ _ _ _ _ _ _ _ | exact eF.mono _ _ | exact LeO.refl _ | exact LeO.none _ | refine LeO.ite ?_ ?_ | refine LeO.bind ?_ (fun _ => ?_)) | exact ih0 _ _ _ | exact ih1 _ _ _ _ | exact ih2 _ _ _ _ _ _ _ _ _ _ _ _ _ _ _ _ | exact ih3 _ _ _ _ _ | exact ih4 _ _ _ _ _ | exact ih5 _ _ _ _ _ _ | exact bg.mono _ | exact az.mono _ _ | exact aK.mono _ _ _ | exact aX.mono _ _ _ _ _ _ _ _ _ _ _ _ _ _ _ _ _ _ _ _ _ _ _ _ _ | exact bi.mono _ _ _ _ _ _ _ _ _ _ _ _ _ | exact aj.mono _ _ _ _ _ _ _ _ _ _ _ _ _ | exact af.mono _ _ | exact dZ.mono _ _ _ _ _ _ _ _ _ _ _ _ _ | exact eF.mono _ _ | exact LeO.none _ | refine LeO.ite ?_ ?_ | refine LeO.bind ?_ (fun _ => ?_)
  ·intro y0 y1 y2 y3 y4
   unfold ae.l1
   repeat' first | (with_reducible first | exact ih0 _ _ _ | exact ih1 _ _ _ _ | exact ih2 _ _ _ _ _ _ _ _ _ _ _ _ _ _ _ _ | exact ih3 _ _ _ _ _ | exact ih4 _ _ _ _ _ | exact ih5 _ _ _ _ _ _ | exact bg.mono _ | exact az.mono _ _ | exact aK.mono _ _ _ | exact aX.mono _ _ _ _ _ _ _ _ _ _ _ _ _ _ _ _ _ _ _ _ _ _ _ _ _ | exact bi.mono _ _ _ _ _ _ _ _ _ _ _ _ _ | exact aj.mono _ _ _ _ _ _ _ _ _ _ _ _ _ | exact af.mono _ _ | exact dZ.mono _ _ _ _ _ _ _ _ _ _ _ _ _ | exact eF.mono _ _ | exact LeO.refl _ | exact LeO.none _ | refine LeO.ite ?_ ?_ | refine LeO.bind ?_ (fun _ => ?_)) | exact ih0 _ _ _ | exact ih1 _ _ _ _ | exact ih2 _ _ _ _ _ _ _ _ _ _ _ _ _ _ _ _ | exact ih3 _ _ _ _ _ | exact ih4 _ _ _ _ _ | exact ih5 _ _ _ _ _ _ | exact bg.mono _ | exact az.mono _ _ | exact aK.mono _ _ _ | exact aX.mono _ _ _ _ _ _ _ _ _ _ _ _ _ _ _ _ _ _ _ _ _ _ _ _ _ | exact bi.mono _ _ _ _ _ _ _ _ _ _ _ _ _ | exact aj.mono _ _ _ _ _ _ _ _ _ _ _ _ _ | exact af.mono _ _ | exact dZ.mono _ _ _ _ _ _ _ _ _ _ _ _ _ | exact eF.mono _ _ | exact LeO.none _ | refine LeO.ite ?_ ?_ | refine LeO.bind ?_ (fun _ => ?_)
  ·intro y0 y1 y2 y3 y4 y5
   unfold ae.j5
   repeat' first | (with_reducible first | exact ih0 _ _ _ | exact ih1 _ _ _ _ | exact ih2 _ _ _ _ _ _ _ _ _ _ _ _ _ _ _ _ | exact ih3 _ _ _ _ _ | exact ih4 _ _ _ _ _ | exact ih5 _ _ _ _ _ _ | exact bg.mono _ | exact az.mono _ _ | exact aK.mono _ _ _ | exact aX.mono _ _ _ _ _ _ _ _ _ _ _ _ _ _ _ _ _ _ _ _ _ _ _ _ _ | exact bi.mono _ _ _ _ _ _ _ _ _ _ _ _ _ | exact aj.mono _ _ _ _ _ _ _ _ _ _ _ _ _ | exact af.mono _ _ | exact dZ.mono _ _ _ _ _ _ _ _ _ _ _ _ _ | exact eF.mono _ _ | exact LeO.refl _ | exact LeO.none _ | refine LeO.ite ?_ ?_ | refine LeO.bind ?_ (fun _ => ?_)) | exact ih0 _ _ _ | exact ih1 _ _ _ _ | exact ih2 _ _ _ _ _ _ _ _ _ _ _ _ _ _ _ _ | exact ih3 _ _ _ _ _ | exact ih4 _ _ _ _ _ | exact ih5 _ _ _ _ _ _ | exact bg.mono _ | exact az.mono _ _ | exact aK.mono _ _ _ | exact aX.mono _ _ _ _ _ _ _ _ _ _ _ _ _ _ _ _ _ _ _ _ _ _ _ _ _ | exact bi.mono _ _ _ _ _ _ _ _ _ _ _ _ _ | exact aj.mono _ _ _ _ _ _ _ _ _ _ _ _ _ | exact af.mono _ _ | exact dZ.mono _ _ _ _ _ _ _ _ _ _ _ _ _ | exact eF.mono _ _ | exact LeO.none _ | refine LeO.ite ?_ ?_ | refine LeO.bind ?_ (fun _ => ?_)
theorem ae.mono : ∀ a0 a1 k, LeO (ae.f k a0 a1) (ae.f (k + 1) a0 a1) := by
 intro a0 a1 k
 obtain ⟨ih0, ih1, ih2, ih3, ih4, ih5⟩ := ae.dJ k
 unfold ae.f
 repeat' first | (with_reducible first | exact ih0 _ _ _ | exact ih1 _ _ _ _ | exact ih2 _ _ _ _ _ _ _ _ _ _ _ _ _ _ _ _ | exact ih3 _ _ _ _ _ | exact ih4 _ _ _ _ _ | exact ih5 _ _ _ _ _ _ | exact bg.mono _ | exact az.mono _ _ | exact aK.mono _ _ _ | exact aX.mono _ _ _ _ _ _ _ _ _ _ _ _ _ _ _ _ _ _ _ _ _ _ _ _ _ | exact bi.mono _ _ _ _ _ _ _ _ _ _ _ _ _ | exact aj.mono _ _ _ _ _ _ _ _ _ _ _ _ _ | exact af.mono _ _ | exact dZ.mono _ _ _ _ _ _ _ _ _ _ _ _ _ | exact eF.mono _ _ | exact LeO.refl _ | exact LeO.none _ | refine LeO.ite ?_ ?_ | refine LeO.bind ?_ (fun _ => ?_)) | exact ih0 _ _ _ | exact ih1 _ _ _ _ | exact ih2 _ _ _ _ _ _ _ _ _ _ _ _ _ _ _ _ | exact ih3 _ _ _ _ _ | exact ih4 _ _ _ _ _ | exact ih5 _ _ _ _ _ _ | exact bg.mono _ | exact az.mono _ _ | exact aK.mono _ _ _ | exact aX.mono _ _ _ _ _ _ _ _ _ _ _ _ _ _ _ _ _ _ _ _ _ _ _ _ _ | exact bi.mono _ _ _ _ _ _ _ _ _ _ _ _ _ | exact aj.mono _ _ _ _ _ _ _ _ _ _ _ _ _ | exact af.mono _ _ | exact dZ.mono _ _ _ _ _ _ _ _ _ _ _ _ _ | exact eF.mono _ _ | exact LeO.none _ | refine LeO.ite ?_ ?_ | refine LeO.bind ?_ (fun _ => ?_)
noncomputable def ae.L0 (x0 : List (S31)) (x1 : Int) (x5 : Int) : Option (Bool) := LB.lim (fun k => ae.l0 k x0 x1 x5)
noncomputable def ae.J1 (x0 : List (S31)) (x1 : Int) (x5 : Int) (x27 : Bool) : Option (Bool) := LB.lim (fun k => ae.j1 k x0 x1 x5 x27)
noncomputable def ae.J2 (x0 : List (S31)) (x1 : Int) (x5 : Int) (x48 : Bool) (lU : Int) (lV : Int) (lW : Int) (lX : List Int) (lY : Int) (lZ : Int) (ma : Int) (mf : Int) (mg : Int) (mh : ByteArray) (mi : Int) (mo : Int) : Option (Bool) := LB.lim (fun k => ae.j2 k x0 x1 x5 x48 lU lV lW lX lY lZ ma mf mg mh mi mo)
noncomputable def ae.J3 (x0 : List (S31)) (x1 : Int) (x5 : Int) (x7 : List Int) (x86 : Bool) : Option (Bool) := LB.lim (fun k => ae.j3 k x0 x1 x5 x7 x86)
noncomputable def ae.L1 (x0 : List (S31)) (x1 : Int) (x5 : Int) (x7 : List Int) (x12 : Int) : Option (Bool) := LB.lim (fun k => ae.l1 k x0 x1 x5 x7 x12)
noncomputable def ae.J5 (x0 : List (S31)) (x1 : Int) (x5 : Int) (x7 : List Int) (x12 : Int) (x135 : Bool) : Option (Bool) := LB.lim (fun k => ae.j5 k x0 x1 x5 x7 x12 x135)
theorem ae.fQ (x0 : List (S31)) (x1 : Int) (x5 : Int) : LB.Lim (fun k => ae.l0 k x0 x1 x5) (ae.L0 x0 x1 x5) := LB.bX (fun k => (ae.dJ k).1 x0 x1 x5)
theorem ae.gZ (x0 : List (S31)) (x1 : Int) (x5 : Int) (x27 : Bool) : LB.Lim (fun k => ae.j1 k x0 x1 x5 x27) (ae.J1 x0 x1 x5 x27) := LB.bX (fun k => (ae.dJ k).2.1 x0 x1 x5 x27)
theorem ae.jm (x0 : List (S31)) (x1 : Int) (x5 : Int) (x48 : Bool) (lU : Int) (lV : Int) (lW : Int) (lX : List Int) (lY : Int) (lZ : Int) (ma : Int) (mf : Int) (mg : Int) (mh : ByteArray) (mi : Int) (mo : Int) : LB.Lim (fun k => ae.j2 k x0 x1 x5 x48 lU lV lW lX lY lZ ma mf mg mh mi mo) (ae.J2 x0 x1 x5 x48 lU lV lW lX lY lZ ma mf mg mh mi mo) := LB.bX (fun k => (ae.dJ k).2.2.1 x0 x1 x5 x48 lU lV lW lX lY lZ ma mf mg mh mi mo)
theorem ae.kN (x0 : List (S31)) (x1 : Int) (x5 : Int) (x7 : List Int) (x86 : Bool) : LB.Lim (fun k => ae.j3 k x0 x1 x5 x7 x86) (ae.J3 x0 x1 x5 x7 x86) := LB.bX (fun k => (ae.dJ k).2.2.2.1 x0 x1 x5 x7 x86)
theorem ae.L1_lim (x0 : List (S31)) (x1 : Int) (x5 : Int) (x7 : List Int) (x12 : Int) : LB.Lim (fun k => ae.l1 k x0 x1 x5 x7 x12) (ae.L1 x0 x1 x5 x7 x12) := LB.bX (fun k => (ae.dJ k).2.2.2.2.1 x0 x1 x5 x7 x12)
theorem ae.J5_lim (x0 : List (S31)) (x1 : Int) (x5 : Int) (x7 : List Int) (x12 : Int) (x135 : Bool) : LB.Lim (fun k => ae.j5 k x0 x1 x5 x7 x12 x135) (ae.J5 x0 x1 x5 x7 x12 x135) := LB.bX (fun k => (ae.dJ k).2.2.2.2.2 x0 x1 x5 x7 x12 x135)
theorem ae.ky (x0 : List (S31)) (x1 : Int) (x5 : Int) : ae.L0 x0 x1 x5 = (if x5 < (x0.length : Int) then (ae.J1 x0 x1 x5 (decide (x5 < 12))) else (ae.J1 x0 x1 x5 false)) := by
  refine LB.Lim.unique (ae.fQ x0 x1 x5).shift ?_
  simp only [ae.l0]
  (repeat' (first | exact LB.Lim.const _ | exact ae.fQ _ _ _ | exact ae.gZ _ _ _ _ | exact ae.jm _ _ _ _ _ _ _ _ _ _ _ _ _ _ _ _ | exact ae.kN _ _ _ _ _ | exact ae.L1_lim _ _ _ _ _ | exact ae.J5_lim _ _ _ _ _ _ | exact bg.bK | exact az.bK _ | exact aK.bK _ _ | exact aX.bK _ _ _ _ _ _ _ _ _ _ _ _ _ _ _ _ _ _ _ _ _ _ _ _ | exact bi.bK _ _ _ _ _ _ _ _ _ _ _ _ | exact aj.bK _ _ _ _ _ _ _ _ _ _ _ _ | exact af.bK _ | exact dZ.bK _ _ _ _ _ _ _ _ _ _ _ _ | exact eF.bK _ | refine LB.Lim.ite ?_ ?_ | refine LB.Lim.bind ?_ (fun _ => ?_)))
theorem ae.J1_eq (x0 : List (S31)) (x1 : Int) (x5 : Int) (x27 : Bool) : ae.J1 x0 x1 x5 x27 = (if x27 = true then (if 0 ≤ x5 then (if x5 < (x0.length : Int) then ((iA.f ((au x0 x5).f0.f0.f0) ((au x0 x5).f0.f0.f1) ((au x0 x5).f0.f1) ((au x0 x5).f0.f2) ((au x0 x5).f0.f3) ((au x0 x5).f0.f4.f0) ((au x0 x5).f0.f4.f1) ((au x0 x5).f0.f5.f0) ((au x0 x5).f0.f5.f1) ((au x0 x5).f0.f6) ((au x0 x5).f0.f7) ((au x0 x5).f0.f8) ((au x0 x5).f1)).bind fun t687 => (if t687 = true then (some true) else (if ((au x0 x5).f0.f3) = x1 then ((aj.F ((au x0 x5).f0.f0.f0) ((au x0 x5).f0.f0.f1) ((au x0 x5).f0.f1) ((au x0 x5).f0.f2) ((au x0 x5).f0.f3) ((au x0 x5).f0.f4.f0) ((au x0 x5).f0.f4.f1) ((au x0 x5).f0.f5.f0) ((au x0 x5).f0.f5.f1) ((au x0 x5).f0.f6) ((au x0 x5).f0.f7) ((au x0 x5).f0.f8)).bind fun t690 => (ae.J2 x0 x1 x5 (!t690) ((au x0 x5).f0.f0.f0) ((au x0 x5).f0.f0.f1) ((au x0 x5).f0.f1) ((au x0 x5).f0.f2) ((au x0 x5).f0.f3) ((au x0 x5).f0.f4.f0) ((au x0 x5).f0.f4.f1) ((au x0 x5).f0.f5.f0) ((au x0 x5).f0.f5.f1) ((au x0 x5).f0.f6) ((au x0 x5).f0.f7) ((au x0 x5).f0.f8))) else (ae.J2 x0 x1 x5 true ((au x0 x5).f0.f0.f0) ((au x0 x5).f0.f0.f1) ((au x0 x5).f0.f1) ((au x0 x5).f0.f2) ((au x0 x5).f0.f3) ((au x0 x5).f0.f4.f0) ((au x0 x5).f0.f4.f1) ((au x0 x5).f0.f5.f0) ((au x0 x5).f0.f5.f1) ((au x0 x5).f0.f6) ((au x0 x5).f0.f7) ((au x0 x5).f0.f8))))) else (none)) else (none)) else ((bg.F).bind fun t685 => (some t685))) := by
  refine LB.Lim.unique (ae.gZ x0 x1 x5 x27).shift ?_
  simp only [ae.j1]
  (repeat' (first | exact LB.Lim.const _ | exact ae.fQ _ _ _ | exact ae.gZ _ _ _ _ | exact ae.jm _ _ _ _ _ _ _ _ _ _ _ _ _ _ _ _ | exact ae.kN _ _ _ _ _ | exact ae.L1_lim _ _ _ _ _ | exact ae.J5_lim _ _ _ _ _ _ | exact bg.bK | exact az.bK _ | exact aK.bK _ _ | exact aX.bK _ _ _ _ _ _ _ _ _ _ _ _ _ _ _ _ _ _ _ _ _ _ _ _ | exact bi.bK _ _ _ _ _ _ _ _ _ _ _ _ | exact aj.bK _ _ _ _ _ _ _ _ _ _ _ _ | exact af.bK _ | exact dZ.bK _ _ _ _ _ _ _ _ _ _ _ _ | exact eF.bK _ | refine LB.Lim.ite ?_ ?_ | refine LB.Lim.bind ?_ (fun _ => ?_)))
theorem ae.J2_eq (x0 : List (S31)) (x1 : Int) (x5 : Int) (x48 : Bool) (lU : Int) (lV : Int) (lW : Int) (lX : List Int) (lY : Int) (lZ : Int) (ma : Int) (mf : Int) (mg : Int) (mh : ByteArray) (mi : Int) (mo : Int) : ae.J2 x0 x1 x5 x48 lU lV lW lX lY lZ ma mf mg mh mi mo = (if x48 = true then (ae.L0 x0 x1 (wrap64 (x5 + 1))) else ((dZ.F lU lV lW lX lY lZ ma mf mg mh mi mo).bind fun bt691 => ((eF.F bt691.1).bind fun bt695 => ((bT.f bt691.2).bind fun t712 => (if t712 = 0 then ((bT.f bt695.2.2.2.2.2.2.2.2.2.2.2.2.2).bind fun t713 => (if t713 = 0 then (if bt695.2.2.2.2.2.2.2.2.2.2.2.2.1 = (bt691.1.length : Int) then ((aX.F bt695.1 bt695.2.1 bt695.2.2.1 bt695.2.2.2.1 bt695.2.2.2.2.1 bt695.2.2.2.2.2.1 bt695.2.2.2.2.2.2.1 bt695.2.2.2.2.2.2.2.1 bt695.2.2.2.2.2.2.2.2.1 bt695.2.2.2.2.2.2.2.2.2.1 bt695.2.2.2.2.2.2.2.2.2.2.1 bt695.2.2.2.2.2.2.2.2.2.2.2.1 lU lV lW lX lY lZ ma mf mg mh mi mo).bind fun t714 => (if t714 = true then ((bi.F lU lV lW lX lY lZ ma mf mg mh mi mo).bind fun t715 => ((aK.F bt691.1 t715).bind fun t718 => (ae.J3 x0 x1 x5 bt691.1 (!t718)))) else (ae.J3 x0 x1 x5 bt691.1 true))) else (ae.J3 x0 x1 x5 bt691.1 true)) else (ae.J3 x0 x1 x5 bt691.1 true))) else (ae.J3 x0 x1 x5 bt691.1 true)))))) := by
  refine LB.Lim.unique (ae.jm x0 x1 x5 x48 lU lV lW lX lY lZ ma mf mg mh mi mo).shift ?_
  simp only [ae.j2]
  (repeat' (first | exact LB.Lim.const _ | exact ae.fQ _ _ _ | exact ae.gZ _ _ _ _ | exact ae.jm _ _ _ _ _ _ _ _ _ _ _ _ _ _ _ _ | exact ae.kN _ _ _ _ _ | exact ae.L1_lim _ _ _ _ _ | exact ae.J5_lim _ _ _ _ _ _ | exact bg.bK | exact az.bK _ | exact aK.bK _ _ | exact aX.bK _ _ _ _ _ _ _ _ _ _ _ _ _ _ _ _ _ _ _ _ _ _ _ _ | exact bi.bK _ _ _ _ _ _ _ _ _ _ _ _ | exact aj.bK _ _ _ _ _ _ _ _ _ _ _ _ | exact af.bK _ | exact dZ.bK _ _ _ _ _ _ _ _ _ _ _ _ | exact eF.bK _ | refine LB.Lim.ite ?_ ?_ | refine LB.Lim.bind ?_ (fun _ => ?_)))
theorem ae.J3_eq (x0 : List (S31)) (x1 : Int) (x5 : Int) (x7 : List Int) (x86 : Bool) : ae.J3 x0 x1 x5 x7 x86 = (if x86 = true then (some false) else (ae.L1 x0 x1 x5 x7 0)) := by
  refine LB.Lim.unique (ae.kN x0 x1 x5 x7 x86).shift ?_
  simp only [ae.j3]
  (repeat' (first | exact LB.Lim.const _ | exact ae.fQ _ _ _ | exact ae.gZ _ _ _ _ | exact ae.jm _ _ _ _ _ _ _ _ _ _ _ _ _ _ _ _ | exact ae.kN _ _ _ _ _ | exact ae.L1_lim _ _ _ _ _ | exact ae.J5_lim _ _ _ _ _ _ | exact bg.bK | exact az.bK _ | exact aK.bK _ _ | exact aX.bK _ _ _ _ _ _ _ _ _ _ _ _ _ _ _ _ _ _ _ _ _ _ _ _ | exact bi.bK _ _ _ _ _ _ _ _ _ _ _ _ | exact aj.bK _ _ _ _ _ _ _ _ _ _ _ _ | exact af.bK _ | exact dZ.bK _ _ _ _ _ _ _ _ _ _ _ _ | exact eF.bK _ | refine LB.Lim.ite ?_ ?_ | refine LB.Lim.bind ?_ (fun _ => ?_)))
theorem ae.L1_eq (x0 : List (S31)) (x1 : Int) (x5 : Int) (x7 : List Int) (x12 : Int) : ae.L1 x0 x1 x5 x7 x12 = (if x12 < (x7.length : Int) then ((az.F x7).bind fun t719 => (if 0 ≤ x12 then (if x12 < (t719.length : Int) then ((jy.f (wrap64 (x5 + x12)) 255).bind fun t723 => ((some (t719.set (x12 : Int).toNat (Go.bits .xor .u8 (rd t719 x12) ((wrap64 (1 + t723)) % 256)) : List Int)).bind fun y724 => ((eF.F y724).bind fun bt725 => ((af.F y724).bind fun bt742 => ((bT.f bt725.2.2.2.2.2.2.2.2.2.2.2.2.2).bind fun t759 => (if t759 = bt742.2.2.2.2.2.2.2.2.2.2.2.2.2 then (if bt725.2.2.2.2.2.2.2.2.2.2.2.2.1 = bt742.2.2.2.2.2.2.2.2.2.2.2.2.1 then ((aX.F bt725.1 bt725.2.1 bt725.2.2.1 bt725.2.2.2.1 bt725.2.2.2.2.1 bt725.2.2.2.2.2.1 bt725.2.2.2.2.2.2.1 bt725.2.2.2.2.2.2.2.1 bt725.2.2.2.2.2.2.2.2.1 bt725.2.2.2.2.2.2.2.2.2.1 bt725.2.2.2.2.2.2.2.2.2.2.1 bt725.2.2.2.2.2.2.2.2.2.2.2.1 bt742.1 bt742.2.1 bt742.2.2.1 bt742.2.2.2.1 bt742.2.2.2.2.1 bt742.2.2.2.2.2.1 bt742.2.2.2.2.2.2.1 bt742.2.2.2.2.2.2.2.1 bt742.2.2.2.2.2.2.2.2.1 bt742.2.2.2.2.2.2.2.2.2.1 bt742.2.2.2.2.2.2.2.2.2.2.1 bt742.2.2.2.2.2.2.2.2.2.2.2.1).bind fun t760 => (ae.J5 x0 x1 x5 x7 x12 (!t760))) else (ae.J5 x0 x1 x5 x7 x12 true)) else (ae.J5 x0 x1 x5 x7 x12 true))))))) else (none)) else (none))) else (ae.L0 x0 x1 (wrap64 (x5 + 1)))) := by
  refine LB.Lim.unique (ae.L1_lim x0 x1 x5 x7 x12).shift ?_
  simp only [ae.l1]
  (repeat' (first | exact LB.Lim.const _ | exact ae.fQ _ _ _ | exact ae.gZ _ _ _ _ | exact ae.jm _ _ _ _ _ _ _ _ _ _ _ _ _ _ _ _ | exact ae.kN _ _ _ _ _ | exact ae.L1_lim _ _ _ _ _ | exact ae.J5_lim _ _ _ _ _ _ | exact bg.bK | exact az.bK _ | exact aK.bK _ _ | exact aX.bK _ _ _ _ _ _ _ _ _ _ _ _ _ _ _ _ _ _ _ _ _ _ _ _ | exact bi.bK _ _ _ _ _ _ _ _ _ _ _ _ | exact aj.bK _ _ _ _ _ _ _ _ _ _ _ _ | exact af.bK _ | exact dZ.bK _ _ _ _ _ _ _ _ _ _ _ _ | exact eF.bK _ | refine LB.Lim.ite ?_ ?_ | refine LB.Lim.bind ?_ (fun _ => ?_)))
theorem ae.J5_eq (x0 : List (S31)) (x1 : Int) (x5 : Int) (x7 : List Int) (x12 : Int) (x135 : Bool) : ae.J5 x0 x1 x5 x7 x12 x135 = (if x135 = true then (some false) else (ae.L1 x0 x1 x5 x7 (wrap64 (x12 + 1)))) := by
  refine LB.Lim.unique (ae.J5_lim x0 x1 x5 x7 x12 x135).shift ?_
  simp only [ae.j5]
  (repeat' (first | exact LB.Lim.const _ | exact ae.fQ _ _ _ | exact ae.gZ _ _ _ _ | exact ae.jm _ _ _ _ _ _ _ _ _ _ _ _ _ _ _ _ | exact ae.kN _ _ _ _ _ | exact ae.L1_lim _ _ _ _ _ | exact ae.J5_lim _ _ _ _ _ _ | exact bg.bK | exact az.bK _ | exact aK.bK _ _ | exact aX.bK _ _ _ _ _ _ _ _ _ _ _ _ _ _ _ _ _ _ _ _ _ _ _ _ | exact bi.bK _ _ _ _ _ _ _ _ _ _ _ _ | exact aj.bK _ _ _ _ _ _ _ _ _ _ _ _ | exact af.bK _ | exact dZ.bK _ _ _ _ _ _ _ _ _ _ _ _ | exact eF.bK _ | refine LB.Lim.ite ?_ ?_ | refine LB.Lim.bind ?_ (fun _ => ?_)))
noncomputable def ae.F (l0 : List (S31)) (a1 : Int) : Option (Bool) := LB.lim (fun k => ae.f k l0 a1)
theorem ae.bK (l0 : List (S31)) (a1 : Int) : LB.Lim (fun k => ae.f k l0 a1) (ae.F l0 a1) := LB.bX (ae.mono l0 a1)
theorem ae.jQ (l0 : List (S31)) (a1 : Int) : ae.F l0 a1 = (ae.L0 l0 a1 0) := by
  refine LB.Lim.unique (ae.bK l0 a1) ?_
  simp only [ae.f]
  (repeat' (first | exact LB.Lim.const _ | exact ae.fQ _ _ _ | exact ae.gZ _ _ _ _ | exact ae.jm _ _ _ _ _ _ _ _ _ _ _ _ _ _ _ _ | exact ae.kN _ _ _ _ _ | exact ae.L1_lim _ _ _ _ _ | exact ae.J5_lim _ _ _ _ _ _ | exact bg.bK | exact az.bK _ | exact aK.bK _ _ | exact aX.bK _ _ _ _ _ _ _ _ _ _ _ _ _ _ _ _ _ _ _ _ _ _ _ _ | exact bi.bK _ _ _ _ _ _ _ _ _ _ _ _ | exact aj.bK _ _ _ _ _ _ _ _ _ _ _ _ | exact af.bK _ | exact dZ.bK _ _ _ _ _ _ _ _ _ _ _ _ | exact eF.bK _ | refine LB.Lim.ite ?_ ?_ | refine LB.Lim.bind ?_ (fun _ => ?_)))
def cz.f (k : Nat) (l0 : List (S31)) : Option (Bool) := (ae.f k l0 2).bind fun t762 => (some t762)
theorem cz.mono : ∀ a0 k, LeO (cz.f k a0) (cz.f (k + 1) a0) := by
 intro a0 k
 unfold cz.f
 repeat' first | (with_reducible first | exact ae.mono _ _ _ | exact LeO.refl _ | exact LeO.none _ | refine LeO.ite ?_ ?_ | refine LeO.bind ?_ (fun _ => ?_)) | exact ae.mono _ _ _ | exact LeO.none _ | refine LeO.ite ?_ ?_ | refine LeO.bind ?_ (fun _ => ?_)
noncomputable def cz.F (l0 : List (S31)) : Option (Bool) := LB.lim (fun k => cz.f k l0)
theorem cz.bK (l0 : List (S31)) : LB.Lim (fun k => cz.f k l0) (cz.F l0) := LB.bX (cz.mono l0)
theorem cz.jQ (l0 : List (S31)) : cz.F l0 = ((ae.F l0 2).bind fun t762 => (some t762)) := by
  refine LB.Lim.unique (cz.bK l0) ?_
  simp only [cz.f]
  (repeat' (first | exact LB.Lim.const _ | exact ae.bK _ _ | refine LB.Lim.ite ?_ ?_ | refine LB.Lim.bind ?_ (fun _ => ?_)))
end Go.Proofs.Ytddnlnjmikcgfaa.PC
end
section
namespace Go.OB
open Go Go.RowKit Go.WB.PrintWords
/-- Whatever of type t reads as data reads as a value of the kind, within bounds. -/
def Opens (P : Program) (t : TypeId) {α : Type} (d : Kd α) (OK : α → Prop) : Prop :=
  ∀ {H : Type} (enc : TypeId × Value → H) (w : World) (base : Nat) (spare : Nat → Bool) (held : Bool) (fuel : Nat) (cs : List Value) (x : DataW H) (ps : List MemPlace),
    DataW.trod enc P w base spare held fuel t cs = some (x, ps) → (∀ n ∈ x.weights P t, n ≤ reachBytes) → ∃ a : α, d.K w a cs ∧ OK a
section
variable {P : Program} {t : TypeId}
theorem opens_int {k : IntKind} (ht : P.underlying t = some (.int k)) : Opens P t (Kd.int k) (fun n => (Lit.int k n).wf = true) := by
  intro H enc w base spare held fuel cs x ps h _
  obtain ⟨n, rfl, _, hw⟩ := DataW.trod_int ht h
  exact ⟨n, rfl, hw⟩
theorem opens_string (ht : P.underlying t = some .string) : Opens P t Kd.string (fun s => s.size ≤ 140737488351232) := by
  intro H enc w base spare held fuel cs x ps h hs
  obtain ⟨s, rfl, hx, _⟩ := DataW.trod_string ht h
  simp only [Prod.mk.injEq] at hx
  obtain ⟨rfl, rfl⟩ := hx
  have := hs s.data.toList.length (by simp [DataW.weights])
  have hr : reachBytes = 140737488351232 := by decide
  have hl : s.data.toList.length = s.size := by simp
  exact ⟨s, rfl, by omega⟩
theorem mem_weightsAll {H : Type} {e : TypeId} : ∀ {l : List (DataW H)} {d : DataW H}, d ∈ l → ∀ n ∈ d.weights P e, n ∈ DataW.weightsAll P e l
  | d0 :: l, d, hd, n, hn => by
    simp only [DataW.weightsAll, List.mem_append]
    rcases List.mem_cons.1 hd with rfl | hd
    · exact .inl hn
    · exact .inr (mem_weightsAll hd n hn)
theorem opens_slice {α : Type} (y0 : α) {e : TypeId} (nb : Nat) {d : Kd α} {OK : α → Prop} (ht : P.underlying t = some (.slice e)) (hsz : d.sz = P.cellsOf e) (hnb : P.bytesOf e = nb) (ho : Opens P e d OK) :
    Opens P t (Kd.slice e d) (fun l => l.length ≤ maxLen ∧ l.length * nb ≤ 140737488351232 ∧ ∀ a ∈ l, OK a) := by
  haveI : Inhabited α := ⟨y0⟩
  subst hnb
  intro H enc w base spare held fuel cs x ps h hs
  have hr : reachBytes = 140737488351232 := by decide
  rcases Deep.open_slice ht h with ⟨rfl, _⟩ | ⟨a, len, cap, m, n, D, Pl, rfl, hb, hl, hm, hmm, hx, hel⟩
  · exact ⟨[], ⟨none, 0, rfl, Nat.le_refl _, Kd.C_nil _ _⟩, by simp, by simp, fun _ h => by cases h⟩
  · simp only [Prod.mk.injEq] at hx
    obtain ⟨rfl, rfl⟩ := hx
    have hle : len ≤ m := by rw [hmm]; split <;> omega
    have hw := hs ((((List.range len).map D).length + ((List.range (m - len)).map fun j => D (len + j)).length) * P.bytesOf e) (by simp [DataW.weights, ht])
    have hone : ∀ i, i < len → ∃ y : α, (∃ cs', w.cells? base (a.add (i * P.cellsOf e)) (P.cellsOf e) = some cs' ∧ d.K w y cs') ∧ OK y := by
      intro i hi
      obtain ⟨cs', h1, h2⟩ := hel i (by omega)
      obtain ⟨y, hy, hoy⟩ := ho enc w base spare held n cs' (D i) (Pl i) h2 (fun q hq => hs q (by
        simp only [DataW.weights, ht, List.mem_cons, List.mem_append]
        exact .inr (.inl (mem_weightsAll (List.mem_map.2 ⟨i, List.mem_range.2 hi, rfl⟩) q hq))))
      exact ⟨y, ⟨cs', h1, hy⟩, hoy⟩
    obtain ⟨f, hf⟩ := Deep.choose_lt hone
    have hlen : ((List.range len).map f).length = len := by simp
    refine ⟨(List.range len).map f, ⟨some a, cap, by rw [hlen], by rw [hlen]; exact hl, ?_⟩, by rw [hlen]; omega, ?_, ?_⟩
    · refine ⟨rfl, by rw [hlen]; have : maxLen = 9223372036854775807 := rfl; omega, fun _ => ⟨a, rfl, fun j p hj => ?_⟩⟩
      have hj' : j < len := by
        have := (List.getElem?_eq_some_iff.1 hj).1
        simpa using this
      have hp : p = f j := by simpa [hj'] using hj.symm
      subst hp
      obtain ⟨⟨cs', h1, h2⟩, _⟩ := hf j hj'
      obtain ⟨_, hcl, hcell⟩ := World.cells?_some h1
      refine ⟨cs', by rw [hcl, hsz], h2, fun i u hu => ?_⟩
      have hi : i < P.cellsOf e := by have := (List.getElem?_eq_some_iff.1 hu).1; omega
      rw [← Deep.add_add, hsz, hcell i hi, hu]
    · rw [hlen]
      rw [hr] at hw
      simp only [List.length_map, List.length_range] at hw
      exact Nat.le_trans (Nat.mul_le_mul_right _ (by omega)) hw
    · intro y hy
      obtain ⟨i, hi, rfl⟩ := List.mem_map.1 hy
      exact (hf i (List.mem_range.1 hi)).2
end
section
variable {P : Program}
/-- Cells that hold values of these types one behind the other. -/
def Chunks {H : Type} (enc : TypeId × Value → H) (P : Program) (w : World) (base : Nat) (spare : Nat → Bool) (held : Bool) (fuel : Nat) : List TypeId → List Value → List (DataW H) → Prop
  | [], cs, ds => cs = [] ∧ ds = []
  | t :: ts, cs, d :: ds => (∃ ps, DataW.trod enc P w base spare held fuel t (cs.take (P.cellsOf t)) = some (d, ps)) ∧ Chunks enc P w base spare held fuel ts (cs.drop (P.cellsOf t)) ds
  | _ :: _, _, [] => False
def OpensAll (P : Program) (ts : List TypeId) {α : Type} (d : Kd α) (OK : α → Prop) : Prop :=
  ∀ {H : Type} (enc : TypeId × Value → H) (w : World) (base : Nat) (spare : Nat → Bool) (held : Bool) (fuel : Nat) (cs : List Value) (ds : List (DataW H)),
    Chunks enc P w base spare held fuel ts cs ds → (∀ n ∈ DataW.weightsEach P ts ds, n ≤ reachBytes) → ∃ a : α, d.K w a cs ∧ OK a
theorem opens_one {t : TypeId} {α : Type} {d : Kd α} {OK : α → Prop} (h : Opens P t d OK) : OpensAll P [t] d OK := by
  intro H enc w base spare held fuel cs ds hc hs
  match ds, hc with
  | [x], ⟨⟨ps, h1⟩, h2, _⟩ =>
    have e : cs.take (P.cellsOf t) = cs := by
      rw [List.take_of_length_le]
      have := congrArg List.length h2
      simp at this
      omega
    rw [e] at h1
    exact h enc w base spare held fuel cs x ps h1 (fun n hn => hs n (by simp [DataW.weightsEach, hn]))
theorem kG {t : TypeId} {ts : List TypeId} {α β : Type} {d : Kd α} {d2 : Kd β} {OK : α → Prop} {OK2 : β → Prop} (h : Opens P t d OK) (h2 : OpensAll P ts d2 OK2) :
    OpensAll P (t :: ts) (Kd.pair d d2) (fun x => OK x.1 ∧ OK2 x.2) := by
  intro H enc w base spare held fuel cs ds hc hs
  match ds, hc with
  | x :: ds, ⟨⟨ps, h1⟩, hr⟩ =>
    obtain ⟨a, ha, hoa⟩ := h enc w base spare held fuel _ x ps h1 (fun n hn => hs n (by simp [DataW.weightsEach, hn]))
    obtain ⟨b, hb, hob⟩ := h2 enc w base spare held fuel _ ds hr (fun n hn => hs n (by simp [DataW.weightsEach, hn]))
    exact ⟨(a, b), ⟨_, _, (List.take_append_drop _ cs).symm, ha, hb⟩, hoa, hob⟩
/-- Where the fields stand: each behind the one ahead of it. -/
def inRow (P : Program) : Nat → List Field → Bool
  | _, [] => true
  | o, f :: fs => f.offset == o && inRow P (o + P.cellsOf f.type) fs
def total (P : Program) (fs : List Field) : Nat := (fs.map fun f => P.cellsOf f.type).sum
theorem chunks_of {H : Type} (enc : TypeId × Value → H) (w : World) (base : Nat) (spare : Nat → Bool) (held : Bool) (fuel : Nat) : ∀ (fs : List Field) (o : Nat) (cs : List Value) (xs : List (DataW H × List MemPlace)),
    inRow P o fs = true → cs.length = o + total P fs → (fs.mapM fun f => DataW.trod enc P w base spare held fuel f.type ((cs.drop f.offset).take (P.cellsOf f.type))) = some xs →
    Chunks enc P w base spare held fuel (fs.map (·.type)) (cs.drop o) (xs.map (·.1))
  | [], o, cs, xs, _, hl, hm => by
    simp [total] at hl
    simp at hm
    subst hm
    simp [Chunks, ← hl]
  | f :: fs, o, cs, xs, hr, hl, hm => by
    simp only [inRow, Bool.and_eq_true, beq_iff_eq] at hr
    obtain ⟨hfo, hr⟩ := hr
    rw [List.mapM_cons] at hm
    cases h1 : DataW.trod enc P w base spare held fuel f.type ((cs.drop f.offset).take (P.cellsOf f.type)) with
    | none => rw [h1] at hm; simp at hm
    | some y =>
      rw [h1] at hm
      cases h2 : (fs.mapM fun f => DataW.trod enc P w base spare held fuel f.type ((cs.drop f.offset).take (P.cellsOf f.type))) with
      | none => rw [h2] at hm; simp at hm
      | some ys =>
        rw [h2] at hm
        simp at hm
        subst hm
        have ih := chunks_of enc w base spare held fuel fs (o + P.cellsOf f.type) cs ys hr (by rw [hl]; simp [total]; omega) h2
        refine ⟨⟨y.2, ?_⟩, ?_⟩
        · rw [← hfo]; exact h1
        · rw [List.drop_drop]; exact ih
theorem opens_struct {t : TypeId} {fs : Array Field} {α S : Type} {d : Kd α} {OK : α → Prop} (ht : P.underlying t = some (.struct fs)) (hr : inRow P 0 fs.toList = true) (hc : P.cellsOf t = total P fs.toList)
    (h : OpensAll P (fs.toList.map (·.type)) d OK) (f : S → α) (g : α → S) (hfg : ∀ a, f (g a) = a) : Opens P t (Kd.iso d f) (fun s => OK (f s)) := by
  intro H enc w base spare held fuel cs x ps hx hs
  cases fuel with
  | zero => simp [DataW.trod] at hx
  | succ n =>
    obtain ⟨xs, m, hm, hxe, hl, hall⟩ : ∃ (xs : List (DataW H × List MemPlace)) (m : Nat), n = m ∧ x = .agg (xs.map (·.1)) ∧ cs.length = P.cellsOf t ∧ (fs.toList.mapM fun f => DataW.trod enc P w base spare held m f.type ((cs.drop f.offset).take (P.cellsOf f.type))) = some xs := by
      unfold DataW.trod at hx
      rw [ht] at hx
      split at hx <;> simp_all
      obtain ⟨hl, hx⟩ := hx
      obtain ⟨xs, h1, h2, h3⟩ := hx
      exact ⟨xs, h2.symm, h1⟩
    subst hm
    subst hxe
    have hch := chunks_of (P := P) enc w base spare held n fs.toList 0 cs xs hr (by rw [hl, hc]; omega) hall
    obtain ⟨a, ha, hoa⟩ := h enc w base spare held n cs _ (by simpa using hch) (fun q hq => hs q (by simpa [DataW.weights, ht] using hq))
    refine ⟨g a, ?_, ?_⟩
    · show d.K w (f (g a)) cs
      rw [hfg]; exact ha
    · show OK (f (g a))
      rw [hfg]; exact hoa
theorem weights_of {H : Type} {ts : List TypeId} {ds : List (DataW H)} (h : (DataW.weightsEach P ts ds).all (· ≤ reachBytes) = true) {j : Nat} {t : TypeId} {d : DataW H} (ht : ts[j]? = some t) (hd : ds[j]? = some d) : ∀ n ∈ d.weights P t, n ≤ reachBytes :=
  fun n hn => by simpa using List.all_eq_true.1 h _ (DataW.weights_mem_each ht hd n hn)
end
end Go.OB
end
section
namespace Go.Proofs.Ytddnlnjmikcgfaa.PC
open Go.RowKit Go.WB.PrintWords Go.WB.PrintLast Go.WB.PrintMore
def ok_T25 (x : S25) : Prop := (Lit.int .i64 x.f0).wf = true ∧ (Lit.int .i64 x.f1).wf = true
def ok_T28 (x : S28) : Prop := ok_T25 x.f0 ∧ (Lit.int .i64 x.f1).wf = true ∧ (x.f2.length ≤ maxLen ∧ x.f2.length * 8 ≤ 140737488351232 ∧ ∀ a ∈ x.f2, (Lit.int .i64 a).wf = true) ∧ (Lit.int .i64 x.f3).wf = true ∧ ok_T25 x.f4 ∧ ok_T25 x.f5 ∧ x.f6.size ≤ 140737488351232 ∧ (Lit.int .i64 x.f7).wf = true ∧ (Lit.int .i64 x.f8).wf = true
def ok_T31 (x : S31) : Prop := ok_T28 x.f0 ∧ (x.f1.length ≤ maxLen ∧ x.f1.length * 1 ≤ 140737488351232 ∧ ∀ a ∈ x.f1, (Lit.int .u8 a).wf = true)
def cz.Pure : Prop := ∀ (l0 : List (S31)), (l0.length ≤ maxLen ∧ l0.length * 144 ≤ 140737488351232 ∧ ∀ a ∈ l0, ok_T31 a) → ∃ k, cz.f k l0 = some true
end Go.Proofs.Ytddnlnjmikcgfaa.PC
end
section
set_option linter.unusedVariables false
set_option linter.unusedSimpArgs false
namespace Go.Proofs.Ytddnlnjmikcgfaa.PC
open Go.RowKit Go.WB.PrintWords Go.WB.PrintLast Go.WB.PrintMore
theorem lM {x : Int} (h0 : -9223372036854775808 ≤ x) (h1 : x < 9223372036854775808) : wrap64 x = x := by unfold wrap64; omega
theorem w64s {x : Int} (h0 : 0 ≤ x) (h1 : x < 9223372036854775807) : wrap64 (x + 1) = x + 1 := lM (by omega) (by omega)
theorem rd_nat (l : List Int) (i : Nat) (h : i < l.length) : rd l (i : Int) = l[i] := by simp [rd, h]
theorem take_succ' {α : Type} (l : List α) (i : Nat) (h : i < l.length) : l.take (i + 1) = l.take i ++ [l[i]] := by
  rw [List.take_succ_eq_append_getElem h]
theorem copyBytes_L (l : List Int) (hl : l.length < 140737488355328) : ∀ (d i : Nat), i ≤ l.length → l.length - i = d → az.L0 l (l.take i) (i : Int) = some l := by
  intro d
  induction d with
  | zero =>
    intro i hi hd
    rw [az.ky, if_neg (by omega), List.take_of_length_le (by omega)]
  | succ d ih =>
    intro i hi hd
    rw [az.ky, if_pos (by omega), if_pos (by omega), if_pos (by rw [List.length_take]; omega), w64s (by omega) (by omega), rd_nat l i (by omega), ← take_succ' l i (by omega)]
    exact ih (i + 1) (by omega) (by omega)
theorem copyBytes (l : List Int) (hl : l.length < 140737488355328) : az.F l = some l := by
  rw [az.jQ]
  exact copyBytes_L l hl l.length 0 (by omega) (by omega)
theorem eqBytes_L (a b : List Int) (hab : a.length = b.length) (hl : a.length < 9223372036854775807) : ∀ (d i : Nat), i ≤ a.length → a.length - i = d → aK.L0 a b (i : Int) = some (decide (a.drop i = b.drop i)) := by
  intro d
  induction d with
  | zero =>
    intro i hi hd
    rw [aK.ky, if_neg (by omega), List.drop_of_length_le (by omega), List.drop_of_length_le (by omega)]
    simp
  | succ d ih =>
    intro i hi hd
    have ha : i < a.length := by omega
    have hb : i < b.length := by omega
    rw [aK.ky, if_pos (by omega), if_pos (by omega), if_pos (by omega), rd_nat a i ha, rd_nat b i hb, w64s (by omega) (by omega), List.drop_eq_getElem_cons ha, List.drop_eq_getElem_cons hb]
    by_cases h : a[i] = b[i]
    · rw [if_pos h, show ((i : Int) + 1) = ((i + 1 : Nat) : Int) from rfl, ih (i + 1) (by omega) (by omega)]
      exact congrArg some (decide_eq_decide.2 (by rw [List.cons.injEq]; exact ⟨fun e => ⟨h, e⟩, fun e => e.2⟩))
    · rw [if_neg h]
      exact congrArg some (decide_eq_false (fun e => h (List.cons.inj e).1)).symm
theorem eqBytes (a b : List Int) (hl : a.length < 9223372036854775807) : aK.F a b = some (decide (a = b)) := by
  rw [aK.jQ]
  by_cases h : a.length = b.length
  · rw [if_pos (by omega)]
    exact eqBytes_L a b h hl a.length 0 (by omega) (by omega)
  · rw [if_neg (by omega)]
    have : ¬ a = b := fun e => h (by rw [e])
    simp [this]
theorem eqNumbers_L (a b : List Int) (hab : a.length = b.length) (hl : a.length < 9223372036854775807) : ∀ (d i : Nat), i ≤ a.length → a.length - i = d → aM.L0 a b (i : Int) = some (decide (a.drop i = b.drop i)) := by
  intro d
  induction d with
  | zero =>
    intro i hi hd
    rw [aM.ky, if_neg (by omega), List.drop_of_length_le (by omega), List.drop_of_length_le (by omega)]
    simp
  | succ d ih =>
    intro i hi hd
    have ha : i < a.length := by omega
    have hb : i < b.length := by omega
    rw [aM.ky, if_pos (by omega), if_pos (by omega), if_pos (by omega), rd_nat a i ha, rd_nat b i hb, w64s (by omega) (by omega), List.drop_eq_getElem_cons ha, List.drop_eq_getElem_cons hb]
    by_cases h : a[i] = b[i]
    · rw [if_pos h, show ((i : Int) + 1) = ((i + 1 : Nat) : Int) from rfl, ih (i + 1) (by omega) (by omega)]
      exact congrArg some (decide_eq_decide.2 (by rw [List.cons.injEq]; exact ⟨fun e => ⟨h, e⟩, fun e => e.2⟩))
    · rw [if_neg h]
      exact congrArg some (decide_eq_false (fun e => h (List.cons.inj e).1)).symm
theorem eqNumbers (a b : List Int) (hl : a.length < 9223372036854775807) : aM.F a b = some (decide (a = b)) := by
  rw [aM.jQ]
  by_cases h : a.length = b.length
  · rw [if_pos (by omega)]
    exact eqNumbers_L a b h hl a.length 0 (by omega) (by omega)
  · rw [if_neg (by omega)]
    have : ¬ a = b := fun e => h (by rw [e])
    simp [this]
def eH (n : Nat) : List Int := if h : n < 128 then [(n : Int)] else ((n % 128 + 128 : Nat) : Int) :: eH (n / 128)
 termination_by n
 decreasing_by omega
theorem enc_small {n : Nat} (h : n < 128) : eH n = [(n : Int)] := by rw [eH, dif_pos h]
theorem enc_big {n : Nat} (h : ¬ n < 128) : eH n = ((n % 128 + 128 : Nat) : Int) :: eH (n / 128) := by rw [eH, dif_neg h]
theorem enc_length_pos (n : Nat) : 0 < (eH n).length := by
  by_cases h : n < 128
  · simp [enc_small h]
  · simp [enc_big h]
theorem enc_length (n : Nat) : ∀ m, n < 128 ^ m → 0 < m → (eH n).length ≤ m := by
  induction n using Nat.strongRecOn with
  | _ n ih =>
    intro m hm h0
    by_cases h : n < 128
    · simp [enc_small h]; omega
    · obtain ⟨q, rfl⟩ : ∃ q, m = q + 1 := ⟨m - 1, by omega⟩
      rw [Nat.pow_succ] at hm
      have hq : 0 < q := by
        rcases Nat.eq_zero_or_pos q with rfl | hq
        · simp at hm; omega
        · exact hq
      have := ih (n / 128) (by omega) q (Nat.div_lt_of_lt_mul (by rw [Nat.mul_comm]; exact hm)) hq
      rw [enc_big h]
      simp
      omega
theorem fG {n : Nat} (h : n ≤ 4611686018427387904) : (eH n).length ≤ 9 := enc_length n 9 (by omega) (by omega)
theorem put_L : ∀ (n : Nat) (acc : List Int), n ≤ 4611686018427387904 → acc.length + (eH n).length < 140737488355328 → bI.L0 acc (n : Int) = some (acc ++ eH n) := by
  intro n
  induction n using Nat.strongRecOn with
  | _ n ih =>
    intro acc hn hl
    have := enc_length_pos n
    rw [bI.ky]
    by_cases h : n < 128
    · rw [if_neg (by omega), if_pos (by omega), enc_small h, Int.emod_eq_of_lt (by omega) (by omega)]
    · rw [enc_big h] at hl ⊢
      simp only [List.length_cons] at hl
      rw [if_pos (by omega), if_pos (by omega)]
      have e1 : bits .or .u8 ((n : Int) % 256) 128 = ((n % 128 + 128 : Nat) : Int) := by
        by_cases hb : (n : Int) % 256 < 128
        · rw [u8_or128_right _ (by omega) hb]; omega
        · have e2 : (n : Int) % 256 = 128 + ((n % 128 : Nat) : Int) := by omega
          have hx : n % 256 < 256 := by omega
          have e3 := (bits_nat .u8 8 (by decide) wraps_u8 (n % 256) 128 (by omega) (by decide)).2
          rw [show ((n : Int) % 256) = ((n % 256 : Nat) : Int) by omega, show (128 : Int) = ((128 : Nat) : Int) from rfl, e3]
          have e4 : n % 256 ||| 128 = n % 256 := by
            have e5 : n % 256 = 2 ^ 7 * 1 + n % 128 := by omega
            rw [e5, Nat.two_pow_add_eq_or_of_lt (by omega) 1]
            apply Nat.eq_of_testBit_eq
            intro i
            simp only [Nat.testBit_or]
            cases Nat.testBit (2 ^ 7 * 1) i <;> cases Nat.testBit (n % 128) i <;> cases h : Nat.testBit 128 i <;> simp_all
          rw [e4]; omega
      rw [e1, show (n : Int) / 128 = ((n / 128 : Nat) : Int) by omega, ih (n / 128) (by omega) _ (by omega) (by simp; omega)]
      simp
theorem put_F (n : Nat) (acc : List Int) (hn : n ≤ 4611686018427387904) (hl : acc.length + (eH n).length < 140737488355328) : bI.F acc (n : Int) = some (acc ++ eH n) := by
  rw [bI.jQ]; exact put_L n acc hn hl
theorem bits_or_comm (k : IntKind) (x y : Int) : bits .or k x y = bits .or k y x := by
  unfold bits
  simp only [BitVec.or_comm]
theorem wraps_i64 (n : Int) (h₀ : 0 ≤ n) (h₁ : n < 2 ^ 63) : IntKind.i64.wrap n = n := by rw [IntKind.wrap_i64]; omega
theorem wraps_u64 (n : Int) (h₀ : 0 ≤ n) (h₁ : n < 2 ^ 64) : IntKind.u64.wrap n = n := by
  simp [IntKind.wrap, IntKind.bits, IntKind.signed]
  omega
theorem and127 (c : Int) (h0 : 0 ≤ c) (h1 : c < 256) : bits .and .u8 c 127 = c % 128 := bits_mask .u8 8 (by decide) wraps_u8 7 (by decide) c h0 h1
theorem pow128 (i : Nat) : 128 ^ i = 2 ^ (7 * i) := by rw [Nat.pow_mul]
theorem pow128_le {i : Nat} (h : i ≤ 8) : 128 ^ i ≤ 72057594037927936 := Nat.le_trans (Nat.pow_le_pow_right (by decide) h) (by decide)
theorem shl_i64 (c : Int) (i : Nat) (hi : i ≤ 8) (h0 : 0 ≤ c) (h1 : c < 128) : shl .i64 c (7 * (i : Int)) = c * (128 ^ i : Nat) := by
  have hp := pow128_le hi
  have hp0 : 0 < 128 ^ i := Nat.pow_pos (by decide)
  unfold shl
  have e1 : min (7 * (i : Int)).toNat IntKind.i64.bits = 7 * i := by
    have : IntKind.i64.bits = 64 := rfl
    omega
  rw [e1]
  have e2 : ((2 : Int) ^ (7 * i)) = ((128 ^ i : Nat) : Int) := by rw [pow128]; simp
  rw [e2]
  obtain ⟨q, rfl⟩ := Int.eq_ofNat_of_zero_le h0
  have hq : q * 128 ^ i ≤ 127 * 72057594037927936 := Nat.mul_le_mul (by omega) hp
  exact wraps_i64 _ (by rw [← Int.natCast_mul]; exact Int.natCast_nonneg _) (by rw [← Int.natCast_mul]; omega)
theorem shl_u64 (c : Int) (i : Nat) (hi : i ≤ 8) (h0 : 0 ≤ c) (h1 : c < 128) : shl .u64 c (7 * (i : Int)) = c * (128 ^ i : Nat) := by
  have hp := pow128_le hi
  have hp0 : 0 < 128 ^ i := Nat.pow_pos (by decide)
  unfold shl
  have e1 : min (7 * (i : Int)).toNat IntKind.u64.bits = 7 * i := by
    have : IntKind.u64.bits = 64 := rfl
    omega
  rw [e1]
  have e2 : ((2 : Int) ^ (7 * i)) = ((128 ^ i : Nat) : Int) := by rw [pow128]; simp
  rw [e2]
  obtain ⟨q, rfl⟩ := Int.eq_ofNat_of_zero_le h0
  have hq : q * 128 ^ i ≤ 127 * 72057594037927936 := Nat.mul_le_mul (by omega) hp
  exact wraps_u64 _ (by rw [← Int.natCast_mul]; exact Int.natCast_nonneg _) (by rw [← Int.natCast_mul]; omega)
theorem or_shift (k : IntKind) (j : Nat) (hj : j ≤ k.bits) (hk : ∀ n : Int, 0 ≤ n → n < 2 ^ j → k.wrap n = n) (hj63 : 63 ≤ j) (n q i : Nat) (hi : i ≤ 8) (hn : n < 128 ^ i) (hq : q < 128) :
    bits .or k (n : Int) ((q : Int) * (128 ^ i : Nat)) = ((n + q * 128 ^ i : Nat) : Int) := by
  have hp := pow128_le hi
  have hb : q * 128 ^ i ≤ 127 * 72057594037927936 := Nat.mul_le_mul (by omega) hp
  have h63 : (2 : Int) ^ 63 ≤ 2 ^ j := by exact_mod_cast Nat.pow_le_pow_right (show 0 < 2 by decide) hj63
  rw [bits_or_comm, bits_join k j hj hk (7 * i) ((q : Int) * (128 ^ i : Nat)) (n : Int)]
  · rw [← Int.natCast_mul]; omega
  · rw [← Int.natCast_mul]; exact Int.natCast_nonneg _
  · rw [pow128]
    exact_mod_cast Nat.mul_mod_left q (2 ^ (7 * i))
  · rw [← Int.natCast_mul]
    have : ((q * 128 ^ i : Nat) : Int) < 2 ^ 63 := by omega
    omega
  · omega
  · rw [pow128] at hn
    exact_mod_cast hn
  · have : (n : Int) < 2 ^ 63 := by omega
    omega
/-- Which number the bytes from here on tell, n being what the i bytes ahead have told. -/
def tk : List Int → Nat → Nat → Int × Int × Int
  | [], _, _ => (0, 0, 7)
  | c :: r, n, i => if 128 ≤ c then (if i = 8 then (0, 0, 1) else tk r (n + (c.toNat - 128) * 128 ^ i) (i + 1))
    else if (c = 0 ∧ 0 < i) ∨ 4611686018427387904 < n + c.toNat * 128 ^ i then (0, 0, 1) else (((n + c.toNat * 128 ^ i : Nat) : Int), (i : Int) + 1, 0)
def eO (l : List Int) : Prop := ∀ x ∈ l, 0 ≤ x ∧ x < 256
theorem step_lt {n q i : Nat} (hn : n < 128 ^ i) (hq : q < 128) : n + q * 128 ^ i < 128 ^ (i + 1) := by
  rw [Nat.pow_succ]
  have : q * 128 ^ i ≤ 127 * 128 ^ i := Nat.mul_le_mul_right _ (by omega)
  omega
theorem takeNum_L (l : List Int) (hb : eO l) (hl : l.length < 4611686018427387904) : ∀ (d i n : Nat), i ≤ l.length → l.length - i = d → i ≤ 8 → n < 128 ^ i →
    ak.L0 l (n : Int) (i : Int) = some (tk (l.drop i) n i) := by
  intro d
  induction d with
  | zero =>
    intro i n hi hd h8 hn
    rw [ak.ky, if_pos (by omega), List.drop_of_length_le (by omega)]
    rfl
  | succ d ih =>
    intro i n hi hd h8 hn
    have hil : i < l.length := by omega
    obtain ⟨c0, c1⟩ := hb l[i] (List.getElem_mem hil)
    rw [ak.ky, if_neg (by omega), if_pos (by omega), if_pos (by omega), rd_nat l i hil, List.drop_eq_getElem_cons hil]
    have hs : wrap64 (7 * (i : Int)) = 7 * (i : Int) := lM (by omega) (by omega)
    have hm : wrap64 (bits .and .u8 l[i] 127) = ((l[i].toNat % 128 : Nat) : Int) := by rw [and127 _ c0 c1, lM (by omega) (by omega)]; omega
    have ho : bits .or .i64 (n : Int) (shl .i64 (wrap64 (bits .and .u8 l[i] 127)) (wrap64 (7 * (i : Int)))) = ((n + l[i].toNat % 128 * 128 ^ i : Nat) : Int) := by
      rw [hm, hs, shl_i64 _ i h8 (by omega) (by omega)]
      exact or_shift .i64 63 (by decide) wraps_i64 (by decide) n _ i h8 hn (by omega)
    have hi8 : ((i : Int) == 8) = decide (i = 8) := by
      by_cases h : i = 8
      · subst h; rfl
      · simp [h]; omega
    have hJ : ∀ b, b = false → ak.J1 l (n : Int) (i : Int) b = (if l[i] ≥ 128 then ak.L0 l ((n + l[i].toNat % 128 * 128 ^ i : Nat) : Int) ((i : Int) + 1) else
        some (if (l[i] = 0 ∧ 0 < i) ∨ 4611686018427387904 < n + l[i].toNat % 128 * 128 ^ i then (0, 0, 1) else (((n + l[i].toNat % 128 * 128 ^ i : Nat) : Int), (i : Int) + 1, 0))) := by
      rintro b rfl
      rw [ak.J1_eq, if_neg (by simp), if_pos (by omega), if_pos (by omega), if_pos (by rw [hs]; omega), rd_nat l i hil, ho, w64s (by omega) (by omega)]
      by_cases hc : l[i] ≥ 128
      · rw [if_pos hc, if_pos hc]
      · rw [if_neg hc, if_neg hc]
        by_cases hz : l[i] = 0
        · rw [if_pos hz]
          by_cases hi0 : (i : Int) > 0
          · rw [if_pos hi0, ak.J2_eq, if_pos rfl, if_pos (.inl ⟨hz, by omega⟩)]
          · rw [if_neg hi0, ak.J2_eq, w64s (by omega) (by omega)]
            by_cases hq : 4611686018427387904 < n + l[i].toNat % 128 * 128 ^ i
            · rw [if_pos (decide_eq_true (by omega)), if_pos (.inr hq)]
            · rw [if_neg (by rw [decide_eq_true_eq]; omega), if_neg (by omega)]
        · rw [if_neg hz, ak.J2_eq, w64s (by omega) (by omega)]
          by_cases hq : 4611686018427387904 < n + l[i].toNat % 128 * 128 ^ i
          · rw [if_pos (decide_eq_true (by omega)), if_pos (.inr hq)]
          · rw [if_neg (by rw [decide_eq_true_eq]; omega), if_neg (by omega)]
    unfold tk
    by_cases hc : l[i] ≥ 128
    · rw [if_pos hc, if_pos (show 128 ≤ l[i] from hc), hi8]
      by_cases h : i = 8
      · rw [if_pos h, ak.J1_eq, if_pos (by simp [h])]
      · rw [if_neg h, hJ _ (by simp [h]), if_pos hc, show ((i : Int) + 1) = ((i + 1 : Nat) : Int) from rfl, ih (i + 1) _ (by omega) (by omega) (by omega) (step_lt hn (by omega)),
          show l[i].toNat % 128 = l[i].toNat - 128 by omega]
    · rw [if_neg hc, if_neg (show ¬ 128 ≤ l[i] by omega), hJ _ rfl, if_neg hc, show l[i].toNat % 128 = l[i].toNat by omega]
theorem takeNum (l : List Int) (hb : eO l) (hl : l.length < 4611686018427387904) : ak.F l = some (tk l 0 0) := by
  rw [ak.jQ]
  exact takeNum_L l hb hl l.length 0 0 (by omega) (by omega) (by omega) (by omega)
theorem refTakeNum_L (l : List Int) (hb : eO l) (hl : l.length < 4611686018427387904) : ∀ (d i n : Nat), i ≤ l.length → l.length - i = d → i ≤ 8 → n < 128 ^ i →
    ah.L0 l (n : Int) (i : Int) = some (tk (l.drop i) n i) := by
  intro d
  induction d with
  | zero =>
    intro i n hi hd h8 hn
    rw [ah.ky, if_pos (by omega), List.drop_of_length_le (by omega)]
    rfl
  | succ d ih =>
    intro i n hi hd h8 hn
    have hil : i < l.length := by omega
    obtain ⟨c0, c1⟩ := hb l[i] (List.getElem_mem hil)
    have hs : wrap64 (7 * (i : Int)) = 7 * (i : Int) := lM (by omega) (by omega)
    have hm : IntKind.u64.wrap (bits .and .u8 l[i] 127) = ((l[i].toNat % 128 : Nat) : Int) := by rw [and127 _ c0 c1, wraps_u64 _ (by omega) (by omega)]; omega
    have ho : bits .or .u64 (n : Int) (shl .u64 (IntKind.u64.wrap (bits .and .u8 l[i] 127)) (wrap64 (7 * (i : Int)))) = ((n + l[i].toNat % 128 * 128 ^ i : Nat) : Int) := by
      rw [hm, hs, shl_u64 _ i h8 (by omega) (by omega)]
      exact or_shift .u64 64 (by decide) wraps_u64 (by decide) n _ i h8 hn (by omega)
    rw [ah.ky, if_neg (by omega), if_pos (by omega), if_pos (by omega), if_pos (by rw [hs]; omega), rd_nat l i hil, List.drop_eq_getElem_cons hil, ho, w64s (by omega) (by omega)]
    have hlt := step_lt (q := l[i].toNat % 128) hn (by omega)
    have hp := pow128_le h8
    rw [Nat.pow_succ] at hlt
    have hJ : ∀ b : Bool, ah.J1 ((n + l[i].toNat % 128 * 128 ^ i : Nat) : Int) (i : Int) b = some (if b = true then (0, 0, 1) else (((n + l[i].toNat % 128 * 128 ^ i : Nat) : Int), (i : Int) + 1, 0)) := by
      intro b
      rw [ah.J1_eq]
      by_cases h : b = true
      · rw [if_pos h, if_pos h]
      · rw [if_neg h, if_neg h, w64s (by omega) (by omega), lM (by omega) (by omega)]
    unfold tk
    by_cases hc : l[i] ≥ 128
    · rw [if_pos hc, if_pos (show 128 ≤ l[i] from hc)]
      by_cases h : i = 8
      · rw [if_pos h, if_pos (by omega)]
      · rw [if_neg h, if_neg (by omega), show ((i : Int) + 1) = ((i + 1 : Nat) : Int) from rfl, ih (i + 1) _ (by omega) (by omega) (by omega) (step_lt hn (by omega)),
          show l[i].toNat % 128 = l[i].toNat - 128 by omega]
    · rw [if_neg hc, if_neg (show ¬ 128 ≤ l[i] by omega)]
      have e128 : l[i].toNat % 128 = l[i].toNat := by omega
      simp only [hJ]
      rw [e128]
      by_cases hz : l[i] = 0
      · rw [if_pos hz]
        by_cases hi0 : (i : Int) > 0
        · rw [if_pos hi0, if_pos trivial, if_pos (.inl ⟨hz, by omega⟩)]
        · rw [if_neg hi0]
          by_cases hq : 4611686018427387904 < n + l[i].toNat * 128 ^ i
          · rw [if_pos (by rw [decide_eq_true_eq]; omega), if_pos (.inr hq)]
          · rw [if_neg (by rw [decide_eq_true_eq]; omega), if_neg (by omega)]
      · rw [if_neg hz]
        by_cases hq : 4611686018427387904 < n + l[i].toNat * 128 ^ i
        · rw [if_pos (by rw [decide_eq_true_eq]; omega), if_pos (.inr hq)]
        · rw [if_neg (by rw [decide_eq_true_eq]; omega), if_neg (by omega)]
theorem refTakeNum (l : List Int) (hb : eO l) (hl : l.length < 4611686018427387904) : ah.F l = some (tk l 0 0) := by
  rw [ah.jQ]
  exact refTakeNum_L l hb hl l.length 0 0 (by omega) (by omega) (by omega) (by omega)
theorem eO.drop {l : List Int} (h : eO l) (i : Nat) : eO (l.drop i) := fun x hx => h x (List.mem_of_mem_drop hx)
theorem eO.take {l : List Int} (h : eO l) (i : Nat) : eO (l.take i) := fun x hx => h x (List.mem_of_mem_take hx)
theorem eO.append {l m : List Int} (h : eO l) (k : eO m) : eO (l ++ m) := fun x hx => (List.mem_append.1 hx).elim (h x) (k x)
theorem tk_ok : ∀ (l : List Int) (n i : Nat), (tk l n i).2.2 = 0 → 0 ≤ (tk l n i).1 ∧ (tk l n i).1 ≤ 4611686018427387904 ∧ (i : Int) + 1 ≤ (tk l n i).2.1 ∧ (tk l n i).2.1 ≤ i + l.length
  | [], n, i, h => by simp [tk] at h
  | c :: r, n, i, h => by
    unfold tk at h ⊢
    by_cases h1 : 128 ≤ c
    · rw [if_pos h1] at h ⊢
      by_cases h2 : i = 8
      · rw [if_pos h2] at h
        simp at h
      · rw [if_neg h2] at h ⊢
        have := tk_ok r _ _ h
        simp only [List.length_cons]
        exact ⟨this.1, this.2.1, by omega, by omega⟩
    · rw [if_neg h1] at h ⊢
      by_cases h2 : (c = 0 ∧ 0 < i) ∨ 4611686018427387904 < n + c.toNat * 128 ^ i
      · rw [if_pos h2] at h
        simp at h
      · rw [if_neg h2]
        have h3 : ¬ 4611686018427387904 < n + c.toNat * 128 ^ i := fun h => h2 (.inr h)
        simp only [List.length_cons]
        omega
def iY (l : List Int) : ByteArray × Int × Int :=
  if (tk l 0 0).2.2 = 0 then (if (tk l 0 0).1 > 65536 then ((⟨#[]⟩ : ByteArray), 0, 1) else (if (tk l 0 0).1 > (l.length : Int) - (tk l 0 0).2.1 then ((⟨#[]⟩ : ByteArray), 0, 7) else
    (strOfNums ((l.take ((tk l 0 0).2.1 + (tk l 0 0).1).toNat).drop (tk l 0 0).2.1.toNat), (tk l 0 0).2.1 + (tk l 0 0).1, 0))) else ((⟨#[]⟩ : ByteArray), 0, (tk l 0 0).2.2)
theorem takeText (l : List Int) (hb : eO l) (hl : l.length < 4611686018427387904) : d9.F l = some (iY l) := by
  rw [d9.jQ, takeNum l hb hl, Option.bind_some]
  unfold iY
  by_cases h : (tk l 0 0).2.2 = 0
  · obtain ⟨h1, h2, h3, h4⟩ := tk_ok l 0 0 h
    rw [if_pos h, if_pos h]
    by_cases hm : (tk l 0 0).1 > 65536
    · rw [if_pos hm, if_pos hm]
    · rw [if_neg hm, if_neg hm, lM (x := (l.length : Int) - (tk l 0 0).2.1) (by omega) (by omega)]
      by_cases hc : (tk l 0 0).1 > (l.length : Int) - (tk l 0 0).2.1
      · rw [if_pos hc, if_pos hc]
      · rw [if_neg hc, if_neg hc, lM (by omega) (by omega), if_pos (by omega), if_pos (by omega), if_pos (by omega)]
  · rw [if_neg h, if_neg h]
theorem refTakeText (l : List Int) (hb : eO l) (hl : l.length < 4611686018427387904) : bz.F l = some (iY l) := by
  rw [bz.jQ, refTakeNum l hb hl, Option.bind_some]
  unfold iY
  by_cases h : (tk l 0 0).2.2 = 0
  · obtain ⟨h1, h2, h3, h4⟩ := tk_ok l 0 0 h
    rw [if_pos h, if_pos h]
    by_cases hm : (tk l 0 0).1 > 65536
    · rw [if_pos hm, if_pos hm]
    · rw [if_neg hm, if_neg hm, lM (x := (l.length : Int) - (tk l 0 0).2.1) (by omega) (by omega)]
      by_cases hc : (tk l 0 0).1 > (l.length : Int) - (tk l 0 0).2.1
      · rw [if_pos hc, if_pos hc]
      · rw [if_neg hc, if_neg hc, lM (by omega) (by omega), if_pos (by omega), if_pos (by omega), if_pos (by omega)]
  · rw [if_neg h, if_neg h]
def tkNs (l : List Int) : Nat → Int → List Int → List Int × Int × Int
  | 0, k, acc => (acc, k, 0)
  | m + 1, k, acc => if (tk (l.drop k.toNat) 0 0).2.2 = 0 then tkNs l m (k + (tk (l.drop k.toNat) 0 0).2.1) (acc ++ [(tk (l.drop k.toNat) 0 0).1]) else ([], 0, (tk (l.drop k.toNat) 0 0).2.2)
def kM (l : List Int) : List Int × Int × Int :=
  if (tk l 0 0).2.2 = 0 then (if (tk l 0 0).1 > 1024 then ([], 0, 1) else tkNs l (tk l 0 0).1.toNat (tk l 0 0).2.1 []) else ([], 0, (tk l 0 0).2.2)
theorem takeNums_L (l : List Int) (hb : eO l) (hl : l.length < 4611686018427387904) (many : Nat) (hm : many ≤ 1024) : ∀ (d j : Nat) (k : Int) (acc : List Int), j ≤ many → many - j = d → 0 ≤ k → k ≤ l.length → acc.length + d < 17592186044416 →
    bB.L0 l acc k many j = some (tkNs l d k acc) := by
  intro d
  induction d with
  | zero =>
    intro j k acc hj hd h0 h1 ha
    rw [bB.ky, if_neg (by omega)]
    rfl
  | succ d ih =>
    intro j k acc hj hd h0 h1 ha
    have hdl : (l.drop k.toNat).length < 4611686018427387904 := by rw [List.length_drop]; omega
    rw [bB.ky, if_pos (by omega), if_pos h0, if_pos h1, takeNum _ (hb.drop _) hdl, Option.bind_some, tkNs]
    by_cases h : (tk (l.drop k.toNat) 0 0).2.2 = 0
    · obtain ⟨a1, a2, a3, a4⟩ := tk_ok _ 0 0 h
      rw [List.length_drop] at a4
      rw [if_pos h, if_pos h, if_pos (by omega), lM (by omega) (by omega), w64s (by omega) (by omega)]
      exact ih (j + 1) _ _ (by omega) (by omega) (by omega) (by omega) (by simp; omega)
    · rw [if_neg h, if_neg h]
theorem takeNums (l : List Int) (hb : eO l) (hl : l.length < 4611686018427387904) : bB.F l = some (kM l) := by
  rw [bB.jQ, takeNum l hb hl, Option.bind_some]
  unfold kM
  by_cases h : (tk l 0 0).2.2 = 0
  · obtain ⟨h1, h2, h3, h4⟩ := tk_ok l 0 0 h
    rw [if_pos h, if_pos h]
    by_cases hm : (tk l 0 0).1 > 1024
    · rw [if_pos hm, if_pos hm]
    · rw [if_neg hm, if_neg hm]
      have e : (tk l 0 0).1 = (((tk l 0 0).1.toNat : Nat) : Int) := by omega
      have := takeNums_L l hb hl (tk l 0 0).1.toNat (by omega) (tk l 0 0).1.toNat 0 (tk l 0 0).2.1 [] (by omega) (by omega) (by omega) (by omega) (by simp; omega)
      rw [← e] at this
      exact this
  · rw [if_neg h, if_neg h]
theorem refTakeNums_L (l : List Int) (hb : eO l) (hl : l.length < 4611686018427387904) (many : Nat) (hm : many ≤ 1024) : ∀ (d j : Nat) (k : Int) (acc : List Int), j ≤ many → many - j = d → 0 ≤ k → k ≤ l.length → acc.length + d < 17592186044416 →
    aV.L0 l many k acc j = some (tkNs l d k acc) := by
  intro d
  induction d with
  | zero =>
    intro j k acc hj hd h0 h1 ha
    rw [aV.ky, if_neg (by omega)]
    rfl
  | succ d ih =>
    intro j k acc hj hd h0 h1 ha
    have hdl : (l.drop k.toNat).length < 4611686018427387904 := by rw [List.length_drop]; omega
    rw [aV.ky, if_pos (by omega), if_pos h0, if_pos h1, refTakeNum _ (hb.drop _) hdl, Option.bind_some, tkNs]
    by_cases h : (tk (l.drop k.toNat) 0 0).2.2 = 0
    · obtain ⟨a1, a2, a3, a4⟩ := tk_ok _ 0 0 h
      rw [List.length_drop] at a4
      rw [if_pos h, if_pos h, if_pos (by omega), lM (by omega) (by omega), w64s (by omega) (by omega)]
      exact ih (j + 1) _ _ (by omega) (by omega) (by omega) (by omega) (by simp; omega)
    · rw [if_neg h, if_neg h]
theorem refTakeNums (l : List Int) (hb : eO l) (hl : l.length < 4611686018427387904) : aV.F l = some (kM l) := by
  rw [aV.jQ, refTakeNum l hb hl, Option.bind_some]
  unfold kM
  by_cases h : (tk l 0 0).2.2 = 0
  · obtain ⟨h1, h2, h3, h4⟩ := tk_ok l 0 0 h
    rw [if_pos h, if_pos h]
    by_cases hm : (tk l 0 0).1 > 1024
    · rw [if_pos hm, if_pos hm]
    · rw [if_neg hm, if_neg hm]
      have e : (tk l 0 0).1 = (((tk l 0 0).1.toNat : Nat) : Int) := by omega
      have := refTakeNums_L l hb hl (tk l 0 0).1.toNat (by omega) (tk l 0 0).1.toNat 0 (tk l 0 0).2.1 [] (by omega) (by omega) (by omega) (by omega) (by simp; omega)
      rw [← e] at this
      exact this
  · rw [if_neg h, if_neg h]
theorem tkNs_length (l : List Int) : ∀ (m : Nat) (k : Int) (acc : List Int), (tkNs l m k acc).1.length ≤ m + acc.length
  | 0, k, acc => by simp [tkNs]
  | m + 1, k, acc => by
    unfold tkNs
    split
    · have := tkNs_length l m (k + (tk (l.drop k.toNat) 0 0).2.1) (acc ++ [(tk (l.drop k.toNat) 0 0).1])
      simp at this
      omega
    · simp
theorem tkNums_length (l : List Int) : (kM l).1.length ≤ 1024 := by
  unfold kM
  split
  · split
    · simp
    · have := tkNs_length l (tk l 0 0).1.toNat (tk l 0 0).2.1 []
      simp at this
      omega
  · simp
theorem enc_bytes : ∀ n, eO (eH n) := by
  intro n
  induction n using Nat.strongRecOn with
  | _ n ih =>
    by_cases h : n < 128
    · rw [enc_small h]
      intro x hx
      simp at hx
      omega
    · rw [enc_big h]
      intro x hx
      rcases List.mem_cons.1 hx with h1 | h1
      · omega
      · exact ih (n / 128) (by omega) x h1
/-- What is written is taken, whatever stands behind it. -/
theorem tk_enc : ∀ (m n i : Nat) (rest : List Int), n + m * 128 ^ i ≤ 4611686018427387904 → i + (eH m).length ≤ 9 → (0 < i → 0 < m) →
    tk (eH m ++ rest) n i = (((n + m * 128 ^ i : Nat) : Int), ((i + (eH m).length : Nat) : Int), 0) := by
  intro m
  induction m using Nat.strongRecOn with
  | _ m ih =>
    intro n i rest h1 h2 h3
    by_cases h : m < 128
    · rw [enc_small h, List.cons_append, List.nil_append]
      unfold tk
      rw [if_neg (by omega), Int.toNat_natCast, if_neg (by
        intro hh
        rcases hh with ⟨a, b⟩ | a
        · have := h3 b
          omega
        · omega)]
      simp
    · rw [enc_big h] at h2 ⊢
      have hl := enc_length_pos (m / 128)
      simp only [List.length_cons] at h2
      rw [List.cons_append]
      unfold tk
      have e : ((m % 128 + 128 : Nat) : Int).toNat - 128 = m % 128 := by omega
      have e2 : n + m % 128 * 128 ^ i + m / 128 * 128 ^ (i + 1) = n + m * 128 ^ i := by
        have e3 : m * 128 ^ i = (128 * (m / 128) + m % 128) * 128 ^ i := by rw [Nat.div_add_mod]
        rw [e3, Nat.pow_succ, Nat.add_mul, Nat.mul_comm (128 ^ i) 128, ← Nat.mul_assoc, Nat.mul_comm (m / 128) 128]
        omega
      rw [if_pos (by omega), if_neg (by omega), e, ih (m / 128) (by omega) _ _ rest (by rw [e2]; exact h1) (by omega) (by omega), e2]
      simp only [List.length_cons]
      have e4 : i + 1 + (eH (m / 128)).length = i + ((eH (m / 128)).length + 1) := by omega
      rw [e4]
theorem tk_put (m : Nat) (rest : List Int) (h : m ≤ 4611686018427387904) : tk (eH m ++ rest) 0 0 = ((m : Int), ((eH m).length : Int), 0) := by
  have := tk_enc m 0 0 rest (by omega) (by have := fG h; omega) (by omega)
  simpa using this
/-- Cut off anywhere it is cut off. -/
theorem tk_cut : ∀ (m n i j : Nat), i + (eH m).length ≤ 9 → j < (eH m).length → tk ((eH m).take j) n i = (0, 0, 7) := by
  intro m
  induction m using Nat.strongRecOn with
  | _ m ih =>
    intro n i j h2 hj
    by_cases h : m < 128
    · rw [enc_small h] at hj ⊢
      have : j = 0 := by simp at hj; omega
      subst this
      rfl
    · rw [enc_big h] at h2 hj ⊢
      have hl := enc_length_pos (m / 128)
      simp only [List.length_cons] at h2 hj
      match j with
      | 0 => rfl
      | j + 1 =>
        rw [List.take_succ_cons]
        unfold tk
        rw [if_pos (by omega), if_neg (by omega)]
        exact ih (m / 128) (by omega) _ _ j (by omega) (by omega)
/-- What is taken was written so. -/
theorem tk_back : ∀ (l : List Int) (n i : Nat), eO l → (tk l n i).2.2 = 0 → ∃ m : Nat, (tk l n i).1 = ((n + m * 128 ^ i : Nat) : Int) ∧ (tk l n i).2.1 = ((i + (eH m).length : Nat) : Int) ∧ l.take (eH m).length = eH m ∧ (0 < i → 0 < m)
  | [], n, i, _, h => by simp [tk] at h
  | c :: r, n, i, hb, h => by
    have hc := hb c List.mem_cons_self
    have hr : eO r := fun x hx => hb x (List.mem_cons_of_mem _ hx)
    unfold tk at h ⊢
    by_cases h1 : 128 ≤ c
    · rw [if_pos h1] at h ⊢
      by_cases h2 : i = 8
      · rw [if_pos h2] at h
        simp at h
      · rw [if_neg h2] at h ⊢
        obtain ⟨m, e1, e2, e3, e4⟩ := tk_back r _ _ hr h
        have hm := e4 (by omega)
        have hbig : ¬ c.toNat - 128 + 128 * m < 128 := by omega
        have ed : (c.toNat - 128 + 128 * m) / 128 = m := by omega
        have em : (c.toNat - 128 + 128 * m) % 128 = c.toNat - 128 := by omega
        refine ⟨c.toNat - 128 + 128 * m, ?_, ?_, ?_, by omega⟩
        · rw [e1, Nat.pow_succ, Nat.add_mul, Nat.mul_comm (128 ^ i) 128, ← Nat.mul_assoc, Nat.mul_comm m 128]
          congr 1
          omega
        · rw [e2, enc_big hbig, ed]
          simp only [List.length_cons]
          congr 1
          omega
        · rw [enc_big hbig, ed, em, List.length_cons, List.take_succ_cons, e3]
          congr 1
          omega
    · rw [if_neg h1] at h ⊢
      by_cases h2 : (c = 0 ∧ 0 < i) ∨ 4611686018427387904 < n + c.toNat * 128 ^ i
      · rw [if_pos h2] at h
        simp at h
      · rw [if_neg h2]
        refine ⟨c.toNat, rfl, ?_, ?_, fun hi => ?_⟩
        · rw [enc_small (by omega)]
          simp
        · rw [enc_small (by omega)]
          simp
          omega
        · have h3 : ¬ (c = 0 ∧ 0 < i) := fun h => h2 (.inl h)
          omega
def jV (t r : Int) : Bool := decide (1 ≤ t ∧ t ≤ 1099511627776 ∧ 0 ≤ r ∧ r < 16)
def ja (t r : Int) : Bool := jV t r || (t == 0 && r == 0) || (t == 0 && r == 1)
theorem stampIs (t r : Int) : iX.f t r = some (jV t r) := by
  unfold iX.f jV
  split
  · split
    · split
      · exact congrArg some (decide_eq_decide.2 (by omega))
      · exact congrArg some (decide_eq_false (by omega)).symm
    · exact congrArg some (decide_eq_false (by omega)).symm
  · exact congrArg some (decide_eq_false (by omega)).symm
theorem refNum (a m : Int) : iI.f a m = some (decide (0 ≤ a ∧ a ≤ m)) := by
  unfold iI.f
  split
  · exact congrArg some (decide_eq_decide.2 (by omega))
  · exact congrArg some (decide_eq_false (by omega)).symm
theorem refStamp (t r : Int) : dC.f t r = some (jV t r) := by
  unfold dC.f jV
  rw [refNum]
  split
  · split
    · exact congrArg some (decide_eq_decide.2 (by omega))
    · exact congrArg some (decide_eq_false (by omega)).symm
  · exact congrArg some (decide_eq_false (by omega)).symm
theorem stampPlace (t r : Int) : fq.f t r = some (ja t r) := by
  unfold fq.f ja
  rw [stampIs]
  simp only [Option.bind_some, jd.f, kX.f]
  cases jV t r <;> simp
  split <;> simp_all
theorem refPlace (t r : Int) : cZ.f t r = some (ja t r) := by
  unfold cZ.f ja
  rw [refStamp]
  simp only [Option.bind_some, jM.f, jr.f]
  cases jV t r <;> simp
  split <;> simp_all
theorem or128 (q : Int) (h0 : 0 ≤ q) (h1 : q < 128) : bits .or .u8 q 128 = q + 128 := by
  rw [bits_or_comm, bits_join .u8 8 (by decide) wraps_u8 7 128 q (by decide) (by decide) (by decide) h0 h1 (by omega), Int.add_comm]
theorem and127_i64 (c : Int) (h0 : 0 ≤ c) (h1 : c < 9223372036854775808) : bits .and .i64 c 127 = c % 128 := bits_mask .i64 63 (by decide) wraps_i64 7 (by decide) c h0 h1
theorem refNum_L : ∀ (n : Nat) (acc : List Int), n ≤ 4611686018427387904 → acc.length + (eH n).length < 140737488355328 → aJ.L0 (n : Int) acc = some (acc ++ eH n) := by
  intro n
  induction n using Nat.strongRecOn with
  | _ n ih =>
    intro acc hn hl
    have hp := enc_length_pos n
    rw [aJ.ky]
    by_cases h : n < 128
    · rw [if_neg (by omega), if_pos (by omega), enc_small h]
      have : (n : Int) % 256 = n := by omega
      rw [this]
    · rw [enc_big h] at hl ⊢
      simp only [List.length_cons] at hl
      rw [if_pos (by omega), if_pos (by omega), and127_i64 _ (by omega) (by omega)]
      have e : (n : Int) % 128 % 256 = (n : Int) % 128 := by omega
      rw [e, or128 _ (by omega) (by omega)]
      have e1 : (n : Int) / 128 = ((n / 128 : Nat) : Int) := by omega
      have e2 : (n : Int) % 128 + 128 = ((n % 128 + 128 : Nat) : Int) := by omega
      rw [e1, e2, ih (n / 128) (by omega) _ (by omega) (by rw [List.length_append]; simp only [List.length_cons, List.length_nil]; omega)]
      simp
theorem refNum_F (n : Nat) (hn : n ≤ 4611686018427387904) : aJ.F (n : Int) = some (eH n) := by
  have := fG hn
  rw [aJ.jQ, refNum_L n [] hn (by simp; omega)]
  simp
theorem kC {t r : Int} (h : ja t r = true) : 0 ≤ t ∧ t ≤ 1099511627776 ∧ 0 ≤ r ∧ r < 16 := by
  unfold ja jV at h
  simp at h
  omega
def iG (t r : Int) : List Int := eH t.toNat ++ eH r.toNat
theorem iw {t r : Int} (h : ja t r = true) : (iG t r).length ≤ 18 := by
  have := kC h
  have h1 := fG (n := t.toNat) (by omega)
  have h2 := fG (n := r.toNat) (by omega)
  unfold iG
  rw [List.length_append]
  omega
theorem stampEnc_bytes (t r : Int) : eO (iG t r) := (enc_bytes _).append (enc_bytes _)
theorem refBytes {t r : Int} (h : ja t r = true) : bA.F t r = some (iG t r) := by
  have hr := kC h
  have hl := iw h
  unfold iG at hl
  rw [List.length_append] at hl
  have e1 : t = (t.toNat : Int) := by omega
  have e2 : r = (r.toNat : Int) := by omega
  rw [bA.jQ, e1, e2, refNum_F _ (by omega), Option.bind_some, refNum_F _ (by omega), Option.bind_some, if_pos (by omega)]
  rfl
theorem stampPut (acc : List Int) {t r : Int} (ht : 0 ≤ t ∧ t ≤ 4611686018427387904) (hr : 0 ≤ r ∧ r ≤ 4611686018427387904) (ha : acc.length < 140737488355000) : eu.F acc t r = some (acc ++ iG t r) := by
  have h1 := fG (n := t.toNat) (by omega)
  have h2 := fG (n := r.toNat) (by omega)
  have e1 : t = (t.toNat : Int) := by omega
  have e2 : r = (r.toNat : Int) := by omega
  rw [eu.jQ, e1, e2, put_F _ _ (by omega) (by omega), Option.bind_some, put_F _ _ (by omega) (by rw [List.length_append]; omega), Option.bind_some, List.append_assoc]
  rfl
def kw (l : List Int) : Int × Int × Int × Int :=
  if (tk l 0 0).2.2 = 0 then (if (tk (l.drop (tk l 0 0).2.1.toNat) 0 0).2.2 = 0 then
    (if ja (tk l 0 0).1 (tk (l.drop (tk l 0 0).2.1.toNat) 0 0).1 = true then ((tk l 0 0).1, (tk (l.drop (tk l 0 0).2.1.toNat) 0 0).1, (tk l 0 0).2.1 + (tk (l.drop (tk l 0 0).2.1.toNat) 0 0).2.1, 0) else (0, 0, 0, 1))
    else (0, 0, 0, (tk (l.drop (tk l 0 0).2.1.toNat) 0 0).2.2)) else (0, 0, 0, (tk l 0 0).2.2)
theorem stampTake (l : List Int) (hb : eO l) (hl : l.length < 4611686018427387904) : fZ.F l = some (kw l) := by
  rw [fZ.jQ, takeNum l hb hl, Option.bind_some]
  unfold kw
  by_cases h : (tk l 0 0).2.2 = 0
  · obtain ⟨h1, h2, h3, h4⟩ := tk_ok l 0 0 h
    rw [if_pos h, if_pos h, if_pos (by omega), if_pos (by omega), takeNum _ (hb.drop _) (by rw [List.length_drop]; omega), Option.bind_some]
    by_cases h' : (tk (l.drop (tk l 0 0).2.1.toNat) 0 0).2.2 = 0
    · obtain ⟨g1, g2, g3, g4⟩ := tk_ok _ 0 0 h'
      rw [List.length_drop] at g4
      rw [if_pos h', if_pos h', stampPlace, Option.bind_some, lM (by omega) (by omega)]
      by_cases hp : ja (tk l 0 0).1 (tk (l.drop (tk l 0 0).2.1.toNat) 0 0).1 = true
      · rw [if_pos hp, if_pos hp]
      · rw [if_neg hp, if_neg hp]
    · rw [if_neg h', if_neg h']
  · rw [if_neg h, if_neg h]
theorem refTake (l : List Int) (hb : eO l) (hl : l.length < 4611686018427387904) : dH.F l = some (kw l) := by
  rw [dH.jQ, refTakeNum l hb hl, Option.bind_some]
  unfold kw
  by_cases h : (tk l 0 0).2.2 = 0
  · obtain ⟨h1, h2, h3, h4⟩ := tk_ok l 0 0 h
    rw [if_pos h, if_pos h, if_pos (by omega), if_pos (by omega), refTakeNum _ (hb.drop _) (by rw [List.length_drop]; omega), Option.bind_some]
    by_cases h' : (tk (l.drop (tk l 0 0).2.1.toNat) 0 0).2.2 = 0
    · obtain ⟨g1, g2, g3, g4⟩ := tk_ok _ 0 0 h'
      rw [List.length_drop] at g4
      rw [if_pos h', if_pos h', refPlace, Option.bind_some, lM (by omega) (by omega)]
      by_cases hp : ja (tk l 0 0).1 (tk (l.drop (tk l 0 0).2.1.toNat) 0 0).1 = true
      · rw [if_pos hp, if_pos hp]
      · rw [if_neg hp, if_neg hp]
    · rw [if_neg h', if_neg h']
  · rw [if_neg h, if_neg h]
theorem tkStamp_put {t r : Int} (h : ja t r = true) (rest : List Int) : kw (iG t r ++ rest) = (t, r, ((iG t r).length : Int), 0) := by
  have hr := kC h
  have e1 : ((t.toNat : Nat) : Int) = t := by omega
  have e2 : ((r.toNat : Nat) : Int) = r := by omega
  unfold kw iG
  rw [List.append_assoc, tk_put t.toNat _ (by omega)]
  simp only [Int.toNat_natCast, List.drop_left]
  rw [tk_put r.toNat _ (by omega)]
  simp only [if_true, e1, e2, h, List.length_append]
  simp
def encs : List Int → List Int
  | [] => []
  | x :: r => eH x.toNat ++ encs r
def jW (x : Int) : Prop := 0 ≤ x ∧ x ≤ 4611686018427387904
def encN (l : List Int) : List Int := eH l.length ++ encs l
theorem encs_bytes : ∀ l, eO (encs l)
  | [] => fun _ h => nomatch h
  | x :: r => (enc_bytes _).append (encs_bytes r)
theorem encN_bytes (l : List Int) : eO (encN l) := (enc_bytes _).append (encs_bytes l)
theorem encs_length : ∀ l : List Int, (∀ x ∈ l, jW x) → (encs l).length ≤ 9 * l.length
  | [], _ => by simp [encs]
  | x :: r, h => by
    have h1 := encs_length r (fun y hy => h y (List.mem_cons_of_mem _ hy))
    have hx := h x List.mem_cons_self
    unfold jW at hx
    have h2 := fG (n := x.toNat) (by omega)
    unfold encs
    rw [List.length_append, List.length_cons]
    omega
theorem encN_length (l : List Int) (hl : l.length ≤ 1024) (h : ∀ x ∈ l, jW x) : (encN l).length ≤ 9225 := by
  have h1 := encs_length l h
  have h2 := fG (n := l.length) (by omega)
  unfold encN
  rw [List.length_append]
  omega
theorem putAll_L (l : List Int) (hl : l.length ≤ 1024) (h : ∀ x ∈ l, jW x) : ∀ (d i : Nat) (acc : List Int), i ≤ l.length → l.length - i = d → acc.length + 9 * d < 140737488355328 →
    bN.L0 acc l (l.length : Int) (i : Int) = some (acc ++ encs (l.drop i)) := by
  intro d
  induction d with
  | zero =>
    intro i acc hi hd ha
    rw [bN.ky, if_neg (by omega), List.drop_of_length_le (by omega)]
    simp [encs]
  | succ d ih =>
    intro i acc hi hd ha
    have hil : i < l.length := by omega
    have hx := h l[i] (List.getElem_mem hil)
    unfold jW at hx
    have h9 := fG (n := l[i].toNat) (by omega)
    have e : l[i] = (l[i].toNat : Int) := by omega
    rw [bN.ky, if_pos (by omega), if_pos (by omega), if_pos (by omega), rd_nat l i hil, List.drop_eq_getElem_cons hil]
    show (bI.F acc l[i]).bind _ = some (acc ++ (eH l[i].toNat ++ encs (l.drop (i + 1))))
    rw [e, put_F _ _ (by omega) (by omega), Option.bind_some, w64s (by omega) (by omega), ← List.append_assoc, Int.toNat_natCast]
    exact ih (i + 1) _ (by omega) (by omega) (by rw [List.length_append]; omega)
theorem tkNs_put : ∀ (r : List Int) (L pre rest acc : List Int), L = pre ++ (encs r ++ rest) → (∀ x ∈ r, jW x) → tkNs L r.length (pre.length : Int) acc = (acc ++ r, ((pre.length + (encs r).length : Nat) : Int), 0)
  | [], L, pre, rest, acc, _, _ => by simp [tkNs, encs]
  | x :: r, L, pre, rest, acc, e, h => by
    have hx := h x List.mem_cons_self
    unfold jW at hx
    have e1 : L.drop ((pre.length : Int)).toNat = eH x.toNat ++ (encs r ++ rest) := by
      rw [e, Int.toNat_natCast, List.drop_left]
      show eH x.toNat ++ encs r ++ rest = _
      rw [List.append_assoc]
    have e2 : L = (pre ++ eH x.toNat) ++ (encs r ++ rest) := by
      rw [e]
      show pre ++ (eH x.toNat ++ encs r ++ rest) = _
      simp only [List.append_assoc]
    have e3 : ((x.toNat : Nat) : Int) = x := by omega
    have ih := tkNs_put r L (pre ++ eH x.toNat) rest (acc ++ [x]) e2 (fun y hy => h y (List.mem_cons_of_mem _ hy))
    rw [List.length_cons]
    unfold tkNs
    rw [e1, tk_put x.toNat _ (by omega)]
    simp only [if_true, e3]
    rw [List.length_append] at ih
    rw [← Int.natCast_add, ih]
    simp only [List.append_assoc, List.cons_append, List.nil_append]
    congr 2
    show _ = ((pre.length + (eH x.toNat ++ encs r).length : Nat) : Int)
    rw [List.length_append]
    omega
theorem tkNums_put (l rest : List Int) (hl : l.length ≤ 1024) (h : ∀ x ∈ l, jW x) : kM (encN l ++ rest) = (l, ((encN l).length : Int), 0) := by
  have e : encN l ++ rest = eH l.length ++ (encs l ++ rest) := by unfold encN; rw [List.append_assoc]
  have := tkNs_put l (encN l ++ rest) (eH l.length) rest [] e h
  unfold kM
  rw [e] at this ⊢
  rw [tk_put l.length _ (by omega)]
  simp only [if_true, Int.toNat_natCast]
  rw [if_neg (by omega), this]
  unfold encN
  simp [List.length_append]
theorem str_back (s : ByteArray) : strOfNums (bytesOf s) = s := by
  unfold strOfNums bytesOf
  rw [List.map_map]
  have e : ((fun n : Int => UInt8.ofNat n.toNat) ∘ fun b : UInt8 => (b.toNat : Int)) = id := by
    funext b
    simp
  first
    | (rw [e, List.map_id]; done)
    | (simp [e]; done)
    | (simp [Function.comp_def]; done)
theorem bytesOf_bytes (s : ByteArray) : eO (bytesOf s) := by
  intro x hx
  unfold bytesOf at hx
  obtain ⟨b, _, rfl⟩ := List.mem_map.1 hx
  have := b.toNat_lt
  omega
def encT (s : ByteArray) : List Int := eH s.size ++ bytesOf s
theorem encT_bytes (s : ByteArray) : eO (encT s) := (enc_bytes _).append (bytesOf_bytes s)
theorem encT_length (s : ByteArray) (h : s.size ≤ 65536) : (encT s).length ≤ 65545 := by
  have h2 := fG (n := s.size) (by omega)
  unfold encT
  rw [List.length_append, bytesOf_length]
  omega
theorem tkText_put (s : ByteArray) (rest : List Int) (h : s.size ≤ 65536) : iY (encT s ++ rest) = (s, ((encT s).length : Int), 0) := by
  have e : encT s ++ rest = eH s.size ++ (bytesOf s ++ rest) := by unfold encT; rw [List.append_assoc]
  have hb := bytesOf_length s
  unfold iY
  rw [e, tk_put s.size _ (by omega)]
  simp only [if_true]
  rw [if_neg (by omega), if_neg (by simp only [List.length_append]; omega)]
  have e1 : ((eH s.size).length : Int) + (s.size : Int) = (((eH s.size).length + s.size : Nat) : Int) := by omega
  have e2 : (List.take ((eH s.size).length + s.size) (eH s.size ++ (bytesOf s ++ rest))).drop (eH s.size).length = bytesOf s := by
    rw [List.take_length_add_append, List.drop_left, ← hb, List.take_left]
  rw [e1, Int.toNat_natCast, Int.toNat_natCast, e2, str_back]
  unfold encT
  rw [List.length_append, hb]
theorem tkText_cut (s : ByteArray) (j : Nat) (h : s.size ≤ 65536) (hj : j < (encT s).length) : (iY ((encT s).take j)).2.2 = 7 := by
  have h9 := fG (n := s.size) (by omega)
  have hb := bytesOf_length s
  unfold iY
  by_cases hc : j < (eH s.size).length
  · have e : (encT s).take j = (eH s.size).take j := by
      unfold encT
      rw [List.take_append_of_le_length (by omega)]
    rw [e, tk_cut s.size 0 0 j (by omega) hc]
    simp
  · have e : (encT s).take j = eH s.size ++ (bytesOf s).take (j - (eH s.size).length) := by
      unfold encT
      rw [List.take_append, List.take_of_length_le (by omega)]
    have hl : (encT s).length = (eH s.size).length + s.size := by unfold encT; rw [List.length_append, hb]
    rw [e, tk_put s.size _ (by omega)]
    simp only [if_true]
    rw [if_neg (by omega), if_pos (by simp only [List.length_append, List.length_take, hb]; omega)]
def inVec (x : Int) : Prop := 0 ≤ x ∧ x ≤ 1099511627776
instance (x : Int) : Decidable (inVec x) := inferInstanceAs (Decidable (_ ∧ _))
def isVec (v : List Int) : Bool := decide (1 ≤ v.length ∧ v.length ≤ 16 ∧ ∀ x ∈ v, inVec x)
theorem isVec_iff {v : List Int} : isVec v = true ↔ 1 ≤ v.length ∧ v.length ≤ 16 ∧ ∀ x ∈ v, inVec x := by unfold isVec; rw [decide_eq_true_eq]
theorem all_drop {p : Int → Prop} {v : List Int} {i : Nat} (h : i < v.length) : (∀ x ∈ v.drop i, p x) ↔ p v[i] ∧ ∀ x ∈ v.drop (i + 1), p x := by
  rw [List.drop_eq_getElem_cons h, List.forall_mem_cons]
theorem haveIs_L (v : List Int) (hl : v.length < 9223372036854775807) : ∀ (d i : Nat), i ≤ v.length → v.length - i = d → dP.L0 v (i : Int) = some (decide (1 ≤ v.length ∧ v.length ≤ 16 ∧ ∀ x ∈ v.drop i, inVec x)) := by
  intro d
  induction d with
  | zero =>
    intro i hi hd
    have hi' : i = v.length := by omega
    subst hi'
    rw [dP.ky, if_pos (by omega)]
    simp only [List.drop_length]
    by_cases h : (v.length : Int) ≥ 1
    · rw [if_pos h]
      exact congrArg some (decide_eq_decide.2 (by simp; omega))
    · rw [if_neg h]
      exact congrArg some (decide_eq_false (by omega)).symm
  | succ d ih =>
    intro i hi hd
    have hil : i < v.length := by omega
    rw [dP.ky, if_neg (by omega), if_pos (by omega), if_pos (by omega), rd_nat v i hil]
    have hall := all_drop (p := inVec) hil
    by_cases h1 : v[i] ≥ 0
    · rw [if_pos h1]
      by_cases h2 : v[i] ≤ 1099511627776
      · rw [if_pos h2, w64s (by omega) (by omega), show ((i : Int) + 1) = ((i + 1 : Nat) : Int) from rfl, ih (i + 1) (by omega) (by omega)]
        refine congrArg some (decide_eq_decide.2 ?_)
        rw [hall]
        exact ⟨fun h => ⟨h.1, h.2.1, ⟨h1, h2⟩, h.2.2⟩, fun h => ⟨h.1, h.2.1, h.2.2.2⟩⟩
      · rw [if_neg h2]
        exact congrArg some (decide_eq_false (fun h => h2 (hall.1 h.2.2).1.2)).symm
    · rw [if_neg h1]
      exact congrArg some (decide_eq_false (fun h => h1 (hall.1 h.2.2).1.1)).symm
theorem haveIs (v : List Int) (hl : v.length < 9223372036854775807) : dP.F v = some (isVec v) := by
  rw [dP.jQ]
  exact haveIs_L v hl v.length 0 (by omega) (by omega)
theorem refVector_L (v : List Int) (hl : v.length < 9223372036854775807) : ∀ (d i : Nat), i ≤ v.length → v.length - i = d → aQ.L0 v (i : Int) = some (decide (1 ≤ v.length ∧ v.length ≤ 16 ∧ ∀ x ∈ v.drop i, inVec x)) := by
  intro d
  induction d with
  | zero =>
    intro i hi hd
    have hi' : i = v.length := by omega
    subst hi'
    rw [aQ.ky, if_neg (by omega)]
    simp only [List.drop_length]
    by_cases h : (v.length : Int) ≥ 1
    · rw [if_pos h]
      exact congrArg some (decide_eq_decide.2 (by simp; omega))
    · rw [if_neg h]
      exact congrArg some (decide_eq_false (by omega)).symm
  | succ d ih =>
    intro i hi hd
    have hil : i < v.length := by omega
    rw [aQ.ky, if_pos (by omega), if_pos (by omega), rd_nat v i hil, refNum, Option.bind_some]
    have hall := all_drop (p := inVec) hil
    by_cases h1 : 0 ≤ v[i] ∧ v[i] ≤ 1099511627776
    · rw [if_pos (decide_eq_true h1), w64s (by omega) (by omega), show ((i : Int) + 1) = ((i + 1 : Nat) : Int) from rfl, ih (i + 1) (by omega) (by omega)]
      refine congrArg some (decide_eq_decide.2 ?_)
      rw [hall]
      exact ⟨fun h => ⟨h.1, h.2.1, h1, h.2.2⟩, fun h => ⟨h.1, h.2.1, h.2.2.2⟩⟩
    · rw [if_neg (by rw [decide_eq_true_eq]; exact h1)]
      exact congrArg some (decide_eq_false (fun h => h1 (hall.1 h.2.2).1)).symm
theorem refVector (v : List Int) (hl : v.length < 9223372036854775807) : aQ.F v = some (isVec v) := by
  rw [aQ.jQ]
  exact refVector_L v hl v.length 0 (by omega) (by omega)
theorem vec_get {v : List Int} (h : isVec v = true) (i : Nat) (hi : i < v.length) : 0 ≤ v[i] ∧ v[i] ≤ 1099511627776 := (isVec_iff.1 h).2.2 _ (List.getElem_mem hi)
theorem vec_nums {v : List Int} (h : isVec v = true) : v.length ≤ 1024 ∧ ∀ x ∈ v, jW x := by
  obtain ⟨_, h2, h3⟩ := isVec_iff.1 h
  refine ⟨by omega, fun x hx => ?_⟩
  have := h3 x hx
  unfold inVec at this
  unfold jW
  omega
def fw (l : List Int) : List Int × Int × Int :=
  if (kM l).2.2 = 0 then (if isVec (kM l).1 = true then ((kM l).1, (kM l).2.1, 0) else ([], 0, 1)) else ([], 0, (kM l).2.2)
theorem haveTake (l : List Int) (hb : eO l) (hl : l.length < 4611686018427387904) : fT.F l = some (fw l) := by
  have hn := tkNums_length l
  rw [fT.jQ, takeNums l hb hl, Option.bind_some]
  unfold fw
  by_cases h : (kM l).2.2 = 0
  · rw [if_pos h, if_pos h, haveIs _ (by omega), Option.bind_some]
    by_cases g : isVec (kM l).1 = true
    · rw [if_pos g, if_pos g]
    · rw [if_neg g, if_neg g]
  · rw [if_neg h, if_neg h]
theorem refTakeVec (l : List Int) (hb : eO l) (hl : l.length < 4611686018427387904) : bq.F l = some (fw l) := by
  have hn := tkNums_length l
  rw [bq.jQ, refTakeNums l hb hl, Option.bind_some]
  unfold fw
  by_cases h : (kM l).2.2 = 0
  · rw [if_pos h, if_pos h, refVector _ (by omega), Option.bind_some]
    by_cases g : isVec (kM l).1 = true
    · rw [if_pos g, if_pos g]
    · rw [if_neg g, if_neg g]
  · rw [if_neg h, if_neg h]
end Go.Proofs.Ytddnlnjmikcgfaa.PC
end
section
set_option linter.unusedVariables false
set_option linter.unusedSimpArgs false
namespace Go.Proofs.Ytddnlnjmikcgfaa.PC
open Go.RowKit Go.WB.PrintWords Go.WB.PrintLast Go.WB.PrintMore
structure Good {α : Type} (p : List Int → α × Int × Int) (eH : α → List Int) (ok : α → Prop) : Prop where
  put : ∀ a rest, ok a → p (eH a ++ rest) = (a, ((eH a).length : Int), 0)
  cut : ∀ a j, ok a → j < (eH a).length → (p ((eH a).take j)).2.2 = 7
  was : ∀ l, eO l → (p l).2.2 = 0 → ok (p l).1 ∧ (p l).2.1 = ((eH (p l).1).length : Int) ∧ (eH (p l).1).length ≤ l.length ∧ l.take (eH (p l).1).length = eH (p l).1
theorem Good.ran {α : Type} {p : List Int → α × Int × Int} {eH : α → List Int} {ok : α → Prop} (g : Good p eH ok) (l : List Int) (hb : eO l) (h : (p l).2.2 = 0) : 0 ≤ (p l).2.1 ∧ (p l).2.1 ≤ l.length := by
  obtain ⟨_, h1, h2, _⟩ := g.was l hb h
  omega
theorem lK : Good (fun l => tk l 0 0) (fun n => eH n.toNat) jW where
  put a rest h := by
    unfold jW at h
    have e : ((a.toNat : Nat) : Int) = a := by omega
    show tk _ 0 0 = _
    rw [tk_put _ _ (by omega), e]
  cut a j h hj := by
    unfold jW at h
    have := fG (n := a.toNat) (by omega)
    show (tk _ 0 0).2.2 = 7
    rw [tk_cut a.toNat 0 0 j (by omega) hj]
  was l hb h := by
    obtain ⟨h1, h2, h3, h4⟩ := tk_ok l 0 0 h
    obtain ⟨m, e1, e2, e3, _⟩ := tk_back l 0 0 hb h
    simp only [Nat.pow_zero, Nat.mul_one, Nat.zero_add] at e1 e2
    refine ⟨⟨h1, h2⟩, ?_, ?_, ?_⟩
    · show (tk l 0 0).2.1 = ((eH (tk l 0 0).1.toNat).length : Int)
      rw [e1, Int.toNat_natCast, e2]
    · show (eH (tk l 0 0).1.toNat).length ≤ l.length
      rw [e1, Int.toNat_natCast]
      omega
    · show l.take (eH (tk l 0 0).1.toNat).length = eH (tk l 0 0).1.toNat
      rw [e1, Int.toNat_natCast, e3]
def lL {α β : Type} (p : List Int → α × Int × Int) (q : α → List Int → β × Int × Int) (l : List Int) : (α × β) × Int × Int :=
  if (p l).2.2 = 0 then (((p l).1, (q (p l).1 (l.drop (p l).2.1.toNat)).1), (if (q (p l).1 (l.drop (p l).2.1.toNat)).2.2 = 0 then (p l).2.1 + (q (p l).1 (l.drop (p l).2.1.toNat)).2.1 else 0), (q (p l).1 (l.drop (p l).2.1.toNat)).2.2)
  else (((p l).1, (q (p l).1 l).1), 0, (p l).2.2)
theorem Good.seq {α β : Type} {p : List Int → α × Int × Int} {ea : α → List Int} {oka : α → Prop} (gp : Good p ea oka) {q : α → List Int → β × Int × Int} {eb : α → β → List Int} {okb : α → β → Prop}
    (gq : ∀ a, oka a → Good (q a) (eb a) (okb a)) : Good (lL p q) (fun x => ea x.1 ++ eb x.1 x.2) (fun x => oka x.1 ∧ okb x.1 x.2) where
  put x rest h := by
    obtain ⟨a, b⟩ := x
    have e1 := gp.put a (eb a b ++ rest) h.1
    have e2 := (gq a h.1).put b rest h.2
    unfold lL
    simp only [List.append_assoc]
    rw [e1]
    simp only [Int.toNat_natCast, List.drop_left, e2, if_true, List.length_append]
    simp
  cut x j h hj := by
    obtain ⟨a, b⟩ := x
    simp only [List.length_append] at hj
    unfold lL
    simp only
    by_cases hc : j < (ea a).length
    · have e : (ea a ++ eb a b).take j = (ea a).take j := List.take_append_of_le_length (by omega)
      have := gp.cut a j h.1 hc
      rw [e]
      rw [this]
      simp
    · have e : (ea a ++ eb a b).take j = ea a ++ (eb a b).take (j - (ea a).length) := by rw [List.take_append, List.take_of_length_le (by omega)]
      have e1 := gp.put a ((eb a b).take (j - (ea a).length)) h.1
      have e2 := (gq a h.1).cut b (j - (ea a).length) h.2 (by omega)
      rw [e, e1]
      simp only [Int.toNat_natCast, List.drop_left, if_true]
      exact e2
  was l hb h := by
    unfold lL at h ⊢
    by_cases h1 : (p l).2.2 = 0
    · rw [if_pos h1] at h ⊢
      simp only at h ⊢
      obtain ⟨a1, a2, a3, a4⟩ := gp.was l hb h1
      obtain ⟨b1, b2, b3, b4⟩ := (gq _ a1).was _ (hb.drop _) h
      rw [if_pos h]
      rw [a2, Int.toNat_natCast] at b1 b2 b3 b4 h ⊢
      rw [List.length_drop] at b3
      refine ⟨⟨a1, b1⟩, ?_, ?_, ?_⟩
      · rw [b2, List.length_append]; omega
      · rw [List.length_append]; omega
      · rw [List.length_append, List.take_add, a4, b4]
    · rw [if_neg h1] at h
      exact absurd h h1
def mapP {α β : Type} (f : α → β) (p : List Int → α × Int × Int) (l : List Int) : β × Int × Int := (f (p l).1, (p l).2)
theorem Good.map {α β : Type} {p : List Int → α × Int × Int} {e : α → List Int} {ok : α → Prop} (gp : Good p e ok) (f : α → β) (g : β → α) (hg : ∀ a, ok a → g (f a) = a) : Good (mapP f p) (fun b => e (g b)) (fun b => ok (g b) ∧ f (g b) = b) where
  put b rest h := by
    unfold mapP
    rw [gp.put _ _ h.1, h.2]
  cut b j h hj := gp.cut (g b) j h.1 hj
  was l hb h := by
    obtain ⟨h1, h2, h3, h4⟩ := gp.was l hb h
    unfold mapP
    simp only [hg _ h1]
    exact ⟨⟨h1, trivial⟩, h2, h3, h4⟩
/-- What else is asked of what was taken. -/
def onlyP {α : Type} (c : α → Bool) (p : List Int → α × Int × Int) (l : List Int) : α × Int × Int := if (p l).2.2 = 0 then (if c (p l).1 = true then p l else ((p l).1, 0, 1)) else p l
theorem Good.only {α : Type} {p : List Int → α × Int × Int} {e : α → List Int} {ok : α → Prop} (gp : Good p e ok) (c : α → Bool) : Good (onlyP c p) e (fun a => ok a ∧ c a = true) where
  put a rest h := by
    unfold onlyP
    rw [gp.put _ _ h.1]
    simp [h.2]
  cut a j h hj := by
    have := gp.cut a j h.1 hj
    unfold onlyP
    rw [if_neg (by rw [this]; decide), this]
  was l hb h := by
    unfold onlyP at h ⊢
    by_cases h1 : (p l).2.2 = 0
    · rw [if_pos h1] at h ⊢
      by_cases h2 : c (p l).1 = true
      · rw [if_pos h2] at h ⊢
        obtain ⟨g1, g2⟩ := gp.was l hb h1
        exact ⟨⟨g1, h2⟩, g2⟩
      · rw [if_neg h2] at h
        simp at h
    · rw [if_neg h1] at h
      exact absurd h h1
theorem Good.weak {α : Type} {p : List Int → α × Int × Int} {e : α → List Int} {ok ok' : α → Prop} (gp : Good p e ok) (h : ∀ a, ok' a ↔ ok a) : Good p e ok' where
  put a rest k := gp.put a rest ((h a).1 k)
  cut a j k hj := gp.cut a j ((h a).1 k) hj
  was l hb k := by
    obtain ⟨h1, h2⟩ := gp.was l hb k
    exact ⟨(h _).2 h1, h2⟩
theorem goodStamp : Good (fun l => ((((kw l).1, (kw l).2.1) : Int × Int), (kw l).2.2)) (fun s => iG s.1 s.2) (fun s => ja s.1 s.2 = true) where
  put a rest h := by
    simp only [tkStamp_put h]
  cut a j h hj := by
    have hr := kC h
    have g := (lK.seq (q := fun _ l => tk l 0 0) (eb := fun _ n => eH n.toNat) (okb := fun _ => jW) (fun _ _ => lK)).cut a j ⟨⟨by omega, by omega⟩, ⟨by omega, by omega⟩⟩ hj
    show (kw ((eH a.1.toNat ++ eH a.2.toNat).take j)).2.2.2 = 7
    revert g
    generalize (eH a.1.toNat ++ eH a.2.toNat).take j = L
    unfold lL kw
    intro g
    split at g
    · rename_i h1
      try simp only at g
      rw [if_pos h1, if_neg (by rw [g]; decide)]
      exact g
    · rename_i h1
      rw [if_neg h1]
      exact g
  was l hb h := by
    have g := (lK.seq (q := fun _ l => tk l 0 0) (eb := fun _ n => eH n.toNat) (okb := fun _ => jW) (fun _ _ => lK)).was l hb
    simp only at h ⊢
    revert h
    unfold kw
    unfold lL at g
    by_cases h1 : (tk l 0 0).2.2 = 0
    · rw [if_pos h1]
      by_cases h2 : (tk (l.drop (tk l 0 0).2.1.toNat) 0 0).2.2 = 0
      · rw [if_pos h2]
        by_cases h3 : ja (tk l 0 0).1 (tk (l.drop (tk l 0 0).2.1.toNat) 0 0).1 = true
        · rw [if_pos h3]
          intro _
          simp only [if_pos h1, if_pos h2] at g
          obtain ⟨_, g2, g3, g4⟩ := g h2
          exact ⟨h3, g2, g3, g4⟩
        · rw [if_neg h3]
          intro h; exact absurd h (by decide)
      · rw [if_neg h2]
        intro h; exact absurd h h2
    · rw [if_neg h1]
      intro h; exact absurd h h1
theorem bytesOf_str (l : List Int) (hb : eO l) : bytesOf (strOfNums l) = l := by
  unfold strOfNums bytesOf
  rw [List.map_map]
  have e : ∀ x ∈ l, ((fun b : UInt8 => (b.toNat : Int)) ∘ fun n : Int => UInt8.ofNat n.toNat) x = x := by
    intro x hx
    have := hb x hx
    show ((UInt8.ofNat x.toNat).toNat : Int) = x
    rw [UInt8.toNat_ofNat_of_lt' (by show x.toNat < 256; omega)]
    omega
  first
    | (exact (List.map_congr_left e).trans (List.map_id' l))
    | (rw [List.map_congr_left e]; simp)
theorem strOfNums_size (l : List Int) : (strOfNums l).size = l.length := by
  unfold strOfNums
  show Array.size _ = _
  simp
theorem goodText : Good iY encT (fun s => s.size ≤ 65536) where
  put a rest h := tkText_put a rest h
  cut a j h hj := tkText_cut a j h hj
  was l hb h := by
    unfold iY at h ⊢
    by_cases h1 : (tk l 0 0).2.2 = 0
    · rw [if_pos h1] at h ⊢
      obtain ⟨a1, a2, a3, a4⟩ := lK.was l hb h1
      try simp only at a1 a2 a3 a4
      unfold jW at a1
      by_cases h2 : (tk l 0 0).1 > 65536
      · rw [if_pos h2] at h; exact absurd h (by decide)
      · rw [if_neg h2] at h ⊢
        by_cases h3 : (tk l 0 0).1 > (l.length : Int) - (tk l 0 0).2.1
        · rw [if_pos h3] at h; exact absurd h (by decide)
        · rw [if_neg h3]
          simp only
          generalize (tk l 0 0).1 = m at *
          generalize (tk l 0 0).2.1 = k at *
          subst a2
          have e1 : (((eH m.toNat).length : Int) + m).toNat = (eH m.toNat).length + m.toNat := by omega
          rw [e1, Int.toNat_natCast]
          have hs : (strOfNums ((l.take ((eH m.toNat).length + m.toNat)).drop (eH m.toNat).length)).size = m.toNat := by
            rw [strOfNums_size, List.length_drop, List.length_take]
            omega
          have hbs : bytesOf (strOfNums ((l.take ((eH m.toNat).length + m.toNat)).drop (eH m.toNat).length)) = (l.take ((eH m.toNat).length + m.toNat)).drop (eH m.toNat).length := bytesOf_str _ ((hb.take _).drop _)
          have hE : encT (strOfNums ((l.take ((eH m.toNat).length + m.toNat)).drop (eH m.toNat).length)) = l.take ((eH m.toNat).length + m.toNat) := by
            unfold encT
            rw [hs, hbs]
            have e2 : eH m.toNat = (l.take ((eH m.toNat).length + m.toNat)).take (eH m.toNat).length := by rw [List.take_take, Nat.min_eq_left (by omega), a4]
            conv => lhs; arg 1; rw [e2]
            exact List.take_append_drop _ _
          rw [hE, hs, List.length_take]
          refine ⟨by omega, by omega, by omega, ?_⟩
          congr 1
          omega
    · rw [if_neg h1] at h
      exact absurd h h1
theorem takeMore (L pre : List Int) (n : Nat) (h : pre.length ≤ L.length) (h1 : L.take pre.length = pre) : L.take (pre.length + n) = pre ++ (L.drop pre.length).take n := by
  rw [List.take_add, h1]
theorem tkNs_cut : ∀ (r : List Int) (L pre acc : List Int) (j : Nat), L = pre ++ (encs r).take j → j < (encs r).length → (∀ x ∈ r, jW x) → (tkNs L r.length (pre.length : Int) acc).2.2 = 7
  | [], L, pre, acc, j, e, hj, h => by simp [encs] at hj
  | x :: r, L, pre, acc, j, e, hj, h => by
    have hx := h x List.mem_cons_self
    have e0 : encs (x :: r) = eH x.toNat ++ encs r := rfl
    rw [e0] at hj e
    rw [List.length_append] at hj
    rw [List.length_cons]
    unfold tkNs
    have e1 : L.drop ((pre.length : Int)).toNat = (eH x.toNat ++ encs r).take j := by rw [e, Int.toNat_natCast, List.drop_left]
    rw [e1]
    by_cases hc : j < (eH x.toNat).length
    · have e2 : (eH x.toNat ++ encs r).take j = (eH x.toNat).take j := List.take_append_of_le_length (by omega)
      have := lK.cut x j hx hc
      try simp only at this
      rw [e2, if_neg (by rw [this]; decide)]
      exact this
    · have e2 : (eH x.toNat ++ encs r).take j = eH x.toNat ++ (encs r).take (j - (eH x.toNat).length) := by rw [List.take_append, List.take_of_length_le (by omega)]
      have g := lK.put x ((encs r).take (j - (eH x.toNat).length)) hx
      try simp only at g
      rw [e2, g]
      simp only [if_true]
      rw [← Int.natCast_add, ← List.length_append]
      exact tkNs_cut r L (pre ++ eH x.toNat) _ (j - (eH x.toNat).length) (by rw [e, e2, List.append_assoc]) (by omega) (fun y hy => h y (List.mem_cons_of_mem _ hy))
theorem tkNs_was (L : List Int) (hb : eO L) : ∀ (m : Nat) (pre acc : List Int), pre.length ≤ L.length → L.take pre.length = pre → (tkNs L m (pre.length : Int) acc).2.2 = 0 →
    ∃ r : List Int, r.length = m ∧ (tkNs L m (pre.length : Int) acc).1 = acc ++ r ∧ (∀ x ∈ r, jW x) ∧ (tkNs L m (pre.length : Int) acc).2.1 = ((pre.length + (encs r).length : Nat) : Int) ∧ pre.length + (encs r).length ≤ L.length ∧ L.take (pre.length + (encs r).length) = pre ++ encs r
  | 0, pre, acc, hl, hp, _ => ⟨[], rfl, by simp [tkNs], by simp, by simp [tkNs, encs], by simpa [encs] using hl, by simpa [encs] using hp⟩
  | m + 1, pre, acc, hl, hp, h => by
    unfold tkNs at h ⊢
    by_cases h1 : (tk (L.drop ((pre.length : Int)).toNat) 0 0).2.2 = 0
    · rw [if_pos h1] at h ⊢
      obtain ⟨a1, a2, a3, a4⟩ := lK.was _ (hb.drop _) h1
      try simp only at a1 a2 a3 a4
      rw [Int.toNat_natCast] at a1 a2 a3 a4 h ⊢
      generalize (tk (L.drop pre.length) 0 0).1 = x at *
      rw [a2] at h ⊢
      rw [← Int.natCast_add, ← List.length_append] at h ⊢
      rw [List.length_drop] at a3
      obtain ⟨r, h2, h3, h4, h5, h6, h7⟩ := tkNs_was L hb m (pre ++ eH x.toNat) (acc ++ [x]) (by rw [List.length_append]; omega) (by rw [List.length_append, takeMore L pre _ hl hp, a4]) h
      have e0 : encs (x :: r) = eH x.toNat ++ encs r := rfl
      refine ⟨x :: r, by simp [h2], by rw [h3, List.append_assoc]; rfl, ?_, ?_, ?_, ?_⟩
      · intro y hy
        rcases List.mem_cons.1 hy with rfl | hy
        · exact a1
        · exact h4 y hy
      · rw [h5, e0, List.length_append, List.length_append]; omega
      · rw [e0, List.length_append]; rw [List.length_append] at h6; omega
      · rw [e0, List.length_append, ← Nat.add_assoc, ← List.length_append, h7, List.append_assoc]
    · rw [if_neg h1] at h
      exact absurd h h1
theorem goodNums : Good kM encN (fun l => l.length ≤ 1024 ∧ ∀ x ∈ l, jW x) where
  put a rest h := tkNums_put a rest h.1 h.2
  cut a j h hj := by
    have hn : jW (a.length : Int) := by unfold jW; omega
    unfold kM
    unfold encN at hj ⊢
    rw [List.length_append] at hj
    by_cases hc : j < (eH a.length).length
    · have e2 : (eH a.length ++ encs a).take j = (eH a.length).take j := List.take_append_of_le_length (by omega)
      have := lK.cut (a.length : Int) j hn (by simpa using hc)
      simp only [Int.toNat_natCast] at this
      rw [e2, if_neg (by rw [this]; decide)]
      exact this
    · have e2 : (eH a.length ++ encs a).take j = eH a.length ++ (encs a).take (j - (eH a.length).length) := by rw [List.take_append, List.take_of_length_le (by omega)]
      have g := lK.put (a.length : Int) ((encs a).take (j - (eH a.length).length)) hn
      simp only [Int.toNat_natCast] at g
      rw [e2, g]
      simp only [if_true, Int.toNat_natCast]
      rw [if_neg (by omega)]
      exact tkNs_cut a _ (eH a.length) [] (j - (eH a.length).length) rfl (by omega) h.2
  was l hb h := by
    unfold kM at h ⊢
    by_cases h1 : (tk l 0 0).2.2 = 0
    · rw [if_pos h1] at h ⊢
      obtain ⟨a1, a2, a3, a4⟩ := lK.was l hb h1
      try simp only at a1 a2 a3 a4
      unfold jW at a1
      by_cases h2 : (tk l 0 0).1 > 1024
      · rw [if_pos h2] at h; exact absurd h (by decide)
      · rw [if_neg h2] at h ⊢
        generalize (tk l 0 0).1 = m at *
        rw [a2] at h ⊢
        obtain ⟨r, g2, g3, g4, g5, g6, g7⟩ := tkNs_was l hb m.toNat (eH m.toNat) [] a3 a4 h
        rw [g3, g5, List.nil_append]
        unfold encN
        rw [g2]
        refine ⟨⟨by omega, g4⟩, ?_, ?_, ?_⟩
        · rw [List.length_append]
        · rw [List.length_append]; exact g6
        · rw [List.length_append, g7]
    · rw [if_neg h1] at h
      exact absurd h h1
theorem goodVec : Good fw encN (fun v => isVec v = true) := by
  have g := (goodNums.only isVec).weak (ok' := fun v => isVec v = true) (fun v => ⟨fun h => ⟨vec_nums h, h⟩, fun h => h.2⟩)
  have e : ∀ l, (fw l).2.2 = (onlyP isVec kM l).2.2 ∧ ((fw l).2.2 = 0 → fw l = onlyP isVec kM l) := by
    intro l
    unfold fw onlyP
    by_cases h1 : (kM l).2.2 = 0
    · rw [if_pos h1, if_pos h1]
      by_cases h2 : isVec (kM l).1 = true
      · rw [if_pos h2, if_pos h2]
        exact ⟨h1.symm, fun _ => by rw [← h1]⟩
      · rw [if_neg h2, if_neg h2]
        exact ⟨rfl, fun h => by simp at h⟩
    · rw [if_neg h1, if_neg h1]
      exact ⟨rfl, fun h => absurd h h1⟩
  constructor
  · intro a rest h
    have := g.put a rest h
    rw [(e _).2 (by rw [(e _).1, this]), this]
  · intro a j h hj
    rw [(e _).1]
    exact g.cut a j h hj
  · intro l hb h
    have := g.was l hb (by rw [← (e _).1]; exact h)
    rw [(e _).2 h]
    exact this
end Go.Proofs.Ytddnlnjmikcgfaa.PC
end
section
set_option linter.unusedVariables false
set_option linter.unusedSimpArgs false
namespace Go.Proofs.Ytddnlnjmikcgfaa.PC
open Go.RowKit Go.WB.PrintWords Go.WB.PrintLast Go.WB.PrintMore
theorem tk_bad : ∀ (l : List Int) (n i : Nat), (tk l n i).2.2 ≠ 0 → (tk l n i).2.1 = 0
  | [], _, _, _ => rfl
  | c :: r, n, i, h => by
    unfold tk at h ⊢
    split at h
    · rename_i h1
      rw [if_pos h1]
      split at h
      · rename_i h2; rw [if_pos h2]
      · rename_i h2; rw [if_neg h2]; exact tk_bad r _ _ h
    · rename_i h1
      rw [if_neg h1]
      split at h
      · rename_i h2; rw [if_pos h2]
      · exact absurd rfl h
theorem num_ran (l : List Int) (hb : eO l) : 0 ≤ (tk l 0 0).2.1 ∧ (tk l 0 0).2.1 ≤ l.length := by
  by_cases h : (tk l 0 0).2.2 = 0
  · exact lK.ran l hb h
  · rw [tk_bad l 0 0 h]; omega
theorem stamp_ran (l : List Int) (hb : eO l) : 0 ≤ (kw l).2.2.1 ∧ (kw l).2.2.1 ≤ l.length := by
  by_cases h : (kw l).2.2.2 = 0
  · exact goodStamp.ran l hb h
  · have : (kw l).2.2.1 = 0 := by
      revert h
      unfold kw
      split
      · split
        · split
          · intro h; exact absurd rfl h
          · intro _; rfl
        · intro _; rfl
      · intro _; rfl
    omega
theorem text_ran (l : List Int) (hb : eO l) : 0 ≤ (iY l).2.1 ∧ (iY l).2.1 ≤ l.length := by
  by_cases h : (iY l).2.2 = 0
  · exact goodText.ran l hb h
  · have : (iY l).2.1 = 0 := by
      revert h
      unfold iY
      split
      · split
        · intro _; rfl
        · split
          · intro _; rfl
          · intro h; exact absurd rfl h
      · intro _; rfl
    omega
theorem vec_ran (l : List Int) (hb : eO l) : 0 ≤ (fw l).2.1 ∧ (fw l).2.1 ≤ l.length := by
  by_cases h : (fw l).2.2 = 0
  · exact goodVec.ran l hb h
  · have : (fw l).2.1 = 0 := by
      revert h
      unfold fw
      split
      · split
        · intro h; exact absurd rfl h
        · intro _; rfl
      · intro _; rfl
    omega
abbrev aZ (l : List Int) : (Int × Int) × Int × Int := (((kw l).1, (kw l).2.1), (kw l).2.2)
abbrev iy (l : List Int) : Int × Int × Int := tk l 0 0
theorem part_F (l : List Int) (k e dk de : Int) (h0 : 0 ≤ k) (h1 : k ≤ l.length) (h2 : 0 ≤ dk) (h3 : dk ≤ l.length) (hl : l.length < 4611686018427387904) :
    dx.f l k e dk de = some (if e = 0 then k + dk else k, if e = 0 then de else e) := by
  unfold dx.f
  split
  · rw [lM (by omega) (by omega)]
  · rfl
theorem place_F (l : List Int) (hb : eO l) (hl : l.length < 4611686018427387904) (k e : Int) (h0 : 0 ≤ k) (h1 : k ≤ l.length) :
    bD.F l k e = some ((aZ (l.drop k.toNat)).1.1, (aZ (l.drop k.toNat)).1.2, (if e = 0 then k + (aZ (l.drop k.toNat)).2.1 else k), (if e = 0 then (aZ (l.drop k.toNat)).2.2 else e)) := by
  have hr := stamp_ran _ (hb.drop k.toNat)
  have hd : (l.drop k.toNat).length ≤ l.length := by rw [List.length_drop]; omega
  rw [bD.jQ, if_pos h0, if_pos h1, stampTake _ (hb.drop _) (by omega), Option.bind_some, part_F _ _ _ _ _ h0 h1 (by omega) (by omega) hl, Option.bind_some]
theorem number_F (l : List Int) (hb : eO l) (hl : l.length < 4611686018427387904) (k e : Int) (h0 : 0 ≤ k) (h1 : k ≤ l.length) :
    bH.F l k e = some ((iy (l.drop k.toNat)).1, (if e = 0 then k + (iy (l.drop k.toNat)).2.1 else k), (if e = 0 then (iy (l.drop k.toNat)).2.2 else e)) := by
  have hr := num_ran _ (hb.drop k.toNat)
  have hd : (l.drop k.toNat).length ≤ l.length := by rw [List.length_drop]; omega
  rw [bH.jQ, if_pos h0, if_pos h1, takeNum _ (hb.drop _) (by omega), Option.bind_some, part_F _ _ _ _ _ h0 h1 (by omega) (by omega) hl, Option.bind_some]
abbrev Rest : Type := (Int × Int) × ByteArray × Int × Int
def noKey : ByteArray := ⟨#[]⟩
def iU (k : Int) (l : List Int) : Rest × Int × Int :=
  if k = 1 then mapP (fun x : (Int × Int) × ByteArray => ((x.1, x.2, 0, 0) : Rest)) (lL aZ (fun _ => iY)) l
  else mapP (fun x : Int × Int => (((0, 0), noKey, x.1, x.2 - 1) : Rest)) (lL iy (fun _ => iy)) l
def restE (k : Int) (b : Rest) : List Int := if k = 1 then iG b.1.1 b.1.2 ++ encT b.2.1 else eH b.2.2.1.toNat ++ eH (b.2.2.2 + 1).toNat
def restOk (k : Int) (b : Rest) : Prop := if k = 1 then (ja b.1.1 b.1.2 = true ∧ b.2.1.size ≤ 65536) ∧ b.2.2 = (0, 0) else (jW b.2.2.1 ∧ jW (b.2.2.2 + 1)) ∧ b.1 = (0, 0) ∧ b.2.1 = noKey
theorem goodRest (k : Int) : Good (iU k) (restE k) (restOk k) := by
  by_cases hk : k = 1
  · have g := ((goodStamp.seq (q := fun _ => iY) (eb := fun _ => encT) (okb := fun _ s => s.size ≤ 65536) (fun _ _ => goodText)).map (fun x : (Int × Int) × ByteArray => ((x.1, x.2, 0, 0) : Rest)) (fun b => (b.1, b.2.1)) (fun _ _ => rfl))
    have e1 : iU k = mapP (fun x : (Int × Int) × ByteArray => ((x.1, x.2, 0, 0) : Rest)) (lL aZ (fun _ => iY)) := by funext l; unfold iU; rw [if_pos hk]
    have e2 : restE k = fun b => iG b.1.1 b.1.2 ++ encT b.2.1 := by funext b; unfold restE; rw [if_pos hk]
    rw [e1, e2]
    refine g.weak (fun b => ?_)
    unfold restOk
    rw [if_pos hk]
    obtain ⟨a, s, p, v⟩ := b
    simp
    intro _ _
    exact ⟨fun ⟨h1, h2⟩ => ⟨h1.symm, h2.symm⟩, fun ⟨h1, h2⟩ => ⟨h1.symm, h2.symm⟩⟩
  · have g := ((lK.seq (q := fun _ => iy) (eb := fun _ n => eH n.toNat) (okb := fun _ => jW) (fun _ _ => lK)).map (fun x : Int × Int => (((0, 0), noKey, x.1, x.2 - 1) : Rest)) (fun b => (b.2.2.1, b.2.2.2 + 1)) (fun a _ => by simp))
    have e1 : iU k = mapP (fun x : Int × Int => (((0, 0), noKey, x.1, x.2 - 1) : Rest)) (lL iy (fun _ => iy)) := by funext l; unfold iU; rw [if_neg hk]
    have e2 : restE k = fun b => eH b.2.2.1.toNat ++ eH (b.2.2.2 + 1).toNat := by funext b; unfold restE; rw [if_neg hk]
    rw [e1, e2]
    refine g.weak (fun b => ?_)
    unfold restOk
    rw [if_neg hk]
    obtain ⟨⟨a1, a2⟩, s, p, v⟩ := b
    simp
    intro _ _
    exact ⟨fun ⟨h1, h2⟩ => ⟨⟨h1.1.symm, h1.2.symm⟩, h2.symm⟩, fun ⟨h1, h2⟩ => ⟨⟨h1.1.symm, h1.2.symm⟩, h2.symm⟩⟩
abbrev Body : Type := (Int × Int) × List Int × Int × (Int × Int) × Rest
def iW (k : Int) (l : List Int) : ((Int × Int) × Rest) × Int × Int := lL aZ (fun _ => iU k) l
def lG (l : List Int) : Int × Int × Int := onlyP (fun k => k == 1 || k == 2) iy l
def opP (l : List Int) : Body × Int × Int := lL aZ (fun _ => lL fw (fun _ => lL lG (fun k => lL aZ (fun _ => iU k)))) l
def opE (b : Body) : List Int := iG b.1.1 b.1.2 ++ (encN b.2.1 ++ (eH b.2.2.1.toNat ++ (iG b.2.2.2.1.1 b.2.2.2.1.2 ++ restE b.2.2.1 b.2.2.2.2)))
def opOk (b : Body) : Prop := ja b.1.1 b.1.2 = true ∧ isVec b.2.1 = true ∧ (jW b.2.2.1 ∧ (b.2.2.1 == 1 || b.2.2.1 == 2) = true) ∧ ja b.2.2.2.1.1 b.2.2.2.1.2 = true ∧ restOk b.2.2.1 b.2.2.2.2
theorem goodTail (k : Int) : Good (iW k) (fun x => iG x.1.1 x.1.2 ++ restE k x.2) (fun x => ja x.1.1 x.1.2 = true ∧ restOk k x.2) :=
  goodStamp.seq (q := fun _ => iU k) (eb := fun _ => restE k) (okb := fun _ => restOk k) (fun _ _ => goodRest k)
theorem goodOp : Good opP opE opOk :=
  goodStamp.seq (q := fun _ => lL fw (fun _ => lL lG (fun k => lL aZ (fun _ => iU k)))) (eb := fun _ b => encN b.1 ++ (eH b.2.1.toNat ++ (iG b.2.2.1.1 b.2.2.1.2 ++ restE b.2.1 b.2.2.2)))
    (okb := fun _ b => isVec b.1 = true ∧ (jW b.2.1 ∧ (b.2.1 == 1 || b.2.1 == 2) = true) ∧ ja b.2.2.1.1 b.2.2.1.2 = true ∧ restOk b.2.1 b.2.2.2)
    (fun _ _ => goodVec.seq (q := fun _ => lL lG (fun k => lL aZ (fun _ => iU k))) (eb := fun _ b => eH b.1.toNat ++ (iG b.2.1.1 b.2.1.2 ++ restE b.1 b.2.2))
      (okb := fun _ b => (jW b.1 ∧ (b.1 == 1 || b.1 == 2) = true) ∧ ja b.2.1.1 b.2.1.2 = true ∧ restOk b.1 b.2.2)
      (fun _ _ => (lK.only (fun k => k == 1 || k == 2)).seq (q := fun k => lL aZ (fun _ => iU k)) (eb := fun k b => iG b.1.1 b.1.2 ++ restE k b.2)
        (okb := fun k b => ja b.1.1 b.1.2 = true ∧ restOk k b.2) (fun k _ => goodTail k)))
end Go.Proofs.Ytddnlnjmikcgfaa.PC
end
