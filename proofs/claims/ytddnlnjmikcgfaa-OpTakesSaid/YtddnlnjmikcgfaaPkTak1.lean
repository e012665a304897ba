/- Own texts, packed. -/
import Derived.Test.YtddnlnjmikcgfaaPkTak0
import Derived.Deep.Slices
import Derived.KernelRfl
import Derived.Laws.Bits128
import Derived.Laws.BitsLemmas
import Derived.SizedLaws
section
namespace Go.Proofs.Ytddnlnjmikcgfaa.PC
open Go.RowKit Go.WB.PrintWords Go.WB.PrintLast Go.WB.PrintMore
attribute [local go_sem] cz cB dP dQ bR bP cK cu
set_option linter.unusedVariables false
set_option linter.unusedSimpArgs false
set_option maxHeartbeats 40000000
set_option maxRecDepth 100000
def fT.f (a0_0 a0_1 a0_2 : Int) (l0_3 : List Int) (a0_4 a0_5 a0_6 a0_7 a0_8 : Int) (a0_9 : ByteArray) (a0_10 a0_11 : Int) : Option (Int) := some (wrap64 ((wrap64 (1 + (l0_3.length : Int))) + (a0_9.size : Int)))
def fC.f (a0_0 a0_1 a0_2 : Int) (l0_3 : List Int) (a0_4 a0_5 a0_6 a0_7 a0_8 : Int) (a0_9 : ByteArray) (a0_10 a0_11 : Int) (l0_12 : List Int) : Option (Bool) := (fT.f a0_0 a0_1 a0_2 l0_3 a0_4 a0_5 a0_6 a0_7 a0_8 a0_9 a0_10 a0_11).bind fun t103 => (if t103 > 2000 then (some true) else (some (decide ((l0_12.length : Int) > 3000))))
def aC.l0 : Nat → List Int → List Int → Int → Option (List Int)
 | 0, _, _, _ => none
 | k + 1, x0, x3, x4 => if x4 < (x0.length : Int) then (if 0 ≤ x4 then (if x3.length < 140737488355328 then (aC.l0 k x0 (x3 ++ [rd x0 x4]) (wrap64 (x4 + 1))) else (none)) else (none)) else (some x3)
def aC.f (k : Nat) (l0 : List Int) : Option (List Int) := aC.l0 k l0 ([] : List Int) 0
theorem aC.dG : ∀ k, (∀ y0 y1 y2, LeO (aC.l0 k y0 y1 y2) (aC.l0 (k + 1) y0 y1 y2))
 | 0 => fun _ _ _ r h => by simp [aC.l0] at h
 | k + 1 => by
  have ih0 := aC.dG k
  ·intro y0 y1 y2
   unfold aC.l0
   repeat' first
   | (with_reducible exact ih0 _ _ _)
   | (with_reducible exact LeO.refl _)
   | (with_reducible exact LeO.none _)
   | (with_reducible refine LeO.ite ?_ ?_)
   | (with_reducible refine LeO.bind ?_ (fun _ => ?_))
   | exact ih0 _ _ _
   | exact LeO.none _
   | refine LeO.ite ?_ ?_
   | refine LeO.bind ?_ (fun _ => ?_)
theorem aC.mono : ∀ a0 k, LeO (aC.f k a0) (aC.f (k + 1) a0) := by
 intro a0 k
 have ih0 := aC.dG k
 unfold aC.f
 repeat' first
   | (with_reducible exact ih0 _ _ _)
   | (with_reducible exact LeO.refl _)
   | (with_reducible exact LeO.none _)
   | (with_reducible refine LeO.ite ?_ ?_)
   | (with_reducible refine LeO.bind ?_ (fun _ => ?_))
   | exact ih0 _ _ _
   | exact LeO.none _
   | refine LeO.ite ?_ ?_
   | refine LeO.bind ?_ (fun _ => ?_)
noncomputable def aC.L0 (x0 x3 : List Int) (x4 : Int) : Option (List Int) := LB.lim (fun k => aC.l0 k x0 x3 x4)
theorem aC.eT (x0 x3 : List Int) (x4 : Int) : LB.Lim (fun k => aC.l0 k x0 x3 x4) (aC.L0 x0 x3 x4) := LB.bO (fun k => (aC.dG k) x0 x3 x4)
theorem aC.iR (x0 x3 : List Int) (x4 : Int) : aC.L0 x0 x3 x4 = (if x4 < (x0.length : Int) then (if 0 ≤ x4 then (if x3.length < 140737488355328 then (aC.L0 x0 (x3 ++ [rd x0 x4]) (wrap64 (x4 + 1))) else (none)) else (none)) else (some x3)) := by
  refine LB.Lim.unique (aC.eT x0 x3 x4).shift ?_
  simp only [aC.l0]
  (repeat' (first | exact LB.Lim.const _ | exact aC.eT _ _ _ | refine LB.Lim.ite ?_ ?_ | refine LB.Lim.bind ?_ (fun _ => ?_)))
noncomputable def aC.F (l0 : List Int) : Option (List Int) := LB.lim (fun k => aC.f k l0)
theorem aC.bK (l0 : List Int) : LB.Lim (fun k => aC.f k l0) (aC.F l0) := LB.bO (aC.mono l0)
theorem aC.iD (l0 : List Int) : aC.F l0 = (aC.L0 l0 ([] : List Int) 0) := by
  refine LB.Lim.unique (aC.bK l0) ?_
  simp only [aC.f]
  (repeat' (first | exact LB.Lim.const _ | exact aC.eT _ _ _ | refine LB.Lim.ite ?_ ?_ | refine LB.Lim.bind ?_ (fun _ => ?_)))
/-- A state of type 79 at block g of W; what its slices lead to came in by w0. -/
def bv (w0 W : World) (g : Nat) (f0 : List Int) (f1 f2 : Int) : Prop := ∃ A0 c0, W.heap[g]? = some (.cells #[.slice A0 f0.length c0, .int .i64 f1, .int .i64 f2] 79 (0, 0)) ∧ w0.heap.size ≤ g ∧ Kd.C (Kd.int .u8) w0 A0 f0.length f0 ∧ f0.length ≤ c0
theorem bv.grown {w0 W : World} {g : Nat} {f0 : List Int} {f1 : Int} {f2 : Int} {W1 : World} {row : Option Nat} (h : bv w0 W g f0 f1 f2) (hw : W.grownBy W1 row) (hne : some g ≠ row) : bv w0 W1 g f0 f1 f2 := by
 obtain ⟨A0, c0, hb, hg, hr0, hk0⟩ := h
 exact ⟨A0, c0, blk_grown hb hw hne, hg, hr0, hk0⟩
theorem bv.kept {w0 W : World} {g : Nat} {f0 : List Int} {f1 : Int} {f2 : Int} {W1 : World} {S : Nat → Prop} (h : bv w0 W g f0 f1 f2) (hk : Kept W W1 S) (hne : ¬ S g) : bv w0 W1 g f0 f1 f2 := by
 obtain ⟨A0, c0, hb, hg, hr0, hk0⟩ := h
 exact ⟨A0, c0, gN hb hk hne, hg, hr0, hk0⟩
theorem bv.below {w0 W : World} {g : Nat} {f0 : List Int} {f1 : Int} {f2 : Int} {W1 : World} (h : bv w0 W g f0 f1 f2) (hw : Below W.heap.size W W1) : bv w0 W1 g f0 f1 f2 := h.grown (grown_of_below hw none) (by simp)
theorem bv.alloc {w0 W : World} {g : Nat} {f0 : List Int} {f1 : Int} {f2 : Int} (h : bv w0 W g f0 f1 f2) (o : Obj) : bv w0 (W.alloc o) g f0 f1 f2 := h.below (aT (Below.refl _ _) o)
theorem bv.drewN {w0 W : World} {g : Nat} {f0 : List Int} {f1 : Int} {f2 : Int} (h : bv w0 W g f0 f1 f2) (m : Nat) : bv w0 (W.drewN m) g f0 f1 f2 := h
theorem bv.drew {w0 W : World} {g : Nat} {f0 : List Int} {f1 : Int} {f2 : Int} (h : bv w0 W g f0 f1 f2) : bv w0 W.drew g f0 f1 f2 := h
theorem bv.at_ {w0 W : World} {g : Nat} {f0 : List Int} {f1 : Int} {f2 : Int} {w' : World} {m : Nat} (hq : W.drewN m = w') (h : bv w0 W g f0 f1 f2) : bv w0 w' g f0 f1 f2 := by subst hq; exact bv.drewN h m
theorem bv.apart {w0 W : World} {g : Nat} {f0 : List Int} {f1 : Int} {f2 : Int} {α : Type} {d : Kd α} {e : Nat} {base : Nat} {ok : Nat → Prop} {v : Value} {xs : List α} (h : bv w0 W g f0 f1 f2) (ho : d.R e W base ok v xs) (ht : ∀ q, q ∈ e :: d.E → q ≠ 79) : d.R e W base (fun k => ok k ∧ k ≠ g) v xs := by
 obtain ⟨A0, c0, hb, hg, hr0, hk0⟩ := h
 exact Kd.eD ho hb ht
theorem bv.own_ne {w0 W : World} {g : Nat} {f0 : List Int} {f1 : Int} {f2 : Int} {α : Type} {d : Kd α} {e : Nat} {base : Nat} {ok : Nat → Prop} {v : Value} {xs : List α} (h : bv w0 W g f0 f1 f2) (ho : d.R e W base ok v xs) (ht : e ≠ 79) : some g ≠ v.ownBlock := by
 obtain ⟨A0, c0, hb, hg, hr0, hk0⟩ := h
 exact Kd.R_ne ho hb ht
theorem bv.lt {w0 W : World} {g : Nat} {f0 : List Int} {f1 : Int} {f2 : Int} (h : bv w0 W g f0 f1 f2) : g < W.heap.size := by
 obtain ⟨A0, c0, hb, hg, hr0, hk0⟩ := h
 exact gP hb
theorem bv.ge {w0 W : World} {g : Nat} {f0 : List Int} {f1 : Int} {f2 : Int} (h : bv w0 W g f0 f1 f2) : w0.heap.size ≤ g := by
 obtain ⟨A0, c0, hb, hg, hr0, hk0⟩ := h
 exact hg
theorem bv.far {w0 W : World} {g : Nat} {f0 : List Int} {f1 : Int} {f2 : Int} {p : Addr} (h : bv w0 W g f0 f1 f2) (hne : g ≠ p.block) (u : Value) : bv w0 (W.setCell p u) g f0 f1 f2 := by
 obtain ⟨A0, c0, hb, hg, hr0, hk0⟩ := h
 exact ⟨A0, c0, eX hb hne u, hg, hr0, hk0⟩
theorem iX {W : World} {g : Nat} {A0 : Option Addr} {c0 : Nat} {f0 : List Int} {f1 : Int} {f2 : Int} (h : W.heap[g]? = some (.cells #[.slice A0 f0.length c0, .int .i64 f1, .int .i64 f2] 79 (0, 0))) : W.cell? ⟨g, 0, none⟩ = some (.slice A0 f0.length c0) := (ai h 0).trans rfl
theorem jl {W : World} {g : Nat} {A0 : Option Addr} {c0 : Nat} {f0 : List Int} {f1 : Int} {f2 : Int} (h : W.heap[g]? = some (.cells #[.slice A0 f0.length c0, .int .i64 f1, .int .i64 f2] 79 (0, 0))) : W.cell? ⟨g, 1, none⟩ = some (.int .i64 f1) := (ai h 1).trans rfl
theorem bv.iI {w0 W : World} {g : Nat} {f0 : List Int} {f1 : Int} {f2 : Int} (h : bv w0 W g f0 f1 f2) (x : Int) : bv w0 (W.setCell ⟨g, 1, none⟩ (.int .i64 x)) g f0 x f2 := by
 obtain ⟨A0, c0, hb, hg, hr0, hk0⟩ := h
 exact ⟨A0, c0, by simpa using blk_set hb 1 (.int .i64 x), hg, hr0, hk0⟩
theorem jm {W : World} {g : Nat} {A0 : Option Addr} {c0 : Nat} {f0 : List Int} {f1 : Int} {f2 : Int} (h : W.heap[g]? = some (.cells #[.slice A0 f0.length c0, .int .i64 f1, .int .i64 f2] 79 (0, 0))) : W.cell? ⟨g, 2, none⟩ = some (.int .i64 f2) := (ai h 2).trans rfl
theorem bv.iG {w0 W : World} {g : Nat} {f0 : List Int} {f1 : Int} {f2 : Int} (h : bv w0 W g f0 f1 f2) (x : Int) : bv w0 (W.setCell ⟨g, 2, none⟩ (.int .i64 x)) g f0 f1 x := by
 obtain ⟨A0, c0, hb, hg, hr0, hk0⟩ := h
 exact ⟨A0, c0, by simpa using blk_set hb 2 (.int .i64 x), hg, hr0, hk0⟩
def bT.f (s0_0 : List Int) (s0_1 s0_2 a1 a2 : Int) : Option (Int × Int) := if s0_2 = 0 then (some (wrap64 (s0_1 + a1), a2)) else (some (s0_1, s0_2))
mutual
def aj.l0 : Nat → List Int → Int → Int → Option (Int × Int × Int)
 | 0, _, _, _ => none
 | k + 1, x0, x2, x5 => if x5 = (x0.length : Int) then (some (0, 0, 7)) else (if 0 ≤ x5 then (if x5 < (x0.length : Int) then (if (rd x0 x5) ≥ 128 then (aj.j1 k x0 x2 x5 (x5 == 8)) else (aj.j1 k x0 x2 x5 false)) else (none)) else (none))
def aj.j1 : Nat → List Int → Int → Int → Bool → Option (Int × Int × Int)
 | 0, _, _, _, _ => none
 | k + 1, x0, x2, x5, x18 => if x18 = true then (some (0, 0, 1)) else (if 0 ≤ x5 then (if x5 < (x0.length : Int) then (if 0 ≤ (wrap64 (7 * x5)) then (if (rd x0 x5) ≥ 128 then (aj.l0 k x0 (Go.bits .or .i64 x2 (shl .i64 (wrap64 (Go.bits .and .u8 (rd x0 x5) 127)) (wrap64 (7 * x5)))) (wrap64 (x5 + 1))) else (if (rd x0 x5) = 0 then (if x5 > 0 then (aj.j2 k (Go.bits .or .i64 x2 (shl .i64 (wrap64 (Go.bits .and .u8 (rd x0 x5) 127)) (wrap64 (7 * x5)))) x5 true) else (aj.j2 k (Go.bits .or .i64 x2 (shl .i64 (wrap64 (Go.bits .and .u8 (rd x0 x5) 127)) (wrap64 (7 * x5)))) x5 (decide ((Go.bits .or .i64 x2 (shl .i64 (wrap64 (Go.bits .and .u8 (rd x0 x5) 127)) (wrap64 (7 * x5)))) > 4611686018427387904)))) else (aj.j2 k (Go.bits .or .i64 x2 (shl .i64 (wrap64 (Go.bits .and .u8 (rd x0 x5) 127)) (wrap64 (7 * x5)))) x5 (decide ((Go.bits .or .i64 x2 (shl .i64 (wrap64 (Go.bits .and .u8 (rd x0 x5) 127)) (wrap64 (7 * x5)))) > 4611686018427387904))))) else (none)) else (none)) else (none))
def aj.j2 : Nat → Int → Int → Bool → Option (Int × Int × Int)
 | 0, _, _, _ => none
 | k + 1, x2, x5, x49 => if x49 = true then (some (0, 0, 1)) else (some (x2, wrap64 (x5 + 1), 0))
end
def aj.f (k : Nat) (l0 : List Int) : Option (Int × Int × Int) := aj.l0 k l0 0 0
theorem aj.dG : ∀ k, (∀ y0 y1 y2, LeO (aj.l0 k y0 y1 y2) (aj.l0 (k + 1) y0 y1 y2)) ∧ (∀ y0 y1 y2 y3, LeO (aj.j1 k y0 y1 y2 y3) (aj.j1 (k + 1) y0 y1 y2 y3)) ∧ (∀ y0 y1 y2, LeO (aj.j2 k y0 y1 y2) (aj.j2 (k + 1) y0 y1 y2))
 | 0 => ⟨fun _ _ _ r h => by simp [aj.l0] at h, fun _ _ _ _ r h => by simp [aj.j1] at h, fun _ _ _ r h => by simp [aj.j2] at h⟩
 | k + 1 => by
  obtain ⟨ih0, ih1, ih2⟩ := aj.dG k
  refine ⟨?_, ?_, ?_⟩
  ·intro y0 y1 y2
   unfold aj.l0
   repeat' first
   | (with_reducible exact ih0 _ _ _)
   | (with_reducible exact ih1 _ _ _ _)
   | (with_reducible exact ih2 _ _ _)
   | (with_reducible exact LeO.refl _)
   | (with_reducible exact LeO.none _)
   | (with_reducible refine LeO.ite ?_ ?_)
   | (with_reducible refine LeO.bind ?_ (fun _ => ?_))
   | exact ih0 _ _ _
   | exact ih1 _ _ _ _
   | exact ih2 _ _ _
   | exact LeO.none _
   | refine LeO.ite ?_ ?_
   | refine LeO.bind ?_ (fun _ => ?_)
  ·intro y0 y1 y2 y3
   unfold aj.j1
   repeat' first
   | (with_reducible exact ih0 _ _ _)
   | (with_reducible exact ih1 _ _ _ _)
   | (with_reducible exact ih2 _ _ _)
   | (with_reducible exact LeO.refl _)
   | (with_reducible exact LeO.none _)
   | (with_reducible refine LeO.ite ?_ ?_)
   | (with_reducible refine LeO.bind ?_ (fun _ => ?_))
   | exact ih0 _ _ _
   | exact ih1 _ _ _ _
   | exact ih2 _ _ _
   | exact LeO.none _
   | refine LeO.ite ?_ ?_
   | refine LeO.bind ?_ (fun _ => ?_)
  ·intro y0 y1 y2
   unfold aj.j2
   repeat' first
   | (with_reducible exact ih0 _ _ _)
   | (with_reducible exact ih1 _ _ _ _)
   | (with_reducible exact ih2 _ _ _)
   | (with_reducible exact LeO.refl _)
   | (with_reducible exact LeO.none _)
   | (with_reducible refine LeO.ite ?_ ?_)
   | (with_reducible refine LeO.bind ?_ (fun _ => ?_))
   | exact ih0 _ _ _
   | exact ih1 _ _ _ _
   | exact ih2 _ _ _
   | exact LeO.none _
   | refine LeO.ite ?_ ?_
   | refine LeO.bind ?_ (fun _ => ?_)
theorem aj.mono : ∀ a0 k, LeO (aj.f k a0) (aj.f (k + 1) a0) := by
 intro a0 k
 obtain ⟨ih0, ih1, ih2⟩ := aj.dG k
 unfold aj.f
 repeat' first
   | (with_reducible exact ih0 _ _ _)
   | (with_reducible exact ih1 _ _ _ _)
   | (with_reducible exact ih2 _ _ _)
   | (with_reducible exact LeO.refl _)
   | (with_reducible exact LeO.none _)
   | (with_reducible refine LeO.ite ?_ ?_)
   | (with_reducible refine LeO.bind ?_ (fun _ => ?_))
   | exact ih0 _ _ _
   | exact ih1 _ _ _ _
   | exact ih2 _ _ _
   | exact LeO.none _
   | refine LeO.ite ?_ ?_
   | refine LeO.bind ?_ (fun _ => ?_)
noncomputable def aj.L0 (x0 : List Int) (x2 x5 : Int) : Option (Int × Int × Int) := LB.lim (fun k => aj.l0 k x0 x2 x5)
noncomputable def aj.J1 (x0 : List Int) (x2 x5 : Int) (x18 : Bool) : Option (Int × Int × Int) := LB.lim (fun k => aj.j1 k x0 x2 x5 x18)
noncomputable def aj.J2 (x2 x5 : Int) (x49 : Bool) : Option (Int × Int × Int) := LB.lim (fun k => aj.j2 k x2 x5 x49)
theorem aj.eT (x0 : List Int) (x2 x5 : Int) : LB.Lim (fun k => aj.l0 k x0 x2 x5) (aj.L0 x0 x2 x5) := LB.bO (fun k => (aj.dG k).1 x0 x2 x5)
theorem aj.fD (x0 : List Int) (x2 x5 : Int) (x18 : Bool) : LB.Lim (fun k => aj.j1 k x0 x2 x5 x18) (aj.J1 x0 x2 x5 x18) := LB.bO (fun k => (aj.dG k).2.1 x0 x2 x5 x18)
theorem aj.ig (x2 x5 : Int) (x49 : Bool) : LB.Lim (fun k => aj.j2 k x2 x5 x49) (aj.J2 x2 x5 x49) := LB.bO (fun k => (aj.dG k).2.2 x2 x5 x49)
theorem aj.iR (x0 : List Int) (x2 x5 : Int) : aj.L0 x0 x2 x5 = (if x5 = (x0.length : Int) then (some (0, 0, 7)) else (if 0 ≤ x5 then (if x5 < (x0.length : Int) then (if (rd x0 x5) ≥ 128 then (aj.J1 x0 x2 x5 (x5 == 8)) else (aj.J1 x0 x2 x5 false)) else (none)) else (none))) := by
  refine LB.Lim.unique (aj.eT x0 x2 x5).shift ?_
  simp only [aj.l0]
  (repeat' (first | exact LB.Lim.const _ | exact aj.eT _ _ _ | exact aj.fD _ _ _ _ | exact aj.ig _ _ _ | refine LB.Lim.ite ?_ ?_ | refine LB.Lim.bind ?_ (fun _ => ?_)))
theorem aj.J1_eq (x0 : List Int) (x2 x5 : Int) (x18 : Bool) : aj.J1 x0 x2 x5 x18 = (if x18 = true then (some (0, 0, 1)) else (if 0 ≤ x5 then (if x5 < (x0.length : Int) then (if 0 ≤ (wrap64 (7 * x5)) then (if (rd x0 x5) ≥ 128 then (aj.L0 x0 (Go.bits .or .i64 x2 (shl .i64 (wrap64 (Go.bits .and .u8 (rd x0 x5) 127)) (wrap64 (7 * x5)))) (wrap64 (x5 + 1))) else (if (rd x0 x5) = 0 then (if x5 > 0 then (aj.J2 (Go.bits .or .i64 x2 (shl .i64 (wrap64 (Go.bits .and .u8 (rd x0 x5) 127)) (wrap64 (7 * x5)))) x5 true) else (aj.J2 (Go.bits .or .i64 x2 (shl .i64 (wrap64 (Go.bits .and .u8 (rd x0 x5) 127)) (wrap64 (7 * x5)))) x5 (decide ((Go.bits .or .i64 x2 (shl .i64 (wrap64 (Go.bits .and .u8 (rd x0 x5) 127)) (wrap64 (7 * x5)))) > 4611686018427387904)))) else (aj.J2 (Go.bits .or .i64 x2 (shl .i64 (wrap64 (Go.bits .and .u8 (rd x0 x5) 127)) (wrap64 (7 * x5)))) x5 (decide ((Go.bits .or .i64 x2 (shl .i64 (wrap64 (Go.bits .and .u8 (rd x0 x5) 127)) (wrap64 (7 * x5)))) > 4611686018427387904))))) else (none)) else (none)) else (none))) := by
  refine LB.Lim.unique (aj.fD x0 x2 x5 x18).shift ?_
  simp only [aj.j1]
  (repeat' (first | exact LB.Lim.const _ | exact aj.eT _ _ _ | exact aj.fD _ _ _ _ | exact aj.ig _ _ _ | refine LB.Lim.ite ?_ ?_ | refine LB.Lim.bind ?_ (fun _ => ?_)))
theorem aj.J2_eq (x2 x5 : Int) (x49 : Bool) : aj.J2 x2 x5 x49 = (if x49 = true then (some (0, 0, 1)) else (some (x2, wrap64 (x5 + 1), 0))) := by
  refine LB.Lim.unique (aj.ig x2 x5 x49).shift ?_
  simp only [aj.j2]
  (repeat' (first | exact LB.Lim.const _ | exact aj.eT _ _ _ | exact aj.fD _ _ _ _ | exact aj.ig _ _ _ | refine LB.Lim.ite ?_ ?_ | refine LB.Lim.bind ?_ (fun _ => ?_)))
noncomputable def aj.F (l0 : List Int) : Option (Int × Int × Int) := LB.lim (fun k => aj.f k l0)
theorem aj.bK (l0 : List Int) : LB.Lim (fun k => aj.f k l0) (aj.F l0) := LB.bO (aj.mono l0)
theorem aj.iD (l0 : List Int) : aj.F l0 = (aj.L0 l0 0 0) := by
  refine LB.Lim.unique (aj.bK l0) ?_
  simp only [aj.f]
  (repeat' (first | exact LB.Lim.const _ | exact aj.eT _ _ _ | exact aj.fD _ _ _ _ | exact aj.ig _ _ _ | refine LB.Lim.ite ?_ ?_ | refine LB.Lim.bind ?_ (fun _ => ?_)))
def fZ.f (a0_0 a0_1 : Int) : Option (Bool) := if a0_0 ≥ 1 then (if a0_0 ≤ 1099511627776 then (if a0_1 ≥ 0 then (some (decide (a0_1 < 16))) else (some false)) else (some false)) else (some false)
def gH.f  : Option (Int × Int) := some (0, 0)
def jo.f  : Option (Int × Int) := some (0, 1)
def dV.f (a0_0 a0_1 : Int) : Option (Bool) := (fZ.f a0_0 a0_1).bind fun t116 => (if t116 = true then (some true) else ((gH.f).bind fun bt117 => (if (a0_0 == bt117.1 && (a0_1 == bt117.2)) = true then (some true) else ((jo.f).bind fun bt119 => (some (a0_0 == bt119.1 && (a0_1 == bt119.2)))))))
def eP.f (k : Nat) (l0 : List Int) : Option (Int × Int × Int × Int) := (aj.f k l0).bind fun bt122 => (if bt122.2.2 = 0 then (if 0 ≤ bt122.2.1 then (if bt122.2.1 ≤ (l0.length : Int) then ((aj.f k (l0.drop (bt122.2.1 : Int).toNat)).bind fun bt126 => (if bt126.2.2 = 0 then ((dV.f bt122.1 bt126.1).bind fun t129 => (if t129 = true then (some (bt122.1, bt126.1, wrap64 (bt122.2.1 + bt126.2.1), 0)) else (some (0, 0, 0, 1)))) else (some (0, 0, 0, bt126.2.2)))) else (none)) else (none)) else (some (0, 0, 0, bt122.2.2)))
theorem eP.mono : ∀ a0 k, LeO (eP.f k a0) (eP.f (k + 1) a0) := by
 intro a0 k
 unfold eP.f
 repeat' first
   | (with_reducible exact aj.mono _ _)
   | (with_reducible exact LeO.refl _)
   | (with_reducible exact LeO.none _)
   | (with_reducible refine LeO.ite ?_ ?_)
   | (with_reducible refine LeO.bind ?_ (fun _ => ?_))
   | exact aj.mono _ _
   | exact LeO.none _
   | refine LeO.ite ?_ ?_
   | refine LeO.bind ?_ (fun _ => ?_)
noncomputable def eP.F (l0 : List Int) : Option (Int × Int × Int × Int) := LB.lim (fun k => eP.f k l0)
theorem eP.bK (l0 : List Int) : LB.Lim (fun k => eP.f k l0) (eP.F l0) := LB.bO (eP.mono l0)
theorem eP.iD (l0 : List Int) : eP.F l0 = ((aj.F l0).bind fun bt122 => (if bt122.2.2 = 0 then (if 0 ≤ bt122.2.1 then (if bt122.2.1 ≤ (l0.length : Int) then ((aj.F (l0.drop (bt122.2.1 : Int).toNat)).bind fun bt126 => (if bt126.2.2 = 0 then ((dV.f bt122.1 bt126.1).bind fun t129 => (if t129 = true then (some (bt122.1, bt126.1, wrap64 (bt122.2.1 + bt126.2.1), 0)) else (some (0, 0, 0, 1)))) else (some (0, 0, 0, bt126.2.2)))) else (none)) else (none)) else (some (0, 0, 0, bt122.2.2)))) := by
  refine LB.Lim.unique (eP.bK l0) ?_
  simp only [eP.f]
  (repeat' (first | exact LB.Lim.const _ | exact aj.bK _ | refine LB.Lim.ite ?_ ?_ | refine LB.Lim.bind ?_ (fun _ => ?_)))
def bq.f (k : Nat) (s0_0 : List Int) (s0_1 s0_2 : Int) : Option (Int × Int × Int × Int) := if 0 ≤ s0_1 then (if s0_1 ≤ (s0_0.length : Int) then ((eP.f k (s0_0.drop (s0_1 : Int).toNat)).bind fun bt132 => ((bT.f s0_0 s0_1 s0_2 bt132.2.2.1 bt132.2.2.2).bind fun bt137 => (some (bt132.1, bt132.2.1, bt137.1, bt137.2)))) else (none)) else (none)
theorem bq.mono : ∀ a0 a1 a2 k, LeO (bq.f k a0 a1 a2) (bq.f (k + 1) a0 a1 a2) := by
 intro a0 a1 a2 k
 unfold bq.f
 repeat' first
   | (with_reducible exact eP.mono _ _)
   | (with_reducible exact LeO.refl _)
   | (with_reducible exact LeO.none _)
   | (with_reducible refine LeO.ite ?_ ?_)
   | (with_reducible refine LeO.bind ?_ (fun _ => ?_))
   | exact eP.mono _ _
   | exact LeO.none _
   | refine LeO.ite ?_ ?_
   | refine LeO.bind ?_ (fun _ => ?_)
noncomputable def bq.F (s0_0 : List Int) (s0_1 s0_2 : Int) : Option (Int × Int × Int × Int) := LB.lim (fun k => bq.f k s0_0 s0_1 s0_2)
theorem bq.bK (s0_0 : List Int) (s0_1 s0_2 : Int) : LB.Lim (fun k => bq.f k s0_0 s0_1 s0_2) (bq.F s0_0 s0_1 s0_2) := LB.bO (bq.mono s0_0 s0_1 s0_2)
theorem bq.iD (s0_0 : List Int) (s0_1 s0_2 : Int) : bq.F s0_0 s0_1 s0_2 = (if 0 ≤ s0_1 then (if s0_1 ≤ (s0_0.length : Int) then ((eP.F (s0_0.drop (s0_1 : Int).toNat)).bind fun bt132 => ((bT.f s0_0 s0_1 s0_2 bt132.2.2.1 bt132.2.2.2).bind fun bt137 => (some (bt132.1, bt132.2.1, bt137.1, bt137.2)))) else (none)) else (none)) := by
  refine LB.Lim.unique (bq.bK s0_0 s0_1 s0_2) ?_
  simp only [bq.f]
  (repeat' (first | exact LB.Lim.const _ | exact eP.bK _ | refine LB.Lim.ite ?_ ?_ | refine LB.Lim.bind ?_ (fun _ => ?_)))
def dB.l0 : Nat → List Int → Int → Option (Bool)
 | 0, _, _ => none
 | k + 1, x0, x3 => if x3 = (x0.length : Int) then (if x3 ≥ 1 then (some (decide (x3 ≤ 16))) else (some false)) else (if 0 ≤ x3 then (if x3 < (x0.length : Int) then (if (rd x0 x3) ≥ 0 then (if (rd x0 x3) ≤ 1099511627776 then (dB.l0 k x0 (wrap64 (x3 + 1))) else (some false)) else (some false)) else (none)) else (none))
def dB.f (k : Nat) (l0 : List Int) : Option (Bool) := dB.l0 k l0 0
theorem dB.dG : ∀ k, (∀ y0 y1, LeO (dB.l0 k y0 y1) (dB.l0 (k + 1) y0 y1))
 | 0 => fun _ _ r h => by simp [dB.l0] at h
 | k + 1 => by
  have ih0 := dB.dG k
  ·intro y0 y1
   unfold dB.l0
   repeat' first
   | (with_reducible exact ih0 _ _)
   | (with_reducible exact LeO.refl _)
   | (with_reducible exact LeO.none _)
   | (with_reducible refine LeO.ite ?_ ?_)
   | (with_reducible refine LeO.bind ?_ (fun _ => ?_))
   | exact ih0 _ _
   | exact LeO.none _
   | refine LeO.ite ?_ ?_
   | refine LeO.bind ?_ (fun _ => ?_)
theorem dB.mono : ∀ a0 k, LeO (dB.f k a0) (dB.f (k + 1) a0) := by
 intro a0 k
 have ih0 := dB.dG k
 unfold dB.f
 repeat' first
   | (with_reducible exact ih0 _ _)
   | (with_reducible exact LeO.refl _)
   | (with_reducible exact LeO.none _)
   | (with_reducible refine LeO.ite ?_ ?_)
   | (with_reducible refine LeO.bind ?_ (fun _ => ?_))
   | exact ih0 _ _
   | exact LeO.none _
   | refine LeO.ite ?_ ?_
   | refine LeO.bind ?_ (fun _ => ?_)
noncomputable def dB.L0 (x0 : List Int) (x3 : Int) : Option (Bool) := LB.lim (fun k => dB.l0 k x0 x3)
theorem dB.eT (x0 : List Int) (x3 : Int) : LB.Lim (fun k => dB.l0 k x0 x3) (dB.L0 x0 x3) := LB.bO (fun k => (dB.dG k) x0 x3)
theorem dB.iR (x0 : List Int) (x3 : Int) : dB.L0 x0 x3 = (if x3 = (x0.length : Int) then (if x3 ≥ 1 then (some (decide (x3 ≤ 16))) else (some false)) else (if 0 ≤ x3 then (if x3 < (x0.length : Int) then (if (rd x0 x3) ≥ 0 then (if (rd x0 x3) ≤ 1099511627776 then (dB.L0 x0 (wrap64 (x3 + 1))) else (some false)) else (some false)) else (none)) else (none))) := by
  refine LB.Lim.unique (dB.eT x0 x3).shift ?_
  simp only [dB.l0]
  (repeat' (first | exact LB.Lim.const _ | exact dB.eT _ _ | refine LB.Lim.ite ?_ ?_ | refine LB.Lim.bind ?_ (fun _ => ?_)))
noncomputable def dB.F (l0 : List Int) : Option (Bool) := LB.lim (fun k => dB.f k l0)
theorem dB.bK (l0 : List Int) : LB.Lim (fun k => dB.f k l0) (dB.F l0) := LB.bO (dB.mono l0)
theorem dB.iD (l0 : List Int) : dB.F l0 = (dB.L0 l0 0) := by
  refine LB.Lim.unique (dB.bK l0) ?_
  simp only [dB.f]
  (repeat' (first | exact LB.Lim.const _ | exact dB.eT _ _ | refine LB.Lim.ite ?_ ?_ | refine LB.Lim.bind ?_ (fun _ => ?_)))
def bn.l0 : Nat → List Int → List Int → Int → Int → Int → Option (List Int × Int × Int)
 | 0, _, _, _, _, _ => none
 | k + 1, x0, x2, x3, x20, x21 => if x21 < x20 then (if 0 ≤ x3 then (if x3 ≤ (x0.length : Int) then ((aj.f k (x0.drop (x3 : Int).toNat)).bind fun bt145 => (if bt145.2.2 = 0 then (if x2.length < 17592186044416 then (bn.l0 k x0 (x2 ++ [bt145.1]) (wrap64 (x3 + bt145.2.1)) x20 (wrap64 (x21 + 1))) else (none)) else (some (([] : List Int), 0, bt145.2.2)))) else (none)) else (none)) else (some (x2, x3, 0))
def bn.f (k : Nat) (l0 : List Int) : Option (List Int × Int × Int) := (aj.f k l0).bind fun bt141 => (if bt141.2.2 = 0 then (if bt141.1 > 1024 then (some (([] : List Int), 0, 1)) else (bn.l0 k l0 ([] : List Int) bt141.2.1 bt141.1 0)) else (some (([] : List Int), 0, bt141.2.2)))
theorem bn.dG : ∀ k, (∀ y0 y1 y2 y3 y4, LeO (bn.l0 k y0 y1 y2 y3 y4) (bn.l0 (k + 1) y0 y1 y2 y3 y4))
 | 0 => fun _ _ _ _ _ r h => by simp [bn.l0] at h
 | k + 1 => by
  have ih0 := bn.dG k
  ·intro y0 y1 y2 y3 y4
   unfold bn.l0
   repeat' first
   | (with_reducible exact ih0 _ _ _ _ _)
   | (with_reducible exact aj.mono _ _)
   | (with_reducible exact LeO.refl _)
   | (with_reducible exact LeO.none _)
   | (with_reducible refine LeO.ite ?_ ?_)
   | (with_reducible refine LeO.bind ?_ (fun _ => ?_))
   | exact ih0 _ _ _ _ _
   | exact aj.mono _ _
   | exact LeO.none _
   | refine LeO.ite ?_ ?_
   | refine LeO.bind ?_ (fun _ => ?_)
theorem bn.mono : ∀ a0 k, LeO (bn.f k a0) (bn.f (k + 1) a0) := by
 intro a0 k
 have ih0 := bn.dG k
 unfold bn.f
 repeat' first
   | (with_reducible exact ih0 _ _ _ _ _)
   | (with_reducible exact aj.mono _ _)
   | (with_reducible exact LeO.refl _)
   | (with_reducible exact LeO.none _)
   | (with_reducible refine LeO.ite ?_ ?_)
   | (with_reducible refine LeO.bind ?_ (fun _ => ?_))
   | exact ih0 _ _ _ _ _
   | exact aj.mono _ _
   | exact LeO.none _
   | refine LeO.ite ?_ ?_
   | refine LeO.bind ?_ (fun _ => ?_)
noncomputable def bn.L0 (x0 x2 : List Int) (x3 x20 x21 : Int) : Option (List Int × Int × Int) := LB.lim (fun k => bn.l0 k x0 x2 x3 x20 x21)
theorem bn.eT (x0 x2 : List Int) (x3 x20 x21 : Int) : LB.Lim (fun k => bn.l0 k x0 x2 x3 x20 x21) (bn.L0 x0 x2 x3 x20 x21) := LB.bO (fun k => (bn.dG k) x0 x2 x3 x20 x21)
theorem bn.iR (x0 x2 : List Int) (x3 x20 x21 : Int) : bn.L0 x0 x2 x3 x20 x21 = (if x21 < x20 then (if 0 ≤ x3 then (if x3 ≤ (x0.length : Int) then ((aj.F (x0.drop (x3 : Int).toNat)).bind fun bt145 => (if bt145.2.2 = 0 then (if x2.length < 17592186044416 then (bn.L0 x0 (x2 ++ [bt145.1]) (wrap64 (x3 + bt145.2.1)) x20 (wrap64 (x21 + 1))) else (none)) else (some (([] : List Int), 0, bt145.2.2)))) else (none)) else (none)) else (some (x2, x3, 0))) := by
  refine LB.Lim.unique (bn.eT x0 x2 x3 x20 x21).shift ?_
  simp only [bn.l0]
  (repeat' (first | exact LB.Lim.const _ | exact bn.eT _ _ _ _ _ | exact aj.bK _ | refine LB.Lim.ite ?_ ?_ | refine LB.Lim.bind ?_ (fun _ => ?_)))
noncomputable def bn.F (l0 : List Int) : Option (List Int × Int × Int) := LB.lim (fun k => bn.f k l0)
theorem bn.bK (l0 : List Int) : LB.Lim (fun k => bn.f k l0) (bn.F l0) := LB.bO (bn.mono l0)
theorem bn.iD (l0 : List Int) : bn.F l0 = ((aj.F l0).bind fun bt141 => (if bt141.2.2 = 0 then (if bt141.1 > 1024 then (some (([] : List Int), 0, 1)) else (bn.L0 l0 ([] : List Int) bt141.2.1 bt141.1 0)) else (some (([] : List Int), 0, bt141.2.2)))) := by
  refine LB.Lim.unique (bn.bK l0) ?_
  simp only [bn.f]
  (repeat' (first | exact LB.Lim.const _ | exact bn.eT _ _ _ _ _ | exact aj.bK _ | refine LB.Lim.ite ?_ ?_ | refine LB.Lim.bind ?_ (fun _ => ?_)))
def eH.f (k : Nat) (l0 : List Int) : Option (List Int × Int × Int) := (bn.f k l0).bind fun bt151 => (if bt151.2.2 = 0 then ((dB.f k bt151.1).bind fun t156 => (if t156 = true then (some (bt151.1, bt151.2.1, 0)) else (some (([] : List Int), 0, 1)))) else (some (([] : List Int), 0, bt151.2.2)))
theorem eH.mono : ∀ a0 k, LeO (eH.f k a0) (eH.f (k + 1) a0) := by
 intro a0 k
 unfold eH.f
 repeat' first
   | (with_reducible exact bn.mono _ _)
   | (with_reducible exact dB.mono _ _)
   | (with_reducible exact LeO.refl _)
   | (with_reducible exact LeO.none _)
   | (with_reducible refine LeO.ite ?_ ?_)
   | (with_reducible refine LeO.bind ?_ (fun _ => ?_))
   | exact bn.mono _ _
   | exact dB.mono _ _
   | exact LeO.none _
   | refine LeO.ite ?_ ?_
   | refine LeO.bind ?_ (fun _ => ?_)
noncomputable def eH.F (l0 : List Int) : Option (List Int × Int × Int) := LB.lim (fun k => eH.f k l0)
theorem eH.bK (l0 : List Int) : LB.Lim (fun k => eH.f k l0) (eH.F l0) := LB.bO (eH.mono l0)
theorem eH.iD (l0 : List Int) : eH.F l0 = ((bn.F l0).bind fun bt151 => (if bt151.2.2 = 0 then ((dB.F bt151.1).bind fun t156 => (if t156 = true then (some (bt151.1, bt151.2.1, 0)) else (some (([] : List Int), 0, 1)))) else (some (([] : List Int), 0, bt151.2.2)))) := by
  refine LB.Lim.unique (eH.bK l0) ?_
  simp only [eH.f]
  (repeat' (first | exact LB.Lim.const _ | exact bn.bK _ | exact dB.bK _ | refine LB.Lim.ite ?_ ?_ | refine LB.Lim.bind ?_ (fun _ => ?_)))
def bA.f (k : Nat) (s0_0 : List Int) (s0_1 s0_2 : Int) : Option (Int × Int × Int) := if 0 ≤ s0_1 then (if s0_1 ≤ (s0_0.length : Int) then ((aj.f k (s0_0.drop (s0_1 : Int).toNat)).bind fun bt158 => ((bT.f s0_0 s0_1 s0_2 bt158.2.1 bt158.2.2).bind fun bt161 => (some (bt158.1, bt161.1, bt161.2)))) else (none)) else (none)
theorem bA.mono : ∀ a0 a1 a2 k, LeO (bA.f k a0 a1 a2) (bA.f (k + 1) a0 a1 a2) := by
 intro a0 a1 a2 k
 unfold bA.f
 repeat' first
   | (with_reducible exact aj.mono _ _)
   | (with_reducible exact LeO.refl _)
   | (with_reducible exact LeO.none _)
   | (with_reducible refine LeO.ite ?_ ?_)
   | (with_reducible refine LeO.bind ?_ (fun _ => ?_))
   | exact aj.mono _ _
   | exact LeO.none _
   | refine LeO.ite ?_ ?_
   | refine LeO.bind ?_ (fun _ => ?_)
noncomputable def bA.F (s0_0 : List Int) (s0_1 s0_2 : Int) : Option (Int × Int × Int) := LB.lim (fun k => bA.f k s0_0 s0_1 s0_2)
theorem bA.bK (s0_0 : List Int) (s0_1 s0_2 : Int) : LB.Lim (fun k => bA.f k s0_0 s0_1 s0_2) (bA.F s0_0 s0_1 s0_2) := LB.bO (bA.mono s0_0 s0_1 s0_2)
theorem bA.iD (s0_0 : List Int) (s0_1 s0_2 : Int) : bA.F s0_0 s0_1 s0_2 = (if 0 ≤ s0_1 then (if s0_1 ≤ (s0_0.length : Int) then ((aj.F (s0_0.drop (s0_1 : Int).toNat)).bind fun bt158 => ((bT.f s0_0 s0_1 s0_2 bt158.2.1 bt158.2.2).bind fun bt161 => (some (bt158.1, bt161.1, bt161.2)))) else (none)) else (none)) := by
  refine LB.Lim.unique (bA.bK s0_0 s0_1 s0_2) ?_
  simp only [bA.f]
  (repeat' (first | exact LB.Lim.const _ | exact aj.bK _ | refine LB.Lim.ite ?_ ?_ | refine LB.Lim.bind ?_ (fun _ => ?_)))
def bV.f (k : Nat) (l0 : List Int) : Option (ByteArray × Int × Int) := (aj.f k l0).bind fun bt163 => (if bt163.2.2 = 0 then (if bt163.1 > 65536 then (some ((⟨#[]⟩ : ByteArray), 0, 1)) else (if bt163.1 > (wrap64 ((l0.length : Int) - bt163.2.1)) then (some ((⟨#[]⟩ : ByteArray), 0, 7)) else (if 0 ≤ bt163.2.1 then (if bt163.2.1 ≤ (wrap64 (bt163.2.1 + bt163.1)) then (if (wrap64 (bt163.2.1 + bt163.1)) ≤ (l0.length : Int) then (some (strOfNums ((l0.take ((wrap64 (bt163.2.1 + bt163.1)) : Int).toNat).drop (bt163.2.1 : Int).toNat), wrap64 (bt163.2.1 + bt163.1), 0)) else (none)) else (none)) else (none)))) else (some ((⟨#[]⟩ : ByteArray), 0, bt163.2.2)))
theorem bV.mono : ∀ a0 k, LeO (bV.f k a0) (bV.f (k + 1) a0) := by
 intro a0 k
 unfold bV.f
 repeat' first
   | (with_reducible exact aj.mono _ _)
   | (with_reducible exact LeO.refl _)
   | (with_reducible exact LeO.none _)
   | (with_reducible refine LeO.ite ?_ ?_)
   | (with_reducible refine LeO.bind ?_ (fun _ => ?_))
   | exact aj.mono _ _
   | exact LeO.none _
   | refine LeO.ite ?_ ?_
   | refine LeO.bind ?_ (fun _ => ?_)
noncomputable def bV.F (l0 : List Int) : Option (ByteArray × Int × Int) := LB.lim (fun k => bV.f k l0)
theorem bV.bK (l0 : List Int) : LB.Lim (fun k => bV.f k l0) (bV.F l0) := LB.bO (bV.mono l0)
theorem bV.iD (l0 : List Int) : bV.F l0 = ((aj.F l0).bind fun bt163 => (if bt163.2.2 = 0 then (if bt163.1 > 65536 then (some ((⟨#[]⟩ : ByteArray), 0, 1)) else (if bt163.1 > (wrap64 ((l0.length : Int) - bt163.2.1)) then (some ((⟨#[]⟩ : ByteArray), 0, 7)) else (if 0 ≤ bt163.2.1 then (if bt163.2.1 ≤ (wrap64 (bt163.2.1 + bt163.1)) then (if (wrap64 (bt163.2.1 + bt163.1)) ≤ (l0.length : Int) then (some (strOfNums ((l0.take ((wrap64 (bt163.2.1 + bt163.1)) : Int).toNat).drop (bt163.2.1 : Int).toNat), wrap64 (bt163.2.1 + bt163.1), 0)) else (none)) else (none)) else (none)))) else (some ((⟨#[]⟩ : ByteArray), 0, bt163.2.2)))) := by
  refine LB.Lim.unique (bV.bK l0) ?_
  simp only [bV.f]
  (repeat' (first | exact LB.Lim.const _ | exact aj.bK _ | refine LB.Lim.ite ?_ ?_ | refine LB.Lim.bind ?_ (fun _ => ?_)))
mutual
def ax.j0 : Nat → Bool → List Int → Int → Int → Int → Int → Int → List Int → Int → Int → Int → Int → Int → ByteArray → Int → Int → Option (Int × Int × Int × List Int × Int × Int × Int × Int × Int × ByteArray × Int × Int × Int × Int)
 | 0, _, _, _, _, _, _, _, _, _, _, _, _, _, _, _, _ => none
 | k + 1, x42, x1000, x1001, x1002, gB, gI, gy, gF, fP, il, iq, gT, gX, gZ, gU, gV => if x42 = true then ((bT.f x1000 x1001 x1002 0 1).bind fun bt183 => (ax.j1 k x1000 bt183.1 bt183.2 gB gI gy gF fP il iq gT gX gZ gU gV)) else (ax.j1 k x1000 x1001 x1002 gB gI gy gF fP il iq gT gX gZ gU gV)
def ax.j1 : Nat → List Int → Int → Int → Int → Int → Int → List Int → Int → Int → Int → Int → Int → ByteArray → Int → Int → Option (Int × Int × Int × List Int × Int × Int × Int × Int × Int × ByteArray × Int × Int × Int × Int)
 | 0, _, _, _, _, _, _, _, _, _, _, _, _, _, _, _ => none
 | k + 1, x1000, x1001, x1002, gB, gI, gy, gF, fP, il, iq, gT, gX, gZ, gU, gV => (bq.f k x1000 x1001 x1002).bind fun bt185 => (if fP = 1 then ((bq.f k x1000 bt185.2.2.1 bt185.2.2.2).bind fun bt189 => (if 0 ≤ bt189.2.2.1 then (if bt189.2.2.1 ≤ (x1000.length : Int) then ((bV.f k (x1000.drop (bt189.2.2.1 : Int).toNat)).bind fun bt194 => ((bT.f x1000 bt189.2.2.1 bt189.2.2.2 bt194.2.1 bt194.2.2).bind fun bt197 => (some (gB, gI, gy, gF, fP, bt185.1, bt185.2.1, bt189.1, bt189.2.1, bt194.1, gU, gV, bt197.1, bt197.2)))) else (none)) else (none))) else ((bA.f k x1000 bt185.2.2.1 bt185.2.2.2).bind fun bt199 => ((bA.f k x1000 bt199.2.1 bt199.2.2).bind fun bt202 => (some (gB, gI, gy, gF, fP, bt185.1, bt185.2.1, gT, gX, gZ, bt199.1, wrap64 (bt202.1 - 1), bt202.2.1, bt202.2.2)))))
end
def ax.f (k : Nat) (s0_0 : List Int) (s0_1 s0_2 : Int) : Option (Int × Int × Int × List Int × Int × Int × Int × Int × Int × ByteArray × Int × Int × Int × Int) := (bq.f k s0_0 s0_1 s0_2).bind fun bt168 => (if 0 ≤ bt168.2.2.1 then (if bt168.2.2.1 ≤ (s0_0.length : Int) then ((eH.f k (s0_0.drop (bt168.2.2.1 : Int).toNat)).bind fun bt173 => ((bT.f s0_0 bt168.2.2.1 bt168.2.2.2 bt173.2.1 bt173.2.2).bind fun bt178 => ((bA.f k s0_0 bt178.1 bt178.2).bind fun bt180 => (if bt180.1 = 1 then (ax.j0 k false s0_0 bt180.2.1 bt180.2.2 bt168.1 bt168.2.1 0 bt173.1 bt180.1 0 0 0 0 (⟨#[]⟩ : ByteArray) 0 0) else (ax.j0 k (bt180.1 != 2) s0_0 bt180.2.1 bt180.2.2 bt168.1 bt168.2.1 0 bt173.1 bt180.1 0 0 0 0 (⟨#[]⟩ : ByteArray) 0 0))))) else (none)) else (none))
theorem ax.dG : ∀ k, (∀ y0 y1 y2 y3 y4 y5 y6 y7 y8 y9 y10 y11 y12 y13 y14 y15, LeO (ax.j0 k y0 y1 y2 y3 y4 y5 y6 y7 y8 y9 y10 y11 y12 y13 y14 y15) (ax.j0 (k + 1) y0 y1 y2 y3 y4 y5 y6 y7 y8 y9 y10 y11 y12 y13 y14 y15)) ∧ (∀ y0 y1 y2 y3 y4 y5 y6 y7 y8 y9 y10 y11 y12 y13 y14, LeO (ax.j1 k y0 y1 y2 y3 y4 y5 y6 y7 y8 y9 y10 y11 y12 y13 y14) (ax.j1 (k + 1) y0 y1 y2 y3 y4 y5 y6 y7 y8 y9 y10 y11 y12 y13 y14))
 | 0 => ⟨fun _ _ _ _ _ _ _ _ _ _ _ _ _ _ _ _ r h => by simp [ax.j0] at h, fun _ _ _ _ _ _ _ _ _ _ _ _ _ _ _ r h => by simp [ax.j1] at h⟩
 | k + 1 => by
  obtain ⟨ih0, ih1⟩ := ax.dG k
  refine ⟨?_, ?_⟩
  ·intro y0 y1 y2 y3 y4 y5 y6 y7 y8 y9 y10 y11 y12 y13 y14 y15
   unfold ax.j0
   repeat' first
   | (with_reducible exact ih0 _ _ _ _ _ _ _ _ _ _ _ _ _ _ _ _)
   | (with_reducible exact ih1 _ _ _ _ _ _ _ _ _ _ _ _ _ _ _)
   | (with_reducible exact bV.mono _ _)
   | (with_reducible exact eH.mono _ _)
   | (with_reducible exact bA.mono _ _ _ _)
   | (with_reducible exact bq.mono _ _ _ _)
   | (with_reducible exact LeO.refl _)
   | (with_reducible exact LeO.none _)
   | (with_reducible refine LeO.ite ?_ ?_)
   | (with_reducible refine LeO.bind ?_ (fun _ => ?_))
   | exact ih0 _ _ _ _ _ _ _ _ _ _ _ _ _ _ _ _
   | exact ih1 _ _ _ _ _ _ _ _ _ _ _ _ _ _ _
   | exact bV.mono _ _
   | exact eH.mono _ _
   | exact bA.mono _ _ _ _
   | exact bq.mono _ _ _ _
   | exact LeO.none _
   | refine LeO.ite ?_ ?_
   | refine LeO.bind ?_ (fun _ => ?_)
  ·intro y0 y1 y2 y3 y4 y5 y6 y7 y8 y9 y10 y11 y12 y13 y14
   unfold ax.j1
   repeat' first
   | (with_reducible exact ih0 _ _ _ _ _ _ _ _ _ _ _ _ _ _ _ _)
   | (with_reducible exact ih1 _ _ _ _ _ _ _ _ _ _ _ _ _ _ _)
   | (with_reducible exact bV.mono _ _)
   | (with_reducible exact eH.mono _ _)
   | (with_reducible exact bA.mono _ _ _ _)
   | (with_reducible exact bq.mono _ _ _ _)
   | (with_reducible exact LeO.refl _)
   | (with_reducible exact LeO.none _)
   | (with_reducible refine LeO.ite ?_ ?_)
   | (with_reducible refine LeO.bind ?_ (fun _ => ?_))
   | exact ih0 _ _ _ _ _ _ _ _ _ _ _ _ _ _ _ _
   | exact ih1 _ _ _ _ _ _ _ _ _ _ _ _ _ _ _
   | exact bV.mono _ _
   | exact eH.mono _ _
   | exact bA.mono _ _ _ _
   | exact bq.mono _ _ _ _
   | exact LeO.none _
   | refine LeO.ite ?_ ?_
   | refine LeO.bind ?_ (fun _ => ?_)
theorem ax.mono : ∀ a0 a1 a2 k, LeO (ax.f k a0 a1 a2) (ax.f (k + 1) a0 a1 a2) := by
 intro a0 a1 a2 k
 obtain ⟨ih0, ih1⟩ := ax.dG k
 unfold ax.f
 repeat' first
   | (with_reducible exact ih0 _ _ _ _ _ _ _ _ _ _ _ _ _ _ _ _)
   | (with_reducible exact ih1 _ _ _ _ _ _ _ _ _ _ _ _ _ _ _)
   | (with_reducible exact bV.mono _ _)
   | (with_reducible exact eH.mono _ _)
   | (with_reducible exact bA.mono _ _ _ _)
   | (with_reducible exact bq.mono _ _ _ _)
   | (with_reducible exact LeO.refl _)
   | (with_reducible exact LeO.none _)
   | (with_reducible refine LeO.ite ?_ ?_)
   | (with_reducible refine LeO.bind ?_ (fun _ => ?_))
   | exact ih0 _ _ _ _ _ _ _ _ _ _ _ _ _ _ _ _
   | exact ih1 _ _ _ _ _ _ _ _ _ _ _ _ _ _ _
   | exact bV.mono _ _
   | exact eH.mono _ _
   | exact bA.mono _ _ _ _
   | exact bq.mono _ _ _ _
   | exact LeO.none _
   | refine LeO.ite ?_ ?_
   | refine LeO.bind ?_ (fun _ => ?_)
noncomputable def ax.J0 (x42 : Bool) (x1000 : List Int) (x1001 x1002 gB gI gy : Int) (gF : List Int) (fP il iq gT gX : Int) (gZ : ByteArray) (gU gV : Int) : Option (Int × Int × Int × List Int × Int × Int × Int × Int × Int × ByteArray × Int × Int × Int × Int) := LB.lim (fun k => ax.j0 k x42 x1000 x1001 x1002 gB gI gy gF fP il iq gT gX gZ gU gV)
noncomputable def ax.J1 (x1000 : List Int) (x1001 x1002 gB gI gy : Int) (gF : List Int) (fP il iq gT gX : Int) (gZ : ByteArray) (gU gV : Int) : Option (Int × Int × Int × List Int × Int × Int × Int × Int × Int × ByteArray × Int × Int × Int × Int) := LB.lim (fun k => ax.j1 k x1000 x1001 x1002 gB gI gy gF fP il iq gT gX gZ gU gV)
theorem ax.ib (x42 : Bool) (x1000 : List Int) (x1001 x1002 gB gI gy : Int) (gF : List Int) (fP il iq gT gX : Int) (gZ : ByteArray) (gU gV : Int) : LB.Lim (fun k => ax.j0 k x42 x1000 x1001 x1002 gB gI gy gF fP il iq gT gX gZ gU gV) (ax.J0 x42 x1000 x1001 x1002 gB gI gy gF fP il iq gT gX gZ gU gV) := LB.bO (fun k => (ax.dG k).1 x42 x1000 x1001 x1002 gB gI gy gF fP il iq gT gX gZ gU gV)
theorem ax.fD (x1000 : List Int) (x1001 x1002 gB gI gy : Int) (gF : List Int) (fP il iq gT gX : Int) (gZ : ByteArray) (gU gV : Int) : LB.Lim (fun k => ax.j1 k x1000 x1001 x1002 gB gI gy gF fP il iq gT gX gZ gU gV) (ax.J1 x1000 x1001 x1002 gB gI gy gF fP il iq gT gX gZ gU gV) := LB.bO (fun k => (ax.dG k).2 x1000 x1001 x1002 gB gI gy gF fP il iq gT gX gZ gU gV)
theorem ax.J0_eq (x42 : Bool) (x1000 : List Int) (x1001 x1002 gB gI gy : Int) (gF : List Int) (fP il iq gT gX : Int) (gZ : ByteArray) (gU gV : Int) : ax.J0 x42 x1000 x1001 x1002 gB gI gy gF fP il iq gT gX gZ gU gV = (if x42 = true then ((bT.f x1000 x1001 x1002 0 1).bind fun bt183 => (ax.J1 x1000 bt183.1 bt183.2 gB gI gy gF fP il iq gT gX gZ gU gV)) else (ax.J1 x1000 x1001 x1002 gB gI gy gF fP il iq gT gX gZ gU gV)) := by
  refine LB.Lim.unique (ax.ib x42 x1000 x1001 x1002 gB gI gy gF fP il iq gT gX gZ gU gV).shift ?_
  simp only [ax.j0]
  (repeat' (first | exact LB.Lim.const _ | exact ax.ib _ _ _ _ _ _ _ _ _ _ _ _ _ _ _ _ | exact ax.fD _ _ _ _ _ _ _ _ _ _ _ _ _ _ _ | exact bV.bK _ | exact eH.bK _ | exact bA.bK _ _ _ | exact bq.bK _ _ _ | refine LB.Lim.ite ?_ ?_ | refine LB.Lim.bind ?_ (fun _ => ?_)))
theorem ax.J1_eq (x1000 : List Int) (x1001 x1002 gB gI gy : Int) (gF : List Int) (fP il iq gT gX : Int) (gZ : ByteArray) (gU gV : Int) : ax.J1 x1000 x1001 x1002 gB gI gy gF fP il iq gT gX gZ gU gV = ((bq.F x1000 x1001 x1002).bind fun bt185 => (if fP = 1 then ((bq.F x1000 bt185.2.2.1 bt185.2.2.2).bind fun bt189 => (if 0 ≤ bt189.2.2.1 then (if bt189.2.2.1 ≤ (x1000.length : Int) then ((bV.F (x1000.drop (bt189.2.2.1 : Int).toNat)).bind fun bt194 => ((bT.f x1000 bt189.2.2.1 bt189.2.2.2 bt194.2.1 bt194.2.2).bind fun bt197 => (some (gB, gI, gy, gF, fP, bt185.1, bt185.2.1, bt189.1, bt189.2.1, bt194.1, gU, gV, bt197.1, bt197.2)))) else (none)) else (none))) else ((bA.F x1000 bt185.2.2.1 bt185.2.2.2).bind fun bt199 => ((bA.F x1000 bt199.2.1 bt199.2.2).bind fun bt202 => (some (gB, gI, gy, gF, fP, bt185.1, bt185.2.1, gT, gX, gZ, bt199.1, wrap64 (bt202.1 - 1), bt202.2.1, bt202.2.2)))))) := by
  refine LB.Lim.unique (ax.fD x1000 x1001 x1002 gB gI gy gF fP il iq gT gX gZ gU gV).shift ?_
  simp only [ax.j1]
  (repeat' (first | exact LB.Lim.const _ | exact ax.ib _ _ _ _ _ _ _ _ _ _ _ _ _ _ _ _ | exact ax.fD _ _ _ _ _ _ _ _ _ _ _ _ _ _ _ | exact bV.bK _ | exact eH.bK _ | exact bA.bK _ _ _ | exact bq.bK _ _ _ | refine LB.Lim.ite ?_ ?_ | refine LB.Lim.bind ?_ (fun _ => ?_)))
noncomputable def ax.F (s0_0 : List Int) (s0_1 s0_2 : Int) : Option (Int × Int × Int × List Int × Int × Int × Int × Int × Int × ByteArray × Int × Int × Int × Int) := LB.lim (fun k => ax.f k s0_0 s0_1 s0_2)
theorem ax.bK (s0_0 : List Int) (s0_1 s0_2 : Int) : LB.Lim (fun k => ax.f k s0_0 s0_1 s0_2) (ax.F s0_0 s0_1 s0_2) := LB.bO (ax.mono s0_0 s0_1 s0_2)
theorem ax.iD (s0_0 : List Int) (s0_1 s0_2 : Int) : ax.F s0_0 s0_1 s0_2 = ((bq.F s0_0 s0_1 s0_2).bind fun bt168 => (if 0 ≤ bt168.2.2.1 then (if bt168.2.2.1 ≤ (s0_0.length : Int) then ((eH.F (s0_0.drop (bt168.2.2.1 : Int).toNat)).bind fun bt173 => ((bT.f s0_0 bt168.2.2.1 bt168.2.2.2 bt173.2.1 bt173.2.2).bind fun bt178 => ((bA.F s0_0 bt178.1 bt178.2).bind fun bt180 => (if bt180.1 = 1 then (ax.J0 false s0_0 bt180.2.1 bt180.2.2 bt168.1 bt168.2.1 0 bt173.1 bt180.1 0 0 0 0 (⟨#[]⟩ : ByteArray) 0 0) else (ax.J0 (bt180.1 != 2) s0_0 bt180.2.1 bt180.2.2 bt168.1 bt168.2.1 0 bt173.1 bt180.1 0 0 0 0 (⟨#[]⟩ : ByteArray) 0 0))))) else (none)) else (none))) := by
  refine LB.Lim.unique (ax.bK s0_0 s0_1 s0_2) ?_
  simp only [ax.f]
  (repeat' (first | exact LB.Lim.const _ | exact ax.ib _ _ _ _ _ _ _ _ _ _ _ _ _ _ _ _ | exact ax.fD _ _ _ _ _ _ _ _ _ _ _ _ _ _ _ | exact bV.bK _ | exact eH.bK _ | exact bA.bK _ _ _ | exact bq.bK _ _ _ | refine LB.Lim.ite ?_ ?_ | refine LB.Lim.bind ?_ (fun _ => ?_)))
def key_Is.f (a0 : ByteArray) : Option (Bool) := if (a0.size : Int) ≥ 1 then (if (a0.size : Int) ≤ 64 then (if 0 ≤ (wrap64 ((a0.size : Int) - 1)) then (if (wrap64 ((a0.size : Int) - 1)) < (a0.size : Int) then (some ((bt a0 (wrap64 ((a0.size : Int) - 1))) != 0)) else (none)) else (none)) else (some false)) else (some false)
def prop_Is.f (a0 : Int) : Option (Bool) := if a0 ≥ 0 then (some (decide (a0 < 19))) else (some false)
mutual
def ay.j0 : Nat → Int → Bool → Option (Int × Int × Int × Bool)
 | 0, _, _ => none
 | k + 1, x3, x7 => if x7 = true then (some (0, 1, 0, false)) else (if x3 = 3 then (ay.j1 k x3 (x3 == 3)) else (if x3 = 4 then (ay.j1 k x3 (x3 == 4)) else (if x3 = 6 then (ay.j1 k x3 (x3 == 6)) else (if x3 = 8 then (ay.j1 k x3 (x3 == 8)) else (ay.j1 k x3 (x3 == 11))))))
def ay.j1 : Nat → Int → Bool → Option (Int × Int × Int × Bool)
 | 0, _, _ => none
 | k + 1, x3, x11 => if x11 = true then (some ((-1), 1099511627776, (-1), false)) else (if x3 = 5 then (ay.j2 k x3 (x3 == 5)) else (ay.j2 k x3 (x3 == 7)))
def ay.j2 : Nat → Int → Bool → Option (Int × Int × Int × Bool)
 | 0, _, _ => none
 | k + 1, x3, x18 => if x18 = true then (some (0, 1099511627776, 0, false)) else (if x3 = 9 then (some (0, 1048576, 0, false)) else (if x3 = 10 then (some (0, 1048576, 1, false)) else (if x3 = 15 then (some (0, 4, 0, false)) else (if x3 = 16 then (some (0, 3, 0, false)) else (if x3 = 17 then (some (0, 16777215, 0, true)) else (if x3 = 18 then (some (64, 64000, 1024, true)) else (some (0, 1073741824, 0, false))))))))
end
def ay.f (k : Nat) (a0 : Int) : Option (Int × Int × Int × Bool) := if a0 = 0 then (some (0, 2, 0, false)) else (if a0 = 1 then (ay.j0 k a0 (a0 == 1)) else (ay.j0 k a0 (a0 == 2)))
theorem ay.dG : ∀ k, (∀ y0 y1, LeO (ay.j0 k y0 y1) (ay.j0 (k + 1) y0 y1)) ∧ (∀ y0 y1, LeO (ay.j1 k y0 y1) (ay.j1 (k + 1) y0 y1)) ∧ (∀ y0 y1, LeO (ay.j2 k y0 y1) (ay.j2 (k + 1) y0 y1))
 | 0 => ⟨fun _ _ r h => by simp [ay.j0] at h, fun _ _ r h => by simp [ay.j1] at h, fun _ _ r h => by simp [ay.j2] at h⟩
 | k + 1 => by
  obtain ⟨ih0, ih1, ih2⟩ := ay.dG k
  refine ⟨?_, ?_, ?_⟩
  ·intro y0 y1
   unfold ay.j0
   repeat' first
   | (with_reducible exact ih0 _ _)
   | (with_reducible exact ih1 _ _)
   | (with_reducible exact ih2 _ _)
   | (with_reducible exact LeO.refl _)
   | (with_reducible exact LeO.none _)
   | (with_reducible refine LeO.ite ?_ ?_)
   | (with_reducible refine LeO.bind ?_ (fun _ => ?_))
   | exact ih0 _ _
   | exact ih1 _ _
   | exact ih2 _ _
   | exact LeO.none _
   | refine LeO.ite ?_ ?_
   | refine LeO.bind ?_ (fun _ => ?_)
  ·intro y0 y1
   unfold ay.j1
   repeat' first
   | (with_reducible exact ih0 _ _)
   | (with_reducible exact ih1 _ _)
   | (with_reducible exact ih2 _ _)
   | (with_reducible exact LeO.refl _)
   | (with_reducible exact LeO.none _)
   | (with_reducible refine LeO.ite ?_ ?_)
   | (with_reducible refine LeO.bind ?_ (fun _ => ?_))
   | exact ih0 _ _
   | exact ih1 _ _
   | exact ih2 _ _
   | exact LeO.none _
   | refine LeO.ite ?_ ?_
   | refine LeO.bind ?_ (fun _ => ?_)
  ·intro y0 y1
   unfold ay.j2
   repeat' first
   | (with_reducible exact ih0 _ _)
   | (with_reducible exact ih1 _ _)
   | (with_reducible exact ih2 _ _)
   | (with_reducible exact LeO.refl _)
   | (with_reducible exact LeO.none _)
   | (with_reducible refine LeO.ite ?_ ?_)
   | (with_reducible refine LeO.bind ?_ (fun _ => ?_))
   | exact ih0 _ _
   | exact ih1 _ _
   | exact ih2 _ _
   | exact LeO.none _
   | refine LeO.ite ?_ ?_
   | refine LeO.bind ?_ (fun _ => ?_)
theorem ay.mono : ∀ a0 k, LeO (ay.f k a0) (ay.f (k + 1) a0) := by
 intro a0 k
 obtain ⟨ih0, ih1, ih2⟩ := ay.dG k
 unfold ay.f
 repeat' first
   | (with_reducible exact ih0 _ _)
   | (with_reducible exact ih1 _ _)
   | (with_reducible exact ih2 _ _)
   | (with_reducible exact LeO.refl _)
   | (with_reducible exact LeO.none _)
   | (with_reducible refine LeO.ite ?_ ?_)
   | (with_reducible refine LeO.bind ?_ (fun _ => ?_))
   | exact ih0 _ _
   | exact ih1 _ _
   | exact ih2 _ _
   | exact LeO.none _
   | refine LeO.ite ?_ ?_
   | refine LeO.bind ?_ (fun _ => ?_)
noncomputable def ay.J0 (x3 : Int) (x7 : Bool) : Option (Int × Int × Int × Bool) := LB.lim (fun k => ay.j0 k x3 x7)
noncomputable def ay.J1 (x3 : Int) (x11 : Bool) : Option (Int × Int × Int × Bool) := LB.lim (fun k => ay.j1 k x3 x11)
noncomputable def ay.J2 (x3 : Int) (x18 : Bool) : Option (Int × Int × Int × Bool) := LB.lim (fun k => ay.j2 k x3 x18)
theorem ay.ib (x3 : Int) (x7 : Bool) : LB.Lim (fun k => ay.j0 k x3 x7) (ay.J0 x3 x7) := LB.bO (fun k => (ay.dG k).1 x3 x7)
theorem ay.fD (x3 : Int) (x11 : Bool) : LB.Lim (fun k => ay.j1 k x3 x11) (ay.J1 x3 x11) := LB.bO (fun k => (ay.dG k).2.1 x3 x11)
theorem ay.ig (x3 : Int) (x18 : Bool) : LB.Lim (fun k => ay.j2 k x3 x18) (ay.J2 x3 x18) := LB.bO (fun k => (ay.dG k).2.2 x3 x18)
theorem ay.J0_eq (x3 : Int) (x7 : Bool) : ay.J0 x3 x7 = (if x7 = true then (some (0, 1, 0, false)) else (if x3 = 3 then (ay.J1 x3 (x3 == 3)) else (if x3 = 4 then (ay.J1 x3 (x3 == 4)) else (if x3 = 6 then (ay.J1 x3 (x3 == 6)) else (if x3 = 8 then (ay.J1 x3 (x3 == 8)) else (ay.J1 x3 (x3 == 11))))))) := by
  refine LB.Lim.unique (ay.ib x3 x7).shift ?_
  simp only [ay.j0]
  (repeat' (first | exact LB.Lim.const _ | exact ay.ib _ _ | exact ay.fD _ _ | exact ay.ig _ _ | refine LB.Lim.ite ?_ ?_ | refine LB.Lim.bind ?_ (fun _ => ?_)))
theorem ay.J1_eq (x3 : Int) (x11 : Bool) : ay.J1 x3 x11 = (if x11 = true then (some ((-1), 1099511627776, (-1), false)) else (if x3 = 5 then (ay.J2 x3 (x3 == 5)) else (ay.J2 x3 (x3 == 7)))) := by
  refine LB.Lim.unique (ay.fD x3 x11).shift ?_
  simp only [ay.j1]
  (repeat' (first | exact LB.Lim.const _ | exact ay.ib _ _ | exact ay.fD _ _ | exact ay.ig _ _ | refine LB.Lim.ite ?_ ?_ | refine LB.Lim.bind ?_ (fun _ => ?_)))
theorem ay.J2_eq (x3 : Int) (x18 : Bool) : ay.J2 x3 x18 = (if x18 = true then (some (0, 1099511627776, 0, false)) else (if x3 = 9 then (some (0, 1048576, 0, false)) else (if x3 = 10 then (some (0, 1048576, 1, false)) else (if x3 = 15 then (some (0, 4, 0, false)) else (if x3 = 16 then (some (0, 3, 0, false)) else (if x3 = 17 then (some (0, 16777215, 0, true)) else (if x3 = 18 then (some (64, 64000, 1024, true)) else (some (0, 1073741824, 0, false))))))))) := by
  refine LB.Lim.unique (ay.ig x3 x18).shift ?_
  simp only [ay.j2]
  (repeat' (first | exact LB.Lim.const _ | exact ay.ib _ _ | exact ay.fD _ _ | exact ay.ig _ _ | refine LB.Lim.ite ?_ ?_ | refine LB.Lim.bind ?_ (fun _ => ?_)))
noncomputable def ay.F (a0 : Int) : Option (Int × Int × Int × Bool) := LB.lim (fun k => ay.f k a0)
theorem ay.bK (a0 : Int) : LB.Lim (fun k => ay.f k a0) (ay.F a0) := LB.bO (ay.mono a0)
theorem ay.iD (a0 : Int) : ay.F a0 = (if a0 = 0 then (some (0, 2, 0, false)) else (if a0 = 1 then (ay.J0 a0 (a0 == 1)) else (ay.J0 a0 (a0 == 2)))) := by
  refine LB.Lim.unique (ay.bK a0) ?_
  simp only [ay.f]
  (repeat' (first | exact LB.Lim.const _ | exact ay.ib _ _ | exact ay.fD _ _ | exact ay.ig _ _ | refine LB.Lim.ite ?_ ?_ | refine LB.Lim.bind ?_ (fun _ => ?_)))
def fu.f (k : Nat) (a0 a1 : Int) : Option (Bool) := (prop_Is.f a0).bind fun t206 => (if t206 = true then ((ay.f k a0).bind fun bt207 => (if a1 ≥ bt207.1 then ((ay.f k a0).bind fun bt211 => (some (decide (a1 ≤ bt211.2.1)))) else (some false))) else (some false))
theorem fu.mono : ∀ a0 a1 k, LeO (fu.f k a0 a1) (fu.f (k + 1) a0 a1) := by
 intro a0 a1 k
 unfold fu.f
 repeat' first
   | (with_reducible exact ay.mono _ _)
   | (with_reducible exact LeO.refl _)
   | (with_reducible exact LeO.none _)
   | (with_reducible refine LeO.ite ?_ ?_)
   | (with_reducible refine LeO.bind ?_ (fun _ => ?_))
   | exact ay.mono _ _
   | exact LeO.none _
   | refine LeO.ite ?_ ?_
   | refine LeO.bind ?_ (fun _ => ?_)
noncomputable def fu.F (a0 a1 : Int) : Option (Bool) := LB.lim (fun k => fu.f k a0 a1)
theorem fu.bK (a0 a1 : Int) : LB.Lim (fun k => fu.f k a0 a1) (fu.F a0 a1) := LB.bO (fu.mono a0 a1)
theorem fu.iD (a0 a1 : Int) : fu.F a0 a1 = ((prop_Is.f a0).bind fun t206 => (if t206 = true then ((ay.F a0).bind fun bt207 => (if a1 ≥ bt207.1 then ((ay.F a0).bind fun bt211 => (some (decide (a1 ≤ bt211.2.1)))) else (some false))) else (some false))) := by
  refine LB.Lim.unique (fu.bK a0 a1) ?_
  simp only [fu.f]
  (repeat' (first | exact LB.Lim.const _ | exact ay.bK _ | refine LB.Lim.ite ?_ ?_ | refine LB.Lim.bind ?_ (fun _ => ?_)))
def eU.f (k : Nat) (a0_0 a0_1 a0_2 : Int) (l0_3 : List Int) (a0_4 a0_5 a0_6 a0_7 a0_8 : Int) (a0_9 : ByteArray) (a0_10 a0_11 : Int) : Option (Bool) := if a0_4 = 1 then ((dV.f a0_7 a0_8).bind fun t216 => (if t216 = true then ((key_Is.f a0_9).bind fun t217 => (if t217 = true then (if a0_10 = 0 then (some (a0_11 == 0)) else (some false)) else (some false))) else (some false))) else (if a0_4 = 2 then ((fu.f k a0_10 a0_11).bind fun t218 => (if t218 = true then ((gH.f).bind fun bt219 => (if (a0_7 == bt219.1 && (a0_8 == bt219.2)) = true then (some (a0_9.toList == ([] : List UInt8))) else (some false))) else (some false))) else (some false))
theorem eU.mono : ∀ a0 a1 a2 a3 a4 a5 a6 a7 a8 a9 a10 a11 k, LeO (eU.f k a0 a1 a2 a3 a4 a5 a6 a7 a8 a9 a10 a11) (eU.f (k + 1) a0 a1 a2 a3 a4 a5 a6 a7 a8 a9 a10 a11) := by
 intro a0 a1 a2 a3 a4 a5 a6 a7 a8 a9 a10 a11 k
 unfold eU.f
 repeat' first
   | (with_reducible exact fu.mono _ _ _)
   | (with_reducible exact LeO.refl _)
   | (with_reducible exact LeO.none _)
   | (with_reducible refine LeO.ite ?_ ?_)
   | (with_reducible refine LeO.bind ?_ (fun _ => ?_))
   | exact fu.mono _ _ _
   | exact LeO.none _
   | refine LeO.ite ?_ ?_
   | refine LeO.bind ?_ (fun _ => ?_)
noncomputable def eU.F (a0_0 a0_1 a0_2 : Int) (l0_3 : List Int) (a0_4 a0_5 a0_6 a0_7 a0_8 : Int) (a0_9 : ByteArray) (a0_10 a0_11 : Int) : Option (Bool) := LB.lim (fun k => eU.f k a0_0 a0_1 a0_2 l0_3 a0_4 a0_5 a0_6 a0_7 a0_8 a0_9 a0_10 a0_11)
theorem eU.bK (a0_0 a0_1 a0_2 : Int) (l0_3 : List Int) (a0_4 a0_5 a0_6 a0_7 a0_8 : Int) (a0_9 : ByteArray) (a0_10 a0_11 : Int) : LB.Lim (fun k => eU.f k a0_0 a0_1 a0_2 l0_3 a0_4 a0_5 a0_6 a0_7 a0_8 a0_9 a0_10 a0_11) (eU.F a0_0 a0_1 a0_2 l0_3 a0_4 a0_5 a0_6 a0_7 a0_8 a0_9 a0_10 a0_11) := LB.bO (eU.mono a0_0 a0_1 a0_2 l0_3 a0_4 a0_5 a0_6 a0_7 a0_8 a0_9 a0_10 a0_11)
theorem eU.iD (a0_0 a0_1 a0_2 : Int) (l0_3 : List Int) (a0_4 a0_5 a0_6 a0_7 a0_8 : Int) (a0_9 : ByteArray) (a0_10 a0_11 : Int) : eU.F a0_0 a0_1 a0_2 l0_3 a0_4 a0_5 a0_6 a0_7 a0_8 a0_9 a0_10 a0_11 = (if a0_4 = 1 then ((dV.f a0_7 a0_8).bind fun t216 => (if t216 = true then ((key_Is.f a0_9).bind fun t217 => (if t217 = true then (if a0_10 = 0 then (some (a0_11 == 0)) else (some false)) else (some false))) else (some false))) else (if a0_4 = 2 then ((fu.F a0_10 a0_11).bind fun t218 => (if t218 = true then ((gH.f).bind fun bt219 => (if (a0_7 == bt219.1 && (a0_8 == bt219.2)) = true then (some (a0_9.toList == ([] : List UInt8))) else (some false))) else (some false))) else (some false))) := by
  refine LB.Lim.unique (eU.bK a0_0 a0_1 a0_2 l0_3 a0_4 a0_5 a0_6 a0_7 a0_8 a0_9 a0_10 a0_11) ?_
  simp only [eU.f]
  (repeat' (first | exact LB.Lim.const _ | exact fu.bK _ _ | refine LB.Lim.ite ?_ ?_ | refine LB.Lim.bind ?_ (fun _ => ?_)))
def dA.j0 : Nat → Bool → Int → Int → Int → List Int → Int → Int → Int → Int → Int → ByteArray → Int → Int → Option (Bool)
 | 0, _, _, _, _, _, _, _, _, _, _, _, _, _ => none
 | k + 1, x27, x222000, ja, jC, jD, x222004, x222005, x222006, x222007, x222008, x222009, x222010, x222011 => if x27 = true then (some false) else (if 0 ≤ ja then (if ja < (jD.length : Int) then (if jC = (wrap64 ((rd jD ja) + 1)) then (if jC ≤ 1099511627776 then ((eU.f k x222000 ja jC jD x222004 x222005 x222006 x222007 x222008 x222009 x222010 x222011).bind fun t226 => (some t226)) else (some false)) else (some false)) else (none)) else (none))
def dA.f (k : Nat) (a0_0 a0_1 a0_2 : Int) (l0_3 : List Int) (a0_4 a0_5 a0_6 a0_7 a0_8 : Int) (a0_9 : ByteArray) (a0_10 a0_11 : Int) : Option (Bool) := (fZ.f a0_0 a0_1).bind fun t222 => (if t222 = true then ((dB.f k l0_3).bind fun t223 => (if t223 = true then (if (l0_3.length : Int) ≤ a0_1 then (dA.j0 k true a0_0 a0_1 a0_2 l0_3 a0_4 a0_5 a0_6 a0_7 a0_8 a0_9 a0_10 a0_11) else ((fZ.f a0_5 a0_6).bind fun t224 => (dA.j0 k (!t224) a0_0 a0_1 a0_2 l0_3 a0_4 a0_5 a0_6 a0_7 a0_8 a0_9 a0_10 a0_11))) else (dA.j0 k true a0_0 a0_1 a0_2 l0_3 a0_4 a0_5 a0_6 a0_7 a0_8 a0_9 a0_10 a0_11))) else (dA.j0 k true a0_0 a0_1 a0_2 l0_3 a0_4 a0_5 a0_6 a0_7 a0_8 a0_9 a0_10 a0_11))
theorem dA.dG : ∀ k, (∀ y0 y1 y2 y3 y4 y5 y6 y7 y8 y9 y10 y11 y12, LeO (dA.j0 k y0 y1 y2 y3 y4 y5 y6 y7 y8 y9 y10 y11 y12) (dA.j0 (k + 1) y0 y1 y2 y3 y4 y5 y6 y7 y8 y9 y10 y11 y12))
 | 0 => fun _ _ _ _ _ _ _ _ _ _ _ _ _ r h => by simp [dA.j0] at h
 | k + 1 => by
  have ih0 := dA.dG k
  ·intro y0 y1 y2 y3 y4 y5 y6 y7 y8 y9 y10 y11 y12
   unfold dA.j0
   repeat' first
   | (with_reducible exact ih0 _ _ _ _ _ _ _ _ _ _ _ _ _)
   | (with_reducible exact dB.mono _ _)
   | (with_reducible exact eU.mono _ _ _ _ _ _ _ _ _ _ _ _ _)
   | (with_reducible exact LeO.refl _)
   | (with_reducible exact LeO.none _)
   | (with_reducible refine LeO.ite ?_ ?_)
   | (with_reducible refine LeO.bind ?_ (fun _ => ?_))
   | exact ih0 _ _ _ _ _ _ _ _ _ _ _ _ _
   | exact dB.mono _ _
   | exact eU.mono _ _ _ _ _ _ _ _ _ _ _ _ _
   | exact LeO.none _
   | refine LeO.ite ?_ ?_
   | refine LeO.bind ?_ (fun _ => ?_)
theorem dA.mono : ∀ a0 a1 a2 a3 a4 a5 a6 a7 a8 a9 a10 a11 k, LeO (dA.f k a0 a1 a2 a3 a4 a5 a6 a7 a8 a9 a10 a11) (dA.f (k + 1) a0 a1 a2 a3 a4 a5 a6 a7 a8 a9 a10 a11) := by
 intro a0 a1 a2 a3 a4 a5 a6 a7 a8 a9 a10 a11 k
 have ih0 := dA.dG k
 unfold dA.f
 repeat' first
   | (with_reducible exact ih0 _ _ _ _ _ _ _ _ _ _ _ _ _)
   | (with_reducible exact dB.mono _ _)
   | (with_reducible exact eU.mono _ _ _ _ _ _ _ _ _ _ _ _ _)
   | (with_reducible exact LeO.refl _)
   | (with_reducible exact LeO.none _)
   | (with_reducible refine LeO.ite ?_ ?_)
   | (with_reducible refine LeO.bind ?_ (fun _ => ?_))
   | exact ih0 _ _ _ _ _ _ _ _ _ _ _ _ _
   | exact dB.mono _ _
   | exact eU.mono _ _ _ _ _ _ _ _ _ _ _ _ _
   | exact LeO.none _
   | refine LeO.ite ?_ ?_
   | refine LeO.bind ?_ (fun _ => ?_)
noncomputable def dA.J0 (x27 : Bool) (x222000 ja jC : Int) (jD : List Int) (x222004 x222005 x222006 x222007 x222008 : Int) (x222009 : ByteArray) (x222010 x222011 : Int) : Option (Bool) := LB.lim (fun k => dA.j0 k x27 x222000 ja jC jD x222004 x222005 x222006 x222007 x222008 x222009 x222010 x222011)
theorem dA.ib (x27 : Bool) (x222000 ja jC : Int) (jD : List Int) (x222004 x222005 x222006 x222007 x222008 : Int) (x222009 : ByteArray) (x222010 x222011 : Int) : LB.Lim (fun k => dA.j0 k x27 x222000 ja jC jD x222004 x222005 x222006 x222007 x222008 x222009 x222010 x222011) (dA.J0 x27 x222000 ja jC jD x222004 x222005 x222006 x222007 x222008 x222009 x222010 x222011) := LB.bO (fun k => (dA.dG k) x27 x222000 ja jC jD x222004 x222005 x222006 x222007 x222008 x222009 x222010 x222011)
theorem dA.J0_eq (x27 : Bool) (x222000 ja jC : Int) (jD : List Int) (x222004 x222005 x222006 x222007 x222008 : Int) (x222009 : ByteArray) (x222010 x222011 : Int) : dA.J0 x27 x222000 ja jC jD x222004 x222005 x222006 x222007 x222008 x222009 x222010 x222011 = (if x27 = true then (some false) else (if 0 ≤ ja then (if ja < (jD.length : Int) then (if jC = (wrap64 ((rd jD ja) + 1)) then (if jC ≤ 1099511627776 then ((eU.F x222000 ja jC jD x222004 x222005 x222006 x222007 x222008 x222009 x222010 x222011).bind fun t226 => (some t226)) else (some false)) else (some false)) else (none)) else (none))) := by
  refine LB.Lim.unique (dA.ib x27 x222000 ja jC jD x222004 x222005 x222006 x222007 x222008 x222009 x222010 x222011).shift ?_
  simp only [dA.j0]
  (repeat' (first | exact LB.Lim.const _ | exact dA.ib _ _ _ _ _ _ _ _ _ _ _ _ _ | exact dB.bK _ | exact eU.bK _ _ _ _ _ _ _ _ _ _ _ _ | refine LB.Lim.ite ?_ ?_ | refine LB.Lim.bind ?_ (fun _ => ?_)))
noncomputable def dA.F (a0_0 a0_1 a0_2 : Int) (l0_3 : List Int) (a0_4 a0_5 a0_6 a0_7 a0_8 : Int) (a0_9 : ByteArray) (a0_10 a0_11 : Int) : Option (Bool) := LB.lim (fun k => dA.f k a0_0 a0_1 a0_2 l0_3 a0_4 a0_5 a0_6 a0_7 a0_8 a0_9 a0_10 a0_11)
theorem dA.bK (a0_0 a0_1 a0_2 : Int) (l0_3 : List Int) (a0_4 a0_5 a0_6 a0_7 a0_8 : Int) (a0_9 : ByteArray) (a0_10 a0_11 : Int) : LB.Lim (fun k => dA.f k a0_0 a0_1 a0_2 l0_3 a0_4 a0_5 a0_6 a0_7 a0_8 a0_9 a0_10 a0_11) (dA.F a0_0 a0_1 a0_2 l0_3 a0_4 a0_5 a0_6 a0_7 a0_8 a0_9 a0_10 a0_11) := LB.bO (dA.mono a0_0 a0_1 a0_2 l0_3 a0_4 a0_5 a0_6 a0_7 a0_8 a0_9 a0_10 a0_11)
theorem dA.iD (a0_0 a0_1 a0_2 : Int) (l0_3 : List Int) (a0_4 a0_5 a0_6 a0_7 a0_8 : Int) (a0_9 : ByteArray) (a0_10 a0_11 : Int) : dA.F a0_0 a0_1 a0_2 l0_3 a0_4 a0_5 a0_6 a0_7 a0_8 a0_9 a0_10 a0_11 = ((fZ.f a0_0 a0_1).bind fun t222 => (if t222 = true then ((dB.F l0_3).bind fun t223 => (if t223 = true then (if (l0_3.length : Int) ≤ a0_1 then (dA.J0 true a0_0 a0_1 a0_2 l0_3 a0_4 a0_5 a0_6 a0_7 a0_8 a0_9 a0_10 a0_11) else ((fZ.f a0_5 a0_6).bind fun t224 => (dA.J0 (!t224) a0_0 a0_1 a0_2 l0_3 a0_4 a0_5 a0_6 a0_7 a0_8 a0_9 a0_10 a0_11))) else (dA.J0 true a0_0 a0_1 a0_2 l0_3 a0_4 a0_5 a0_6 a0_7 a0_8 a0_9 a0_10 a0_11))) else (dA.J0 true a0_0 a0_1 a0_2 l0_3 a0_4 a0_5 a0_6 a0_7 a0_8 a0_9 a0_10 a0_11))) := by
  refine LB.Lim.unique (dA.bK a0_0 a0_1 a0_2 l0_3 a0_4 a0_5 a0_6 a0_7 a0_8 a0_9 a0_10 a0_11) ?_
  simp only [dA.f]
  (repeat' (first | exact LB.Lim.const _ | exact dA.ib _ _ _ _ _ _ _ _ _ _ _ _ _ | exact dB.bK _ | exact eU.bK _ _ _ _ _ _ _ _ _ _ _ _ | refine LB.Lim.ite ?_ ?_ | refine LB.Lim.bind ?_ (fun _ => ?_)))
def dY.f (k : Nat) (l0 : List Int) : Option (Int × Int × Int × List Int × Int × Int × Int × Int × Int × ByteArray × Int × Int × Int × Int) := (ax.f k l0 0 0).bind fun bt229 => (if bt229.2.2.2.2.2.2.2.2.2.2.2.2.2 = 0 then (if bt229.2.1 ≥ (bt229.2.2.2.1.length : Int) then (some (0, 0, 0, ([] : List Int), 0, 0, 0, 0, 0, (⟨#[]⟩ : ByteArray), 0, 0, 0, 1)) else (if 0 ≤ bt229.2.1 then (if bt229.2.1 < (bt229.2.2.2.1.length : Int) then ((dA.f k bt229.1 bt229.2.1 (wrap64 ((rd bt229.2.2.2.1 bt229.2.1) + 1)) bt229.2.2.2.1 bt229.2.2.2.2.1 bt229.2.2.2.2.2.1 bt229.2.2.2.2.2.2.1 bt229.2.2.2.2.2.2.2.1 bt229.2.2.2.2.2.2.2.2.1 bt229.2.2.2.2.2.2.2.2.2.1 bt229.2.2.2.2.2.2.2.2.2.2.1 bt229.2.2.2.2.2.2.2.2.2.2.2.1).bind fun t246 => (if t246 = true then (some (bt229.1, bt229.2.1, wrap64 ((rd bt229.2.2.2.1 bt229.2.1) + 1), bt229.2.2.2.1, bt229.2.2.2.2.1, bt229.2.2.2.2.2.1, bt229.2.2.2.2.2.2.1, bt229.2.2.2.2.2.2.2.1, bt229.2.2.2.2.2.2.2.2.1, bt229.2.2.2.2.2.2.2.2.2.1, bt229.2.2.2.2.2.2.2.2.2.2.1, bt229.2.2.2.2.2.2.2.2.2.2.2.1, bt229.2.2.2.2.2.2.2.2.2.2.2.2.1, 0)) else (some (0, 0, 0, ([] : List Int), 0, 0, 0, 0, 0, (⟨#[]⟩ : ByteArray), 0, 0, 0, 1)))) else (none)) else (none))) else (some (0, 0, 0, ([] : List Int), 0, 0, 0, 0, 0, (⟨#[]⟩ : ByteArray), 0, 0, 0, bt229.2.2.2.2.2.2.2.2.2.2.2.2.2)))
theorem dY.mono : ∀ a0 k, LeO (dY.f k a0) (dY.f (k + 1) a0) := by
 intro a0 k
 unfold dY.f
 repeat' first
   | (with_reducible exact dA.mono _ _ _ _ _ _ _ _ _ _ _ _ _)
   | (with_reducible exact ax.mono _ _ _ _)
   | (with_reducible exact LeO.refl _)
   | (with_reducible exact LeO.none _)
   | (with_reducible refine LeO.ite ?_ ?_)
   | (with_reducible refine LeO.bind ?_ (fun _ => ?_))
   | exact dA.mono _ _ _ _ _ _ _ _ _ _ _ _ _
   | exact ax.mono _ _ _ _
   | exact LeO.none _
   | refine LeO.ite ?_ ?_
   | refine LeO.bind ?_ (fun _ => ?_)
noncomputable def dY.F (l0 : List Int) : Option (Int × Int × Int × List Int × Int × Int × Int × Int × Int × ByteArray × Int × Int × Int × Int) := LB.lim (fun k => dY.f k l0)
theorem dY.bK (l0 : List Int) : LB.Lim (fun k => dY.f k l0) (dY.F l0) := LB.bO (dY.mono l0)
theorem dY.iD (l0 : List Int) : dY.F l0 = ((ax.F l0 0 0).bind fun bt229 => (if bt229.2.2.2.2.2.2.2.2.2.2.2.2.2 = 0 then (if bt229.2.1 ≥ (bt229.2.2.2.1.length : Int) then (some (0, 0, 0, ([] : List Int), 0, 0, 0, 0, 0, (⟨#[]⟩ : ByteArray), 0, 0, 0, 1)) else (if 0 ≤ bt229.2.1 then (if bt229.2.1 < (bt229.2.2.2.1.length : Int) then ((dA.F bt229.1 bt229.2.1 (wrap64 ((rd bt229.2.2.2.1 bt229.2.1) + 1)) bt229.2.2.2.1 bt229.2.2.2.2.1 bt229.2.2.2.2.2.1 bt229.2.2.2.2.2.2.1 bt229.2.2.2.2.2.2.2.1 bt229.2.2.2.2.2.2.2.2.1 bt229.2.2.2.2.2.2.2.2.2.1 bt229.2.2.2.2.2.2.2.2.2.2.1 bt229.2.2.2.2.2.2.2.2.2.2.2.1).bind fun t246 => (if t246 = true then (some (bt229.1, bt229.2.1, wrap64 ((rd bt229.2.2.2.1 bt229.2.1) + 1), bt229.2.2.2.1, bt229.2.2.2.2.1, bt229.2.2.2.2.2.1, bt229.2.2.2.2.2.2.1, bt229.2.2.2.2.2.2.2.1, bt229.2.2.2.2.2.2.2.2.1, bt229.2.2.2.2.2.2.2.2.2.1, bt229.2.2.2.2.2.2.2.2.2.2.1, bt229.2.2.2.2.2.2.2.2.2.2.2.1, bt229.2.2.2.2.2.2.2.2.2.2.2.2.1, 0)) else (some (0, 0, 0, ([] : List Int), 0, 0, 0, 0, 0, (⟨#[]⟩ : ByteArray), 0, 0, 0, 1)))) else (none)) else (none))) else (some (0, 0, 0, ([] : List Int), 0, 0, 0, 0, 0, (⟨#[]⟩ : ByteArray), 0, 0, 0, bt229.2.2.2.2.2.2.2.2.2.2.2.2.2)))) := by
  refine LB.Lim.unique (dY.bK l0) ?_
  simp only [dY.f]
  (repeat' (first | exact LB.Lim.const _ | exact dA.bK _ _ _ _ _ _ _ _ _ _ _ _ | exact ax.bK _ _ _ | refine LB.Lim.ite ?_ ?_ | refine LB.Lim.bind ?_ (fun _ => ?_)))
def aI.l0 : Nat → List Int → List Int → Int → Option (Bool)
 | 0, _, _, _ => none
 | k + 1, x0, x1, x5 => if x5 < (x0.length : Int) then (if 0 ≤ x5 then (if x5 < (x1.length : Int) then (if (rd x0 x5) = (rd x1 x5) then (aI.l0 k x0 x1 (wrap64 (x5 + 1))) else (some false)) else (none)) else (none)) else (some true)
def aI.f (k : Nat) (l0 l1 : List Int) : Option (Bool) := if (l0.length : Int) = (l1.length : Int) then (aI.l0 k l0 l1 0) else (some false)
theorem aI.dG : ∀ k, (∀ y0 y1 y2, LeO (aI.l0 k y0 y1 y2) (aI.l0 (k + 1) y0 y1 y2))
 | 0 => fun _ _ _ r h => by simp [aI.l0] at h
 | k + 1 => by
  have ih0 := aI.dG k
  ·intro y0 y1 y2
   unfold aI.l0
   repeat' first
   | (with_reducible exact ih0 _ _ _)
   | (with_reducible exact LeO.refl _)
   | (with_reducible exact LeO.none _)
   | (with_reducible refine LeO.ite ?_ ?_)
   | (with_reducible refine LeO.bind ?_ (fun _ => ?_))
   | exact ih0 _ _ _
   | exact LeO.none _
   | refine LeO.ite ?_ ?_
   | refine LeO.bind ?_ (fun _ => ?_)
theorem aI.mono : ∀ a0 a1 k, LeO (aI.f k a0 a1) (aI.f (k + 1) a0 a1) := by
 intro a0 a1 k
 have ih0 := aI.dG k
 unfold aI.f
 repeat' first
   | (with_reducible exact ih0 _ _ _)
   | (with_reducible exact LeO.refl _)
   | (with_reducible exact LeO.none _)
   | (with_reducible refine LeO.ite ?_ ?_)
   | (with_reducible refine LeO.bind ?_ (fun _ => ?_))
   | exact ih0 _ _ _
   | exact LeO.none _
   | refine LeO.ite ?_ ?_
   | refine LeO.bind ?_ (fun _ => ?_)
noncomputable def aI.L0 (x0 x1 : List Int) (x5 : Int) : Option (Bool) := LB.lim (fun k => aI.l0 k x0 x1 x5)
theorem aI.eT (x0 x1 : List Int) (x5 : Int) : LB.Lim (fun k => aI.l0 k x0 x1 x5) (aI.L0 x0 x1 x5) := LB.bO (fun k => (aI.dG k) x0 x1 x5)
theorem aI.iR (x0 x1 : List Int) (x5 : Int) : aI.L0 x0 x1 x5 = (if x5 < (x0.length : Int) then (if 0 ≤ x5 then (if x5 < (x1.length : Int) then (if (rd x0 x5) = (rd x1 x5) then (aI.L0 x0 x1 (wrap64 (x5 + 1))) else (some false)) else (none)) else (none)) else (some true)) := by
  refine LB.Lim.unique (aI.eT x0 x1 x5).shift ?_
  simp only [aI.l0]
  (repeat' (first | exact LB.Lim.const _ | exact aI.eT _ _ _ | refine LB.Lim.ite ?_ ?_ | refine LB.Lim.bind ?_ (fun _ => ?_)))
noncomputable def aI.F (l0 l1 : List Int) : Option (Bool) := LB.lim (fun k => aI.f k l0 l1)
theorem aI.bK (l0 l1 : List Int) : LB.Lim (fun k => aI.f k l0 l1) (aI.F l0 l1) := LB.bO (aI.mono l0 l1)
theorem aI.iD (l0 l1 : List Int) : aI.F l0 l1 = (if (l0.length : Int) = (l1.length : Int) then (aI.L0 l0 l1 0) else (some false)) := by
  refine LB.Lim.unique (aI.bK l0 l1) ?_
  simp only [aI.f]
  (repeat' (first | exact LB.Lim.const _ | exact aI.eT _ _ _ | refine LB.Lim.ite ?_ ?_ | refine LB.Lim.bind ?_ (fun _ => ?_)))
def aW.f (k : Nat) (a0_0 a0_1 a0_2 : Int) (l0_3 : List Int) (a0_4 a0_5 a0_6 a0_7 a0_8 : Int) (a0_9 : ByteArray) (a0_10 a0_11 a1_0 a1_1 a1_2 : Int) (l1_3 : List Int) (a1_4 a1_5 a1_6 a1_7 a1_8 : Int) (a1_9 : ByteArray) (a1_10 a1_11 : Int) : Option (Bool) := if (a0_0 == a1_0 && (a0_1 == a1_1)) = true then (if a0_2 = a1_2 then ((aI.f k l0_3 l1_3).bind fun t251 => (if t251 = true then (if a0_4 = a1_4 then (if (a0_5 == a1_5 && (a0_6 == a1_6)) = true then (if (a0_7 == a1_7 && (a0_8 == a1_8)) = true then (if a0_9.toList = a1_9.toList then (if a0_10 = a1_10 then (some (a0_11 == a1_11)) else (some false)) else (some false)) else (some false)) else (some false)) else (some false)) else (some false))) else (some false)) else (some false)
theorem aW.mono : ∀ a0 a1 a2 a3 a4 a5 a6 a7 a8 a9 a10 a11 a12 a13 a14 a15 a16 a17 a18 a19 a20 a21 a22 a23 k, LeO (aW.f k a0 a1 a2 a3 a4 a5 a6 a7 a8 a9 a10 a11 a12 a13 a14 a15 a16 a17 a18 a19 a20 a21 a22 a23) (aW.f (k + 1) a0 a1 a2 a3 a4 a5 a6 a7 a8 a9 a10 a11 a12 a13 a14 a15 a16 a17 a18 a19 a20 a21 a22 a23) := by
 intro a0 a1 a2 a3 a4 a5 a6 a7 a8 a9 a10 a11 a12 a13 a14 a15 a16 a17 a18 a19 a20 a21 a22 a23 k
 unfold aW.f
 repeat' first
   | (with_reducible exact aI.mono _ _ _)
   | (with_reducible exact LeO.refl _)
   | (with_reducible exact LeO.none _)
   | (with_reducible refine LeO.ite ?_ ?_)
   | (with_reducible refine LeO.bind ?_ (fun _ => ?_))
   | exact aI.mono _ _ _
   | exact LeO.none _
   | refine LeO.ite ?_ ?_
   | refine LeO.bind ?_ (fun _ => ?_)
noncomputable def aW.F (a0_0 a0_1 a0_2 : Int) (l0_3 : List Int) (a0_4 a0_5 a0_6 a0_7 a0_8 : Int) (a0_9 : ByteArray) (a0_10 a0_11 a1_0 a1_1 a1_2 : Int) (l1_3 : List Int) (a1_4 a1_5 a1_6 a1_7 a1_8 : Int) (a1_9 : ByteArray) (a1_10 a1_11 : Int) : Option (Bool) := LB.lim (fun k => aW.f k a0_0 a0_1 a0_2 l0_3 a0_4 a0_5 a0_6 a0_7 a0_8 a0_9 a0_10 a0_11 a1_0 a1_1 a1_2 l1_3 a1_4 a1_5 a1_6 a1_7 a1_8 a1_9 a1_10 a1_11)
theorem aW.bK (a0_0 a0_1 a0_2 : Int) (l0_3 : List Int) (a0_4 a0_5 a0_6 a0_7 a0_8 : Int) (a0_9 : ByteArray) (a0_10 a0_11 a1_0 a1_1 a1_2 : Int) (l1_3 : List Int) (a1_4 a1_5 a1_6 a1_7 a1_8 : Int) (a1_9 : ByteArray) (a1_10 a1_11 : Int) : LB.Lim (fun k => aW.f k a0_0 a0_1 a0_2 l0_3 a0_4 a0_5 a0_6 a0_7 a0_8 a0_9 a0_10 a0_11 a1_0 a1_1 a1_2 l1_3 a1_4 a1_5 a1_6 a1_7 a1_8 a1_9 a1_10 a1_11) (aW.F a0_0 a0_1 a0_2 l0_3 a0_4 a0_5 a0_6 a0_7 a0_8 a0_9 a0_10 a0_11 a1_0 a1_1 a1_2 l1_3 a1_4 a1_5 a1_6 a1_7 a1_8 a1_9 a1_10 a1_11) := LB.bO (aW.mono a0_0 a0_1 a0_2 l0_3 a0_4 a0_5 a0_6 a0_7 a0_8 a0_9 a0_10 a0_11 a1_0 a1_1 a1_2 l1_3 a1_4 a1_5 a1_6 a1_7 a1_8 a1_9 a1_10 a1_11)
theorem aW.iD (a0_0 a0_1 a0_2 : Int) (l0_3 : List Int) (a0_4 a0_5 a0_6 a0_7 a0_8 : Int) (a0_9 : ByteArray) (a0_10 a0_11 a1_0 a1_1 a1_2 : Int) (l1_3 : List Int) (a1_4 a1_5 a1_6 a1_7 a1_8 : Int) (a1_9 : ByteArray) (a1_10 a1_11 : Int) : aW.F a0_0 a0_1 a0_2 l0_3 a0_4 a0_5 a0_6 a0_7 a0_8 a0_9 a0_10 a0_11 a1_0 a1_1 a1_2 l1_3 a1_4 a1_5 a1_6 a1_7 a1_8 a1_9 a1_10 a1_11 = (if (a0_0 == a1_0 && (a0_1 == a1_1)) = true then (if a0_2 = a1_2 then ((aI.F l0_3 l1_3).bind fun t251 => (if t251 = true then (if a0_4 = a1_4 then (if (a0_5 == a1_5 && (a0_6 == a1_6)) = true then (if (a0_7 == a1_7 && (a0_8 == a1_8)) = true then (if a0_9.toList = a1_9.toList then (if a0_10 = a1_10 then (some (a0_11 == a1_11)) else (some false)) else (some false)) else (some false)) else (some false)) else (some false)) else (some false))) else (some false)) else (some false)) := by
  refine LB.Lim.unique (aW.bK a0_0 a0_1 a0_2 l0_3 a0_4 a0_5 a0_6 a0_7 a0_8 a0_9 a0_10 a0_11 a1_0 a1_1 a1_2 l1_3 a1_4 a1_5 a1_6 a1_7 a1_8 a1_9 a1_10 a1_11) ?_
  simp only [aW.f]
  (repeat' (first | exact LB.Lim.const _ | exact aI.bK _ _ | refine LB.Lim.ite ?_ ?_ | refine LB.Lim.bind ?_ (fun _ => ?_)))
def fM.f (a0 a1 : Int) : Option (Bool) := if a0 ≥ 0 then (some (decide (a0 ≤ a1))) else (some false)
def bY.f (a0_0 a0_1 : Int) : Option (Bool) := if a0_0 ≥ 1 then (if a0_0 ≤ 1099511627776 then ((fM.f a0_1 15).bind fun t253 => (some t253)) else (some false)) else (some false)
def aJ.l0 : Nat → List Int → Int → Option (Bool)
 | 0, _, _ => none
 | k + 1, x0, x3 => if x3 < (x0.length : Int) then (if 0 ≤ x3 then ((fM.f (rd x0 x3) 1099511627776).bind fun t255 => (if t255 = true then (aJ.l0 k x0 (wrap64 (x3 + 1))) else (some false))) else (none)) else (if (x0.length : Int) ≥ 1 then (some (decide ((x0.length : Int) ≤ 16))) else (some false))
def aJ.f (k : Nat) (l0 : List Int) : Option (Bool) := aJ.l0 k l0 0
theorem aJ.dG : ∀ k, (∀ y0 y1, LeO (aJ.l0 k y0 y1) (aJ.l0 (k + 1) y0 y1))
 | 0 => fun _ _ r h => by simp [aJ.l0] at h
 | k + 1 => by
  have ih0 := aJ.dG k
  ·intro y0 y1
   unfold aJ.l0
   repeat' first
   | (with_reducible exact ih0 _ _)
   | (with_reducible exact LeO.refl _)
   | (with_reducible exact LeO.none _)
   | (with_reducible refine LeO.ite ?_ ?_)
   | (with_reducible refine LeO.bind ?_ (fun _ => ?_))
   | exact ih0 _ _
   | exact LeO.none _
   | refine LeO.ite ?_ ?_
   | refine LeO.bind ?_ (fun _ => ?_)
theorem aJ.mono : ∀ a0 k, LeO (aJ.f k a0) (aJ.f (k + 1) a0) := by
 intro a0 k
 have ih0 := aJ.dG k
 unfold aJ.f
 repeat' first
   | (with_reducible exact ih0 _ _)
   | (with_reducible exact LeO.refl _)
   | (with_reducible exact LeO.none _)
   | (with_reducible refine LeO.ite ?_ ?_)
   | (with_reducible refine LeO.bind ?_ (fun _ => ?_))
   | exact ih0 _ _
   | exact LeO.none _
   | refine LeO.ite ?_ ?_
   | refine LeO.bind ?_ (fun _ => ?_)
noncomputable def aJ.L0 (x0 : List Int) (x3 : Int) : Option (Bool) := LB.lim (fun k => aJ.l0 k x0 x3)
theorem aJ.eT (x0 : List Int) (x3 : Int) : LB.Lim (fun k => aJ.l0 k x0 x3) (aJ.L0 x0 x3) := LB.bO (fun k => (aJ.dG k) x0 x3)
theorem aJ.iR (x0 : List Int) (x3 : Int) : aJ.L0 x0 x3 = (if x3 < (x0.length : Int) then (if 0 ≤ x3 then ((fM.f (rd x0 x3) 1099511627776).bind fun t255 => (if t255 = true then (aJ.L0 x0 (wrap64 (x3 + 1))) else (some false))) else (none)) else (if (x0.length : Int) ≥ 1 then (some (decide ((x0.length : Int) ≤ 16))) else (some false))) := by
  refine LB.Lim.unique (aJ.eT x0 x3).shift ?_
  simp only [aJ.l0]
  (repeat' (first | exact LB.Lim.const _ | exact aJ.eT _ _ | refine LB.Lim.ite ?_ ?_ | refine LB.Lim.bind ?_ (fun _ => ?_)))
noncomputable def aJ.F (l0 : List Int) : Option (Bool) := LB.lim (fun k => aJ.f k l0)
theorem aJ.bK (l0 : List Int) : LB.Lim (fun k => aJ.f k l0) (aJ.F l0) := LB.bO (aJ.mono l0)
theorem aJ.iD (l0 : List Int) : aJ.F l0 = (aJ.L0 l0 0) := by
  refine LB.Lim.unique (aJ.bK l0) ?_
  simp only [aJ.f]
  (repeat' (first | exact LB.Lim.const _ | exact aJ.eT _ _ | refine LB.Lim.ite ?_ ?_ | refine LB.Lim.bind ?_ (fun _ => ?_)))
def ik.f  : Option (Int × Int) := some (0, 0)
def gL.f  : Option (Int × Int) := some (0, 1)
def bS.f (a0_0 a0_1 : Int) : Option (Bool) := (bY.f a0_0 a0_1).bind fun t259 => (if t259 = true then (some true) else ((ik.f).bind fun bt260 => (if (a0_0 == bt260.1 && (a0_1 == bt260.2)) = true then (some true) else ((gL.f).bind fun bt262 => (some (a0_0 == bt262.1 && (a0_1 == bt262.2)))))))
def gJ.f (a0 : ByteArray) : Option (Bool) := if (a0.size : Int) ≥ 1 then (if (a0.size : Int) ≤ 64 then (if 0 ≤ (wrap64 ((a0.size : Int) - 1)) then (if (wrap64 ((a0.size : Int) - 1)) < (a0.size : Int) then (some ((bt a0 (wrap64 ((a0.size : Int) - 1))) != 0)) else (none)) else (none)) else (some false)) else (some false)
mutual
def af.j0 : Nat → Int → Bool → Option (Int × Int × Int × Bool)
 | 0, _, _ => none
 | k + 1, x6, x9 => if x9 = true then (some (0, 1, 0, true)) else (if x6 = 3 then (af.j1 k x6 (x6 == 3)) else (if x6 = 4 then (af.j1 k x6 (x6 == 4)) else (if x6 = 6 then (af.j1 k x6 (x6 == 6)) else (if x6 = 8 then (af.j1 k x6 (x6 == 8)) else (af.j1 k x6 (x6 == 11))))))
def af.j1 : Nat → Int → Bool → Option (Int × Int × Int × Bool)
 | 0, _, _ => none
 | k + 1, x6, x12 => if x12 = true then (some ((-1), 1099511627776, (-1), true)) else (if x6 = 5 then (af.j2 k x6 (x6 == 5)) else (af.j2 k x6 (x6 == 7)))
def af.j2 : Nat → Int → Bool → Option (Int × Int × Int × Bool)
 | 0, _, _ => none
 | k + 1, x6, x18 => if x18 = true then (some (0, 1099511627776, 0, true)) else (if x6 = 9 then (some (0, 1048576, 0, true)) else (if x6 = 10 then (some (0, 1048576, 1, true)) else (if x6 = 12 then (af.j3 k x6 (x6 == 12)) else (if x6 = 13 then (af.j3 k x6 (x6 == 13)) else (af.j3 k x6 (x6 == 14))))))
def af.j3 : Nat → Int → Bool → Option (Int × Int × Int × Bool)
 | 0, _, _ => none
 | k + 1, x6, x25 => if x25 = true then (some (0, 1073741824, 0, true)) else (if x6 = 15 then (some (0, 4, 0, true)) else (if x6 = 16 then (some (0, 3, 0, true)) else (if x6 = 17 then (some (0, 16777215, 0, true)) else (if x6 = 18 then (some (64, 64000, 1024, true)) else (some (0, 0, 0, false))))))
end
def af.f (k : Nat) (a0 : Int) : Option (Int × Int × Int × Bool) := if a0 = 0 then (some (0, 2, 0, true)) else (if a0 = 1 then (af.j0 k a0 (a0 == 1)) else (af.j0 k a0 (a0 == 2)))
theorem af.dG : ∀ k, (∀ y0 y1, LeO (af.j0 k y0 y1) (af.j0 (k + 1) y0 y1)) ∧ (∀ y0 y1, LeO (af.j1 k y0 y1) (af.j1 (k + 1) y0 y1)) ∧ (∀ y0 y1, LeO (af.j2 k y0 y1) (af.j2 (k + 1) y0 y1)) ∧ (∀ y0 y1, LeO (af.j3 k y0 y1) (af.j3 (k + 1) y0 y1))
 | 0 => ⟨fun _ _ r h => by simp [af.j0] at h, fun _ _ r h => by simp [af.j1] at h, fun _ _ r h => by simp [af.j2] at h, fun _ _ r h => by simp [af.j3] at h⟩
 | k + 1 => by
  obtain ⟨ih0, ih1, ih2, ih3⟩ := af.dG k
  refine ⟨?_, ?_, ?_, ?_⟩
  ·intro y0 y1
   unfold af.j0
   repeat' first
   | (with_reducible exact ih0 _ _)
   | (with_reducible exact ih1 _ _)
   | (with_reducible exact ih2 _ _)
   | (with_reducible exact ih3 _ _)
   | (with_reducible exact LeO.refl _)
   | (with_reducible exact LeO.none _)
   | (with_reducible refine LeO.ite ?_ ?_)
   | (with_reducible refine LeO.bind ?_ (fun _ => ?_))
   | exact ih0 _ _
   | exact ih1 _ _
   | exact ih2 _ _
   | exact ih3 _ _
   | exact LeO.none _
   | refine LeO.ite ?_ ?_
   | refine LeO.bind ?_ (fun _ => ?_)
  ·intro y0 y1
   unfold af.j1
   repeat' first
   | (with_reducible exact ih0 _ _)
   | (with_reducible exact ih1 _ _)
   | (with_reducible exact ih2 _ _)
   | (with_reducible exact ih3 _ _)
   | (with_reducible exact LeO.refl _)
   | (with_reducible exact LeO.none _)
   | (with_reducible refine LeO.ite ?_ ?_)
   | (with_reducible refine LeO.bind ?_ (fun _ => ?_))
   | exact ih0 _ _
   | exact ih1 _ _
   | exact ih2 _ _
   | exact ih3 _ _
   | exact LeO.none _
   | refine LeO.ite ?_ ?_
   | refine LeO.bind ?_ (fun _ => ?_)
  ·intro y0 y1
   unfold af.j2
   repeat' first
   | (with_reducible exact ih0 _ _)
   | (with_reducible exact ih1 _ _)
   | (with_reducible exact ih2 _ _)
   | (with_reducible exact ih3 _ _)
   | (with_reducible exact LeO.refl _)
   | (with_reducible exact LeO.none _)
   | (with_reducible refine LeO.ite ?_ ?_)
   | (with_reducible refine LeO.bind ?_ (fun _ => ?_))
   | exact ih0 _ _
   | exact ih1 _ _
   | exact ih2 _ _
   | exact ih3 _ _
   | exact LeO.none _
   | refine LeO.ite ?_ ?_
   | refine LeO.bind ?_ (fun _ => ?_)
  ·intro y0 y1
   unfold af.j3
   repeat' first
   | (with_reducible exact ih0 _ _)
   | (with_reducible exact ih1 _ _)
   | (with_reducible exact ih2 _ _)
   | (with_reducible exact ih3 _ _)
   | (with_reducible exact LeO.refl _)
   | (with_reducible exact LeO.none _)
   | (with_reducible refine LeO.ite ?_ ?_)
   | (with_reducible refine LeO.bind ?_ (fun _ => ?_))
   | exact ih0 _ _
   | exact ih1 _ _
   | exact ih2 _ _
   | exact ih3 _ _
   | exact LeO.none _
   | refine LeO.ite ?_ ?_
   | refine LeO.bind ?_ (fun _ => ?_)
theorem af.mono : ∀ a0 k, LeO (af.f k a0) (af.f (k + 1) a0) := by
 intro a0 k
 obtain ⟨ih0, ih1, ih2, ih3⟩ := af.dG k
 unfold af.f
 repeat' first
   | (with_reducible exact ih0 _ _)
   | (with_reducible exact ih1 _ _)
   | (with_reducible exact ih2 _ _)
   | (with_reducible exact ih3 _ _)
   | (with_reducible exact LeO.refl _)
   | (with_reducible exact LeO.none _)
   | (with_reducible refine LeO.ite ?_ ?_)
   | (with_reducible refine LeO.bind ?_ (fun _ => ?_))
   | exact ih0 _ _
   | exact ih1 _ _
   | exact ih2 _ _
   | exact ih3 _ _
   | exact LeO.none _
   | refine LeO.ite ?_ ?_
   | refine LeO.bind ?_ (fun _ => ?_)
noncomputable def af.J0 (x6 : Int) (x9 : Bool) : Option (Int × Int × Int × Bool) := LB.lim (fun k => af.j0 k x6 x9)
noncomputable def af.J1 (x6 : Int) (x12 : Bool) : Option (Int × Int × Int × Bool) := LB.lim (fun k => af.j1 k x6 x12)
noncomputable def af.J2 (x6 : Int) (x18 : Bool) : Option (Int × Int × Int × Bool) := LB.lim (fun k => af.j2 k x6 x18)
noncomputable def af.J3 (x6 : Int) (x25 : Bool) : Option (Int × Int × Int × Bool) := LB.lim (fun k => af.j3 k x6 x25)
theorem af.ib (x6 : Int) (x9 : Bool) : LB.Lim (fun k => af.j0 k x6 x9) (af.J0 x6 x9) := LB.bO (fun k => (af.dG k).1 x6 x9)
theorem af.fD (x6 : Int) (x12 : Bool) : LB.Lim (fun k => af.j1 k x6 x12) (af.J1 x6 x12) := LB.bO (fun k => (af.dG k).2.1 x6 x12)
theorem af.ig (x6 : Int) (x18 : Bool) : LB.Lim (fun k => af.j2 k x6 x18) (af.J2 x6 x18) := LB.bO (fun k => (af.dG k).2.2.1 x6 x18)
theorem af.J3_lim (x6 : Int) (x25 : Bool) : LB.Lim (fun k => af.j3 k x6 x25) (af.J3 x6 x25) := LB.bO (fun k => (af.dG k).2.2.2 x6 x25)
theorem af.J0_eq (x6 : Int) (x9 : Bool) : af.J0 x6 x9 = (if x9 = true then (some (0, 1, 0, true)) else (if x6 = 3 then (af.J1 x6 (x6 == 3)) else (if x6 = 4 then (af.J1 x6 (x6 == 4)) else (if x6 = 6 then (af.J1 x6 (x6 == 6)) else (if x6 = 8 then (af.J1 x6 (x6 == 8)) else (af.J1 x6 (x6 == 11))))))) := by
  refine LB.Lim.unique (af.ib x6 x9).shift ?_
  simp only [af.j0]
  (repeat' (first | exact LB.Lim.const _ | exact af.ib _ _ | exact af.fD _ _ | exact af.ig _ _ | exact af.J3_lim _ _ | refine LB.Lim.ite ?_ ?_ | refine LB.Lim.bind ?_ (fun _ => ?_)))
theorem af.J1_eq (x6 : Int) (x12 : Bool) : af.J1 x6 x12 = (if x12 = true then (some ((-1), 1099511627776, (-1), true)) else (if x6 = 5 then (af.J2 x6 (x6 == 5)) else (af.J2 x6 (x6 == 7)))) := by
  refine LB.Lim.unique (af.fD x6 x12).shift ?_
  simp only [af.j1]
  (repeat' (first | exact LB.Lim.const _ | exact af.ib _ _ | exact af.fD _ _ | exact af.ig _ _ | exact af.J3_lim _ _ | refine LB.Lim.ite ?_ ?_ | refine LB.Lim.bind ?_ (fun _ => ?_)))
theorem af.J2_eq (x6 : Int) (x18 : Bool) : af.J2 x6 x18 = (if x18 = true then (some (0, 1099511627776, 0, true)) else (if x6 = 9 then (some (0, 1048576, 0, true)) else (if x6 = 10 then (some (0, 1048576, 1, true)) else (if x6 = 12 then (af.J3 x6 (x6 == 12)) else (if x6 = 13 then (af.J3 x6 (x6 == 13)) else (af.J3 x6 (x6 == 14))))))) := by
  refine LB.Lim.unique (af.ig x6 x18).shift ?_
  simp only [af.j2]
  (repeat' (first | exact LB.Lim.const _ | exact af.ib _ _ | exact af.fD _ _ | exact af.ig _ _ | exact af.J3_lim _ _ | refine LB.Lim.ite ?_ ?_ | refine LB.Lim.bind ?_ (fun _ => ?_)))
theorem af.J3_eq (x6 : Int) (x25 : Bool) : af.J3 x6 x25 = (if x25 = true then (some (0, 1073741824, 0, true)) else (if x6 = 15 then (some (0, 4, 0, true)) else (if x6 = 16 then (some (0, 3, 0, true)) else (if x6 = 17 then (some (0, 16777215, 0, true)) else (if x6 = 18 then (some (64, 64000, 1024, true)) else (some (0, 0, 0, false))))))) := by
  refine LB.Lim.unique (af.J3_lim x6 x25).shift ?_
  simp only [af.j3]
  (repeat' (first | exact LB.Lim.const _ | exact af.ib _ _ | exact af.fD _ _ | exact af.ig _ _ | exact af.J3_lim _ _ | refine LB.Lim.ite ?_ ?_ | refine LB.Lim.bind ?_ (fun _ => ?_)))
noncomputable def af.F (a0 : Int) : Option (Int × Int × Int × Bool) := LB.lim (fun k => af.f k a0)
theorem af.bK (a0 : Int) : LB.Lim (fun k => af.f k a0) (af.F a0) := LB.bO (af.mono a0)
theorem af.iD (a0 : Int) : af.F a0 = (if a0 = 0 then (some (0, 2, 0, true)) else (if a0 = 1 then (af.J0 a0 (a0 == 1)) else (af.J0 a0 (a0 == 2)))) := by
  refine LB.Lim.unique (af.bK a0) ?_
  simp only [af.f]
  (repeat' (first | exact LB.Lim.const _ | exact af.ib _ _ | exact af.fD _ _ | exact af.ig _ _ | exact af.J3_lim _ _ | refine LB.Lim.ite ?_ ?_ | refine LB.Lim.bind ?_ (fun _ => ?_)))
def bQ.f (k : Nat) (a0 a1 : Int) : Option (Int) := (af.f k a0).bind fun bt264 => (if bt264.2.2.2 = true then (if a1 < bt264.1 then (some 9) else (if a1 > bt264.2.1 then (some 9) else (some 0))) else (some 3))
theorem bQ.mono : ∀ a0 a1 k, LeO (bQ.f k a0 a1) (bQ.f (k + 1) a0 a1) := by
 intro a0 a1 k
 unfold bQ.f
 repeat' first
   | (with_reducible exact af.mono _ _)
   | (with_reducible exact LeO.refl _)
   | (with_reducible exact LeO.none _)
   | (with_reducible refine LeO.ite ?_ ?_)
   | (with_reducible refine LeO.bind ?_ (fun _ => ?_))
   | exact af.mono _ _
   | exact LeO.none _
   | refine LeO.ite ?_ ?_
   | refine LeO.bind ?_ (fun _ => ?_)
noncomputable def bQ.F (a0 a1 : Int) : Option (Int) := LB.lim (fun k => bQ.f k a0 a1)
theorem bQ.bK (a0 a1 : Int) : LB.Lim (fun k => bQ.f k a0 a1) (bQ.F a0 a1) := LB.bO (bQ.mono a0 a1)
theorem bQ.iD (a0 a1 : Int) : bQ.F a0 a1 = ((af.F a0).bind fun bt264 => (if bt264.2.2.2 = true then (if a1 < bt264.1 then (some 9) else (if a1 > bt264.2.1 then (some 9) else (some 0))) else (some 3))) := by
  refine LB.Lim.unique (bQ.bK a0 a1) ?_
  simp only [bQ.f]
  (repeat' (first | exact LB.Lim.const _ | exact af.bK _ | refine LB.Lim.ite ?_ ?_ | refine LB.Lim.bind ?_ (fun _ => ?_)))
def ak.j0 : Nat → Bool → Int → Int → Int → List Int → Int → Int → Int → Int → Int → ByteArray → Int → Int → Option (Bool)
 | 0, _, _, _, _, _, _, _, _, _, _, _, _, _ => none
 | k + 1, x51, jk, jq, jg, jf, iB, jb, jd, je, iZ, jc, jv, jr => if x51 = true then (some false) else (if iB = 1 then ((aW.f k jk jq jg jf iB jb jd je iZ jc 0 0 jk jq jg jf iB jb jd je iZ jc jv jr).bind fun t274 => (if t274 = true then ((bS.f je iZ).bind fun t275 => (if t275 = true then ((gJ.f jc).bind fun t276 => (some t276)) else (some false))) else (some false))) else (if iB = 2 then ((aW.f k jk jq jg jf iB jb jd 0 0 (⟨#[]⟩ : ByteArray) jv jr jk jq jg jf iB jb jd je iZ jc jv jr).bind fun t277 => (if t277 = true then ((bQ.f k jv jr).bind fun t278 => (some (t278 == 0))) else (some false))) else (some false)))
def ak.f (k : Nat) (a0_0 a0_1 a0_2 : Int) (l0_3 : List Int) (a0_4 a0_5 a0_6 a0_7 a0_8 : Int) (a0_9 : ByteArray) (a0_10 a0_11 : Int) : Option (Bool) := (bY.f a0_0 a0_1).bind fun t269 => (if t269 = true then ((aJ.f k l0_3).bind fun t270 => (if t270 = true then (if (l0_3.length : Int) ≤ a0_1 then (ak.j0 k true a0_0 a0_1 a0_2 l0_3 a0_4 a0_5 a0_6 a0_7 a0_8 a0_9 a0_10 a0_11) else (if a0_2 < 1 then (ak.j0 k true a0_0 a0_1 a0_2 l0_3 a0_4 a0_5 a0_6 a0_7 a0_8 a0_9 a0_10 a0_11) else (if a0_2 > 1099511627776 then (ak.j0 k true a0_0 a0_1 a0_2 l0_3 a0_4 a0_5 a0_6 a0_7 a0_8 a0_9 a0_10 a0_11) else (if 0 ≤ a0_1 then (if a0_1 < (l0_3.length : Int) then (if a0_2 = (wrap64 ((rd l0_3 a0_1) + 1)) then ((bY.f a0_5 a0_6).bind fun t272 => (ak.j0 k (!t272) a0_0 a0_1 a0_2 l0_3 a0_4 a0_5 a0_6 a0_7 a0_8 a0_9 a0_10 a0_11)) else (ak.j0 k true a0_0 a0_1 a0_2 l0_3 a0_4 a0_5 a0_6 a0_7 a0_8 a0_9 a0_10 a0_11)) else (none)) else (none))))) else (ak.j0 k true a0_0 a0_1 a0_2 l0_3 a0_4 a0_5 a0_6 a0_7 a0_8 a0_9 a0_10 a0_11))) else (ak.j0 k true a0_0 a0_1 a0_2 l0_3 a0_4 a0_5 a0_6 a0_7 a0_8 a0_9 a0_10 a0_11))
theorem ak.dG : ∀ k, (∀ y0 y1 y2 y3 y4 y5 y6 y7 y8 y9 y10 y11 y12, LeO (ak.j0 k y0 y1 y2 y3 y4 y5 y6 y7 y8 y9 y10 y11 y12) (ak.j0 (k + 1) y0 y1 y2 y3 y4 y5 y6 y7 y8 y9 y10 y11 y12))
 | 0 => fun _ _ _ _ _ _ _ _ _ _ _ _ _ r h => by simp [ak.j0] at h
 | k + 1 => by
  have ih0 := ak.dG k
  ·intro y0 y1 y2 y3 y4 y5 y6 y7 y8 y9 y10 y11 y12
   unfold ak.j0
   repeat' first
   | (with_reducible exact ih0 _ _ _ _ _ _ _ _ _ _ _ _ _)
   | (with_reducible exact aW.mono _ _ _ _ _ _ _ _ _ _ _ _ _ _ _ _ _ _ _ _ _ _ _ _ _)
   | (with_reducible exact aJ.mono _ _)
   | (with_reducible exact bQ.mono _ _ _)
   | (with_reducible exact LeO.refl _)
   | (with_reducible exact LeO.none _)
   | (with_reducible refine LeO.ite ?_ ?_)
   | (with_reducible refine LeO.bind ?_ (fun _ => ?_))
   | exact ih0 _ _ _ _ _ _ _ _ _ _ _ _ _
   | exact aW.mono _ _ _ _ _ _ _ _ _ _ _ _ _ _ _ _ _ _ _ _ _ _ _ _ _
   | exact aJ.mono _ _
   | exact bQ.mono _ _ _
   | exact LeO.none _
   | refine LeO.ite ?_ ?_
   | refine LeO.bind ?_ (fun _ => ?_)
theorem ak.mono : ∀ a0 a1 a2 a3 a4 a5 a6 a7 a8 a9 a10 a11 k, LeO (ak.f k a0 a1 a2 a3 a4 a5 a6 a7 a8 a9 a10 a11) (ak.f (k + 1) a0 a1 a2 a3 a4 a5 a6 a7 a8 a9 a10 a11) := by
 intro a0 a1 a2 a3 a4 a5 a6 a7 a8 a9 a10 a11 k
 have ih0 := ak.dG k
 unfold ak.f
 repeat' first
   | (with_reducible exact ih0 _ _ _ _ _ _ _ _ _ _ _ _ _)
   | (with_reducible exact aW.mono _ _ _ _ _ _ _ _ _ _ _ _ _ _ _ _ _ _ _ _ _ _ _ _ _)
   | (with_reducible exact aJ.mono _ _)
   | (with_reducible exact bQ.mono _ _ _)
   | (with_reducible exact LeO.refl _)
   | (with_reducible exact LeO.none _)
   | (with_reducible refine LeO.ite ?_ ?_)
   | (with_reducible refine LeO.bind ?_ (fun _ => ?_))
   | exact ih0 _ _ _ _ _ _ _ _ _ _ _ _ _
   | exact aW.mono _ _ _ _ _ _ _ _ _ _ _ _ _ _ _ _ _ _ _ _ _ _ _ _ _
   | exact aJ.mono _ _
   | exact bQ.mono _ _ _
   | exact LeO.none _
   | refine LeO.ite ?_ ?_
   | refine LeO.bind ?_ (fun _ => ?_)
noncomputable def ak.J0 (x51 : Bool) (jk jq jg : Int) (jf : List Int) (iB jb jd je iZ : Int) (jc : ByteArray) (jv jr : Int) : Option (Bool) := LB.lim (fun k => ak.j0 k x51 jk jq jg jf iB jb jd je iZ jc jv jr)
theorem ak.ib (x51 : Bool) (jk jq jg : Int) (jf : List Int) (iB jb jd je iZ : Int) (jc : ByteArray) (jv jr : Int) : LB.Lim (fun k => ak.j0 k x51 jk jq jg jf iB jb jd je iZ jc jv jr) (ak.J0 x51 jk jq jg jf iB jb jd je iZ jc jv jr) := LB.bO (fun k => (ak.dG k) x51 jk jq jg jf iB jb jd je iZ jc jv jr)
theorem ak.J0_eq (x51 : Bool) (jk jq jg : Int) (jf : List Int) (iB jb jd je iZ : Int) (jc : ByteArray) (jv jr : Int) : ak.J0 x51 jk jq jg jf iB jb jd je iZ jc jv jr = (if x51 = true then (some false) else (if iB = 1 then ((aW.F jk jq jg jf iB jb jd je iZ jc 0 0 jk jq jg jf iB jb jd je iZ jc jv jr).bind fun t274 => (if t274 = true then ((bS.f je iZ).bind fun t275 => (if t275 = true then ((gJ.f jc).bind fun t276 => (some t276)) else (some false))) else (some false))) else (if iB = 2 then ((aW.F jk jq jg jf iB jb jd 0 0 (⟨#[]⟩ : ByteArray) jv jr jk jq jg jf iB jb jd je iZ jc jv jr).bind fun t277 => (if t277 = true then ((bQ.F jv jr).bind fun t278 => (some (t278 == 0))) else (some false))) else (some false)))) := by
  refine LB.Lim.unique (ak.ib x51 jk jq jg jf iB jb jd je iZ jc jv jr).shift ?_
  simp only [ak.j0]
  (repeat' (first | exact LB.Lim.const _ | exact ak.ib _ _ _ _ _ _ _ _ _ _ _ _ _ | exact aW.bK _ _ _ _ _ _ _ _ _ _ _ _ _ _ _ _ _ _ _ _ _ _ _ _ | exact aJ.bK _ | exact bQ.bK _ _ | refine LB.Lim.ite ?_ ?_ | refine LB.Lim.bind ?_ (fun _ => ?_)))
noncomputable def ak.F (a0_0 a0_1 a0_2 : Int) (l0_3 : List Int) (a0_4 a0_5 a0_6 a0_7 a0_8 : Int) (a0_9 : ByteArray) (a0_10 a0_11 : Int) : Option (Bool) := LB.lim (fun k => ak.f k a0_0 a0_1 a0_2 l0_3 a0_4 a0_5 a0_6 a0_7 a0_8 a0_9 a0_10 a0_11)
theorem ak.bK (a0_0 a0_1 a0_2 : Int) (l0_3 : List Int) (a0_4 a0_5 a0_6 a0_7 a0_8 : Int) (a0_9 : ByteArray) (a0_10 a0_11 : Int) : LB.Lim (fun k => ak.f k a0_0 a0_1 a0_2 l0_3 a0_4 a0_5 a0_6 a0_7 a0_8 a0_9 a0_10 a0_11) (ak.F a0_0 a0_1 a0_2 l0_3 a0_4 a0_5 a0_6 a0_7 a0_8 a0_9 a0_10 a0_11) := LB.bO (ak.mono a0_0 a0_1 a0_2 l0_3 a0_4 a0_5 a0_6 a0_7 a0_8 a0_9 a0_10 a0_11)
theorem ak.iD (a0_0 a0_1 a0_2 : Int) (l0_3 : List Int) (a0_4 a0_5 a0_6 a0_7 a0_8 : Int) (a0_9 : ByteArray) (a0_10 a0_11 : Int) : ak.F a0_0 a0_1 a0_2 l0_3 a0_4 a0_5 a0_6 a0_7 a0_8 a0_9 a0_10 a0_11 = ((bY.f a0_0 a0_1).bind fun t269 => (if t269 = true then ((aJ.F l0_3).bind fun t270 => (if t270 = true then (if (l0_3.length : Int) ≤ a0_1 then (ak.J0 true a0_0 a0_1 a0_2 l0_3 a0_4 a0_5 a0_6 a0_7 a0_8 a0_9 a0_10 a0_11) else (if a0_2 < 1 then (ak.J0 true a0_0 a0_1 a0_2 l0_3 a0_4 a0_5 a0_6 a0_7 a0_8 a0_9 a0_10 a0_11) else (if a0_2 > 1099511627776 then (ak.J0 true a0_0 a0_1 a0_2 l0_3 a0_4 a0_5 a0_6 a0_7 a0_8 a0_9 a0_10 a0_11) else (if 0 ≤ a0_1 then (if a0_1 < (l0_3.length : Int) then (if a0_2 = (wrap64 ((rd l0_3 a0_1) + 1)) then ((bY.f a0_5 a0_6).bind fun t272 => (ak.J0 (!t272) a0_0 a0_1 a0_2 l0_3 a0_4 a0_5 a0_6 a0_7 a0_8 a0_9 a0_10 a0_11)) else (ak.J0 true a0_0 a0_1 a0_2 l0_3 a0_4 a0_5 a0_6 a0_7 a0_8 a0_9 a0_10 a0_11)) else (none)) else (none))))) else (ak.J0 true a0_0 a0_1 a0_2 l0_3 a0_4 a0_5 a0_6 a0_7 a0_8 a0_9 a0_10 a0_11))) else (ak.J0 true a0_0 a0_1 a0_2 l0_3 a0_4 a0_5 a0_6 a0_7 a0_8 a0_9 a0_10 a0_11))) := by
  refine LB.Lim.unique (ak.bK a0_0 a0_1 a0_2 l0_3 a0_4 a0_5 a0_6 a0_7 a0_8 a0_9 a0_10 a0_11) ?_
  simp only [ak.f]
  (repeat' (first | exact LB.Lim.const _ | exact ak.ib _ _ _ _ _ _ _ _ _ _ _ _ _ | exact aW.bK _ _ _ _ _ _ _ _ _ _ _ _ _ _ _ _ _ _ _ _ _ _ _ _ | exact aJ.bK _ | exact bQ.bK _ _ | refine LB.Lim.ite ?_ ?_ | refine LB.Lim.bind ?_ (fun _ => ?_)))
mutual
def ah.l0 : Nat → List Int → Int → Int → Option (Int × Int × Int)
 | 0, _, _, _ => none
 | k + 1, x0, x5, x6 => if x6 ≥ (x0.length : Int) then (some (0, 0, 7)) else (if 0 ≤ x6 then (if x6 < (x0.length : Int) then (if 0 ≤ (wrap64 (7 * x6)) then (if (rd x0 x6) ≥ 128 then (if x6 = 8 then (some (0, 0, 1)) else (ah.l0 k x0 (Go.bits .or .u64 x5 (shl .u64 (IntKind.u64.wrap (Go.bits .and .u8 (rd x0 x6) 127)) (wrap64 (7 * x6)))) (wrap64 (x6 + 1)))) else (if (rd x0 x6) = 0 then (if x6 > 0 then (ah.j1 k (Go.bits .or .u64 x5 (shl .u64 (IntKind.u64.wrap (Go.bits .and .u8 (rd x0 x6) 127)) (wrap64 (7 * x6)))) x6 true) else (ah.j1 k (Go.bits .or .u64 x5 (shl .u64 (IntKind.u64.wrap (Go.bits .and .u8 (rd x0 x6) 127)) (wrap64 (7 * x6)))) x6 (decide ((Go.bits .or .u64 x5 (shl .u64 (IntKind.u64.wrap (Go.bits .and .u8 (rd x0 x6) 127)) (wrap64 (7 * x6)))) > 4611686018427387904)))) else (ah.j1 k (Go.bits .or .u64 x5 (shl .u64 (IntKind.u64.wrap (Go.bits .and .u8 (rd x0 x6) 127)) (wrap64 (7 * x6)))) x6 (decide ((Go.bits .or .u64 x5 (shl .u64 (IntKind.u64.wrap (Go.bits .and .u8 (rd x0 x6) 127)) (wrap64 (7 * x6)))) > 4611686018427387904))))) else (none)) else (none)) else (none))
def ah.j1 : Nat → Int → Int → Bool → Option (Int × Int × Int)
 | 0, _, _, _ => none
 | k + 1, x5, x6, x39 => if x39 = true then (some (0, 0, 1)) else (some (wrap64 (x5), wrap64 (x6 + 1), 0))
end
def ah.f (k : Nat) (l0 : List Int) : Option (Int × Int × Int) := ah.l0 k l0 0 0
theorem ah.dG : ∀ k, (∀ y0 y1 y2, LeO (ah.l0 k y0 y1 y2) (ah.l0 (k + 1) y0 y1 y2)) ∧ (∀ y0 y1 y2, LeO (ah.j1 k y0 y1 y2) (ah.j1 (k + 1) y0 y1 y2))
 | 0 => ⟨fun _ _ _ r h => by simp [ah.l0] at h, fun _ _ _ r h => by simp [ah.j1] at h⟩
 | k + 1 => by
  obtain ⟨ih0, ih1⟩ := ah.dG k
  refine ⟨?_, ?_⟩
  ·intro y0 y1 y2
   unfold ah.l0
   repeat' first
   | (with_reducible exact ih0 _ _ _)
   | (with_reducible exact ih1 _ _ _)
   | (with_reducible exact LeO.refl _)
   | (with_reducible exact LeO.none _)
   | (with_reducible refine LeO.ite ?_ ?_)
   | (with_reducible refine LeO.bind ?_ (fun _ => ?_))
   | exact ih0 _ _ _
   | exact ih1 _ _ _
   | exact LeO.none _
   | refine LeO.ite ?_ ?_
   | refine LeO.bind ?_ (fun _ => ?_)
  ·intro y0 y1 y2
   unfold ah.j1
   repeat' first
   | (with_reducible exact ih0 _ _ _)
   | (with_reducible exact ih1 _ _ _)
   | (with_reducible exact LeO.refl _)
   | (with_reducible exact LeO.none _)
   | (with_reducible refine LeO.ite ?_ ?_)
   | (with_reducible refine LeO.bind ?_ (fun _ => ?_))
   | exact ih0 _ _ _
   | exact ih1 _ _ _
   | exact LeO.none _
   | refine LeO.ite ?_ ?_
   | refine LeO.bind ?_ (fun _ => ?_)
theorem ah.mono : ∀ a0 k, LeO (ah.f k a0) (ah.f (k + 1) a0) := by
 intro a0 k
 obtain ⟨ih0, ih1⟩ := ah.dG k
 unfold ah.f
 repeat' first
   | (with_reducible exact ih0 _ _ _)
   | (with_reducible exact ih1 _ _ _)
   | (with_reducible exact LeO.refl _)
   | (with_reducible exact LeO.none _)
   | (with_reducible refine LeO.ite ?_ ?_)
   | (with_reducible refine LeO.bind ?_ (fun _ => ?_))
   | exact ih0 _ _ _
   | exact ih1 _ _ _
   | exact LeO.none _
   | refine LeO.ite ?_ ?_
   | refine LeO.bind ?_ (fun _ => ?_)
noncomputable def ah.L0 (x0 : List Int) (x5 x6 : Int) : Option (Int × Int × Int) := LB.lim (fun k => ah.l0 k x0 x5 x6)
noncomputable def ah.J1 (x5 x6 : Int) (x39 : Bool) : Option (Int × Int × Int) := LB.lim (fun k => ah.j1 k x5 x6 x39)
theorem ah.eT (x0 : List Int) (x5 x6 : Int) : LB.Lim (fun k => ah.l0 k x0 x5 x6) (ah.L0 x0 x5 x6) := LB.bO (fun k => (ah.dG k).1 x0 x5 x6)
theorem ah.fD (x5 x6 : Int) (x39 : Bool) : LB.Lim (fun k => ah.j1 k x5 x6 x39) (ah.J1 x5 x6 x39) := LB.bO (fun k => (ah.dG k).2 x5 x6 x39)
theorem ah.iR (x0 : List Int) (x5 x6 : Int) : ah.L0 x0 x5 x6 = (if x6 ≥ (x0.length : Int) then (some (0, 0, 7)) else (if 0 ≤ x6 then (if x6 < (x0.length : Int) then (if 0 ≤ (wrap64 (7 * x6)) then (if (rd x0 x6) ≥ 128 then (if x6 = 8 then (some (0, 0, 1)) else (ah.L0 x0 (Go.bits .or .u64 x5 (shl .u64 (IntKind.u64.wrap (Go.bits .and .u8 (rd x0 x6) 127)) (wrap64 (7 * x6)))) (wrap64 (x6 + 1)))) else (if (rd x0 x6) = 0 then (if x6 > 0 then (ah.J1 (Go.bits .or .u64 x5 (shl .u64 (IntKind.u64.wrap (Go.bits .and .u8 (rd x0 x6) 127)) (wrap64 (7 * x6)))) x6 true) else (ah.J1 (Go.bits .or .u64 x5 (shl .u64 (IntKind.u64.wrap (Go.bits .and .u8 (rd x0 x6) 127)) (wrap64 (7 * x6)))) x6 (decide ((Go.bits .or .u64 x5 (shl .u64 (IntKind.u64.wrap (Go.bits .and .u8 (rd x0 x6) 127)) (wrap64 (7 * x6)))) > 4611686018427387904)))) else (ah.J1 (Go.bits .or .u64 x5 (shl .u64 (IntKind.u64.wrap (Go.bits .and .u8 (rd x0 x6) 127)) (wrap64 (7 * x6)))) x6 (decide ((Go.bits .or .u64 x5 (shl .u64 (IntKind.u64.wrap (Go.bits .and .u8 (rd x0 x6) 127)) (wrap64 (7 * x6)))) > 4611686018427387904))))) else (none)) else (none)) else (none))) := by
  refine LB.Lim.unique (ah.eT x0 x5 x6).shift ?_
  simp only [ah.l0]
  (repeat' (first | exact LB.Lim.const _ | exact ah.eT _ _ _ | exact ah.fD _ _ _ | refine LB.Lim.ite ?_ ?_ | refine LB.Lim.bind ?_ (fun _ => ?_)))
theorem ah.J1_eq (x5 x6 : Int) (x39 : Bool) : ah.J1 x5 x6 x39 = (if x39 = true then (some (0, 0, 1)) else (some (wrap64 (x5), wrap64 (x6 + 1), 0))) := by
  refine LB.Lim.unique (ah.fD x5 x6 x39).shift ?_
  simp only [ah.j1]
  (repeat' (first | exact LB.Lim.const _ | exact ah.eT _ _ _ | exact ah.fD _ _ _ | refine LB.Lim.ite ?_ ?_ | refine LB.Lim.bind ?_ (fun _ => ?_)))
noncomputable def ah.F (l0 : List Int) : Option (Int × Int × Int) := LB.lim (fun k => ah.f k l0)
theorem ah.bK (l0 : List Int) : LB.Lim (fun k => ah.f k l0) (ah.F l0) := LB.bO (ah.mono l0)
theorem ah.iD (l0 : List Int) : ah.F l0 = (ah.L0 l0 0 0) := by
  refine LB.Lim.unique (ah.bK l0) ?_
  simp only [ah.f]
  (repeat' (first | exact LB.Lim.const _ | exact ah.eT _ _ _ | exact ah.fD _ _ _ | refine LB.Lim.ite ?_ ?_ | refine LB.Lim.bind ?_ (fun _ => ?_)))
def cZ.f (k : Nat) (l0 : List Int) : Option (Int × Int × Int × Int) := (ah.f k l0).bind fun bt281 => (if bt281.2.2 = 0 then (if 0 ≤ bt281.2.1 then (if bt281.2.1 ≤ (l0.length : Int) then ((ah.f k (l0.drop (bt281.2.1 : Int).toNat)).bind fun bt285 => (if bt285.2.2 = 0 then ((bS.f bt281.1 bt285.1).bind fun t289 => (if t289 = true then (some (bt281.1, bt285.1, wrap64 (bt281.2.1 + bt285.2.1), 0)) else (some (0, 0, 0, 1)))) else (some (0, 0, 0, bt285.2.2)))) else (none)) else (none)) else (some (0, 0, 0, bt281.2.2)))
theorem cZ.mono : ∀ a0 k, LeO (cZ.f k a0) (cZ.f (k + 1) a0) := by
 intro a0 k
 unfold cZ.f
 repeat' first
   | (with_reducible exact ah.mono _ _)
   | (with_reducible exact LeO.refl _)
   | (with_reducible exact LeO.none _)
   | (with_reducible refine LeO.ite ?_ ?_)
   | (with_reducible refine LeO.bind ?_ (fun _ => ?_))
   | exact ah.mono _ _
   | exact LeO.none _
   | refine LeO.ite ?_ ?_
   | refine LeO.bind ?_ (fun _ => ?_)
noncomputable def cZ.F (l0 : List Int) : Option (Int × Int × Int × Int) := LB.lim (fun k => cZ.f k l0)
theorem cZ.bK (l0 : List Int) : LB.Lim (fun k => cZ.f k l0) (cZ.F l0) := LB.bO (cZ.mono l0)
theorem cZ.iD (l0 : List Int) : cZ.F l0 = ((ah.F l0).bind fun bt281 => (if bt281.2.2 = 0 then (if 0 ≤ bt281.2.1 then (if bt281.2.1 ≤ (l0.length : Int) then ((ah.F (l0.drop (bt281.2.1 : Int).toNat)).bind fun bt285 => (if bt285.2.2 = 0 then ((bS.f bt281.1 bt285.1).bind fun t289 => (if t289 = true then (some (bt281.1, bt285.1, wrap64 (bt281.2.1 + bt285.2.1), 0)) else (some (0, 0, 0, 1)))) else (some (0, 0, 0, bt285.2.2)))) else (none)) else (none)) else (some (0, 0, 0, bt281.2.2)))) := by
  refine LB.Lim.unique (cZ.bK l0) ?_
  simp only [cZ.f]
  (repeat' (first | exact LB.Lim.const _ | exact ah.bK _ | refine LB.Lim.ite ?_ ?_ | refine LB.Lim.bind ?_ (fun _ => ?_)))
/-- A state of type 82 at block g of W; what its slices lead to came in by w0. -/
def bH (w0 W : World) (g : Nat) (f0 : List Int) (f1 f2 : Int) : Prop := ∃ A0 c0, W.heap[g]? = some (.cells #[.slice A0 f0.length c0, .int .i64 f1, .int .i64 f2] 82 (0, 0)) ∧ w0.heap.size ≤ g ∧ Kd.C (Kd.int .u8) w0 A0 f0.length f0 ∧ f0.length ≤ c0
theorem bH.grown {w0 W : World} {g : Nat} {f0 : List Int} {f1 : Int} {f2 : Int} {W1 : World} {row : Option Nat} (h : bH w0 W g f0 f1 f2) (hw : W.grownBy W1 row) (hne : some g ≠ row) : bH w0 W1 g f0 f1 f2 := by
 obtain ⟨A0, c0, hb, hg, hr0, hk0⟩ := h
 exact ⟨A0, c0, blk_grown hb hw hne, hg, hr0, hk0⟩
theorem bH.kept {w0 W : World} {g : Nat} {f0 : List Int} {f1 : Int} {f2 : Int} {W1 : World} {S : Nat → Prop} (h : bH w0 W g f0 f1 f2) (hk : Kept W W1 S) (hne : ¬ S g) : bH w0 W1 g f0 f1 f2 := by
 obtain ⟨A0, c0, hb, hg, hr0, hk0⟩ := h
 exact ⟨A0, c0, gN hb hk hne, hg, hr0, hk0⟩
theorem bH.below {w0 W : World} {g : Nat} {f0 : List Int} {f1 : Int} {f2 : Int} {W1 : World} (h : bH w0 W g f0 f1 f2) (hw : Below W.heap.size W W1) : bH w0 W1 g f0 f1 f2 := h.grown (grown_of_below hw none) (by simp)
theorem bH.alloc {w0 W : World} {g : Nat} {f0 : List Int} {f1 : Int} {f2 : Int} (h : bH w0 W g f0 f1 f2) (o : Obj) : bH w0 (W.alloc o) g f0 f1 f2 := h.below (aT (Below.refl _ _) o)
theorem bH.drewN {w0 W : World} {g : Nat} {f0 : List Int} {f1 : Int} {f2 : Int} (h : bH w0 W g f0 f1 f2) (m : Nat) : bH w0 (W.drewN m) g f0 f1 f2 := h
theorem bH.drew {w0 W : World} {g : Nat} {f0 : List Int} {f1 : Int} {f2 : Int} (h : bH w0 W g f0 f1 f2) : bH w0 W.drew g f0 f1 f2 := h
theorem bH.at_ {w0 W : World} {g : Nat} {f0 : List Int} {f1 : Int} {f2 : Int} {w' : World} {m : Nat} (hq : W.drewN m = w') (h : bH w0 W g f0 f1 f2) : bH w0 w' g f0 f1 f2 := by subst hq; exact bH.drewN h m
theorem bH.apart {w0 W : World} {g : Nat} {f0 : List Int} {f1 : Int} {f2 : Int} {α : Type} {d : Kd α} {e : Nat} {base : Nat} {ok : Nat → Prop} {v : Value} {xs : List α} (h : bH w0 W g f0 f1 f2) (ho : d.R e W base ok v xs) (ht : ∀ q, q ∈ e :: d.E → q ≠ 82) : d.R e W base (fun k => ok k ∧ k ≠ g) v xs := by
 obtain ⟨A0, c0, hb, hg, hr0, hk0⟩ := h
 exact Kd.eD ho hb ht
theorem bH.own_ne {w0 W : World} {g : Nat} {f0 : List Int} {f1 : Int} {f2 : Int} {α : Type} {d : Kd α} {e : Nat} {base : Nat} {ok : Nat → Prop} {v : Value} {xs : List α} (h : bH w0 W g f0 f1 f2) (ho : d.R e W base ok v xs) (ht : e ≠ 82) : some g ≠ v.ownBlock := by
 obtain ⟨A0, c0, hb, hg, hr0, hk0⟩ := h
 exact Kd.R_ne ho hb ht
theorem bH.lt {w0 W : World} {g : Nat} {f0 : List Int} {f1 : Int} {f2 : Int} (h : bH w0 W g f0 f1 f2) : g < W.heap.size := by
 obtain ⟨A0, c0, hb, hg, hr0, hk0⟩ := h
 exact gP hb
theorem bH.ge {w0 W : World} {g : Nat} {f0 : List Int} {f1 : Int} {f2 : Int} (h : bH w0 W g f0 f1 f2) : w0.heap.size ≤ g := by
 obtain ⟨A0, c0, hb, hg, hr0, hk0⟩ := h
 exact hg
theorem bH.far {w0 W : World} {g : Nat} {f0 : List Int} {f1 : Int} {f2 : Int} {p : Addr} (h : bH w0 W g f0 f1 f2) (hne : g ≠ p.block) (u : Value) : bH w0 (W.setCell p u) g f0 f1 f2 := by
 obtain ⟨A0, c0, hb, hg, hr0, hk0⟩ := h
 exact ⟨A0, c0, eX hb hne u, hg, hr0, hk0⟩
theorem fQ {W : World} {g : Nat} {A0 : Option Addr} {c0 : Nat} {f0 : List Int} {f1 : Int} {f2 : Int} (h : W.heap[g]? = some (.cells #[.slice A0 f0.length c0, .int .i64 f1, .int .i64 f2] 82 (0, 0))) : W.cell? ⟨g, 0, none⟩ = some (.slice A0 f0.length c0) := (ai h 0).trans rfl
theorem fO {W : World} {g : Nat} {A0 : Option Addr} {c0 : Nat} {f0 : List Int} {f1 : Int} {f2 : Int} (h : W.heap[g]? = some (.cells #[.slice A0 f0.length c0, .int .i64 f1, .int .i64 f2] 82 (0, 0))) : W.cell? ⟨g, 1, none⟩ = some (.int .i64 f1) := (ai h 1).trans rfl
theorem bH.iI {w0 W : World} {g : Nat} {f0 : List Int} {f1 : Int} {f2 : Int} (h : bH w0 W g f0 f1 f2) (x : Int) : bH w0 (W.setCell ⟨g, 1, none⟩ (.int .i64 x)) g f0 x f2 := by
 obtain ⟨A0, c0, hb, hg, hr0, hk0⟩ := h
 exact ⟨A0, c0, by simpa using blk_set hb 1 (.int .i64 x), hg, hr0, hk0⟩
theorem fJ {W : World} {g : Nat} {A0 : Option Addr} {c0 : Nat} {f0 : List Int} {f1 : Int} {f2 : Int} (h : W.heap[g]? = some (.cells #[.slice A0 f0.length c0, .int .i64 f1, .int .i64 f2] 82 (0, 0))) : W.cell? ⟨g, 2, none⟩ = some (.int .i64 f2) := (ai h 2).trans rfl
theorem bH.iG {w0 W : World} {g : Nat} {f0 : List Int} {f1 : Int} {f2 : Int} (h : bH w0 W g f0 f1 f2) (x : Int) : bH w0 (W.setCell ⟨g, 2, none⟩ (.int .i64 x)) g f0 f1 x := by
 obtain ⟨A0, c0, hb, hg, hr0, hk0⟩ := h
 exact ⟨A0, c0, by simpa using blk_set hb 2 (.int .i64 x), hg, hr0, hk0⟩
def az.f (k : Nat) (s0_0 : List Int) (s0_1 s0_2 : Int) : Option (Int × Int × Int × Int) := if s0_2 = 0 then (if 0 ≤ s0_1 then (if s0_1 ≤ (s0_0.length : Int) then ((cZ.f k (s0_0.drop (s0_1 : Int).toNat)).bind fun bt292 => (some (bt292.1, bt292.2.1, wrap64 (s0_1 + bt292.2.2.1), bt292.2.2.2))) else (none)) else (none)) else (some (0, 0, s0_1, s0_2))
theorem az.mono : ∀ a0 a1 a2 k, LeO (az.f k a0 a1 a2) (az.f (k + 1) a0 a1 a2) := by
 intro a0 a1 a2 k
 unfold az.f
 repeat' first
   | (with_reducible exact cZ.mono _ _)
   | (with_reducible exact LeO.refl _)
   | (with_reducible exact LeO.none _)
   | (with_reducible refine LeO.ite ?_ ?_)
   | (with_reducible refine LeO.bind ?_ (fun _ => ?_))
   | exact cZ.mono _ _
   | exact LeO.none _
   | refine LeO.ite ?_ ?_
   | refine LeO.bind ?_ (fun _ => ?_)
noncomputable def az.F (s0_0 : List Int) (s0_1 s0_2 : Int) : Option (Int × Int × Int × Int) := LB.lim (fun k => az.f k s0_0 s0_1 s0_2)
theorem az.bK (s0_0 : List Int) (s0_1 s0_2 : Int) : LB.Lim (fun k => az.f k s0_0 s0_1 s0_2) (az.F s0_0 s0_1 s0_2) := LB.bO (az.mono s0_0 s0_1 s0_2)
theorem az.iD (s0_0 : List Int) (s0_1 s0_2 : Int) : az.F s0_0 s0_1 s0_2 = (if s0_2 = 0 then (if 0 ≤ s0_1 then (if s0_1 ≤ (s0_0.length : Int) then ((cZ.F (s0_0.drop (s0_1 : Int).toNat)).bind fun bt292 => (some (bt292.1, bt292.2.1, wrap64 (s0_1 + bt292.2.2.1), bt292.2.2.2))) else (none)) else (none)) else (some (0, 0, s0_1, s0_2))) := by
  refine LB.Lim.unique (az.bK s0_0 s0_1 s0_2) ?_
  simp only [az.f]
  (repeat' (first | exact LB.Lim.const _ | exact cZ.bK _ | refine LB.Lim.ite ?_ ?_ | refine LB.Lim.bind ?_ (fun _ => ?_)))
def aN.l0 : Nat → List Int → Int → Int → List Int → Int → Option (List Int × Int × Int)
 | 0, _, _, _, _, _ => none
 | k + 1, x0, x5, x6, x8, x9 => if x9 < x5 then (if 0 ≤ x6 then (if x6 ≤ (x0.length : Int) then ((ah.f k (x0.drop (x6 : Int).toNat)).bind fun bt301 => (if bt301.2.2 = 0 then (if x8.length < 17592186044416 then (aN.l0 k x0 x5 (wrap64 (x6 + bt301.2.1)) (x8 ++ [bt301.1]) (wrap64 (x9 + 1))) else (none)) else (some (([] : List Int), 0, bt301.2.2)))) else (none)) else (none)) else (some (x8, x6, 0))
def aN.f (k : Nat) (l0 : List Int) : Option (List Int × Int × Int) := (ah.f k l0).bind fun bt297 => (if bt297.2.2 = 0 then (if bt297.1 > 1024 then (some (([] : List Int), 0, 1)) else (aN.l0 k l0 bt297.1 bt297.2.1 ([] : List Int) 0)) else (some (([] : List Int), 0, bt297.2.2)))
theorem aN.dG : ∀ k, (∀ y0 y1 y2 y3 y4, LeO (aN.l0 k y0 y1 y2 y3 y4) (aN.l0 (k + 1) y0 y1 y2 y3 y4))
 | 0 => fun _ _ _ _ _ r h => by simp [aN.l0] at h
 | k + 1 => by
  have ih0 := aN.dG k
  ·intro y0 y1 y2 y3 y4
   unfold aN.l0
   repeat' first
   | (with_reducible exact ih0 _ _ _ _ _)
   | (with_reducible exact ah.mono _ _)
   | (with_reducible exact LeO.refl _)
   | (with_reducible exact LeO.none _)
   | (with_reducible refine LeO.ite ?_ ?_)
   | (with_reducible refine LeO.bind ?_ (fun _ => ?_))
   | exact ih0 _ _ _ _ _
   | exact ah.mono _ _
   | exact LeO.none _
   | refine LeO.ite ?_ ?_
   | refine LeO.bind ?_ (fun _ => ?_)
theorem aN.mono : ∀ a0 k, LeO (aN.f k a0) (aN.f (k + 1) a0) := by
 intro a0 k
 have ih0 := aN.dG k
 unfold aN.f
 repeat' first
   | (with_reducible exact ih0 _ _ _ _ _)
   | (with_reducible exact ah.mono _ _)
   | (with_reducible exact LeO.refl _)
   | (with_reducible exact LeO.none _)
   | (with_reducible refine LeO.ite ?_ ?_)
   | (with_reducible refine LeO.bind ?_ (fun _ => ?_))
   | exact ih0 _ _ _ _ _
   | exact ah.mono _ _
   | exact LeO.none _
   | refine LeO.ite ?_ ?_
   | refine LeO.bind ?_ (fun _ => ?_)
noncomputable def aN.L0 (x0 : List Int) (x5 x6 : Int) (x8 : List Int) (x9 : Int) : Option (List Int × Int × Int) := LB.lim (fun k => aN.l0 k x0 x5 x6 x8 x9)
theorem aN.eT (x0 : List Int) (x5 x6 : Int) (x8 : List Int) (x9 : Int) : LB.Lim (fun k => aN.l0 k x0 x5 x6 x8 x9) (aN.L0 x0 x5 x6 x8 x9) := LB.bO (fun k => (aN.dG k) x0 x5 x6 x8 x9)
theorem aN.iR (x0 : List Int) (x5 x6 : Int) (x8 : List Int) (x9 : Int) : aN.L0 x0 x5 x6 x8 x9 = (if x9 < x5 then (if 0 ≤ x6 then (if x6 ≤ (x0.length : Int) then ((ah.F (x0.drop (x6 : Int).toNat)).bind fun bt301 => (if bt301.2.2 = 0 then (if x8.length < 17592186044416 then (aN.L0 x0 x5 (wrap64 (x6 + bt301.2.1)) (x8 ++ [bt301.1]) (wrap64 (x9 + 1))) else (none)) else (some (([] : List Int), 0, bt301.2.2)))) else (none)) else (none)) else (some (x8, x6, 0))) := by
  refine LB.Lim.unique (aN.eT x0 x5 x6 x8 x9).shift ?_
  simp only [aN.l0]
  (repeat' (first | exact LB.Lim.const _ | exact aN.eT _ _ _ _ _ | exact ah.bK _ | refine LB.Lim.ite ?_ ?_ | refine LB.Lim.bind ?_ (fun _ => ?_)))
noncomputable def aN.F (l0 : List Int) : Option (List Int × Int × Int) := LB.lim (fun k => aN.f k l0)
theorem aN.bK (l0 : List Int) : LB.Lim (fun k => aN.f k l0) (aN.F l0) := LB.bO (aN.mono l0)
theorem aN.iD (l0 : List Int) : aN.F l0 = ((ah.F l0).bind fun bt297 => (if bt297.2.2 = 0 then (if bt297.1 > 1024 then (some (([] : List Int), 0, 1)) else (aN.L0 l0 bt297.1 bt297.2.1 ([] : List Int) 0)) else (some (([] : List Int), 0, bt297.2.2)))) := by
  refine LB.Lim.unique (aN.bK l0) ?_
  simp only [aN.f]
  (repeat' (first | exact LB.Lim.const _ | exact aN.eT _ _ _ _ _ | exact ah.bK _ | refine LB.Lim.ite ?_ ?_ | refine LB.Lim.bind ?_ (fun _ => ?_)))
def aY.f (k : Nat) (l0 : List Int) : Option (List Int × Int × Int) := (aN.f k l0).bind fun bt307 => (if bt307.2.2 = 0 then ((aJ.f k bt307.1).bind fun t312 => (if t312 = true then (some (bt307.1, bt307.2.1, 0)) else (some (([] : List Int), 0, 1)))) else (some (([] : List Int), 0, bt307.2.2)))
theorem aY.mono : ∀ a0 k, LeO (aY.f k a0) (aY.f (k + 1) a0) := by
 intro a0 k
 unfold aY.f
 repeat' first
   | (with_reducible exact aN.mono _ _)
   | (with_reducible exact aJ.mono _ _)
   | (with_reducible exact LeO.refl _)
   | (with_reducible exact LeO.none _)
   | (with_reducible refine LeO.ite ?_ ?_)
   | (with_reducible refine LeO.bind ?_ (fun _ => ?_))
   | exact aN.mono _ _
   | exact aJ.mono _ _
   | exact LeO.none _
   | refine LeO.ite ?_ ?_
   | refine LeO.bind ?_ (fun _ => ?_)
noncomputable def aY.F (l0 : List Int) : Option (List Int × Int × Int) := LB.lim (fun k => aY.f k l0)
theorem aY.bK (l0 : List Int) : LB.Lim (fun k => aY.f k l0) (aY.F l0) := LB.bO (aY.mono l0)
theorem aY.iD (l0 : List Int) : aY.F l0 = ((aN.F l0).bind fun bt307 => (if bt307.2.2 = 0 then ((aJ.F bt307.1).bind fun t312 => (if t312 = true then (some (bt307.1, bt307.2.1, 0)) else (some (([] : List Int), 0, 1)))) else (some (([] : List Int), 0, bt307.2.2)))) := by
  refine LB.Lim.unique (aY.bK l0) ?_
  simp only [aY.f]
  (repeat' (first | exact LB.Lim.const _ | exact aN.bK _ | exact aJ.bK _ | refine LB.Lim.ite ?_ ?_ | refine LB.Lim.bind ?_ (fun _ => ?_)))
def aU.f (k : Nat) (s0_0 : List Int) (s0_1 s0_2 : Int) : Option (Int × Int × Int) := if s0_2 = 0 then (if 0 ≤ s0_1 then (if s0_1 ≤ (s0_0.length : Int) then ((ah.f k (s0_0.drop (s0_1 : Int).toNat)).bind fun bt314 => (some (bt314.1, wrap64 (s0_1 + bt314.2.1), bt314.2.2))) else (none)) else (none)) else (some (0, s0_1, s0_2))
theorem aU.mono : ∀ a0 a1 a2 k, LeO (aU.f k a0 a1 a2) (aU.f (k + 1) a0 a1 a2) := by
 intro a0 a1 a2 k
 unfold aU.f
 repeat' first
   | (with_reducible exact ah.mono _ _)
   | (with_reducible exact LeO.refl _)
   | (with_reducible exact LeO.none _)
   | (with_reducible refine LeO.ite ?_ ?_)
   | (with_reducible refine LeO.bind ?_ (fun _ => ?_))
   | exact ah.mono _ _
   | exact LeO.none _
   | refine LeO.ite ?_ ?_
   | refine LeO.bind ?_ (fun _ => ?_)
noncomputable def aU.F (s0_0 : List Int) (s0_1 s0_2 : Int) : Option (Int × Int × Int) := LB.lim (fun k => aU.f k s0_0 s0_1 s0_2)
theorem aU.bK (s0_0 : List Int) (s0_1 s0_2 : Int) : LB.Lim (fun k => aU.f k s0_0 s0_1 s0_2) (aU.F s0_0 s0_1 s0_2) := LB.bO (aU.mono s0_0 s0_1 s0_2)
theorem aU.iD (s0_0 : List Int) (s0_1 s0_2 : Int) : aU.F s0_0 s0_1 s0_2 = (if s0_2 = 0 then (if 0 ≤ s0_1 then (if s0_1 ≤ (s0_0.length : Int) then ((ah.F (s0_0.drop (s0_1 : Int).toNat)).bind fun bt314 => (some (bt314.1, wrap64 (s0_1 + bt314.2.1), bt314.2.2))) else (none)) else (none)) else (some (0, s0_1, s0_2))) := by
  refine LB.Lim.unique (aU.bK s0_0 s0_1 s0_2) ?_
  simp only [aU.f]
  (repeat' (first | exact LB.Lim.const _ | exact ah.bK _ | refine LB.Lim.ite ?_ ?_ | refine LB.Lim.bind ?_ (fun _ => ?_)))
def bi.f (k : Nat) (l0 : List Int) : Option (ByteArray × Int × Int) := (ah.f k l0).bind fun bt317 => (if bt317.2.2 = 0 then (if bt317.1 > 65536 then (some ((⟨#[]⟩ : ByteArray), 0, 1)) else (if bt317.1 > (wrap64 ((l0.length : Int) - bt317.2.1)) then (some ((⟨#[]⟩ : ByteArray), 0, 7)) else (if 0 ≤ bt317.2.1 then (if bt317.2.1 ≤ (wrap64 (bt317.2.1 + bt317.1)) then (if (wrap64 (bt317.2.1 + bt317.1)) ≤ (l0.length : Int) then (some (strOfNums ((l0.take ((wrap64 (bt317.2.1 + bt317.1)) : Int).toNat).drop (bt317.2.1 : Int).toNat), wrap64 (bt317.2.1 + bt317.1), 0)) else (none)) else (none)) else (none)))) else (some ((⟨#[]⟩ : ByteArray), 0, bt317.2.2)))
theorem bi.mono : ∀ a0 k, LeO (bi.f k a0) (bi.f (k + 1) a0) := by
 intro a0 k
 unfold bi.f
 repeat' first
   | (with_reducible exact ah.mono _ _)
   | (with_reducible exact LeO.refl _)
   | (with_reducible exact LeO.none _)
   | (with_reducible refine LeO.ite ?_ ?_)
   | (with_reducible refine LeO.bind ?_ (fun _ => ?_))
   | exact ah.mono _ _
   | exact LeO.none _
   | refine LeO.ite ?_ ?_
   | refine LeO.bind ?_ (fun _ => ?_)
noncomputable def bi.F (l0 : List Int) : Option (ByteArray × Int × Int) := LB.lim (fun k => bi.f k l0)
theorem bi.bK (l0 : List Int) : LB.Lim (fun k => bi.f k l0) (bi.F l0) := LB.bO (bi.mono l0)
theorem bi.iD (l0 : List Int) : bi.F l0 = ((ah.F l0).bind fun bt317 => (if bt317.2.2 = 0 then (if bt317.1 > 65536 then (some ((⟨#[]⟩ : ByteArray), 0, 1)) else (if bt317.1 > (wrap64 ((l0.length : Int) - bt317.2.1)) then (some ((⟨#[]⟩ : ByteArray), 0, 7)) else (if 0 ≤ bt317.2.1 then (if bt317.2.1 ≤ (wrap64 (bt317.2.1 + bt317.1)) then (if (wrap64 (bt317.2.1 + bt317.1)) ≤ (l0.length : Int) then (some (strOfNums ((l0.take ((wrap64 (bt317.2.1 + bt317.1)) : Int).toNat).drop (bt317.2.1 : Int).toNat), wrap64 (bt317.2.1 + bt317.1), 0)) else (none)) else (none)) else (none)))) else (some ((⟨#[]⟩ : ByteArray), 0, bt317.2.2)))) := by
  refine LB.Lim.unique (bi.bK l0) ?_
  simp only [bi.f]
  (repeat' (first | exact LB.Lim.const _ | exact ah.bK _ | refine LB.Lim.ite ?_ ?_ | refine LB.Lim.bind ?_ (fun _ => ?_)))
mutual
def ae.j0 : Nat → List Int → List Int → Int → Int → Int → Int → Int → List Int → Int → Int → Int → Int → Int → ByteArray → Int → Int → Option (Int × Int × Int × List Int × Int × Int × Int × Int × Int × ByteArray × Int × Int × Int × Int)
 | 0, _, _, _, _, _, _, _, _, _, _, _, _, _, _, _, _ => none
 | k + 1, x0, bX, dM, dN, dh, bW, dx, bZ, dD, dH, dI, dE, dF, dz, dn, dw => (aU.f k bX dM dN).bind fun bt334 => (if bt334.2.2 = 0 then (if bt334.1 = 1 then (ae.j1 k x0 false bX bt334.2.1 bt334.2.2 dh bW dx bZ bt334.1 dH dI dE dF dz dn dw) else (ae.j1 k x0 (bt334.1 != 2) bX bt334.2.1 bt334.2.2 dh bW dx bZ bt334.1 dH dI dE dF dz dn dw)) else (ae.j1 k x0 false bX bt334.2.1 bt334.2.2 dh bW dx bZ bt334.1 dH dI dE dF dz dn dw))
def ae.j1 : Nat → List Int → Bool → List Int → Int → Int → Int → Int → Int → List Int → Int → Int → Int → Int → Int → ByteArray → Int → Int → Option (Int × Int × Int × List Int × Int × Int × Int × Int × Int × ByteArray × Int × Int × Int × Int)
 | 0, _, _, _, _, _, _, _, _, _, _, _, _, _, _, _, _, _ => none
 | k + 1, x0, x67, bX, dM, dN, dh, bW, dx, bZ, dD, dH, dI, dE, dF, dz, dn, dw => if x67 = true then (ae.j2 k x0 bX dM 1 dh bW dx bZ dD dH dI dE dF dz dn dw) else (ae.j2 k x0 bX dM dN dh bW dx bZ dD dH dI dE dF dz dn dw)
def ae.j2 : Nat → List Int → List Int → Int → Int → Int → Int → Int → List Int → Int → Int → Int → Int → Int → ByteArray → Int → Int → Option (Int × Int × Int × List Int × Int × Int × Int × Int × Int × ByteArray × Int × Int × Int × Int)
 | 0, _, _, _, _, _, _, _, _, _, _, _, _, _, _, _, _ => none
 | k + 1, x0, bX, dM, dN, dh, bW, dx, bZ, dD, dH, dI, dE, dF, dz, dn, dw => (az.f k bX dM dN).bind fun bt337 => (if dD = 1 then ((az.f k bX bt337.2.2.1 bt337.2.2.2).bind fun bt341 => (if bt341.2.2.2 = 0 then (if 0 ≤ bt341.2.2.1 then (if bt341.2.2.1 ≤ (x0.length : Int) then ((bi.f k (x0.drop (bt341.2.2.1 : Int).toNat)).bind fun bt346 => (ae.j3 k bX (wrap64 (bt341.2.2.1 + bt346.2.1)) bt346.2.2 dh bW dx bZ dD bt337.1 bt337.2.1 bt341.1 bt341.2.1 bt346.1 dn dw)) else (none)) else (none)) else (ae.j3 k bX bt341.2.2.1 bt341.2.2.2 dh bW dx bZ dD bt337.1 bt337.2.1 bt341.1 bt341.2.1 dz dn dw))) else ((aU.f k bX bt337.2.2.1 bt337.2.2.2).bind fun bt349 => ((aU.f k bX bt349.2.1 bt349.2.2).bind fun bt352 => (ae.j3 k bX bt352.2.1 bt352.2.2 dh bW dx bZ dD bt337.1 bt337.2.1 dE dF dz bt349.1 (wrap64 (bt352.1 - 1))))))
def ae.j3 : Nat → List Int → Int → Int → Int → Int → Int → List Int → Int → Int → Int → Int → Int → ByteArray → Int → Int → Option (Int × Int × Int × List Int × Int × Int × Int × Int × Int × ByteArray × Int × Int × Int × Int)
 | 0, _, _, _, _, _, _, _, _, _, _, _, _, _, _, _ => none
 | k + 1, bX, dM, dN, dh, bW, dx, bZ, dD, dH, dI, dE, dF, dz, dn, dw => if dN = 0 then (if bW < (bZ.length : Int) then (if 0 ≤ bW then (ae.j4 k bX dM dN dh bW (wrap64 ((rd bZ bW) + 1)) bZ dD dH dI dE dF dz dn dw) else (none)) else (ae.j4 k bX dM dN dh bW dx bZ dD dH dI dE dF dz dn dw)) else (some (0, 0, 0, ([] : List Int), 0, 0, 0, 0, 0, (⟨#[]⟩ : ByteArray), 0, 0, 0, dN))
def ae.j4 : Nat → List Int → Int → Int → Int → Int → Int → List Int → Int → Int → Int → Int → Int → ByteArray → Int → Int → Option (Int × Int × Int × List Int × Int × Int × Int × Int × Int × ByteArray × Int × Int × Int × Int)
 | 0, _, _, _, _, _, _, _, _, _, _, _, _, _, _, _ => none
 | k + 1, bX, dM, dN, dh, bW, dx, bZ, dD, dH, dI, dE, dF, dz, dn, dw => (ak.f k dh bW dx bZ dD dH dI dE dF dz dn dw).bind fun t356 => (if t356 = true then (some (dh, bW, dx, bZ, dD, dH, dI, dE, dF, dz, dn, dw, dM, 0)) else (some (0, 0, 0, ([] : List Int), 0, 0, 0, 0, 0, (⟨#[]⟩ : ByteArray), 0, 0, 0, 1)))
end
def ae.f (k : Nat) (l0 : List Int) : Option (Int × Int × Int × List Int × Int × Int × Int × Int × Int × ByteArray × Int × Int × Int × Int) := (az.f k l0 0 0).bind fun bt323 => (if bt323.2.2.2 = 0 then (if 0 ≤ bt323.2.2.1 then (if bt323.2.2.1 ≤ (l0.length : Int) then ((aY.f k (l0.drop (bt323.2.2.1 : Int).toNat)).bind fun bt329 => (ae.j0 k l0 l0 (wrap64 (bt323.2.2.1 + bt329.2.1)) bt329.2.2 bt323.1 bt323.2.1 0 bt329.1 0 0 0 0 0 (⟨#[]⟩ : ByteArray) 0 0)) else (none)) else (none)) else (ae.j0 k l0 l0 bt323.2.2.1 bt323.2.2.2 bt323.1 bt323.2.1 0 ([] : List Int) 0 0 0 0 0 (⟨#[]⟩ : ByteArray) 0 0))
theorem ae.dG : ∀ k, (∀ y0 y1 y2 y3 y4 y5 y6 y7 y8 y9 y10 y11 y12 y13 y14 y15, LeO (ae.j0 k y0 y1 y2 y3 y4 y5 y6 y7 y8 y9 y10 y11 y12 y13 y14 y15) (ae.j0 (k + 1) y0 y1 y2 y3 y4 y5 y6 y7 y8 y9 y10 y11 y12 y13 y14 y15)) ∧ (∀ y0 y1 y2 y3 y4 y5 y6 y7 y8 y9 y10 y11 y12 y13 y14 y15 y16, LeO (ae.j1 k y0 y1 y2 y3 y4 y5 y6 y7 y8 y9 y10 y11 y12 y13 y14 y15 y16) (ae.j1 (k + 1) y0 y1 y2 y3 y4 y5 y6 y7 y8 y9 y10 y11 y12 y13 y14 y15 y16)) ∧ (∀ y0 y1 y2 y3 y4 y5 y6 y7 y8 y9 y10 y11 y12 y13 y14 y15, LeO (ae.j2 k y0 y1 y2 y3 y4 y5 y6 y7 y8 y9 y10 y11 y12 y13 y14 y15) (ae.j2 (k + 1) y0 y1 y2 y3 y4 y5 y6 y7 y8 y9 y10 y11 y12 y13 y14 y15)) ∧ (∀ y0 y1 y2 y3 y4 y5 y6 y7 y8 y9 y10 y11 y12 y13 y14, LeO (ae.j3 k y0 y1 y2 y3 y4 y5 y6 y7 y8 y9 y10 y11 y12 y13 y14) (ae.j3 (k + 1) y0 y1 y2 y3 y4 y5 y6 y7 y8 y9 y10 y11 y12 y13 y14)) ∧ (∀ y0 y1 y2 y3 y4 y5 y6 y7 y8 y9 y10 y11 y12 y13 y14, LeO (ae.j4 k y0 y1 y2 y3 y4 y5 y6 y7 y8 y9 y10 y11 y12 y13 y14) (ae.j4 (k + 1) y0 y1 y2 y3 y4 y5 y6 y7 y8 y9 y10 y11 y12 y13 y14))
 | 0 => ⟨fun _ _ _ _ _ _ _ _ _ _ _ _ _ _ _ _ r h => by simp [ae.j0] at h, fun _ _ _ _ _ _ _ _ _ _ _ _ _ _ _ _ _ r h => by simp [ae.j1] at h, fun _ _ _ _ _ _ _ _ _ _ _ _ _ _ _ _ r h => by simp [ae.j2] at h, fun _ _ _ _ _ _ _ _ _ _ _ _ _ _ _ r h => by simp [ae.j3] at h, fun _ _ _ _ _ _ _ _ _ _ _ _ _ _ _ r h => by simp [ae.j4] at h⟩
 | k + 1 => by
  obtain ⟨ih0, ih1, ih2, ih3, ih4⟩ := ae.dG k
  refine ⟨?_, ?_, ?_, ?_, ?_⟩
  ·intro y0 y1 y2 y3 y4 y5 y6 y7 y8 y9 y10 y11 y12 y13 y14 y15
   unfold ae.j0
   repeat' first
   | (with_reducible exact ih0 _ _ _ _ _ _ _ _ _ _ _ _ _ _ _ _)
   | (with_reducible exact ih1 _ _ _ _ _ _ _ _ _ _ _ _ _ _ _ _ _)
   | (with_reducible exact ih2 _ _ _ _ _ _ _ _ _ _ _ _ _ _ _ _)
   | (with_reducible exact ih3 _ _ _ _ _ _ _ _ _ _ _ _ _ _ _)
   | (with_reducible exact ih4 _ _ _ _ _ _ _ _ _ _ _ _ _ _ _)
   | (with_reducible exact ak.mono _ _ _ _ _ _ _ _ _ _ _ _ _)
   | (with_reducible exact aU.mono _ _ _ _)
   | (with_reducible exact az.mono _ _ _ _)
   | (with_reducible exact bi.mono _ _)
   | (with_reducible exact aY.mono _ _)
   | (with_reducible exact LeO.refl _)
   | (with_reducible exact LeO.none _)
   | (with_reducible refine LeO.ite ?_ ?_)
   | (with_reducible refine LeO.bind ?_ (fun _ => ?_))
   | exact ih0 _ _ _ _ _ _ _ _ _ _ _ _ _ _ _ _
   | exact ih1 _ _ _ _ _ _ _ _ _ _ _ _ _ _ _ _ _
   | exact ih2 _ _ _ _ _ _ _ _ _ _ _ _ _ _ _ _
   | exact ih3 _ _ _ _ _ _ _ _ _ _ _ _ _ _ _
   | exact ih4 _ _ _ _ _ _ _ _ _ _ _ _ _ _ _
   | exact ak.mono _ _ _ _ _ _ _ _ _ _ _ _ _
   | exact aU.mono _ _ _ _
   | exact az.mono _ _ _ _
   | exact bi.mono _ _
   | exact aY.mono _ _
   | exact LeO.none _
   | refine LeO.ite ?_ ?_
   | refine LeO.bind ?_ (fun _ => ?_)
  ·intro y0 y1 y2 y3 y4 y5 y6 y7 y8 y9 y10 y11 y12 y13 y14 y15 y16
   unfold ae.j1
   repeat' first
   | (with_reducible exact ih0 _ _ _ _ _ _ _ _ _ _ _ _ _ _ _ _)
   | (with_reducible exact ih1 _ _ _ _ _ _ _ _ _ _ _ _ _ _ _ _ _)
   | (with_reducible exact ih2 _ _ _ _ _ _ _ _ _ _ _ _ _ _ _ _)
   | (with_reducible exact ih3 _ _ _ _ _ _ _ _ _ _ _ _ _ _ _)
   | (with_reducible exact ih4 _ _ _ _ _ _ _ _ _ _ _ _ _ _ _)
   | (with_reducible exact ak.mono _ _ _ _ _ _ _ _ _ _ _ _ _)
   | (with_reducible exact aU.mono _ _ _ _)
   | (with_reducible exact az.mono _ _ _ _)
   | (with_reducible exact bi.mono _ _)
   | (with_reducible exact aY.mono _ _)
   | (with_reducible exact LeO.refl _)
   | (with_reducible exact LeO.none _)
   | (with_reducible refine LeO.ite ?_ ?_)
   | (with_reducible refine LeO.bind ?_ (fun _ => ?_))
   | exact ih0 _ _ _ _ _ _ _ _ _ _ _ _ _ _ _ _
   | exact ih1 _ _ _ _ _ _ _ _ _ _ _ _ _ _ _ _ _
   | exact ih2 _ _ _ _ _ _ _ _ _ _ _ _ _ _ _ _
   | exact ih3 _ _ _ _ _ _ _ _ _ _ _ _ _ _ _
   | exact ih4 _ _ _ _ _ _ _ _ _ _ _ _ _ _ _
   | exact ak.mono _ _ _ _ _ _ _ _ _ _ _ _ _
   | exact aU.mono _ _ _ _
   | exact az.mono _ _ _ _
   | exact bi.mono _ _
   | exact aY.mono _ _
   | exact LeO.none _
   | refine LeO.ite ?_ ?_
   | refine LeO.bind ?_ (fun _ => ?_)
  ·intro y0 y1 y2 y3 y4 y5 y6 y7 y8 y9 y10 y11 y12 y13 y14 y15
   unfold ae.j2
   repeat' first
   | (with_reducible exact ih0 _ _ _ _ _ _ _ _ _ _ _ _ _ _ _ _)
   | (with_reducible exact ih1 _ _ _ _ _ _ _ _ _ _ _ _ _ _ _ _ _)
   | (with_reducible exact ih2 _ _ _ _ _ _ _ _ _ _ _ _ _ _ _ _)
   | (with_reducible exact ih3 _ _ _ _ _ _ _ _ _ _ _ _ _ _ _)
   | (with_reducible exact ih4 _ _ _ _ _ _ _ _ _ _ _ _ _ _ _)
   | (with_reducible exact ak.mono _ _ _ _ _ _ _ _ _ _ _ _ _)
   | (with_reducible exact aU.mono _ _ _ _)
   | (with_reducible exact az.mono _ _ _ _)
   | (with_reducible exact bi.mono _ _)
   | (with_reducible exact aY.mono _ _)
   | (with_reducible exact LeO.refl _)
   | (with_reducible exact LeO.none _)
   | (with_reducible refine LeO.ite ?_ ?_)
   | (with_reducible refine LeO.bind ?_ (fun _ => ?_))
   | exact ih0 _ _ _ _ _ _ _ _ _ _ _ _ _ _ _ _
   | exact ih1 _ _ _ _ _ _ _ _ _ _ _ _ _ _ _ _ _
   | exact ih2 _ _ _ _ _ _ _ _ _ _ _ _ _ _ _ _
   | exact ih3 _ _ _ _ _ _ _ _ _ _ _ _ _ _ _
   | exact ih4 _ _ _ _ _ _ _ _ _ _ _ _ _ _ _
   | exact ak.mono _ _ _ _ _ _ _ _ _ _ _ _ _
   | exact aU.mono _ _ _ _
   | exact az.mono _ _ _ _
   | exact bi.mono _ _
   | exact aY.mono _ _
   | exact LeO.none _
   | refine LeO.ite ?_ ?_
   | refine LeO.bind ?_ (fun _ => ?_)
  ·intro y0 y1 y2 y3 y4 y5 y6 y7 y8 y9 y10 y11 y12 y13 y14
   unfold ae.j3
   repeat' first
   | (with_reducible exact ih0 _ _ _ _ _ _ _ _ _ _ _ _ _ _ _ _)
   | (with_reducible exact ih1 _ _ _ _ _ _ _ _ _ _ _ _ _ _ _ _ _)
   | (with_reducible exact ih2 _ _ _ _ _ _ _ _ _ _ _ _ _ _ _ _)
   | (with_reducible exact ih3 _ _ _ _ _ _ _ _ _ _ _ _ _ _ _)
   | (with_reducible exact ih4 _ _ _ _ _ _ _ _ _ _ _ _ _ _ _)
   | (with_reducible exact ak.mono _ _ _ _ _ _ _ _ _ _ _ _ _)
   | (with_reducible exact aU.mono _ _ _ _)
   | (with_reducible exact az.mono _ _ _ _)
   | (with_reducible exact bi.mono _ _)
   | (with_reducible exact aY.mono _ _)
   | (with_reducible exact LeO.refl _)
   | (with_reducible exact LeO.none _)
   | (with_reducible refine LeO.ite ?_ ?_)
   | (with_reducible refine LeO.bind ?_ (fun _ => ?_))
   | exact ih0 _ _ _ _ _ _ _ _ _ _ _ _ _ _ _ _
   | exact ih1 _ _ _ _ _ _ _ _ _ _ _ _ _ _ _ _ _
   | exact ih2 _ _ _ _ _ _ _ _ _ _ _ _ _ _ _ _
   | exact ih3 _ _ _ _ _ _ _ _ _ _ _ _ _ _ _
   | exact ih4 _ _ _ _ _ _ _ _ _ _ _ _ _ _ _
   | exact ak.mono _ _ _ _ _ _ _ _ _ _ _ _ _
   | exact aU.mono _ _ _ _
   | exact az.mono _ _ _ _
   | exact bi.mono _ _
   | exact aY.mono _ _
   | exact LeO.none _
   | refine LeO.ite ?_ ?_
   | refine LeO.bind ?_ (fun _ => ?_)
  ·intro y0 y1 y2 y3 y4 y5 y6 y7 y8 y9 y10 y11 y12 y13 y14
   unfold ae.j4
   repeat' first
   | (with_reducible exact ih0 _ _ _ _ _ _ _ _ _ _ _ _ _ _ _ _)
   | (with_reducible exact ih1 _ _ _ _ _ _ _ _ _ _ _ _ _ _ _ _ _)
   | (with_reducible exact ih2 _ _ _ _ _ _ _ _ _ _ _ _ _ _ _ _)
   | (with_reducible exact ih3 _ _ _ _ _ _ _ _ _ _ _ _ _ _ _)
   | (with_reducible exact ih4 _ _ _ _ _ _ _ _ _ _ _ _ _ _ _)
   | (with_reducible exact ak.mono _ _ _ _ _ _ _ _ _ _ _ _ _)
   | (with_reducible exact aU.mono _ _ _ _)
   | (with_reducible exact az.mono _ _ _ _)
   | (with_reducible exact bi.mono _ _)
   | (with_reducible exact aY.mono _ _)
   | (with_reducible exact LeO.refl _)
   | (with_reducible exact LeO.none _)
   | (with_reducible refine LeO.ite ?_ ?_)
   | (with_reducible refine LeO.bind ?_ (fun _ => ?_))
   | exact ih0 _ _ _ _ _ _ _ _ _ _ _ _ _ _ _ _
   | exact ih1 _ _ _ _ _ _ _ _ _ _ _ _ _ _ _ _ _
   | exact ih2 _ _ _ _ _ _ _ _ _ _ _ _ _ _ _ _
   | exact ih3 _ _ _ _ _ _ _ _ _ _ _ _ _ _ _
   | exact ih4 _ _ _ _ _ _ _ _ _ _ _ _ _ _ _
   | exact ak.mono _ _ _ _ _ _ _ _ _ _ _ _ _
   | exact aU.mono _ _ _ _
   | exact az.mono _ _ _ _
   | exact bi.mono _ _
   | exact aY.mono _ _
   | exact LeO.none _
   | refine LeO.ite ?_ ?_
   | refine LeO.bind ?_ (fun _ => ?_)
theorem ae.mono : ∀ a0 k, LeO (ae.f k a0) (ae.f (k + 1) a0) := by
 intro a0 k
 obtain ⟨ih0, ih1, ih2, ih3, ih4⟩ := ae.dG k
 unfold ae.f
 repeat' first
   | (with_reducible exact ih0 _ _ _ _ _ _ _ _ _ _ _ _ _ _ _ _)
   | (with_reducible exact ih1 _ _ _ _ _ _ _ _ _ _ _ _ _ _ _ _ _)
   | (with_reducible exact ih2 _ _ _ _ _ _ _ _ _ _ _ _ _ _ _ _)
   | (with_reducible exact ih3 _ _ _ _ _ _ _ _ _ _ _ _ _ _ _)
   | (with_reducible exact ih4 _ _ _ _ _ _ _ _ _ _ _ _ _ _ _)
   | (with_reducible exact ak.mono _ _ _ _ _ _ _ _ _ _ _ _ _)
   | (with_reducible exact aU.mono _ _ _ _)
   | (with_reducible exact az.mono _ _ _ _)
   | (with_reducible exact bi.mono _ _)
   | (with_reducible exact aY.mono _ _)
   | (with_reducible exact LeO.refl _)
   | (with_reducible exact LeO.none _)
   | (with_reducible refine LeO.ite ?_ ?_)
   | (with_reducible refine LeO.bind ?_ (fun _ => ?_))
   | exact ih0 _ _ _ _ _ _ _ _ _ _ _ _ _ _ _ _
   | exact ih1 _ _ _ _ _ _ _ _ _ _ _ _ _ _ _ _ _
   | exact ih2 _ _ _ _ _ _ _ _ _ _ _ _ _ _ _ _
   | exact ih3 _ _ _ _ _ _ _ _ _ _ _ _ _ _ _
   | exact ih4 _ _ _ _ _ _ _ _ _ _ _ _ _ _ _
   | exact ak.mono _ _ _ _ _ _ _ _ _ _ _ _ _
   | exact aU.mono _ _ _ _
   | exact az.mono _ _ _ _
   | exact bi.mono _ _
   | exact aY.mono _ _
   | exact LeO.none _
   | refine LeO.ite ?_ ?_
   | refine LeO.bind ?_ (fun _ => ?_)
noncomputable def ae.J0 (x0 bX : List Int) (dM dN dh bW dx : Int) (bZ : List Int) (dD dH dI dE dF : Int) (dz : ByteArray) (dn dw : Int) : Option (Int × Int × Int × List Int × Int × Int × Int × Int × Int × ByteArray × Int × Int × Int × Int) := LB.lim (fun k => ae.j0 k x0 bX dM dN dh bW dx bZ dD dH dI dE dF dz dn dw)
noncomputable def ae.J1 (x0 : List Int) (x67 : Bool) (bX : List Int) (dM dN dh bW dx : Int) (bZ : List Int) (dD dH dI dE dF : Int) (dz : ByteArray) (dn dw : Int) : Option (Int × Int × Int × List Int × Int × Int × Int × Int × Int × ByteArray × Int × Int × Int × Int) := LB.lim (fun k => ae.j1 k x0 x67 bX dM dN dh bW dx bZ dD dH dI dE dF dz dn dw)
noncomputable def ae.J2 (x0 bX : List Int) (dM dN dh bW dx : Int) (bZ : List Int) (dD dH dI dE dF : Int) (dz : ByteArray) (dn dw : Int) : Option (Int × Int × Int × List Int × Int × Int × Int × Int × Int × ByteArray × Int × Int × Int × Int) := LB.lim (fun k => ae.j2 k x0 bX dM dN dh bW dx bZ dD dH dI dE dF dz dn dw)
noncomputable def ae.J3 (bX : List Int) (dM dN dh bW dx : Int) (bZ : List Int) (dD dH dI dE dF : Int) (dz : ByteArray) (dn dw : Int) : Option (Int × Int × Int × List Int × Int × Int × Int × Int × Int × ByteArray × Int × Int × Int × Int) := LB.lim (fun k => ae.j3 k bX dM dN dh bW dx bZ dD dH dI dE dF dz dn dw)
noncomputable def ae.J4 (bX : List Int) (dM dN dh bW dx : Int) (bZ : List Int) (dD dH dI dE dF : Int) (dz : ByteArray) (dn dw : Int) : Option (Int × Int × Int × List Int × Int × Int × Int × Int × Int × ByteArray × Int × Int × Int × Int) := LB.lim (fun k => ae.j4 k bX dM dN dh bW dx bZ dD dH dI dE dF dz dn dw)
theorem ae.ib (x0 bX : List Int) (dM dN dh bW dx : Int) (bZ : List Int) (dD dH dI dE dF : Int) (dz : ByteArray) (dn dw : Int) : LB.Lim (fun k => ae.j0 k x0 bX dM dN dh bW dx bZ dD dH dI dE dF dz dn dw) (ae.J0 x0 bX dM dN dh bW dx bZ dD dH dI dE dF dz dn dw) := LB.bO (fun k => (ae.dG k).1 x0 bX dM dN dh bW dx bZ dD dH dI dE dF dz dn dw)
theorem ae.fD (x0 : List Int) (x67 : Bool) (bX : List Int) (dM dN dh bW dx : Int) (bZ : List Int) (dD dH dI dE dF : Int) (dz : ByteArray) (dn dw : Int) : LB.Lim (fun k => ae.j1 k x0 x67 bX dM dN dh bW dx bZ dD dH dI dE dF dz dn dw) (ae.J1 x0 x67 bX dM dN dh bW dx bZ dD dH dI dE dF dz dn dw) := LB.bO (fun k => (ae.dG k).2.1 x0 x67 bX dM dN dh bW dx bZ dD dH dI dE dF dz dn dw)
theorem ae.ig (x0 bX : List Int) (dM dN dh bW dx : Int) (bZ : List Int) (dD dH dI dE dF : Int) (dz : ByteArray) (dn dw : Int) : LB.Lim (fun k => ae.j2 k x0 bX dM dN dh bW dx bZ dD dH dI dE dF dz dn dw) (ae.J2 x0 bX dM dN dh bW dx bZ dD dH dI dE dF dz dn dw) := LB.bO (fun k => (ae.dG k).2.2.1 x0 bX dM dN dh bW dx bZ dD dH dI dE dF dz dn dw)
theorem ae.J3_lim (bX : List Int) (dM dN dh bW dx : Int) (bZ : List Int) (dD dH dI dE dF : Int) (dz : ByteArray) (dn dw : Int) : LB.Lim (fun k => ae.j3 k bX dM dN dh bW dx bZ dD dH dI dE dF dz dn dw) (ae.J3 bX dM dN dh bW dx bZ dD dH dI dE dF dz dn dw) := LB.bO (fun k => (ae.dG k).2.2.2.1 bX dM dN dh bW dx bZ dD dH dI dE dF dz dn dw)
theorem ae.J4_lim (bX : List Int) (dM dN dh bW dx : Int) (bZ : List Int) (dD dH dI dE dF : Int) (dz : ByteArray) (dn dw : Int) : LB.Lim (fun k => ae.j4 k bX dM dN dh bW dx bZ dD dH dI dE dF dz dn dw) (ae.J4 bX dM dN dh bW dx bZ dD dH dI dE dF dz dn dw) := LB.bO (fun k => (ae.dG k).2.2.2.2 bX dM dN dh bW dx bZ dD dH dI dE dF dz dn dw)
theorem ae.J0_eq (x0 bX : List Int) (dM dN dh bW dx : Int) (bZ : List Int) (dD dH dI dE dF : Int) (dz : ByteArray) (dn dw : Int) : ae.J0 x0 bX dM dN dh bW dx bZ dD dH dI dE dF dz dn dw = ((aU.F bX dM dN).bind fun bt334 => (if bt334.2.2 = 0 then (if bt334.1 = 1 then (ae.J1 x0 false bX bt334.2.1 bt334.2.2 dh bW dx bZ bt334.1 dH dI dE dF dz dn dw) else (ae.J1 x0 (bt334.1 != 2) bX bt334.2.1 bt334.2.2 dh bW dx bZ bt334.1 dH dI dE dF dz dn dw)) else (ae.J1 x0 false bX bt334.2.1 bt334.2.2 dh bW dx bZ bt334.1 dH dI dE dF dz dn dw))) := by
  refine LB.Lim.unique (ae.ib x0 bX dM dN dh bW dx bZ dD dH dI dE dF dz dn dw).shift ?_
  simp only [ae.j0]
  (repeat' (first | exact LB.Lim.const _ | exact ae.ib _ _ _ _ _ _ _ _ _ _ _ _ _ _ _ _ | exact ae.fD _ _ _ _ _ _ _ _ _ _ _ _ _ _ _ _ _ | exact ae.ig _ _ _ _ _ _ _ _ _ _ _ _ _ _ _ _ | exact ae.J3_lim _ _ _ _ _ _ _ _ _ _ _ _ _ _ _ | exact ae.J4_lim _ _ _ _ _ _ _ _ _ _ _ _ _ _ _ | exact ak.bK _ _ _ _ _ _ _ _ _ _ _ _ | exact aU.bK _ _ _ | exact az.bK _ _ _ | exact bi.bK _ | exact aY.bK _ | refine LB.Lim.ite ?_ ?_ | refine LB.Lim.bind ?_ (fun _ => ?_)))
theorem ae.J1_eq (x0 : List Int) (x67 : Bool) (bX : List Int) (dM dN dh bW dx : Int) (bZ : List Int) (dD dH dI dE dF : Int) (dz : ByteArray) (dn dw : Int) : ae.J1 x0 x67 bX dM dN dh bW dx bZ dD dH dI dE dF dz dn dw = (if x67 = true then (ae.J2 x0 bX dM 1 dh bW dx bZ dD dH dI dE dF dz dn dw) else (ae.J2 x0 bX dM dN dh bW dx bZ dD dH dI dE dF dz dn dw)) := by
  refine LB.Lim.unique (ae.fD x0 x67 bX dM dN dh bW dx bZ dD dH dI dE dF dz dn dw).shift ?_
  simp only [ae.j1]
  (repeat' (first | exact LB.Lim.const _ | exact ae.ib _ _ _ _ _ _ _ _ _ _ _ _ _ _ _ _ | exact ae.fD _ _ _ _ _ _ _ _ _ _ _ _ _ _ _ _ _ | exact ae.ig _ _ _ _ _ _ _ _ _ _ _ _ _ _ _ _ | exact ae.J3_lim _ _ _ _ _ _ _ _ _ _ _ _ _ _ _ | exact ae.J4_lim _ _ _ _ _ _ _ _ _ _ _ _ _ _ _ | exact ak.bK _ _ _ _ _ _ _ _ _ _ _ _ | exact aU.bK _ _ _ | exact az.bK _ _ _ | exact bi.bK _ | exact aY.bK _ | refine LB.Lim.ite ?_ ?_ | refine LB.Lim.bind ?_ (fun _ => ?_)))
theorem ae.J2_eq (x0 bX : List Int) (dM dN dh bW dx : Int) (bZ : List Int) (dD dH dI dE dF : Int) (dz : ByteArray) (dn dw : Int) : ae.J2 x0 bX dM dN dh bW dx bZ dD dH dI dE dF dz dn dw = ((az.F bX dM dN).bind fun bt337 => (if dD = 1 then ((az.F bX bt337.2.2.1 bt337.2.2.2).bind fun bt341 => (if bt341.2.2.2 = 0 then (if 0 ≤ bt341.2.2.1 then (if bt341.2.2.1 ≤ (x0.length : Int) then ((bi.F (x0.drop (bt341.2.2.1 : Int).toNat)).bind fun bt346 => (ae.J3 bX (wrap64 (bt341.2.2.1 + bt346.2.1)) bt346.2.2 dh bW dx bZ dD bt337.1 bt337.2.1 bt341.1 bt341.2.1 bt346.1 dn dw)) else (none)) else (none)) else (ae.J3 bX bt341.2.2.1 bt341.2.2.2 dh bW dx bZ dD bt337.1 bt337.2.1 bt341.1 bt341.2.1 dz dn dw))) else ((aU.F bX bt337.2.2.1 bt337.2.2.2).bind fun bt349 => ((aU.F bX bt349.2.1 bt349.2.2).bind fun bt352 => (ae.J3 bX bt352.2.1 bt352.2.2 dh bW dx bZ dD bt337.1 bt337.2.1 dE dF dz bt349.1 (wrap64 (bt352.1 - 1))))))) := by
  refine LB.Lim.unique (ae.ig x0 bX dM dN dh bW dx bZ dD dH dI dE dF dz dn dw).shift ?_
  simp only [ae.j2]
  (repeat' (first | exact LB.Lim.const _ | exact ae.ib _ _ _ _ _ _ _ _ _ _ _ _ _ _ _ _ | exact ae.fD _ _ _ _ _ _ _ _ _ _ _ _ _ _ _ _ _ | exact ae.ig _ _ _ _ _ _ _ _ _ _ _ _ _ _ _ _ | exact ae.J3_lim _ _ _ _ _ _ _ _ _ _ _ _ _ _ _ | exact ae.J4_lim _ _ _ _ _ _ _ _ _ _ _ _ _ _ _ | exact ak.bK _ _ _ _ _ _ _ _ _ _ _ _ | exact aU.bK _ _ _ | exact az.bK _ _ _ | exact bi.bK _ | exact aY.bK _ | refine LB.Lim.ite ?_ ?_ | refine LB.Lim.bind ?_ (fun _ => ?_)))
theorem ae.J3_eq (bX : List Int) (dM dN dh bW dx : Int) (bZ : List Int) (dD dH dI dE dF : Int) (dz : ByteArray) (dn dw : Int) : ae.J3 bX dM dN dh bW dx bZ dD dH dI dE dF dz dn dw = (if dN = 0 then (if bW < (bZ.length : Int) then (if 0 ≤ bW then (ae.J4 bX dM dN dh bW (wrap64 ((rd bZ bW) + 1)) bZ dD dH dI dE dF dz dn dw) else (none)) else (ae.J4 bX dM dN dh bW dx bZ dD dH dI dE dF dz dn dw)) else (some (0, 0, 0, ([] : List Int), 0, 0, 0, 0, 0, (⟨#[]⟩ : ByteArray), 0, 0, 0, dN))) := by
  refine LB.Lim.unique (ae.J3_lim bX dM dN dh bW dx bZ dD dH dI dE dF dz dn dw).shift ?_
  simp only [ae.j3]
  (repeat' (first | exact LB.Lim.const _ | exact ae.ib _ _ _ _ _ _ _ _ _ _ _ _ _ _ _ _ | exact ae.fD _ _ _ _ _ _ _ _ _ _ _ _ _ _ _ _ _ | exact ae.ig _ _ _ _ _ _ _ _ _ _ _ _ _ _ _ _ | exact ae.J3_lim _ _ _ _ _ _ _ _ _ _ _ _ _ _ _ | exact ae.J4_lim _ _ _ _ _ _ _ _ _ _ _ _ _ _ _ | exact ak.bK _ _ _ _ _ _ _ _ _ _ _ _ | exact aU.bK _ _ _ | exact az.bK _ _ _ | exact bi.bK _ | exact aY.bK _ | refine LB.Lim.ite ?_ ?_ | refine LB.Lim.bind ?_ (fun _ => ?_)))
theorem ae.J4_eq (bX : List Int) (dM dN dh bW dx : Int) (bZ : List Int) (dD dH dI dE dF : Int) (dz : ByteArray) (dn dw : Int) : ae.J4 bX dM dN dh bW dx bZ dD dH dI dE dF dz dn dw = ((ak.F dh bW dx bZ dD dH dI dE dF dz dn dw).bind fun t356 => (if t356 = true then (some (dh, bW, dx, bZ, dD, dH, dI, dE, dF, dz, dn, dw, dM, 0)) else (some (0, 0, 0, ([] : List Int), 0, 0, 0, 0, 0, (⟨#[]⟩ : ByteArray), 0, 0, 0, 1)))) := by
  refine LB.Lim.unique (ae.J4_lim bX dM dN dh bW dx bZ dD dH dI dE dF dz dn dw).shift ?_
  simp only [ae.j4]
  (repeat' (first | exact LB.Lim.const _ | exact ae.ib _ _ _ _ _ _ _ _ _ _ _ _ _ _ _ _ | exact ae.fD _ _ _ _ _ _ _ _ _ _ _ _ _ _ _ _ _ | exact ae.ig _ _ _ _ _ _ _ _ _ _ _ _ _ _ _ _ | exact ae.J3_lim _ _ _ _ _ _ _ _ _ _ _ _ _ _ _ | exact ae.J4_lim _ _ _ _ _ _ _ _ _ _ _ _ _ _ _ | exact ak.bK _ _ _ _ _ _ _ _ _ _ _ _ | exact aU.bK _ _ _ | exact az.bK _ _ _ | exact bi.bK _ | exact aY.bK _ | refine LB.Lim.ite ?_ ?_ | refine LB.Lim.bind ?_ (fun _ => ?_)))
noncomputable def ae.F (l0 : List Int) : Option (Int × Int × Int × List Int × Int × Int × Int × Int × Int × ByteArray × Int × Int × Int × Int) := LB.lim (fun k => ae.f k l0)
theorem ae.bK (l0 : List Int) : LB.Lim (fun k => ae.f k l0) (ae.F l0) := LB.bO (ae.mono l0)
theorem ae.iD (l0 : List Int) : ae.F l0 = ((az.F l0 0 0).bind fun bt323 => (if bt323.2.2.2 = 0 then (if 0 ≤ bt323.2.2.1 then (if bt323.2.2.1 ≤ (l0.length : Int) then ((aY.F (l0.drop (bt323.2.2.1 : Int).toNat)).bind fun bt329 => (ae.J0 l0 l0 (wrap64 (bt323.2.2.1 + bt329.2.1)) bt329.2.2 bt323.1 bt323.2.1 0 bt329.1 0 0 0 0 0 (⟨#[]⟩ : ByteArray) 0 0)) else (none)) else (none)) else (ae.J0 l0 l0 bt323.2.2.1 bt323.2.2.2 bt323.1 bt323.2.1 0 ([] : List Int) 0 0 0 0 0 (⟨#[]⟩ : ByteArray) 0 0))) := by
  refine LB.Lim.unique (ae.bK l0) ?_
  simp only [ae.f]
  (repeat' (first | exact LB.Lim.const _ | exact ae.ib _ _ _ _ _ _ _ _ _ _ _ _ _ _ _ _ | exact ae.fD _ _ _ _ _ _ _ _ _ _ _ _ _ _ _ _ _ | exact ae.ig _ _ _ _ _ _ _ _ _ _ _ _ _ _ _ _ | exact ae.J3_lim _ _ _ _ _ _ _ _ _ _ _ _ _ _ _ | exact ae.J4_lim _ _ _ _ _ _ _ _ _ _ _ _ _ _ _ | exact ak.bK _ _ _ _ _ _ _ _ _ _ _ _ | exact aU.bK _ _ _ | exact az.bK _ _ _ | exact bi.bK _ | exact aY.bK _ | refine LB.Lim.ite ?_ ?_ | refine LB.Lim.bind ?_ (fun _ => ?_)))
def d9.f (a0 : Int) : Option (Int) := some a0
def aK.l0 : Nat → List Int → List Int → Int → Option (Bool)
 | 0, _, _, _ => none
 | k + 1, x0, x1, x5 => if x5 < (x0.length : Int) then (if 0 ≤ x5 then (if x5 < (x1.length : Int) then (if (rd x0 x5) = (rd x1 x5) then (aK.l0 k x0 x1 (wrap64 (x5 + 1))) else (some false)) else (none)) else (none)) else (some true)
def aK.f (k : Nat) (l0 l1 : List Int) : Option (Bool) := if (l0.length : Int) = (l1.length : Int) then (aK.l0 k l0 l1 0) else (some false)
theorem aK.dG : ∀ k, (∀ y0 y1 y2, LeO (aK.l0 k y0 y1 y2) (aK.l0 (k + 1) y0 y1 y2))
 | 0 => fun _ _ _ r h => by simp [aK.l0] at h
 | k + 1 => by
  have ih0 := aK.dG k
  ·intro y0 y1 y2
   unfold aK.l0
   repeat' first
   | (with_reducible exact ih0 _ _ _)
   | (with_reducible exact LeO.refl _)
   | (with_reducible exact LeO.none _)
   | (with_reducible refine LeO.ite ?_ ?_)
   | (with_reducible refine LeO.bind ?_ (fun _ => ?_))
   | exact ih0 _ _ _
   | exact LeO.none _
   | refine LeO.ite ?_ ?_
   | refine LeO.bind ?_ (fun _ => ?_)
theorem aK.mono : ∀ a0 a1 k, LeO (aK.f k a0 a1) (aK.f (k + 1) a0 a1) := by
 intro a0 a1 k
 have ih0 := aK.dG k
 unfold aK.f
 repeat' first
   | (with_reducible exact ih0 _ _ _)
   | (with_reducible exact LeO.refl _)
   | (with_reducible exact LeO.none _)
   | (with_reducible refine LeO.ite ?_ ?_)
   | (with_reducible refine LeO.bind ?_ (fun _ => ?_))
   | exact ih0 _ _ _
   | exact LeO.none _
   | refine LeO.ite ?_ ?_
   | refine LeO.bind ?_ (fun _ => ?_)
noncomputable def aK.L0 (x0 x1 : List Int) (x5 : Int) : Option (Bool) := LB.lim (fun k => aK.l0 k x0 x1 x5)
theorem aK.eT (x0 x1 : List Int) (x5 : Int) : LB.Lim (fun k => aK.l0 k x0 x1 x5) (aK.L0 x0 x1 x5) := LB.bO (fun k => (aK.dG k) x0 x1 x5)
theorem aK.iR (x0 x1 : List Int) (x5 : Int) : aK.L0 x0 x1 x5 = (if x5 < (x0.length : Int) then (if 0 ≤ x5 then (if x5 < (x1.length : Int) then (if (rd x0 x5) = (rd x1 x5) then (aK.L0 x0 x1 (wrap64 (x5 + 1))) else (some false)) else (none)) else (none)) else (some true)) := by
  refine LB.Lim.unique (aK.eT x0 x1 x5).shift ?_
  simp only [aK.l0]
  (repeat' (first | exact LB.Lim.const _ | exact aK.eT _ _ _ | refine LB.Lim.ite ?_ ?_ | refine LB.Lim.bind ?_ (fun _ => ?_)))
noncomputable def aK.F (l0 l1 : List Int) : Option (Bool) := LB.lim (fun k => aK.f k l0 l1)
theorem aK.bK (l0 l1 : List Int) : LB.Lim (fun k => aK.f k l0 l1) (aK.F l0 l1) := LB.bO (aK.mono l0 l1)
theorem aK.iD (l0 l1 : List Int) : aK.F l0 l1 = (if (l0.length : Int) = (l1.length : Int) then (aK.L0 l0 l1 0) else (some false)) := by
  refine LB.Lim.unique (aK.bK l0 l1) ?_
  simp only [aK.f]
  (repeat' (first | exact LB.Lim.const _ | exact aK.eT _ _ _ | refine LB.Lim.ite ?_ ?_ | refine LB.Lim.bind ?_ (fun _ => ?_)))
def aV.l0 : Nat → List Int → Int → Option (Unit)
 | 0, _, _ => none
 | k + 1, x0, x2 => if x2 < (x0.length : Int) then (if 0 ≤ x2 then (aV.l0 k (x0.set (x2 : Int).toNat (-99)) (wrap64 (x2 + 1))) else (none)) else (if x0.length < 17592186044416 then (some ()) else (none))
def aV.f (k : Nat) (l0 : List Int) : Option (Unit) := aV.l0 k l0 0
theorem aV.dG : ∀ k, (∀ y0 y1, LeO (aV.l0 k y0 y1) (aV.l0 (k + 1) y0 y1))
 | 0 => fun _ _ r h => by simp [aV.l0] at h
 | k + 1 => by
  have ih0 := aV.dG k
  ·intro y0 y1
   unfold aV.l0
   repeat' first
   | (with_reducible exact ih0 _ _)
   | (with_reducible exact LeO.refl _)
   | (with_reducible exact LeO.none _)
   | (with_reducible refine LeO.ite ?_ ?_)
   | (with_reducible refine LeO.bind ?_ (fun _ => ?_))
   | exact ih0 _ _
   | exact LeO.none _
   | refine LeO.ite ?_ ?_
   | refine LeO.bind ?_ (fun _ => ?_)
theorem aV.mono : ∀ a0 k, LeO (aV.f k a0) (aV.f (k + 1) a0) := by
 intro a0 k
 have ih0 := aV.dG k
 unfold aV.f
 repeat' first
   | (with_reducible exact ih0 _ _)
   | (with_reducible exact LeO.refl _)
   | (with_reducible exact LeO.none _)
   | (with_reducible refine LeO.ite ?_ ?_)
   | (with_reducible refine LeO.bind ?_ (fun _ => ?_))
   | exact ih0 _ _
   | exact LeO.none _
   | refine LeO.ite ?_ ?_
   | refine LeO.bind ?_ (fun _ => ?_)
noncomputable def aV.L0 (x0 : List Int) (x2 : Int) : Option (Unit) := LB.lim (fun k => aV.l0 k x0 x2)
theorem aV.eT (x0 : List Int) (x2 : Int) : LB.Lim (fun k => aV.l0 k x0 x2) (aV.L0 x0 x2) := LB.bO (fun k => (aV.dG k) x0 x2)
theorem aV.iR (x0 : List Int) (x2 : Int) : aV.L0 x0 x2 = (if x2 < (x0.length : Int) then (if 0 ≤ x2 then (aV.L0 (x0.set (x2 : Int).toNat (-99)) (wrap64 (x2 + 1))) else (none)) else (if x0.length < 17592186044416 then (some ()) else (none))) := by
  refine LB.Lim.unique (aV.eT x0 x2).shift ?_
  simp only [aV.l0]
  (repeat' (first | exact LB.Lim.const _ | exact aV.eT _ _ | refine LB.Lim.ite ?_ ?_ | refine LB.Lim.bind ?_ (fun _ => ?_)))
noncomputable def aV.F (l0 : List Int) : Option (Unit) := LB.lim (fun k => aV.f k l0)
theorem aV.bK (l0 : List Int) : LB.Lim (fun k => aV.f k l0) (aV.F l0) := LB.bO (aV.mono l0)
theorem aV.iD (l0 : List Int) : aV.F l0 = (aV.L0 l0 0) := by
  refine LB.Lim.unique (aV.bK l0) ?_
  simp only [aV.f]
  (repeat' (first | exact LB.Lim.const _ | exact aV.eT _ _ | refine LB.Lim.ite ?_ ?_ | refine LB.Lim.bind ?_ (fun _ => ?_)))
def cO.f (k : Nat) (a0_0 a0_1 a0_2 : Int) (l0_3 : List Int) (a0_4 a0_5 a0_6 a0_7 a0_8 : Int) (a0_9 : ByteArray) (a0_10 a0_11 : Int) : Option (Unit) := (aV.f k l0_3).bind fun _ => (some ())
theorem cO.mono : ∀ a0 a1 a2 a3 a4 a5 a6 a7 a8 a9 a10 a11 k, LeO (cO.f k a0 a1 a2 a3 a4 a5 a6 a7 a8 a9 a10 a11) (cO.f (k + 1) a0 a1 a2 a3 a4 a5 a6 a7 a8 a9 a10 a11) := by
 intro a0 a1 a2 a3 a4 a5 a6 a7 a8 a9 a10 a11 k
 unfold cO.f
 repeat' first
   | (with_reducible exact aV.mono _ _)
   | (with_reducible exact LeO.refl _)
   | (with_reducible exact LeO.none _)
   | (with_reducible refine LeO.ite ?_ ?_)
   | (with_reducible refine LeO.bind ?_ (fun _ => ?_))
   | exact aV.mono _ _
   | exact LeO.none _
   | refine LeO.ite ?_ ?_
   | refine LeO.bind ?_ (fun _ => ?_)
noncomputable def cO.F (a0_0 a0_1 a0_2 : Int) (l0_3 : List Int) (a0_4 a0_5 a0_6 a0_7 a0_8 : Int) (a0_9 : ByteArray) (a0_10 a0_11 : Int) : Option (Unit) := LB.lim (fun k => cO.f k a0_0 a0_1 a0_2 l0_3 a0_4 a0_5 a0_6 a0_7 a0_8 a0_9 a0_10 a0_11)
theorem cO.bK (a0_0 a0_1 a0_2 : Int) (l0_3 : List Int) (a0_4 a0_5 a0_6 a0_7 a0_8 : Int) (a0_9 : ByteArray) (a0_10 a0_11 : Int) : LB.Lim (fun k => cO.f k a0_0 a0_1 a0_2 l0_3 a0_4 a0_5 a0_6 a0_7 a0_8 a0_9 a0_10 a0_11) (cO.F a0_0 a0_1 a0_2 l0_3 a0_4 a0_5 a0_6 a0_7 a0_8 a0_9 a0_10 a0_11) := LB.bO (cO.mono a0_0 a0_1 a0_2 l0_3 a0_4 a0_5 a0_6 a0_7 a0_8 a0_9 a0_10 a0_11)
theorem cO.iD (a0_0 a0_1 a0_2 : Int) (l0_3 : List Int) (a0_4 a0_5 a0_6 a0_7 a0_8 : Int) (a0_9 : ByteArray) (a0_10 a0_11 : Int) : cO.F a0_0 a0_1 a0_2 l0_3 a0_4 a0_5 a0_6 a0_7 a0_8 a0_9 a0_10 a0_11 = ((aV.F l0_3).bind fun _ => (some ())) := by
  refine LB.Lim.unique (cO.bK a0_0 a0_1 a0_2 l0_3 a0_4 a0_5 a0_6 a0_7 a0_8 a0_9 a0_10 a0_11) ?_
  simp only [cO.f]
  (repeat' (first | exact LB.Lim.const _ | exact aV.bK _ | refine LB.Lim.ite ?_ ?_ | refine LB.Lim.bind ?_ (fun _ => ?_)))
end Go.Proofs.Ytddnlnjmikcgfaa.PC
end
section
namespace Go.Proofs.Ytddnlnjmikcgfaa.PC
open Go.RowKit Go.WB.PrintWords Go.WB.PrintLast Go.WB.PrintMore
attribute [local go_sem] cz cB dP dQ bR bP cK cu
set_option linter.unusedVariables false
set_option linter.unusedSimpArgs false
set_option maxHeartbeats 40000000
set_option maxRecDepth 100000
def bB.l0 : Nat → List Int → Int → Option (List Int)
 | 0, _, _ => none
 | k + 1, x0, x1 => if x1 ≥ 128 then (if x0.length < 140737488355328 then (bB.l0 k (x0 ++ [Go.bits .or .u8 ((x1) % 256) 128]) (x1 / 128)) else (none)) else (if x0.length < 140737488355328 then (some (x0 ++ [(x1) % 256])) else (none))
def bB.f (k : Nat) (l0 : List Int) (a1 : Int) : Option (List Int) := bB.l0 k l0 a1
theorem bB.dG : ∀ k, (∀ y0 y1, LeO (bB.l0 k y0 y1) (bB.l0 (k + 1) y0 y1))
 | 0 => fun _ _ r h => by simp [bB.l0] at h
 | k + 1 => by
  have ih0 := bB.dG k
  ·intro y0 y1
   unfold bB.l0
   repeat' first
   | (with_reducible exact ih0 _ _)
   | (with_reducible exact LeO.refl _)
   | (with_reducible exact LeO.none _)
   | (with_reducible refine LeO.ite ?_ ?_)
   | (with_reducible refine LeO.bind ?_ (fun _ => ?_))
   | exact ih0 _ _
   | exact LeO.none _
   | refine LeO.ite ?_ ?_
   | refine LeO.bind ?_ (fun _ => ?_)
theorem bB.mono : ∀ a0 a1 k, LeO (bB.f k a0 a1) (bB.f (k + 1) a0 a1) := by
 intro a0 a1 k
 have ih0 := bB.dG k
 unfold bB.f
 repeat' first
   | (with_reducible exact ih0 _ _)
   | (with_reducible exact LeO.refl _)
   | (with_reducible exact LeO.none _)
   | (with_reducible refine LeO.ite ?_ ?_)
   | (with_reducible refine LeO.bind ?_ (fun _ => ?_))
   | exact ih0 _ _
   | exact LeO.none _
   | refine LeO.ite ?_ ?_
   | refine LeO.bind ?_ (fun _ => ?_)
noncomputable def bB.L0 (x0 : List Int) (x1 : Int) : Option (List Int) := LB.lim (fun k => bB.l0 k x0 x1)
theorem bB.eT (x0 : List Int) (x1 : Int) : LB.Lim (fun k => bB.l0 k x0 x1) (bB.L0 x0 x1) := LB.bO (fun k => (bB.dG k) x0 x1)
theorem bB.iR (x0 : List Int) (x1 : Int) : bB.L0 x0 x1 = (if x1 ≥ 128 then (if x0.length < 140737488355328 then (bB.L0 (x0 ++ [Go.bits .or .u8 ((x1) % 256) 128]) (x1 / 128)) else (none)) else (if x0.length < 140737488355328 then (some (x0 ++ [(x1) % 256])) else (none))) := by
  refine LB.Lim.unique (bB.eT x0 x1).shift ?_
  simp only [bB.l0]
  (repeat' (first | exact LB.Lim.const _ | exact bB.eT _ _ | refine LB.Lim.ite ?_ ?_ | refine LB.Lim.bind ?_ (fun _ => ?_)))
noncomputable def bB.F (l0 : List Int) (a1 : Int) : Option (List Int) := LB.lim (fun k => bB.f k l0 a1)
theorem bB.bK (l0 : List Int) (a1 : Int) : LB.Lim (fun k => bB.f k l0 a1) (bB.F l0 a1) := LB.bO (bB.mono l0 a1)
theorem bB.iD (l0 : List Int) (a1 : Int) : bB.F l0 a1 = (bB.L0 l0 a1) := by
  refine LB.Lim.unique (bB.bK l0 a1) ?_
  simp only [bB.f]
  (repeat' (first | exact LB.Lim.const _ | exact bB.eT _ _ | refine LB.Lim.ite ?_ ?_ | refine LB.Lim.bind ?_ (fun _ => ?_)))
def bD.l0 : Nat → List Int → List Int → Int → Int → Option (List Int)
 | 0, _, _, _, _ => none
 | k + 1, x0, x11, x12, x13 => if x13 < x12 then (if 0 ≤ x13 then (if x13 < (x11.length : Int) then ((bB.f k x0 (rd x11 x13)).bind fun t374 => (bD.l0 k t374 x11 x12 (wrap64 (x13 + 1)))) else (none)) else (none)) else (some x0)
def bD.f (k : Nat) (l0 l1 : List Int) : Option (List Int) := (bB.f k l0 (l1.length : Int)).bind fun t370 => (bD.l0 k t370 l1 (l1.length : Int) 0)
theorem bD.dG : ∀ k, (∀ y0 y1 y2 y3, LeO (bD.l0 k y0 y1 y2 y3) (bD.l0 (k + 1) y0 y1 y2 y3))
 | 0 => fun _ _ _ _ r h => by simp [bD.l0] at h
 | k + 1 => by
  have ih0 := bD.dG k
  ·intro y0 y1 y2 y3
   unfold bD.l0
   repeat' first
   | (with_reducible exact ih0 _ _ _ _)
   | (with_reducible exact bB.mono _ _ _)
   | (with_reducible exact LeO.refl _)
   | (with_reducible exact LeO.none _)
   | (with_reducible refine LeO.ite ?_ ?_)
   | (with_reducible refine LeO.bind ?_ (fun _ => ?_))
   | exact ih0 _ _ _ _
   | exact bB.mono _ _ _
   | exact LeO.none _
   | refine LeO.ite ?_ ?_
   | refine LeO.bind ?_ (fun _ => ?_)
theorem bD.mono : ∀ a0 a1 k, LeO (bD.f k a0 a1) (bD.f (k + 1) a0 a1) := by
 intro a0 a1 k
 have ih0 := bD.dG k
 unfold bD.f
 repeat' first
   | (with_reducible exact ih0 _ _ _ _)
   | (with_reducible exact bB.mono _ _ _)
   | (with_reducible exact LeO.refl _)
   | (with_reducible exact LeO.none _)
   | (with_reducible refine LeO.ite ?_ ?_)
   | (with_reducible refine LeO.bind ?_ (fun _ => ?_))
   | exact ih0 _ _ _ _
   | exact bB.mono _ _ _
   | exact LeO.none _
   | refine LeO.ite ?_ ?_
   | refine LeO.bind ?_ (fun _ => ?_)
noncomputable def bD.L0 (x0 x11 : List Int) (x12 x13 : Int) : Option (List Int) := LB.lim (fun k => bD.l0 k x0 x11 x12 x13)
theorem bD.eT (x0 x11 : List Int) (x12 x13 : Int) : LB.Lim (fun k => bD.l0 k x0 x11 x12 x13) (bD.L0 x0 x11 x12 x13) := LB.bO (fun k => (bD.dG k) x0 x11 x12 x13)
theorem bD.iR (x0 x11 : List Int) (x12 x13 : Int) : bD.L0 x0 x11 x12 x13 = (if x13 < x12 then (if 0 ≤ x13 then (if x13 < (x11.length : Int) then ((bB.F x0 (rd x11 x13)).bind fun t374 => (bD.L0 t374 x11 x12 (wrap64 (x13 + 1)))) else (none)) else (none)) else (some x0)) := by
  refine LB.Lim.unique (bD.eT x0 x11 x12 x13).shift ?_
  simp only [bD.l0]
  (repeat' (first | exact LB.Lim.const _ | exact bD.eT _ _ _ _ | exact bB.bK _ _ | refine LB.Lim.ite ?_ ?_ | refine LB.Lim.bind ?_ (fun _ => ?_)))
noncomputable def bD.F (l0 l1 : List Int) : Option (List Int) := LB.lim (fun k => bD.f k l0 l1)
theorem bD.bK (l0 l1 : List Int) : LB.Lim (fun k => bD.f k l0 l1) (bD.F l0 l1) := LB.bO (bD.mono l0 l1)
theorem bD.iD (l0 l1 : List Int) : bD.F l0 l1 = ((bB.F l0 (l1.length : Int)).bind fun t370 => (bD.L0 t370 l1 (l1.length : Int) 0)) := by
  refine LB.Lim.unique (bD.bK l0 l1) ?_
  simp only [bD.f]
  (repeat' (first | exact LB.Lim.const _ | exact bD.eT _ _ _ _ | exact bB.bK _ _ | refine LB.Lim.ite ?_ ?_ | refine LB.Lim.bind ?_ (fun _ => ?_)))
def dJ.f (k : Nat) (l0 : List Int) (a1_0 a1_1 : Int) : Option (List Int) := (bB.f k l0 a1_0).bind fun t378 => ((bB.f k t378 a1_1).bind fun t381 => (some t381))
theorem dJ.mono : ∀ a0 a1 a2 k, LeO (dJ.f k a0 a1 a2) (dJ.f (k + 1) a0 a1 a2) := by
 intro a0 a1 a2 k
 unfold dJ.f
 repeat' first
   | (with_reducible exact bB.mono _ _ _)
   | (with_reducible exact LeO.refl _)
   | (with_reducible exact LeO.none _)
   | (with_reducible refine LeO.ite ?_ ?_)
   | (with_reducible refine LeO.bind ?_ (fun _ => ?_))
   | exact bB.mono _ _ _
   | exact LeO.none _
   | refine LeO.ite ?_ ?_
   | refine LeO.bind ?_ (fun _ => ?_)
noncomputable def dJ.F (l0 : List Int) (a1_0 a1_1 : Int) : Option (List Int) := LB.lim (fun k => dJ.f k l0 a1_0 a1_1)
theorem dJ.bK (l0 : List Int) (a1_0 a1_1 : Int) : LB.Lim (fun k => dJ.f k l0 a1_0 a1_1) (dJ.F l0 a1_0 a1_1) := LB.bO (dJ.mono l0 a1_0 a1_1)
theorem dJ.iD (l0 : List Int) (a1_0 a1_1 : Int) : dJ.F l0 a1_0 a1_1 = ((bB.F l0 a1_0).bind fun t378 => ((bB.F t378 a1_1).bind fun t381 => (some t381))) := by
  refine LB.Lim.unique (dJ.bK l0 a1_0 a1_1) ?_
  simp only [dJ.f]
  (repeat' (first | exact LB.Lim.const _ | exact bB.bK _ _ | refine LB.Lim.ite ?_ ?_ | refine LB.Lim.bind ?_ (fun _ => ?_)))
def dU.f (k : Nat) (l0 : List Int) (a1 : ByteArray) : Option (List Int) := (bB.f k l0 (a1.size : Int)).bind fun t384 => (if t384.length + a1.size < 140737488355328 then (some (t384 ++ bytesOf a1)) else (none))
theorem dU.mono : ∀ a0 a1 k, LeO (dU.f k a0 a1) (dU.f (k + 1) a0 a1) := by
 intro a0 a1 k
 unfold dU.f
 repeat' first
   | (with_reducible exact bB.mono _ _ _)
   | (with_reducible exact LeO.refl _)
   | (with_reducible exact LeO.none _)
   | (with_reducible refine LeO.ite ?_ ?_)
   | (with_reducible refine LeO.bind ?_ (fun _ => ?_))
   | exact bB.mono _ _ _
   | exact LeO.none _
   | refine LeO.ite ?_ ?_
   | refine LeO.bind ?_ (fun _ => ?_)
noncomputable def dU.F (l0 : List Int) (a1 : ByteArray) : Option (List Int) := LB.lim (fun k => dU.f k l0 a1)
theorem dU.bK (l0 : List Int) (a1 : ByteArray) : LB.Lim (fun k => dU.f k l0 a1) (dU.F l0 a1) := LB.bO (dU.mono l0 a1)
theorem dU.iD (l0 : List Int) (a1 : ByteArray) : dU.F l0 a1 = ((bB.F l0 (a1.size : Int)).bind fun t384 => (if t384.length + a1.size < 140737488355328 then (some (t384 ++ bytesOf a1)) else (none))) := by
  refine LB.Lim.unique (dU.bK l0 a1) ?_
  simp only [dU.f]
  (repeat' (first | exact LB.Lim.const _ | exact bB.bK _ _ | refine LB.Lim.ite ?_ ?_ | refine LB.Lim.bind ?_ (fun _ => ?_)))
def eF.f (k : Nat) (l0 : List Int) (a1_0 a1_1 a1_2 : Int) (l1_3 : List Int) (a1_4 a1_5 a1_6 a1_7 a1_8 : Int) (a1_9 : ByteArray) (a1_10 a1_11 : Int) : Option (List Int) := (dJ.f k l0 a1_0 a1_1).bind fun t391 => ((bD.f k t391 l1_3).bind fun t394 => ((bB.f k t394 a1_4).bind fun t397 => ((dJ.f k t397 a1_5 a1_6).bind fun t400 => (if a1_4 = 1 then ((dJ.f k t400 a1_7 a1_8).bind fun t403 => ((dU.f k t403 a1_9).bind fun t406 => (some t406))) else ((bB.f k t400 a1_10).bind fun t409 => ((bB.f k t409 (wrap64 (a1_11 + 1))).bind fun t412 => (some t412)))))))
theorem eF.mono : ∀ a0 a1 a2 a3 a4 a5 a6 a7 a8 a9 a10 a11 a12 k, LeO (eF.f k a0 a1 a2 a3 a4 a5 a6 a7 a8 a9 a10 a11 a12) (eF.f (k + 1) a0 a1 a2 a3 a4 a5 a6 a7 a8 a9 a10 a11 a12) := by
 intro a0 a1 a2 a3 a4 a5 a6 a7 a8 a9 a10 a11 a12 k
 unfold eF.f
 repeat' first
   | (with_reducible exact bB.mono _ _ _)
   | (with_reducible exact bD.mono _ _ _)
   | (with_reducible exact dU.mono _ _ _)
   | (with_reducible exact dJ.mono _ _ _ _)
   | (with_reducible exact LeO.refl _)
   | (with_reducible exact LeO.none _)
   | (with_reducible refine LeO.ite ?_ ?_)
   | (with_reducible refine LeO.bind ?_ (fun _ => ?_))
   | exact bB.mono _ _ _
   | exact bD.mono _ _ _
   | exact dU.mono _ _ _
   | exact dJ.mono _ _ _ _
   | exact LeO.none _
   | refine LeO.ite ?_ ?_
   | refine LeO.bind ?_ (fun _ => ?_)
noncomputable def eF.F (l0 : List Int) (a1_0 a1_1 a1_2 : Int) (l1_3 : List Int) (a1_4 a1_5 a1_6 a1_7 a1_8 : Int) (a1_9 : ByteArray) (a1_10 a1_11 : Int) : Option (List Int) := LB.lim (fun k => eF.f k l0 a1_0 a1_1 a1_2 l1_3 a1_4 a1_5 a1_6 a1_7 a1_8 a1_9 a1_10 a1_11)
theorem eF.bK (l0 : List Int) (a1_0 a1_1 a1_2 : Int) (l1_3 : List Int) (a1_4 a1_5 a1_6 a1_7 a1_8 : Int) (a1_9 : ByteArray) (a1_10 a1_11 : Int) : LB.Lim (fun k => eF.f k l0 a1_0 a1_1 a1_2 l1_3 a1_4 a1_5 a1_6 a1_7 a1_8 a1_9 a1_10 a1_11) (eF.F l0 a1_0 a1_1 a1_2 l1_3 a1_4 a1_5 a1_6 a1_7 a1_8 a1_9 a1_10 a1_11) := LB.bO (eF.mono l0 a1_0 a1_1 a1_2 l1_3 a1_4 a1_5 a1_6 a1_7 a1_8 a1_9 a1_10 a1_11)
theorem eF.iD (l0 : List Int) (a1_0 a1_1 a1_2 : Int) (l1_3 : List Int) (a1_4 a1_5 a1_6 a1_7 a1_8 : Int) (a1_9 : ByteArray) (a1_10 a1_11 : Int) : eF.F l0 a1_0 a1_1 a1_2 l1_3 a1_4 a1_5 a1_6 a1_7 a1_8 a1_9 a1_10 a1_11 = ((dJ.F l0 a1_0 a1_1).bind fun t391 => ((bD.F t391 l1_3).bind fun t394 => ((bB.F t394 a1_4).bind fun t397 => ((dJ.F t397 a1_5 a1_6).bind fun t400 => (if a1_4 = 1 then ((dJ.F t400 a1_7 a1_8).bind fun t403 => ((dU.F t403 a1_9).bind fun t406 => (some t406))) else ((bB.F t400 a1_10).bind fun t409 => ((bB.F t409 (wrap64 (a1_11 + 1))).bind fun t412 => (some t412)))))))) := by
  refine LB.Lim.unique (eF.bK l0 a1_0 a1_1 a1_2 l1_3 a1_4 a1_5 a1_6 a1_7 a1_8 a1_9 a1_10 a1_11) ?_
  simp only [eF.f]
  (repeat' (first | exact LB.Lim.const _ | exact bB.bK _ _ | exact bD.bK _ _ | exact dU.bK _ _ | exact dJ.bK _ _ _ | refine LB.Lim.ite ?_ ?_ | refine LB.Lim.bind ?_ (fun _ => ?_)))
def fo.f (k : Nat) (a0_0 a0_1 a0_2 : Int) (l0_3 : List Int) (a0_4 a0_5 a0_6 a0_7 a0_8 : Int) (a0_9 : ByteArray) (a0_10 a0_11 : Int) : Option (List Int × Int) := (dA.f k a0_0 a0_1 a0_2 l0_3 a0_4 a0_5 a0_6 a0_7 a0_8 a0_9 a0_10 a0_11).bind fun t416 => (if t416 = true then ((eF.f k ([] : List Int) a0_0 a0_1 a0_2 l0_3 a0_4 a0_5 a0_6 a0_7 a0_8 a0_9 a0_10 a0_11).bind fun t417 => (some (t417, 0))) else (some (([] : List Int), 1)))
theorem fo.mono : ∀ a0 a1 a2 a3 a4 a5 a6 a7 a8 a9 a10 a11 k, LeO (fo.f k a0 a1 a2 a3 a4 a5 a6 a7 a8 a9 a10 a11) (fo.f (k + 1) a0 a1 a2 a3 a4 a5 a6 a7 a8 a9 a10 a11) := by
 intro a0 a1 a2 a3 a4 a5 a6 a7 a8 a9 a10 a11 k
 unfold fo.f
 repeat' first
   | (with_reducible exact dA.mono _ _ _ _ _ _ _ _ _ _ _ _ _)
   | (with_reducible exact eF.mono _ _ _ _ _ _ _ _ _ _ _ _ _ _)
   | (with_reducible exact LeO.refl _)
   | (with_reducible exact LeO.none _)
   | (with_reducible refine LeO.ite ?_ ?_)
   | (with_reducible refine LeO.bind ?_ (fun _ => ?_))
   | exact dA.mono _ _ _ _ _ _ _ _ _ _ _ _ _
   | exact eF.mono _ _ _ _ _ _ _ _ _ _ _ _ _ _
   | exact LeO.none _
   | refine LeO.ite ?_ ?_
   | refine LeO.bind ?_ (fun _ => ?_)
noncomputable def fo.F (a0_0 a0_1 a0_2 : Int) (l0_3 : List Int) (a0_4 a0_5 a0_6 a0_7 a0_8 : Int) (a0_9 : ByteArray) (a0_10 a0_11 : Int) : Option (List Int × Int) := LB.lim (fun k => fo.f k a0_0 a0_1 a0_2 l0_3 a0_4 a0_5 a0_6 a0_7 a0_8 a0_9 a0_10 a0_11)
theorem fo.bK (a0_0 a0_1 a0_2 : Int) (l0_3 : List Int) (a0_4 a0_5 a0_6 a0_7 a0_8 : Int) (a0_9 : ByteArray) (a0_10 a0_11 : Int) : LB.Lim (fun k => fo.f k a0_0 a0_1 a0_2 l0_3 a0_4 a0_5 a0_6 a0_7 a0_8 a0_9 a0_10 a0_11) (fo.F a0_0 a0_1 a0_2 l0_3 a0_4 a0_5 a0_6 a0_7 a0_8 a0_9 a0_10 a0_11) := LB.bO (fo.mono a0_0 a0_1 a0_2 l0_3 a0_4 a0_5 a0_6 a0_7 a0_8 a0_9 a0_10 a0_11)
theorem fo.iD (a0_0 a0_1 a0_2 : Int) (l0_3 : List Int) (a0_4 a0_5 a0_6 a0_7 a0_8 : Int) (a0_9 : ByteArray) (a0_10 a0_11 : Int) : fo.F a0_0 a0_1 a0_2 l0_3 a0_4 a0_5 a0_6 a0_7 a0_8 a0_9 a0_10 a0_11 = ((dA.F a0_0 a0_1 a0_2 l0_3 a0_4 a0_5 a0_6 a0_7 a0_8 a0_9 a0_10 a0_11).bind fun t416 => (if t416 = true then ((eF.F ([] : List Int) a0_0 a0_1 a0_2 l0_3 a0_4 a0_5 a0_6 a0_7 a0_8 a0_9 a0_10 a0_11).bind fun t417 => (some (t417, 0))) else (some (([] : List Int), 1)))) := by
  refine LB.Lim.unique (fo.bK a0_0 a0_1 a0_2 l0_3 a0_4 a0_5 a0_6 a0_7 a0_8 a0_9 a0_10 a0_11) ?_
  simp only [fo.f]
  (repeat' (first | exact LB.Lim.const _ | exact dA.bK _ _ _ _ _ _ _ _ _ _ _ _ | exact eF.bK _ _ _ _ _ _ _ _ _ _ _ _ _ | refine LB.Lim.ite ?_ ?_ | refine LB.Lim.bind ?_ (fun _ => ?_)))
def fA.f  : Option (Int × Int × Int × List Int × Int × Int × Int × Int × Int × ByteArray × Int × Int) := some (1, 0, 1, (([0] : List Int)), 1, 1, 0, 0, 0, (⟨#[107]⟩ : ByteArray), 0, 0)
def bf.f (k : Nat)  : Option (Bool) := (fA.f).bind fun bt424 => ((fo.f k bt424.1 bt424.2.1 bt424.2.2.1 bt424.2.2.2.1 bt424.2.2.2.2.1 bt424.2.2.2.2.2.1 bt424.2.2.2.2.2.2.1 bt424.2.2.2.2.2.2.2.1 bt424.2.2.2.2.2.2.2.2.1 bt424.2.2.2.2.2.2.2.2.2.1 bt424.2.2.2.2.2.2.2.2.2.2.1 bt424.2.2.2.2.2.2.2.2.2.2.2).bind fun bt438 => ((dY.f k bt438.1).bind fun bt442 => ((d9.f bt438.2).bind fun t459 => (if t459 = 0 then ((d9.f bt442.2.2.2.2.2.2.2.2.2.2.2.2.2).bind fun t460 => (if t460 = 0 then (if bt442.2.2.2.2.2.2.2.2.2.2.2.2.1 = (bt438.1.length : Int) then ((fA.f).bind fun bt461 => ((aW.f k bt442.1 bt442.2.1 bt442.2.2.1 bt442.2.2.2.1 bt442.2.2.2.2.1 bt442.2.2.2.2.2.1 bt442.2.2.2.2.2.2.1 bt442.2.2.2.2.2.2.2.1 bt442.2.2.2.2.2.2.2.2.1 bt442.2.2.2.2.2.2.2.2.2.1 bt442.2.2.2.2.2.2.2.2.2.2.1 bt442.2.2.2.2.2.2.2.2.2.2.2.1 bt461.1 bt461.2.1 bt461.2.2.1 bt461.2.2.2.1 bt461.2.2.2.2.1 bt461.2.2.2.2.2.1 bt461.2.2.2.2.2.2.1 bt461.2.2.2.2.2.2.2.1 bt461.2.2.2.2.2.2.2.2.1 bt461.2.2.2.2.2.2.2.2.2.1 bt461.2.2.2.2.2.2.2.2.2.2.1 bt461.2.2.2.2.2.2.2.2.2.2.2).bind fun t475 => (some t475))) else (some false)) else (some false))) else (some false)))))
theorem bf.mono : ∀ k, LeO (bf.f k ) (bf.f (k + 1) ) := by
 intro  k
 unfold bf.f
 repeat' first
   | (with_reducible exact aW.mono _ _ _ _ _ _ _ _ _ _ _ _ _ _ _ _ _ _ _ _ _ _ _ _ _)
   | (with_reducible exact fo.mono _ _ _ _ _ _ _ _ _ _ _ _ _)
   | (with_reducible exact dY.mono _ _)
   | (with_reducible exact LeO.refl _)
   | (with_reducible exact LeO.none _)
   | (with_reducible refine LeO.ite ?_ ?_)
   | (with_reducible refine LeO.bind ?_ (fun _ => ?_))
   | exact aW.mono _ _ _ _ _ _ _ _ _ _ _ _ _ _ _ _ _ _ _ _ _ _ _ _ _
   | exact fo.mono _ _ _ _ _ _ _ _ _ _ _ _ _
   | exact dY.mono _ _
   | exact LeO.none _
   | refine LeO.ite ?_ ?_
   | refine LeO.bind ?_ (fun _ => ?_)
noncomputable def bf.F  : Option (Bool) := LB.lim (fun k => bf.f k )
theorem bf.bK  : LB.Lim (fun k => bf.f k ) (bf.F ) := LB.bO (bf.mono )
theorem bf.iD  : bf.F  = ((fA.f).bind fun bt424 => ((fo.F bt424.1 bt424.2.1 bt424.2.2.1 bt424.2.2.2.1 bt424.2.2.2.2.1 bt424.2.2.2.2.2.1 bt424.2.2.2.2.2.2.1 bt424.2.2.2.2.2.2.2.1 bt424.2.2.2.2.2.2.2.2.1 bt424.2.2.2.2.2.2.2.2.2.1 bt424.2.2.2.2.2.2.2.2.2.2.1 bt424.2.2.2.2.2.2.2.2.2.2.2).bind fun bt438 => ((dY.F bt438.1).bind fun bt442 => ((d9.f bt438.2).bind fun t459 => (if t459 = 0 then ((d9.f bt442.2.2.2.2.2.2.2.2.2.2.2.2.2).bind fun t460 => (if t460 = 0 then (if bt442.2.2.2.2.2.2.2.2.2.2.2.2.1 = (bt438.1.length : Int) then ((fA.f).bind fun bt461 => ((aW.F bt442.1 bt442.2.1 bt442.2.2.1 bt442.2.2.2.1 bt442.2.2.2.2.1 bt442.2.2.2.2.2.1 bt442.2.2.2.2.2.2.1 bt442.2.2.2.2.2.2.2.1 bt442.2.2.2.2.2.2.2.2.1 bt442.2.2.2.2.2.2.2.2.2.1 bt442.2.2.2.2.2.2.2.2.2.2.1 bt442.2.2.2.2.2.2.2.2.2.2.2.1 bt461.1 bt461.2.1 bt461.2.2.1 bt461.2.2.2.1 bt461.2.2.2.2.1 bt461.2.2.2.2.2.1 bt461.2.2.2.2.2.2.1 bt461.2.2.2.2.2.2.2.1 bt461.2.2.2.2.2.2.2.2.1 bt461.2.2.2.2.2.2.2.2.2.1 bt461.2.2.2.2.2.2.2.2.2.2.1 bt461.2.2.2.2.2.2.2.2.2.2.2).bind fun t475 => (some t475))) else (some false)) else (some false))) else (some false)))))) := by
  refine LB.Lim.unique (bf.bK ) ?_
  simp only [bf.f]
  (repeat' (first | exact LB.Lim.const _ | exact aW.bK _ _ _ _ _ _ _ _ _ _ _ _ _ _ _ _ _ _ _ _ _ _ _ _ | exact fo.bK _ _ _ _ _ _ _ _ _ _ _ _ | exact dY.bK _ | refine LB.Lim.ite ?_ ?_ | refine LB.Lim.bind ?_ (fun _ => ?_)))
mutual
def ag.l0 : Nat → List (S31) → Int → Option (Bool)
 | 0, _, _ => none
 | k + 1, x0, x3 => if x3 < (x0.length : Int) then (ag.j1 k x0 x3 (decide (x3 < 12))) else (ag.j1 k x0 x3 false)
def ag.j1 : Nat → List (S31) → Int → Bool → Option (Bool)
 | 0, _, _, _ => none
 | k + 1, x0, x3, x18 => if x18 = true then (if 0 ≤ x3 then (if x3 < (x0.length : Int) then ((fC.f ((bL x0 x3).f0.f0.f0) ((bL x0 x3).f0.f0.f1) ((bL x0 x3).f0.f1) ((bL x0 x3).f0.f2) ((bL x0 x3).f0.f3) ((bL x0 x3).f0.f4.f0) ((bL x0 x3).f0.f4.f1) ((bL x0 x3).f0.f5.f0) ((bL x0 x3).f0.f5.f1) ((bL x0 x3).f0.f6) ((bL x0 x3).f0.f7) ((bL x0 x3).f0.f8) ((bL x0 x3).f1)).bind fun t478 => (if t478 = true then (some true) else ((aC.f k ((bL x0 x3).f1)).bind fun t480 => ((dY.f k t480).bind fun bt483 => ((ae.f k ((bL x0 x3).f1)).bind fun bt501 => ((d9.f bt483.2.2.2.2.2.2.2.2.2.2.2.2.2).bind fun t518 => (if t518 = bt501.2.2.2.2.2.2.2.2.2.2.2.2.2 then ((aW.f k bt483.1 bt483.2.1 bt483.2.2.1 bt483.2.2.2.1 bt483.2.2.2.2.1 bt483.2.2.2.2.2.1 bt483.2.2.2.2.2.2.1 bt483.2.2.2.2.2.2.2.1 bt483.2.2.2.2.2.2.2.2.1 bt483.2.2.2.2.2.2.2.2.2.1 bt483.2.2.2.2.2.2.2.2.2.2.1 bt483.2.2.2.2.2.2.2.2.2.2.2.1 bt501.1 bt501.2.1 bt501.2.2.1 bt501.2.2.2.1 bt501.2.2.2.2.1 bt501.2.2.2.2.2.1 bt501.2.2.2.2.2.2.1 bt501.2.2.2.2.2.2.2.1 bt501.2.2.2.2.2.2.2.2.1 bt501.2.2.2.2.2.2.2.2.2.1 bt501.2.2.2.2.2.2.2.2.2.2.1 bt501.2.2.2.2.2.2.2.2.2.2.2.1).bind fun t519 => (if t519 = true then (if bt483.2.2.2.2.2.2.2.2.2.2.2.2.1 = bt501.2.2.2.2.2.2.2.2.2.2.2.2.1 then ((aK.f k t480 ((bL x0 x3).f1)).bind fun t521 => (ag.j2 k x0 x3 (!t521) bt483.1 bt483.2.1 bt483.2.2.1 bt483.2.2.2.1 bt483.2.2.2.2.1 bt483.2.2.2.2.2.1 bt483.2.2.2.2.2.2.1 bt483.2.2.2.2.2.2.2.1 bt483.2.2.2.2.2.2.2.2.1 bt483.2.2.2.2.2.2.2.2.2.1 bt483.2.2.2.2.2.2.2.2.2.2.1 bt483.2.2.2.2.2.2.2.2.2.2.2.1)) else (ag.j2 k x0 x3 true bt483.1 bt483.2.1 bt483.2.2.1 bt483.2.2.2.1 bt483.2.2.2.2.1 bt483.2.2.2.2.2.1 bt483.2.2.2.2.2.2.1 bt483.2.2.2.2.2.2.2.1 bt483.2.2.2.2.2.2.2.2.1 bt483.2.2.2.2.2.2.2.2.2.1 bt483.2.2.2.2.2.2.2.2.2.2.1 bt483.2.2.2.2.2.2.2.2.2.2.2.1)) else (ag.j2 k x0 x3 true bt483.1 bt483.2.1 bt483.2.2.1 bt483.2.2.2.1 bt483.2.2.2.2.1 bt483.2.2.2.2.2.1 bt483.2.2.2.2.2.2.1 bt483.2.2.2.2.2.2.2.1 bt483.2.2.2.2.2.2.2.2.1 bt483.2.2.2.2.2.2.2.2.2.1 bt483.2.2.2.2.2.2.2.2.2.2.1 bt483.2.2.2.2.2.2.2.2.2.2.2.1))) else (ag.j2 k x0 x3 true bt483.1 bt483.2.1 bt483.2.2.1 bt483.2.2.2.1 bt483.2.2.2.2.1 bt483.2.2.2.2.2.1 bt483.2.2.2.2.2.2.1 bt483.2.2.2.2.2.2.2.1 bt483.2.2.2.2.2.2.2.2.1 bt483.2.2.2.2.2.2.2.2.2.1 bt483.2.2.2.2.2.2.2.2.2.2.1 bt483.2.2.2.2.2.2.2.2.2.2.2.1)))))))) else (none)) else (none)) else ((bf.f k).bind fun t476 => (some t476))
def ag.j2 : Nat → List (S31) → Int → Bool → Int → Int → Int → List Int → Int → Int → Int → Int → Int → ByteArray → Int → Int → Option (Bool)
 | 0, _, _, _, _, _, _, _, _, _, _, _, _, _, _, _ => none
 | k + 1, x0, x3, x72, x500000, x500001, x500002, x500003, x500004, x500005, x500006, x500007, x500008, x500009, x500010, x500011 => if x72 = true then (some false) else ((cO.f k x500000 x500001 x500002 x500003 x500004 x500005 x500006 x500007 x500008 x500009 x500010 x500011).bind fun _ => (ag.l0 k x0 (wrap64 (x3 + 1))))
end
def ag.f (k : Nat) (l0 : List (S31)) : Option (Bool) := ag.l0 k l0 0
theorem ag.dG : ∀ k, (∀ y0 y1, LeO (ag.l0 k y0 y1) (ag.l0 (k + 1) y0 y1)) ∧ (∀ y0 y1 y2, LeO (ag.j1 k y0 y1 y2) (ag.j1 (k + 1) y0 y1 y2)) ∧ (∀ y0 y1 y2 y3 y4 y5 y6 y7 y8 y9 y10 y11 y12 y13 y14, LeO (ag.j2 k y0 y1 y2 y3 y4 y5 y6 y7 y8 y9 y10 y11 y12 y13 y14) (ag.j2 (k + 1) y0 y1 y2 y3 y4 y5 y6 y7 y8 y9 y10 y11 y12 y13 y14))
 | 0 => ⟨fun _ _ r h => by simp [ag.l0] at h, fun _ _ _ r h => by simp [ag.j1] at h, fun _ _ _ _ _ _ _ _ _ _ _ _ _ _ _ r h => by simp [ag.j2] at h⟩
 | k + 1 => by
  obtain ⟨ih0, ih1, ih2⟩ := ag.dG k
  refine ⟨?_, ?_, ?_⟩
  ·intro y0 y1
   unfold ag.l0
   repeat' first
   | (with_reducible exact ih0 _ _)
   | (with_reducible exact ih1 _ _ _)
   | (with_reducible exact ih2 _ _ _ _ _ _ _ _ _ _ _ _ _ _ _)
   | (with_reducible exact cO.mono _ _ _ _ _ _ _ _ _ _ _ _ _)
   | (with_reducible exact bf.mono _)
   | (with_reducible exact aC.mono _ _)
   | (with_reducible exact aK.mono _ _ _)
   | (with_reducible exact aW.mono _ _ _ _ _ _ _ _ _ _ _ _ _ _ _ _ _ _ _ _ _ _ _ _ _)
   | (with_reducible exact ae.mono _ _)
   | (with_reducible exact dY.mono _ _)
   | (with_reducible exact LeO.refl _)
   | (with_reducible exact LeO.none _)
   | (with_reducible refine LeO.ite ?_ ?_)
   | (with_reducible refine LeO.bind ?_ (fun _ => ?_))
   | exact ih0 _ _
   | exact ih1 _ _ _
   | exact ih2 _ _ _ _ _ _ _ _ _ _ _ _ _ _ _
   | exact cO.mono _ _ _ _ _ _ _ _ _ _ _ _ _
   | exact bf.mono _
   | exact aC.mono _ _
   | exact aK.mono _ _ _
   | exact aW.mono _ _ _ _ _ _ _ _ _ _ _ _ _ _ _ _ _ _ _ _ _ _ _ _ _
   | exact ae.mono _ _
   | exact dY.mono _ _
   | exact LeO.none _
   | refine LeO.ite ?_ ?_
   | refine LeO.bind ?_ (fun _ => ?_)
  ·intro y0 y1 y2
   unfold ag.j1
   repeat' first
   | (with_reducible exact ih0 _ _)
   | (with_reducible exact ih1 _ _ _)
   | (with_reducible exact ih2 _ _ _ _ _ _ _ _ _ _ _ _ _ _ _)
   | (with_reducible exact cO.mono _ _ _ _ _ _ _ _ _ _ _ _ _)
   | (with_reducible exact bf.mono _)
   | (with_reducible exact aC.mono _ _)
   | (with_reducible exact aK.mono _ _ _)
   | (with_reducible exact aW.mono _ _ _ _ _ _ _ _ _ _ _ _ _ _ _ _ _ _ _ _ _ _ _ _ _)
   | (with_reducible exact ae.mono _ _)
   | (with_reducible exact dY.mono _ _)
   | (with_reducible exact LeO.refl _)
   | (with_reducible exact LeO.none _)
   | (with_reducible refine LeO.ite ?_ ?_)
   | (with_reducible refine LeO.bind ?_ (fun _ => ?_))
   | exact ih0 _ _
   | exact ih1 _ _ _
   | exact ih2 _ _ _ _ _ _ _ _ _ _ _ _ _ _ _
   | exact cO.mono _ _ _ _ _ _ _ _ _ _ _ _ _
   | exact bf.mono _
   | exact aC.mono _ _
   | exact aK.mono _ _ _
   | exact aW.mono _ _ _ _ _ _ _ _ _ _ _ _ _ _ _ _ _ _ _ _ _ _ _ _ _
   | exact ae.mono _ _
   | exact dY.mono _ _
   | exact LeO.none _
   | refine LeO.ite ?_ ?_
   | refine LeO.bind ?_ (fun _ => ?_)
  ·intro y0 y1 y2 y3 y4 y5 y6 y7 y8 y9 y10 y11 y12 y13 y14
   unfold ag.j2
   repeat' first
   | (with_reducible exact ih0 _ _)
   | (with_reducible exact ih1 _ _ _)
   | (with_reducible exact ih2 _ _ _ _ _ _ _ _ _ _ _ _ _ _ _)
   | (with_reducible exact cO.mono _ _ _ _ _ _ _ _ _ _ _ _ _)
   | (with_reducible exact bf.mono _)
   | (with_reducible exact aC.mono _ _)
   | (with_reducible exact aK.mono _ _ _)
   | (with_reducible exact aW.mono _ _ _ _ _ _ _ _ _ _ _ _ _ _ _ _ _ _ _ _ _ _ _ _ _)
   | (with_reducible exact ae.mono _ _)
   | (with_reducible exact dY.mono _ _)
   | (with_reducible exact LeO.refl _)
   | (with_reducible exact LeO.none _)
   | (with_reducible refine LeO.ite ?_ ?_)
   | (with_reducible refine LeO.bind ?_ (fun _ => ?_))
   | exact ih0 _ _
   | exact ih1 _ _ _
   | exact ih2 _ _ _ _ _ _ _ _ _ _ _ _ _ _ _
   | exact cO.mono _ _ _ _ _ _ _ _ _ _ _ _ _
   | exact bf.mono _
   | exact aC.mono _ _
   | exact aK.mono _ _ _
   | exact aW.mono _ _ _ _ _ _ _ _ _ _ _ _ _ _ _ _ _ _ _ _ _ _ _ _ _
   | exact ae.mono _ _
   | exact dY.mono _ _
   | exact LeO.none _
   | refine LeO.ite ?_ ?_
   | refine LeO.bind ?_ (fun _ => ?_)
theorem ag.mono : ∀ a0 k, LeO (ag.f k a0) (ag.f (k + 1) a0) := by
 intro a0 k
 obtain ⟨ih0, ih1, ih2⟩ := ag.dG k
 unfold ag.f
 repeat' first
   | (with_reducible exact ih0 _ _)
   | (with_reducible exact ih1 _ _ _)
   | (with_reducible exact ih2 _ _ _ _ _ _ _ _ _ _ _ _ _ _ _)
   | (with_reducible exact cO.mono _ _ _ _ _ _ _ _ _ _ _ _ _)
   | (with_reducible exact bf.mono _)
   | (with_reducible exact aC.mono _ _)
   | (with_reducible exact aK.mono _ _ _)
   | (with_reducible exact aW.mono _ _ _ _ _ _ _ _ _ _ _ _ _ _ _ _ _ _ _ _ _ _ _ _ _)
   | (with_reducible exact ae.mono _ _)
   | (with_reducible exact dY.mono _ _)
   | (with_reducible exact LeO.refl _)
   | (with_reducible exact LeO.none _)
   | (with_reducible refine LeO.ite ?_ ?_)
   | (with_reducible refine LeO.bind ?_ (fun _ => ?_))
   | exact ih0 _ _
   | exact ih1 _ _ _
   | exact ih2 _ _ _ _ _ _ _ _ _ _ _ _ _ _ _
   | exact cO.mono _ _ _ _ _ _ _ _ _ _ _ _ _
   | exact bf.mono _
   | exact aC.mono _ _
   | exact aK.mono _ _ _
   | exact aW.mono _ _ _ _ _ _ _ _ _ _ _ _ _ _ _ _ _ _ _ _ _ _ _ _ _
   | exact ae.mono _ _
   | exact dY.mono _ _
   | exact LeO.none _
   | refine LeO.ite ?_ ?_
   | refine LeO.bind ?_ (fun _ => ?_)
noncomputable def ag.L0 (x0 : List (S31)) (x3 : Int) : Option (Bool) := LB.lim (fun k => ag.l0 k x0 x3)
noncomputable def ag.J1 (x0 : List (S31)) (x3 : Int) (x18 : Bool) : Option (Bool) := LB.lim (fun k => ag.j1 k x0 x3 x18)
noncomputable def ag.J2 (x0 : List (S31)) (x3 : Int) (x72 : Bool) (x500000 : Int) (x500001 : Int) (x500002 : Int) (x500003 : List Int) (x500004 : Int) (x500005 : Int) (x500006 : Int) (x500007 : Int) (x500008 : Int) (x500009 : ByteArray) (x500010 : Int) (x500011 : Int) : Option (Bool) := LB.lim (fun k => ag.j2 k x0 x3 x72 x500000 x500001 x500002 x500003 x500004 x500005 x500006 x500007 x500008 x500009 x500010 x500011)
theorem ag.eT (x0 : List (S31)) (x3 : Int) : LB.Lim (fun k => ag.l0 k x0 x3) (ag.L0 x0 x3) := LB.bO (fun k => (ag.dG k).1 x0 x3)
theorem ag.fD (x0 : List (S31)) (x3 : Int) (x18 : Bool) : LB.Lim (fun k => ag.j1 k x0 x3 x18) (ag.J1 x0 x3 x18) := LB.bO (fun k => (ag.dG k).2.1 x0 x3 x18)
theorem ag.ig (x0 : List (S31)) (x3 : Int) (x72 : Bool) (x500000 : Int) (x500001 : Int) (x500002 : Int) (x500003 : List Int) (x500004 : Int) (x500005 : Int) (x500006 : Int) (x500007 : Int) (x500008 : Int) (x500009 : ByteArray) (x500010 : Int) (x500011 : Int) : LB.Lim (fun k => ag.j2 k x0 x3 x72 x500000 x500001 x500002 x500003 x500004 x500005 x500006 x500007 x500008 x500009 x500010 x500011) (ag.J2 x0 x3 x72 x500000 x500001 x500002 x500003 x500004 x500005 x500006 x500007 x500008 x500009 x500010 x500011) := LB.bO (fun k => (ag.dG k).2.2 x0 x3 x72 x500000 x500001 x500002 x500003 x500004 x500005 x500006 x500007 x500008 x500009 x500010 x500011)
theorem ag.iR (x0 : List (S31)) (x3 : Int) : ag.L0 x0 x3 = (if x3 < (x0.length : Int) then (ag.J1 x0 x3 (decide (x3 < 12))) else (ag.J1 x0 x3 false)) := by
  refine LB.Lim.unique (ag.eT x0 x3).shift ?_
  simp only [ag.l0]
  (repeat' (first | exact LB.Lim.const _ | exact ag.eT _ _ | exact ag.fD _ _ _ | exact ag.ig _ _ _ _ _ _ _ _ _ _ _ _ _ _ _ | exact cO.bK _ _ _ _ _ _ _ _ _ _ _ _ | exact bf.bK | exact aC.bK _ | exact aK.bK _ _ | exact aW.bK _ _ _ _ _ _ _ _ _ _ _ _ _ _ _ _ _ _ _ _ _ _ _ _ | exact ae.bK _ | exact dY.bK _ | refine LB.Lim.ite ?_ ?_ | refine LB.Lim.bind ?_ (fun _ => ?_)))
theorem ag.J1_eq (x0 : List (S31)) (x3 : Int) (x18 : Bool) : ag.J1 x0 x3 x18 = (if x18 = true then (if 0 ≤ x3 then (if x3 < (x0.length : Int) then ((fC.f ((bL x0 x3).f0.f0.f0) ((bL x0 x3).f0.f0.f1) ((bL x0 x3).f0.f1) ((bL x0 x3).f0.f2) ((bL x0 x3).f0.f3) ((bL x0 x3).f0.f4.f0) ((bL x0 x3).f0.f4.f1) ((bL x0 x3).f0.f5.f0) ((bL x0 x3).f0.f5.f1) ((bL x0 x3).f0.f6) ((bL x0 x3).f0.f7) ((bL x0 x3).f0.f8) ((bL x0 x3).f1)).bind fun t478 => (if t478 = true then (some true) else ((aC.F ((bL x0 x3).f1)).bind fun t480 => ((dY.F t480).bind fun bt483 => ((ae.F ((bL x0 x3).f1)).bind fun bt501 => ((d9.f bt483.2.2.2.2.2.2.2.2.2.2.2.2.2).bind fun t518 => (if t518 = bt501.2.2.2.2.2.2.2.2.2.2.2.2.2 then ((aW.F bt483.1 bt483.2.1 bt483.2.2.1 bt483.2.2.2.1 bt483.2.2.2.2.1 bt483.2.2.2.2.2.1 bt483.2.2.2.2.2.2.1 bt483.2.2.2.2.2.2.2.1 bt483.2.2.2.2.2.2.2.2.1 bt483.2.2.2.2.2.2.2.2.2.1 bt483.2.2.2.2.2.2.2.2.2.2.1 bt483.2.2.2.2.2.2.2.2.2.2.2.1 bt501.1 bt501.2.1 bt501.2.2.1 bt501.2.2.2.1 bt501.2.2.2.2.1 bt501.2.2.2.2.2.1 bt501.2.2.2.2.2.2.1 bt501.2.2.2.2.2.2.2.1 bt501.2.2.2.2.2.2.2.2.1 bt501.2.2.2.2.2.2.2.2.2.1 bt501.2.2.2.2.2.2.2.2.2.2.1 bt501.2.2.2.2.2.2.2.2.2.2.2.1).bind fun t519 => (if t519 = true then (if bt483.2.2.2.2.2.2.2.2.2.2.2.2.1 = bt501.2.2.2.2.2.2.2.2.2.2.2.2.1 then ((aK.F t480 ((bL x0 x3).f1)).bind fun t521 => (ag.J2 x0 x3 (!t521) bt483.1 bt483.2.1 bt483.2.2.1 bt483.2.2.2.1 bt483.2.2.2.2.1 bt483.2.2.2.2.2.1 bt483.2.2.2.2.2.2.1 bt483.2.2.2.2.2.2.2.1 bt483.2.2.2.2.2.2.2.2.1 bt483.2.2.2.2.2.2.2.2.2.1 bt483.2.2.2.2.2.2.2.2.2.2.1 bt483.2.2.2.2.2.2.2.2.2.2.2.1)) else (ag.J2 x0 x3 true bt483.1 bt483.2.1 bt483.2.2.1 bt483.2.2.2.1 bt483.2.2.2.2.1 bt483.2.2.2.2.2.1 bt483.2.2.2.2.2.2.1 bt483.2.2.2.2.2.2.2.1 bt483.2.2.2.2.2.2.2.2.1 bt483.2.2.2.2.2.2.2.2.2.1 bt483.2.2.2.2.2.2.2.2.2.2.1 bt483.2.2.2.2.2.2.2.2.2.2.2.1)) else (ag.J2 x0 x3 true bt483.1 bt483.2.1 bt483.2.2.1 bt483.2.2.2.1 bt483.2.2.2.2.1 bt483.2.2.2.2.2.1 bt483.2.2.2.2.2.2.1 bt483.2.2.2.2.2.2.2.1 bt483.2.2.2.2.2.2.2.2.1 bt483.2.2.2.2.2.2.2.2.2.1 bt483.2.2.2.2.2.2.2.2.2.2.1 bt483.2.2.2.2.2.2.2.2.2.2.2.1))) else (ag.J2 x0 x3 true bt483.1 bt483.2.1 bt483.2.2.1 bt483.2.2.2.1 bt483.2.2.2.2.1 bt483.2.2.2.2.2.1 bt483.2.2.2.2.2.2.1 bt483.2.2.2.2.2.2.2.1 bt483.2.2.2.2.2.2.2.2.1 bt483.2.2.2.2.2.2.2.2.2.1 bt483.2.2.2.2.2.2.2.2.2.2.1 bt483.2.2.2.2.2.2.2.2.2.2.2.1)))))))) else (none)) else (none)) else ((bf.F).bind fun t476 => (some t476))) := by
  refine LB.Lim.unique (ag.fD x0 x3 x18).shift ?_
  simp only [ag.j1]
  (repeat' (first | exact LB.Lim.const _ | exact ag.eT _ _ | exact ag.fD _ _ _ | exact ag.ig _ _ _ _ _ _ _ _ _ _ _ _ _ _ _ | exact cO.bK _ _ _ _ _ _ _ _ _ _ _ _ | exact bf.bK | exact aC.bK _ | exact aK.bK _ _ | exact aW.bK _ _ _ _ _ _ _ _ _ _ _ _ _ _ _ _ _ _ _ _ _ _ _ _ | exact ae.bK _ | exact dY.bK _ | refine LB.Lim.ite ?_ ?_ | refine LB.Lim.bind ?_ (fun _ => ?_)))
theorem ag.J2_eq (x0 : List (S31)) (x3 : Int) (x72 : Bool) (x500000 : Int) (x500001 : Int) (x500002 : Int) (x500003 : List Int) (x500004 : Int) (x500005 : Int) (x500006 : Int) (x500007 : Int) (x500008 : Int) (x500009 : ByteArray) (x500010 : Int) (x500011 : Int) : ag.J2 x0 x3 x72 x500000 x500001 x500002 x500003 x500004 x500005 x500006 x500007 x500008 x500009 x500010 x500011 = (if x72 = true then (some false) else ((cO.F x500000 x500001 x500002 x500003 x500004 x500005 x500006 x500007 x500008 x500009 x500010 x500011).bind fun _ => (ag.L0 x0 (wrap64 (x3 + 1))))) := by
  refine LB.Lim.unique (ag.ig x0 x3 x72 x500000 x500001 x500002 x500003 x500004 x500005 x500006 x500007 x500008 x500009 x500010 x500011).shift ?_
  simp only [ag.j2]
  (repeat' (first | exact LB.Lim.const _ | exact ag.eT _ _ | exact ag.fD _ _ _ | exact ag.ig _ _ _ _ _ _ _ _ _ _ _ _ _ _ _ | exact cO.bK _ _ _ _ _ _ _ _ _ _ _ _ | exact bf.bK | exact aC.bK _ | exact aK.bK _ _ | exact aW.bK _ _ _ _ _ _ _ _ _ _ _ _ _ _ _ _ _ _ _ _ _ _ _ _ | exact ae.bK _ | exact dY.bK _ | refine LB.Lim.ite ?_ ?_ | refine LB.Lim.bind ?_ (fun _ => ?_)))
noncomputable def ag.F (l0 : List (S31)) : Option (Bool) := LB.lim (fun k => ag.f k l0)
theorem ag.bK (l0 : List (S31)) : LB.Lim (fun k => ag.f k l0) (ag.F l0) := LB.bO (ag.mono l0)
theorem ag.iD (l0 : List (S31)) : ag.F l0 = (ag.L0 l0 0) := by
  refine LB.Lim.unique (ag.bK l0) ?_
  simp only [ag.f]
  (repeat' (first | exact LB.Lim.const _ | exact ag.eT _ _ | exact ag.fD _ _ _ | exact ag.ig _ _ _ _ _ _ _ _ _ _ _ _ _ _ _ | exact cO.bK _ _ _ _ _ _ _ _ _ _ _ _ | exact bf.bK | exact aC.bK _ | exact aK.bK _ _ | exact aW.bK _ _ _ _ _ _ _ _ _ _ _ _ _ _ _ _ _ _ _ _ _ _ _ _ | exact ae.bK _ | exact dY.bK _ | refine LB.Lim.ite ?_ ?_ | refine LB.Lim.bind ?_ (fun _ => ?_)))
end Go.Proofs.Ytddnlnjmikcgfaa.PC
end
section
namespace Go.OB
open Go Go.RowKit Go.WB.PrintWords
/-- Whatever of type t reads as data reads as a value of the kind, within bounds. -/
def Opens (P : Program) (t : TypeId) {α : Type} (d : Kd α) (OK : α → Prop) : Prop :=
  ∀ {H : Type} (enc : TypeId × Value → H) (w : World) (base : Nat) (spare : Nat → Bool) (held : Bool) (fuel : Nat) (cs : List Value) (x : DataW H) (ps : List MemPlace),
    DataW.trod enc P w base spare held fuel t cs = some (x, ps) → (∀ n ∈ x.weights P t, n ≤ reachBytes) → ∃ a : α, d.K w a cs ∧ OK a
section
variable {P : Program} {t : TypeId}
theorem opens_int {k : IntKind} (ht : P.underlying t = some (.int k)) : Opens P t (Kd.int k) (fun n => (Lit.int k n).wf = true) := by
  intro H enc w base spare held fuel cs x ps h _
  obtain ⟨n, rfl, _, hw⟩ := DataW.trod_int ht h
  exact ⟨n, rfl, hw⟩
theorem opens_string (ht : P.underlying t = some .string) : Opens P t Kd.string (fun s => s.size ≤ 140737488351232) := by
  intro H enc w base spare held fuel cs x ps h hs
  obtain ⟨s, rfl, hx, _⟩ := DataW.trod_string ht h
  simp only [Prod.mk.injEq] at hx
  obtain ⟨rfl, rfl⟩ := hx
  have := hs s.data.toList.length (by simp [DataW.weights])
  have hr : reachBytes = 140737488351232 := by decide
  have hl : s.data.toList.length = s.size := by simp
  exact ⟨s, rfl, by omega⟩
theorem mem_weightsAll {H : Type} {e : TypeId} : ∀ {l : List (DataW H)} {d : DataW H}, d ∈ l → ∀ n ∈ d.weights P e, n ∈ DataW.weightsAll P e l
  | d0 :: l, d, hd, n, hn => by
    simp only [DataW.weightsAll, List.mem_append]
    rcases List.mem_cons.1 hd with rfl | hd
    · exact .inl hn
    · exact .inr (mem_weightsAll hd n hn)
theorem opens_slice {α : Type} (y0 : α) {e : TypeId} (nb : Nat) {d : Kd α} {OK : α → Prop} (ht : P.underlying t = some (.slice e)) (hsz : d.sz = P.cellsOf e) (hnb : P.bytesOf e = nb) (ho : Opens P e d OK) :
    Opens P t (Kd.slice e d) (fun l => l.length ≤ maxLen ∧ l.length * nb ≤ 140737488351232 ∧ ∀ a ∈ l, OK a) := by
  haveI : Inhabited α := ⟨y0⟩
  subst hnb
  intro H enc w base spare held fuel cs x ps h hs
  have hr : reachBytes = 140737488351232 := by decide
  rcases Deep.open_slice ht h with ⟨rfl, _⟩ | ⟨a, len, cap, m, n, D, Pl, rfl, hb, hl, hm, hmm, hx, hel⟩
  · exact ⟨[], ⟨none, 0, rfl, Nat.le_refl _, Kd.C_nil _ _⟩, by simp, by simp, fun _ h => by cases h⟩
  · simp only [Prod.mk.injEq] at hx
    obtain ⟨rfl, rfl⟩ := hx
    have hle : len ≤ m := by rw [hmm]; split <;> omega
    have hw := hs ((((List.range len).map D).length + ((List.range (m - len)).map fun j => D (len + j)).length) * P.bytesOf e) (by simp [DataW.weights, ht])
    have hone : ∀ i, i < len → ∃ y : α, (∃ cs', w.cells? base (a.add (i * P.cellsOf e)) (P.cellsOf e) = some cs' ∧ d.K w y cs') ∧ OK y := by
      intro i hi
      obtain ⟨cs', h1, h2⟩ := hel i (by omega)
      obtain ⟨y, hy, hoy⟩ := ho enc w base spare held n cs' (D i) (Pl i) h2 (fun q hq => hs q (by
        simp only [DataW.weights, ht, List.mem_cons, List.mem_append]
        exact .inr (.inl (mem_weightsAll (List.mem_map.2 ⟨i, List.mem_range.2 hi, rfl⟩) q hq))))
      exact ⟨y, ⟨cs', h1, hy⟩, hoy⟩
    obtain ⟨f, hf⟩ := Deep.choose_lt hone
    have hlen : ((List.range len).map f).length = len := by simp
    refine ⟨(List.range len).map f, ⟨some a, cap, by rw [hlen], by rw [hlen]; exact hl, ?_⟩, by rw [hlen]; omega, ?_, ?_⟩
    · refine ⟨rfl, by rw [hlen]; have : maxLen = 9223372036854775807 := rfl; omega, fun _ => ⟨a, rfl, fun j p hj => ?_⟩⟩
      have hj' : j < len := by
        have := (List.getElem?_eq_some_iff.1 hj).1
        simpa using this
      have hp : p = f j := by simpa [hj'] using hj.symm
      subst hp
      obtain ⟨⟨cs', h1, h2⟩, _⟩ := hf j hj'
      obtain ⟨_, hcl, hcell⟩ := World.cells?_some h1
      refine ⟨cs', by rw [hcl, hsz], h2, fun i u hu => ?_⟩
      have hi : i < P.cellsOf e := by have := (List.getElem?_eq_some_iff.1 hu).1; omega
      rw [← Deep.add_add, hsz, hcell i hi, hu]
    · rw [hlen]
      rw [hr] at hw
      simp only [List.length_map, List.length_range] at hw
      exact Nat.le_trans (Nat.mul_le_mul_right _ (by omega)) hw
    · intro y hy
      obtain ⟨i, hi, rfl⟩ := List.mem_map.1 hy
      exact (hf i (List.mem_range.1 hi)).2
end
section
variable {P : Program}
/-- Cells that hold values of these types one behind the other. -/
def Chunks {H : Type} (enc : TypeId × Value → H) (P : Program) (w : World) (base : Nat) (spare : Nat → Bool) (held : Bool) (fuel : Nat) : List TypeId → List Value → List (DataW H) → Prop
  | [], cs, ds => cs = [] ∧ ds = []
  | t :: ts, cs, d :: ds => (∃ ps, DataW.trod enc P w base spare held fuel t (cs.take (P.cellsOf t)) = some (d, ps)) ∧ Chunks enc P w base spare held fuel ts (cs.drop (P.cellsOf t)) ds
  | _ :: _, _, [] => False
def OpensAll (P : Program) (ts : List TypeId) {α : Type} (d : Kd α) (OK : α → Prop) : Prop :=
  ∀ {H : Type} (enc : TypeId × Value → H) (w : World) (base : Nat) (spare : Nat → Bool) (held : Bool) (fuel : Nat) (cs : List Value) (ds : List (DataW H)),
    Chunks enc P w base spare held fuel ts cs ds → (∀ n ∈ DataW.weightsEach P ts ds, n ≤ reachBytes) → ∃ a : α, d.K w a cs ∧ OK a
theorem opens_one {t : TypeId} {α : Type} {d : Kd α} {OK : α → Prop} (h : Opens P t d OK) : OpensAll P [t] d OK := by
  intro H enc w base spare held fuel cs ds hc hs
  match ds, hc with
  | [x], ⟨⟨ps, h1⟩, h2, _⟩ =>
    have e : cs.take (P.cellsOf t) = cs := by
      rw [List.take_of_length_le]
      have := congrArg List.length h2
      simp at this
      omega
    rw [e] at h1
    exact h enc w base spare held fuel cs x ps h1 (fun n hn => hs n (by simp [DataW.weightsEach, hn]))
theorem iP {t : TypeId} {ts : List TypeId} {α β : Type} {d : Kd α} {d2 : Kd β} {OK : α → Prop} {OK2 : β → Prop} (h : Opens P t d OK) (h2 : OpensAll P ts d2 OK2) :
    OpensAll P (t :: ts) (Kd.pair d d2) (fun x => OK x.1 ∧ OK2 x.2) := by
  intro H enc w base spare held fuel cs ds hc hs
  match ds, hc with
  | x :: ds, ⟨⟨ps, h1⟩, hr⟩ =>
    obtain ⟨a, ha, hoa⟩ := h enc w base spare held fuel _ x ps h1 (fun n hn => hs n (by simp [DataW.weightsEach, hn]))
    obtain ⟨b, hb, hob⟩ := h2 enc w base spare held fuel _ ds hr (fun n hn => hs n (by simp [DataW.weightsEach, hn]))
    exact ⟨(a, b), ⟨_, _, (List.take_append_drop _ cs).symm, ha, hb⟩, hoa, hob⟩
/-- Where the fields stand: each behind the one ahead of it. -/
def inRow (P : Program) : Nat → List Field → Bool
  | _, [] => true
  | o, f :: fs => f.offset == o && inRow P (o + P.cellsOf f.type) fs
def total (P : Program) (fs : List Field) : Nat := (fs.map fun f => P.cellsOf f.type).sum
theorem chunks_of {H : Type} (enc : TypeId × Value → H) (w : World) (base : Nat) (spare : Nat → Bool) (held : Bool) (fuel : Nat) : ∀ (fs : List Field) (o : Nat) (cs : List Value) (xs : List (DataW H × List MemPlace)),
    inRow P o fs = true → cs.length = o + total P fs → (fs.mapM fun f => DataW.trod enc P w base spare held fuel f.type ((cs.drop f.offset).take (P.cellsOf f.type))) = some xs →
    Chunks enc P w base spare held fuel (fs.map (·.type)) (cs.drop o) (xs.map (·.1))
  | [], o, cs, xs, _, hl, hm => by
    simp [total] at hl
    simp at hm
    subst hm
    simp [Chunks, ← hl]
  | f :: fs, o, cs, xs, hr, hl, hm => by
    simp only [inRow, Bool.and_eq_true, beq_iff_eq] at hr
    obtain ⟨hfo, hr⟩ := hr
    rw [List.mapM_cons] at hm
    cases h1 : DataW.trod enc P w base spare held fuel f.type ((cs.drop f.offset).take (P.cellsOf f.type)) with
    | none => rw [h1] at hm; simp at hm
    | some y =>
      rw [h1] at hm
      cases h2 : (fs.mapM fun f => DataW.trod enc P w base spare held fuel f.type ((cs.drop f.offset).take (P.cellsOf f.type))) with
      | none => rw [h2] at hm; simp at hm
      | some ys =>
        rw [h2] at hm
        simp at hm
        subst hm
        have ih := chunks_of enc w base spare held fuel fs (o + P.cellsOf f.type) cs ys hr (by rw [hl]; simp [total]; omega) h2
        refine ⟨⟨y.2, ?_⟩, ?_⟩
        · rw [← hfo]; exact h1
        · rw [List.drop_drop]; exact ih
theorem opens_struct {t : TypeId} {fs : Array Field} {α S : Type} {d : Kd α} {OK : α → Prop} (ht : P.underlying t = some (.struct fs)) (hr : inRow P 0 fs.toList = true) (hc : P.cellsOf t = total P fs.toList)
    (h : OpensAll P (fs.toList.map (·.type)) d OK) (f : S → α) (g : α → S) (hfg : ∀ a, f (g a) = a) : Opens P t (Kd.iso d f) (fun s => OK (f s)) := by
  intro H enc w base spare held fuel cs x ps hx hs
  cases fuel with
  | zero => simp [DataW.trod] at hx
  | succ n =>
    obtain ⟨xs, m, hm, hxe, hl, hall⟩ : ∃ (xs : List (DataW H × List MemPlace)) (m : Nat), n = m ∧ x = .agg (xs.map (·.1)) ∧ cs.length = P.cellsOf t ∧ (fs.toList.mapM fun f => DataW.trod enc P w base spare held m f.type ((cs.drop f.offset).take (P.cellsOf f.type))) = some xs := by
      unfold DataW.trod at hx
      rw [ht] at hx
      split at hx <;> simp_all
      obtain ⟨hl, hx⟩ := hx
      obtain ⟨xs, h1, h2, h3⟩ := hx
      exact ⟨xs, h2.symm, h1⟩
    subst hm
    subst hxe
    have hch := chunks_of (P := P) enc w base spare held n fs.toList 0 cs xs hr (by rw [hl, hc]; omega) hall
    obtain ⟨a, ha, hoa⟩ := h enc w base spare held n cs _ (by simpa using hch) (fun q hq => hs q (by simpa [DataW.weights, ht] using hq))
    refine ⟨g a, ?_, ?_⟩
    · show d.K w (f (g a)) cs
      rw [hfg]; exact ha
    · show OK (f (g a))
      rw [hfg]; exact hoa
theorem weights_of {H : Type} {ts : List TypeId} {ds : List (DataW H)} (h : (DataW.weightsEach P ts ds).all (· ≤ reachBytes) = true) {j : Nat} {t : TypeId} {d : DataW H} (ht : ts[j]? = some t) (hd : ds[j]? = some d) : ∀ n ∈ d.weights P t, n ≤ reachBytes :=
  fun n hn => by simpa using List.all_eq_true.1 h _ (DataW.weights_mem_each ht hd n hn)
end
end Go.OB
end
section
namespace Go.Proofs.Ytddnlnjmikcgfaa.PC
open Go.RowKit Go.WB.PrintWords Go.WB.PrintLast Go.WB.PrintMore
def ok_T25 (x : S25) : Prop := (Lit.int .i64 x.f0).wf = true ∧ (Lit.int .i64 x.f1).wf = true
def ok_T28 (x : S28) : Prop := ok_T25 x.f0 ∧ (Lit.int .i64 x.f1).wf = true ∧ (x.f2.length ≤ maxLen ∧ x.f2.length * 8 ≤ 140737488351232 ∧ ∀ a ∈ x.f2, (Lit.int .i64 a).wf = true) ∧ (Lit.int .i64 x.f3).wf = true ∧ ok_T25 x.f4 ∧ ok_T25 x.f5 ∧ x.f6.size ≤ 140737488351232 ∧ (Lit.int .i64 x.f7).wf = true ∧ (Lit.int .i64 x.f8).wf = true
def ok_T31 (x : S31) : Prop := ok_T28 x.f0 ∧ (x.f1.length ≤ maxLen ∧ x.f1.length * 1 ≤ 140737488351232 ∧ ∀ a ∈ x.f1, (Lit.int .u8 a).wf = true)
def ag.Pure : Prop := ∀ (l0 : List (S31)), (l0.length ≤ maxLen ∧ l0.length * 144 ≤ 140737488351232 ∧ ∀ a ∈ l0, ok_T31 a) → ∃ k, ag.f k l0 = some true
end Go.Proofs.Ytddnlnjmikcgfaa.PC
end
section
set_option linter.unusedVariables false
set_option linter.unusedSimpArgs false
namespace Go.Proofs.Ytddnlnjmikcgfaa.PC
open Go.RowKit Go.WB.PrintWords Go.WB.PrintLast Go.WB.PrintMore
theorem w64_l {x : Int} (h0 : -9223372036854775808 ≤ x) (h1 : x < 9223372036854775808) : wrap64 x = x := by unfold wrap64; omega
theorem w64s {x : Int} (h0 : 0 ≤ x) (h1 : x < 9223372036854775807) : wrap64 (x + 1) = x + 1 := w64_l (by omega) (by omega)
theorem rd_nat (l : List Int) (i : Nat) (h : i < l.length) : rd l (i : Int) = l[i] := by simp [rd, h]
theorem take_succ' {α : Type} (l : List α) (i : Nat) (h : i < l.length) : l.take (i + 1) = l.take i ++ [l[i]] := by
  rw [List.take_succ_eq_append_getElem h]
theorem copyBytes_L (l : List Int) (hl : l.length < 140737488355328) : ∀ (d i : Nat), i ≤ l.length → l.length - i = d → aC.L0 l (l.take i) (i : Int) = some l := by
  intro d
  induction d with
  | zero =>
    intro i hi hd
    rw [aC.iR, if_neg (by omega), List.take_of_length_le (by omega)]
  | succ d ih =>
    intro i hi hd
    rw [aC.iR, if_pos (by omega), if_pos (by omega), if_pos (by rw [List.length_take]; omega), w64s (by omega) (by omega), rd_nat l i (by omega), ← take_succ' l i (by omega)]
    exact ih (i + 1) (by omega) (by omega)
theorem copyBytes (l : List Int) (hl : l.length < 140737488355328) : aC.F l = some l := by
  rw [aC.iD]
  exact copyBytes_L l hl l.length 0 (by omega) (by omega)
theorem eqBytes_L (a b : List Int) (hab : a.length = b.length) (hl : a.length < 9223372036854775807) : ∀ (d i : Nat), i ≤ a.length → a.length - i = d → aK.L0 a b (i : Int) = some (decide (a.drop i = b.drop i)) := by
  intro d
  induction d with
  | zero =>
    intro i hi hd
    rw [aK.iR, if_neg (by omega), List.drop_of_length_le (by omega), List.drop_of_length_le (by omega)]
    simp
  | succ d ih =>
    intro i hi hd
    have ha : i < a.length := by omega
    have hb : i < b.length := by omega
    rw [aK.iR, if_pos (by omega), if_pos (by omega), if_pos (by omega), rd_nat a i ha, rd_nat b i hb, w64s (by omega) (by omega), List.drop_eq_getElem_cons ha, List.drop_eq_getElem_cons hb]
    by_cases h : a[i] = b[i]
    · rw [if_pos h, show ((i : Int) + 1) = ((i + 1 : Nat) : Int) from rfl, ih (i + 1) (by omega) (by omega)]
      exact congrArg some (decide_eq_decide.2 (by rw [List.cons.injEq]; exact ⟨fun e => ⟨h, e⟩, fun e => e.2⟩))
    · rw [if_neg h]
      exact congrArg some (decide_eq_false (fun e => h (List.cons.inj e).1)).symm
theorem eqBytes (a b : List Int) (hl : a.length < 9223372036854775807) : aK.F a b = some (decide (a = b)) := by
  rw [aK.iD]
  by_cases h : a.length = b.length
  · rw [if_pos (by omega)]
    exact eqBytes_L a b h hl a.length 0 (by omega) (by omega)
  · rw [if_neg (by omega)]
    have : ¬ a = b := fun e => h (by rw [e])
    simp [this]
theorem eqNumbers_L (a b : List Int) (hab : a.length = b.length) (hl : a.length < 9223372036854775807) : ∀ (d i : Nat), i ≤ a.length → a.length - i = d → aI.L0 a b (i : Int) = some (decide (a.drop i = b.drop i)) := by
  intro d
  induction d with
  | zero =>
    intro i hi hd
    rw [aI.iR, if_neg (by omega), List.drop_of_length_le (by omega), List.drop_of_length_le (by omega)]
    simp
  | succ d ih =>
    intro i hi hd
    have ha : i < a.length := by omega
    have hb : i < b.length := by omega
    rw [aI.iR, if_pos (by omega), if_pos (by omega), if_pos (by omega), rd_nat a i ha, rd_nat b i hb, w64s (by omega) (by omega), List.drop_eq_getElem_cons ha, List.drop_eq_getElem_cons hb]
    by_cases h : a[i] = b[i]
    · rw [if_pos h, show ((i : Int) + 1) = ((i + 1 : Nat) : Int) from rfl, ih (i + 1) (by omega) (by omega)]
      exact congrArg some (decide_eq_decide.2 (by rw [List.cons.injEq]; exact ⟨fun e => ⟨h, e⟩, fun e => e.2⟩))
    · rw [if_neg h]
      exact congrArg some (decide_eq_false (fun e => h (List.cons.inj e).1)).symm
theorem eqNumbers (a b : List Int) (hl : a.length < 9223372036854775807) : aI.F a b = some (decide (a = b)) := by
  rw [aI.iD]
  by_cases h : a.length = b.length
  · rw [if_pos (by omega)]
    exact eqNumbers_L a b h hl a.length 0 (by omega) (by omega)
  · rw [if_neg (by omega)]
    have : ¬ a = b := fun e => h (by rw [e])
    simp [this]
def dS (n : Nat) : List Int := if h : n < 128 then [(n : Int)] else ((n % 128 + 128 : Nat) : Int) :: dS (n / 128)
 termination_by n
 decreasing_by omega
theorem enc_small {n : Nat} (h : n < 128) : dS n = [(n : Int)] := by rw [dS, dif_pos h]
theorem enc_big {n : Nat} (h : ¬ n < 128) : dS n = ((n % 128 + 128 : Nat) : Int) :: dS (n / 128) := by rw [dS, dif_neg h]
theorem enc_length_pos (n : Nat) : 0 < (dS n).length := by
  by_cases h : n < 128
  · simp [enc_small h]
  · simp [enc_big h]
theorem enc_length (n : Nat) : ∀ m, n < 128 ^ m → 0 < m → (dS n).length ≤ m := by
  induction n using Nat.strongRecOn with
  | _ n ih =>
    intro m hm h0
    by_cases h : n < 128
    · simp [enc_small h]; omega
    · obtain ⟨q, rfl⟩ : ∃ q, m = q + 1 := ⟨m - 1, by omega⟩
      rw [Nat.pow_succ] at hm
      have hq : 0 < q := by
        rcases Nat.eq_zero_or_pos q with rfl | hq
        · simp at hm; omega
        · exact hq
      have := ih (n / 128) (by omega) q (Nat.div_lt_of_lt_mul (by rw [Nat.mul_comm]; exact hm)) hq
      rw [enc_big h]
      simp
      omega
theorem eZ {n : Nat} (h : n ≤ 4611686018427387904) : (dS n).length ≤ 9 := enc_length n 9 (by omega) (by omega)
theorem put_L : ∀ (n : Nat) (acc : List Int), n ≤ 4611686018427387904 → acc.length + (dS n).length < 140737488355328 → bB.L0 acc (n : Int) = some (acc ++ dS n) := by
  intro n
  induction n using Nat.strongRecOn with
  | _ n ih =>
    intro acc hn hl
    have := enc_length_pos n
    rw [bB.iR]
    by_cases h : n < 128
    · rw [if_neg (by omega), if_pos (by omega), enc_small h, Int.emod_eq_of_lt (by omega) (by omega)]
    · rw [enc_big h] at hl ⊢
      simp only [List.length_cons] at hl
      rw [if_pos (by omega), if_pos (by omega)]
      have e1 : bits .or .u8 ((n : Int) % 256) 128 = ((n % 128 + 128 : Nat) : Int) := by
        by_cases hb : (n : Int) % 256 < 128
        · rw [u8_or128_right _ (by omega) hb]; omega
        · have e2 : (n : Int) % 256 = 128 + ((n % 128 : Nat) : Int) := by omega
          have hx : n % 256 < 256 := by omega
          have e3 := (bits_nat .u8 8 (by decide) wraps_u8 (n % 256) 128 (by omega) (by decide)).2
          rw [show ((n : Int) % 256) = ((n % 256 : Nat) : Int) by omega, show (128 : Int) = ((128 : Nat) : Int) from rfl, e3]
          have e4 : n % 256 ||| 128 = n % 256 := by
            have e5 : n % 256 = 2 ^ 7 * 1 + n % 128 := by omega
            rw [e5, Nat.two_pow_add_eq_or_of_lt (by omega) 1]
            apply Nat.eq_of_testBit_eq
            intro i
            simp only [Nat.testBit_or]
            cases Nat.testBit (2 ^ 7 * 1) i <;> cases Nat.testBit (n % 128) i <;> cases h : Nat.testBit 128 i <;> simp_all
          rw [e4]; omega
      rw [e1, show (n : Int) / 128 = ((n / 128 : Nat) : Int) by omega, ih (n / 128) (by omega) _ (by omega) (by simp; omega)]
      simp
theorem put_F (n : Nat) (acc : List Int) (hn : n ≤ 4611686018427387904) (hl : acc.length + (dS n).length < 140737488355328) : bB.F acc (n : Int) = some (acc ++ dS n) := by
  rw [bB.iD]; exact put_L n acc hn hl
theorem bits_or_comm (k : IntKind) (x y : Int) : bits .or k x y = bits .or k y x := by
  unfold bits
  simp only [BitVec.or_comm]
theorem wraps_i64 (n : Int) (h₀ : 0 ≤ n) (h₁ : n < 2 ^ 63) : IntKind.i64.wrap n = n := by rw [IntKind.wrap_i64]; omega
theorem wraps_u64 (n : Int) (h₀ : 0 ≤ n) (h₁ : n < 2 ^ 64) : IntKind.u64.wrap n = n := by
  simp [IntKind.wrap, IntKind.bits, IntKind.signed]
  omega
theorem and127 (c : Int) (h0 : 0 ≤ c) (h1 : c < 256) : bits .and .u8 c 127 = c % 128 := bits_mask .u8 8 (by decide) wraps_u8 7 (by decide) c h0 h1
theorem pow128 (i : Nat) : 128 ^ i = 2 ^ (7 * i) := by rw [Nat.pow_mul]
theorem pow128_le {i : Nat} (h : i ≤ 8) : 128 ^ i ≤ 72057594037927936 := Nat.le_trans (Nat.pow_le_pow_right (by decide) h) (by decide)
theorem shl_i64 (c : Int) (i : Nat) (hi : i ≤ 8) (h0 : 0 ≤ c) (h1 : c < 128) : shl .i64 c (7 * (i : Int)) = c * (128 ^ i : Nat) := by
  have hp := pow128_le hi
  have hp0 : 0 < 128 ^ i := Nat.pow_pos (by decide)
  unfold shl
  have e1 : min (7 * (i : Int)).toNat IntKind.i64.bits = 7 * i := by
    have : IntKind.i64.bits = 64 := rfl
    omega
  rw [e1]
  have e2 : ((2 : Int) ^ (7 * i)) = ((128 ^ i : Nat) : Int) := by rw [pow128]; simp
  rw [e2]
  obtain ⟨q, rfl⟩ := Int.eq_ofNat_of_zero_le h0
  have hq : q * 128 ^ i ≤ 127 * 72057594037927936 := Nat.mul_le_mul (by omega) hp
  exact wraps_i64 _ (by rw [← Int.natCast_mul]; exact Int.natCast_nonneg _) (by rw [← Int.natCast_mul]; omega)
theorem shl_u64 (c : Int) (i : Nat) (hi : i ≤ 8) (h0 : 0 ≤ c) (h1 : c < 128) : shl .u64 c (7 * (i : Int)) = c * (128 ^ i : Nat) := by
  have hp := pow128_le hi
  have hp0 : 0 < 128 ^ i := Nat.pow_pos (by decide)
  unfold shl
  have e1 : min (7 * (i : Int)).toNat IntKind.u64.bits = 7 * i := by
    have : IntKind.u64.bits = 64 := rfl
    omega
  rw [e1]
  have e2 : ((2 : Int) ^ (7 * i)) = ((128 ^ i : Nat) : Int) := by rw [pow128]; simp
  rw [e2]
  obtain ⟨q, rfl⟩ := Int.eq_ofNat_of_zero_le h0
  have hq : q * 128 ^ i ≤ 127 * 72057594037927936 := Nat.mul_le_mul (by omega) hp
  exact wraps_u64 _ (by rw [← Int.natCast_mul]; exact Int.natCast_nonneg _) (by rw [← Int.natCast_mul]; omega)
theorem or_shift (k : IntKind) (j : Nat) (hj : j ≤ k.bits) (hk : ∀ n : Int, 0 ≤ n → n < 2 ^ j → k.wrap n = n) (hj63 : 63 ≤ j) (n q i : Nat) (hi : i ≤ 8) (hn : n < 128 ^ i) (hq : q < 128) :
    bits .or k (n : Int) ((q : Int) * (128 ^ i : Nat)) = ((n + q * 128 ^ i : Nat) : Int) := by
  have hp := pow128_le hi
  have hb : q * 128 ^ i ≤ 127 * 72057594037927936 := Nat.mul_le_mul (by omega) hp
  have h63 : (2 : Int) ^ 63 ≤ 2 ^ j := by exact_mod_cast Nat.pow_le_pow_right (show 0 < 2 by decide) hj63
  rw [bits_or_comm, bits_join k j hj hk (7 * i) ((q : Int) * (128 ^ i : Nat)) (n : Int)]
  · rw [← Int.natCast_mul]; omega
  · rw [← Int.natCast_mul]; exact Int.natCast_nonneg _
  · rw [pow128]
    exact_mod_cast Nat.mul_mod_left q (2 ^ (7 * i))
  · rw [← Int.natCast_mul]
    have : ((q * 128 ^ i : Nat) : Int) < 2 ^ 63 := by omega
    omega
  · omega
  · rw [pow128] at hn
    exact_mod_cast hn
  · have : (n : Int) < 2 ^ 63 := by omega
    omega
/-- Which number the bytes from here on tell, n being what the i bytes ahead have told. -/
def tk : List Int → Nat → Nat → Int × Int × Int
  | [], _, _ => (0, 0, 7)
  | c :: r, n, i => if 128 ≤ c then (if i = 8 then (0, 0, 1) else tk r (n + (c.toNat - 128) * 128 ^ i) (i + 1))
    else if (c = 0 ∧ 0 < i) ∨ 4611686018427387904 < n + c.toNat * 128 ^ i then (0, 0, 1) else (((n + c.toNat * 128 ^ i : Nat) : Int), (i : Int) + 1, 0)
def dK (l : List Int) : Prop := ∀ x ∈ l, 0 ≤ x ∧ x < 256
theorem step_lt {n q i : Nat} (hn : n < 128 ^ i) (hq : q < 128) : n + q * 128 ^ i < 128 ^ (i + 1) := by
  rw [Nat.pow_succ]
  have : q * 128 ^ i ≤ 127 * 128 ^ i := Nat.mul_le_mul_right _ (by omega)
  omega
theorem takeNum_L (l : List Int) (hb : dK l) (hl : l.length < 4611686018427387904) : ∀ (d i n : Nat), i ≤ l.length → l.length - i = d → i ≤ 8 → n < 128 ^ i →
    aj.L0 l (n : Int) (i : Int) = some (tk (l.drop i) n i) := by
  intro d
  induction d with
  | zero =>
    intro i n hi hd h8 hn
    rw [aj.iR, if_pos (by omega), List.drop_of_length_le (by omega)]
    rfl
  | succ d ih =>
    intro i n hi hd h8 hn
    have hil : i < l.length := by omega
    obtain ⟨c0, c1⟩ := hb l[i] (List.getElem_mem hil)
    rw [aj.iR, if_neg (by omega), if_pos (by omega), if_pos (by omega), rd_nat l i hil, List.drop_eq_getElem_cons hil]
    have hs : wrap64 (7 * (i : Int)) = 7 * (i : Int) := w64_l (by omega) (by omega)
    have hm : wrap64 (bits .and .u8 l[i] 127) = ((l[i].toNat % 128 : Nat) : Int) := by rw [and127 _ c0 c1, w64_l (by omega) (by omega)]; omega
    have ho : bits .or .i64 (n : Int) (shl .i64 (wrap64 (bits .and .u8 l[i] 127)) (wrap64 (7 * (i : Int)))) = ((n + l[i].toNat % 128 * 128 ^ i : Nat) : Int) := by
      rw [hm, hs, shl_i64 _ i h8 (by omega) (by omega)]
      exact or_shift .i64 63 (by decide) wraps_i64 (by decide) n _ i h8 hn (by omega)
    have hi8 : ((i : Int) == 8) = decide (i = 8) := by
      by_cases h : i = 8
      · subst h; rfl
      · simp [h]; omega
    have hJ : ∀ b, b = false → aj.J1 l (n : Int) (i : Int) b = (if l[i] ≥ 128 then aj.L0 l ((n + l[i].toNat % 128 * 128 ^ i : Nat) : Int) ((i : Int) + 1) else
        some (if (l[i] = 0 ∧ 0 < i) ∨ 4611686018427387904 < n + l[i].toNat % 128 * 128 ^ i then (0, 0, 1) else (((n + l[i].toNat % 128 * 128 ^ i : Nat) : Int), (i : Int) + 1, 0))) := by
      rintro b rfl
      rw [aj.J1_eq, if_neg (by simp), if_pos (by omega), if_pos (by omega), if_pos (by rw [hs]; omega), rd_nat l i hil, ho, w64s (by omega) (by omega)]
      by_cases hc : l[i] ≥ 128
      · rw [if_pos hc, if_pos hc]
      · rw [if_neg hc, if_neg hc]
        by_cases hz : l[i] = 0
        · rw [if_pos hz]
          by_cases hi0 : (i : Int) > 0
          · rw [if_pos hi0, aj.J2_eq, if_pos rfl, if_pos (.inl ⟨hz, by omega⟩)]
          · rw [if_neg hi0, aj.J2_eq, w64s (by omega) (by omega)]
            by_cases hq : 4611686018427387904 < n + l[i].toNat % 128 * 128 ^ i
            · rw [if_pos (decide_eq_true (by omega)), if_pos (.inr hq)]
            · rw [if_neg (by rw [decide_eq_true_eq]; omega), if_neg (by omega)]
        · rw [if_neg hz, aj.J2_eq, w64s (by omega) (by omega)]
          by_cases hq : 4611686018427387904 < n + l[i].toNat % 128 * 128 ^ i
          · rw [if_pos (decide_eq_true (by omega)), if_pos (.inr hq)]
          · rw [if_neg (by rw [decide_eq_true_eq]; omega), if_neg (by omega)]
    unfold tk
    by_cases hc : l[i] ≥ 128
    · rw [if_pos hc, if_pos (show 128 ≤ l[i] from hc), hi8]
      by_cases h : i = 8
      · rw [if_pos h, aj.J1_eq, if_pos (by simp [h])]
      · rw [if_neg h, hJ _ (by simp [h]), if_pos hc, show ((i : Int) + 1) = ((i + 1 : Nat) : Int) from rfl, ih (i + 1) _ (by omega) (by omega) (by omega) (step_lt hn (by omega)),
          show l[i].toNat % 128 = l[i].toNat - 128 by omega]
    · rw [if_neg hc, if_neg (show ¬ 128 ≤ l[i] by omega), hJ _ rfl, if_neg hc, show l[i].toNat % 128 = l[i].toNat by omega]
theorem takeNum (l : List Int) (hb : dK l) (hl : l.length < 4611686018427387904) : aj.F l = some (tk l 0 0) := by
  rw [aj.iD]
  exact takeNum_L l hb hl l.length 0 0 (by omega) (by omega) (by omega) (by omega)
theorem refTakeNum_L (l : List Int) (hb : dK l) (hl : l.length < 4611686018427387904) : ∀ (d i n : Nat), i ≤ l.length → l.length - i = d → i ≤ 8 → n < 128 ^ i →
    ah.L0 l (n : Int) (i : Int) = some (tk (l.drop i) n i) := by
  intro d
  induction d with
  | zero =>
    intro i n hi hd h8 hn
    rw [ah.iR, if_pos (by omega), List.drop_of_length_le (by omega)]
    rfl
  | succ d ih =>
    intro i n hi hd h8 hn
    have hil : i < l.length := by omega
    obtain ⟨c0, c1⟩ := hb l[i] (List.getElem_mem hil)
    have hs : wrap64 (7 * (i : Int)) = 7 * (i : Int) := w64_l (by omega) (by omega)
    have hm : IntKind.u64.wrap (bits .and .u8 l[i] 127) = ((l[i].toNat % 128 : Nat) : Int) := by rw [and127 _ c0 c1, wraps_u64 _ (by omega) (by omega)]; omega
    have ho : bits .or .u64 (n : Int) (shl .u64 (IntKind.u64.wrap (bits .and .u8 l[i] 127)) (wrap64 (7 * (i : Int)))) = ((n + l[i].toNat % 128 * 128 ^ i : Nat) : Int) := by
      rw [hm, hs, shl_u64 _ i h8 (by omega) (by omega)]
      exact or_shift .u64 64 (by decide) wraps_u64 (by decide) n _ i h8 hn (by omega)
    rw [ah.iR, if_neg (by omega), if_pos (by omega), if_pos (by omega), if_pos (by rw [hs]; omega), rd_nat l i hil, List.drop_eq_getElem_cons hil, ho, w64s (by omega) (by omega)]
    have hlt := step_lt (q := l[i].toNat % 128) hn (by omega)
    have hp := pow128_le h8
    rw [Nat.pow_succ] at hlt
    have hJ : ∀ b : Bool, ah.J1 ((n + l[i].toNat % 128 * 128 ^ i : Nat) : Int) (i : Int) b = some (if b = true then (0, 0, 1) else (((n + l[i].toNat % 128 * 128 ^ i : Nat) : Int), (i : Int) + 1, 0)) := by
      intro b
      rw [ah.J1_eq]
      by_cases h : b = true
      · rw [if_pos h, if_pos h]
      · rw [if_neg h, if_neg h, w64s (by omega) (by omega), w64_l (by omega) (by omega)]
    unfold tk
    by_cases hc : l[i] ≥ 128
    · rw [if_pos hc, if_pos (show 128 ≤ l[i] from hc)]
      by_cases h : i = 8
      · rw [if_pos h, if_pos (by omega)]
      · rw [if_neg h, if_neg (by omega), show ((i : Int) + 1) = ((i + 1 : Nat) : Int) from rfl, ih (i + 1) _ (by omega) (by omega) (by omega) (step_lt hn (by omega)),
          show l[i].toNat % 128 = l[i].toNat - 128 by omega]
    · rw [if_neg hc, if_neg (show ¬ 128 ≤ l[i] by omega)]
      have e128 : l[i].toNat % 128 = l[i].toNat := by omega
      simp only [hJ]
      rw [e128]
      by_cases hz : l[i] = 0
      · rw [if_pos hz]
        by_cases hi0 : (i : Int) > 0
        · rw [if_pos hi0, if_pos trivial, if_pos (.inl ⟨hz, by omega⟩)]
        · rw [if_neg hi0]
          by_cases hq : 4611686018427387904 < n + l[i].toNat * 128 ^ i
          · rw [if_pos (by rw [decide_eq_true_eq]; omega), if_pos (.inr hq)]
          · rw [if_neg (by rw [decide_eq_true_eq]; omega), if_neg (by omega)]
      · rw [if_neg hz]
        by_cases hq : 4611686018427387904 < n + l[i].toNat * 128 ^ i
        · rw [if_pos (by rw [decide_eq_true_eq]; omega), if_pos (.inr hq)]
        · rw [if_neg (by rw [decide_eq_true_eq]; omega), if_neg (by omega)]
theorem refTakeNum (l : List Int) (hb : dK l) (hl : l.length < 4611686018427387904) : ah.F l = some (tk l 0 0) := by
  rw [ah.iD]
  exact refTakeNum_L l hb hl l.length 0 0 (by omega) (by omega) (by omega) (by omega)
theorem dK.drop {l : List Int} (h : dK l) (i : Nat) : dK (l.drop i) := fun x hx => h x (List.mem_of_mem_drop hx)
theorem dK.take {l : List Int} (h : dK l) (i : Nat) : dK (l.take i) := fun x hx => h x (List.mem_of_mem_take hx)
theorem dK.append {l m : List Int} (h : dK l) (k : dK m) : dK (l ++ m) := fun x hx => (List.mem_append.1 hx).elim (h x) (k x)
theorem dK.of_wf {l : List Int} (h : ∀ a ∈ l, (Lit.int .u8 a).wf = true) : dK l := fun x hx => by
  have := h x hx
  simp [Lit.wf, IntKind.min, IntKind.max, IntKind.signed, IntKind.bits] at this
  omega
theorem tk_ok : ∀ (l : List Int) (n i : Nat), (tk l n i).2.2 = 0 → 0 ≤ (tk l n i).1 ∧ (tk l n i).1 ≤ 4611686018427387904 ∧ (i : Int) + 1 ≤ (tk l n i).2.1 ∧ (tk l n i).2.1 ≤ i + l.length
  | [], n, i, h => by simp [tk] at h
  | c :: r, n, i, h => by
    unfold tk at h ⊢
    by_cases h1 : 128 ≤ c
    · rw [if_pos h1] at h ⊢
      by_cases h2 : i = 8
      · rw [if_pos h2] at h
        simp at h
      · rw [if_neg h2] at h ⊢
        have := tk_ok r _ _ h
        simp only [List.length_cons]
        exact ⟨this.1, this.2.1, by omega, by omega⟩
    · rw [if_neg h1] at h ⊢
      by_cases h2 : (c = 0 ∧ 0 < i) ∨ 4611686018427387904 < n + c.toNat * 128 ^ i
      · rw [if_pos h2] at h
        simp at h
      · rw [if_neg h2]
        have h3 : ¬ 4611686018427387904 < n + c.toNat * 128 ^ i := fun h => h2 (.inr h)
        simp only [List.length_cons]
        omega
def gm (l : List Int) : ByteArray × Int × Int :=
  if (tk l 0 0).2.2 = 0 then (if (tk l 0 0).1 > 65536 then ((⟨#[]⟩ : ByteArray), 0, 1) else (if (tk l 0 0).1 > (l.length : Int) - (tk l 0 0).2.1 then ((⟨#[]⟩ : ByteArray), 0, 7) else
    (strOfNums ((l.take ((tk l 0 0).2.1 + (tk l 0 0).1).toNat).drop (tk l 0 0).2.1.toNat), (tk l 0 0).2.1 + (tk l 0 0).1, 0))) else ((⟨#[]⟩ : ByteArray), 0, (tk l 0 0).2.2)
theorem takeText (l : List Int) (hb : dK l) (hl : l.length < 4611686018427387904) : bV.F l = some (gm l) := by
  rw [bV.iD, takeNum l hb hl, Option.bind_some]
  unfold gm
  by_cases h : (tk l 0 0).2.2 = 0
  · obtain ⟨h1, h2, h3, h4⟩ := tk_ok l 0 0 h
    rw [if_pos h, if_pos h]
    by_cases hm : (tk l 0 0).1 > 65536
    · rw [if_pos hm, if_pos hm]
    · rw [if_neg hm, if_neg hm, w64_l (x := (l.length : Int) - (tk l 0 0).2.1) (by omega) (by omega)]
      by_cases hc : (tk l 0 0).1 > (l.length : Int) - (tk l 0 0).2.1
      · rw [if_pos hc, if_pos hc]
      · rw [if_neg hc, if_neg hc, w64_l (by omega) (by omega), if_pos (by omega), if_pos (by omega), if_pos (by omega)]
  · rw [if_neg h, if_neg h]
theorem refTakeText (l : List Int) (hb : dK l) (hl : l.length < 4611686018427387904) : bi.F l = some (gm l) := by
  rw [bi.iD, refTakeNum l hb hl, Option.bind_some]
  unfold gm
  by_cases h : (tk l 0 0).2.2 = 0
  · obtain ⟨h1, h2, h3, h4⟩ := tk_ok l 0 0 h
    rw [if_pos h, if_pos h]
    by_cases hm : (tk l 0 0).1 > 65536
    · rw [if_pos hm, if_pos hm]
    · rw [if_neg hm, if_neg hm, w64_l (x := (l.length : Int) - (tk l 0 0).2.1) (by omega) (by omega)]
      by_cases hc : (tk l 0 0).1 > (l.length : Int) - (tk l 0 0).2.1
      · rw [if_pos hc, if_pos hc]
      · rw [if_neg hc, if_neg hc, w64_l (by omega) (by omega), if_pos (by omega), if_pos (by omega), if_pos (by omega)]
  · rw [if_neg h, if_neg h]
def tkNs (l : List Int) : Nat → Int → List Int → List Int × Int × Int
  | 0, k, acc => (acc, k, 0)
  | m + 1, k, acc => if (tk (l.drop k.toNat) 0 0).2.2 = 0 then tkNs l m (k + (tk (l.drop k.toNat) 0 0).2.1) (acc ++ [(tk (l.drop k.toNat) 0 0).1]) else ([], 0, (tk (l.drop k.toNat) 0 0).2.2)
def iV (l : List Int) : List Int × Int × Int :=
  if (tk l 0 0).2.2 = 0 then (if (tk l 0 0).1 > 1024 then ([], 0, 1) else tkNs l (tk l 0 0).1.toNat (tk l 0 0).2.1 []) else ([], 0, (tk l 0 0).2.2)
theorem takeNums_L (l : List Int) (hb : dK l) (hl : l.length < 4611686018427387904) (many : Nat) (hm : many ≤ 1024) : ∀ (d j : Nat) (k : Int) (acc : List Int), j ≤ many → many - j = d → 0 ≤ k → k ≤ l.length → acc.length + d < 17592186044416 →
    bn.L0 l acc k many j = some (tkNs l d k acc) := by
  intro d
  induction d with
  | zero =>
    intro j k acc hj hd h0 h1 ha
    rw [bn.iR, if_neg (by omega)]
    rfl
  | succ d ih =>
    intro j k acc hj hd h0 h1 ha
    have hdl : (l.drop k.toNat).length < 4611686018427387904 := by rw [List.length_drop]; omega
    rw [bn.iR, if_pos (by omega), if_pos h0, if_pos h1, takeNum _ (hb.drop _) hdl, Option.bind_some, tkNs]
    by_cases h : (tk (l.drop k.toNat) 0 0).2.2 = 0
    · obtain ⟨a1, a2, a3, a4⟩ := tk_ok _ 0 0 h
      rw [List.length_drop] at a4
      rw [if_pos h, if_pos h, if_pos (by omega), w64_l (by omega) (by omega), w64s (by omega) (by omega)]
      exact ih (j + 1) _ _ (by omega) (by omega) (by omega) (by omega) (by simp; omega)
    · rw [if_neg h, if_neg h]
theorem takeNums (l : List Int) (hb : dK l) (hl : l.length < 4611686018427387904) : bn.F l = some (iV l) := by
  rw [bn.iD, takeNum l hb hl, Option.bind_some]
  unfold iV
  by_cases h : (tk l 0 0).2.2 = 0
  · obtain ⟨h1, h2, h3, h4⟩ := tk_ok l 0 0 h
    rw [if_pos h, if_pos h]
    by_cases hm : (tk l 0 0).1 > 1024
    · rw [if_pos hm, if_pos hm]
    · rw [if_neg hm, if_neg hm]
      have e : (tk l 0 0).1 = (((tk l 0 0).1.toNat : Nat) : Int) := by omega
      have := takeNums_L l hb hl (tk l 0 0).1.toNat (by omega) (tk l 0 0).1.toNat 0 (tk l 0 0).2.1 [] (by omega) (by omega) (by omega) (by omega) (by simp; omega)
      rw [← e] at this
      exact this
  · rw [if_neg h, if_neg h]
theorem refTakeNums_L (l : List Int) (hb : dK l) (hl : l.length < 4611686018427387904) (many : Nat) (hm : many ≤ 1024) : ∀ (d j : Nat) (k : Int) (acc : List Int), j ≤ many → many - j = d → 0 ≤ k → k ≤ l.length → acc.length + d < 17592186044416 →
    aN.L0 l many k acc j = some (tkNs l d k acc) := by
  intro d
  induction d with
  | zero =>
    intro j k acc hj hd h0 h1 ha
    rw [aN.iR, if_neg (by omega)]
    rfl
  | succ d ih =>
    intro j k acc hj hd h0 h1 ha
    have hdl : (l.drop k.toNat).length < 4611686018427387904 := by rw [List.length_drop]; omega
    rw [aN.iR, if_pos (by omega), if_pos h0, if_pos h1, refTakeNum _ (hb.drop _) hdl, Option.bind_some, tkNs]
    by_cases h : (tk (l.drop k.toNat) 0 0).2.2 = 0
    · obtain ⟨a1, a2, a3, a4⟩ := tk_ok _ 0 0 h
      rw [List.length_drop] at a4
      rw [if_pos h, if_pos h, if_pos (by omega), w64_l (by omega) (by omega), w64s (by omega) (by omega)]
      exact ih (j + 1) _ _ (by omega) (by omega) (by omega) (by omega) (by simp; omega)
    · rw [if_neg h, if_neg h]
theorem refTakeNums (l : List Int) (hb : dK l) (hl : l.length < 4611686018427387904) : aN.F l = some (iV l) := by
  rw [aN.iD, refTakeNum l hb hl, Option.bind_some]
  unfold iV
  by_cases h : (tk l 0 0).2.2 = 0
  · obtain ⟨h1, h2, h3, h4⟩ := tk_ok l 0 0 h
    rw [if_pos h, if_pos h]
    by_cases hm : (tk l 0 0).1 > 1024
    · rw [if_pos hm, if_pos hm]
    · rw [if_neg hm, if_neg hm]
      have e : (tk l 0 0).1 = (((tk l 0 0).1.toNat : Nat) : Int) := by omega
      have := refTakeNums_L l hb hl (tk l 0 0).1.toNat (by omega) (tk l 0 0).1.toNat 0 (tk l 0 0).2.1 [] (by omega) (by omega) (by omega) (by omega) (by simp; omega)
      rw [← e] at this
      exact this
  · rw [if_neg h, if_neg h]
theorem tkNs_length (l : List Int) : ∀ (m : Nat) (k : Int) (acc : List Int), (tkNs l m k acc).1.length ≤ m + acc.length
  | 0, k, acc => by simp [tkNs]
  | m + 1, k, acc => by
    unfold tkNs
    split
    · have := tkNs_length l m (k + (tk (l.drop k.toNat) 0 0).2.1) (acc ++ [(tk (l.drop k.toNat) 0 0).1])
      simp at this
      omega
    · simp
theorem tkNums_length (l : List Int) : (iV l).1.length ≤ 1024 := by
  unfold iV
  split
  · split
    · simp
    · have := tkNs_length l (tk l 0 0).1.toNat (tk l 0 0).2.1 []
      simp at this
      omega
  · simp
theorem numbers_L : ∀ (d i : Nat) (l : List Int), l.length < 17592186044416 → i ≤ l.length → l.length - i = d → aV.L0 l (i : Int) = some () := by
  intro d
  induction d with
  | zero =>
    intro i l hl hi hd
    rw [aV.iR, if_neg (by omega), if_pos hl]
  | succ d ih =>
    intro i l hl hi hd
    rw [aV.iR, if_pos (by omega), if_pos (by omega), w64s (by omega) (by omega)]
    exact ih (i + 1) _ (by simpa using hl) (by simp; omega) (by simp; omega)
theorem numbersOver (l : List Int) (hl : l.length < 17592186044416) : aV.F l = some () := by
  rw [aV.iD]
  exact numbers_L l.length 0 l hl (by omega) (by omega)
theorem enc_bytes : ∀ n, dK (dS n) := by
  intro n
  induction n using Nat.strongRecOn with
  | _ n ih =>
    by_cases h : n < 128
    · rw [enc_small h]
      intro x hx
      simp at hx
      omega
    · rw [enc_big h]
      intro x hx
      rcases List.mem_cons.1 hx with h1 | h1
      · omega
      · exact ih (n / 128) (by omega) x h1
/-- What is written is taken, whatever stands behind it. -/
theorem tk_enc : ∀ (m n i : Nat) (rest : List Int), n + m * 128 ^ i ≤ 4611686018427387904 → i + (dS m).length ≤ 9 → (0 < i → 0 < m) →
    tk (dS m ++ rest) n i = (((n + m * 128 ^ i : Nat) : Int), ((i + (dS m).length : Nat) : Int), 0) := by
  intro m
  induction m using Nat.strongRecOn with
  | _ m ih =>
    intro n i rest h1 h2 h3
    by_cases h : m < 128
    · rw [enc_small h, List.cons_append, List.nil_append]
      unfold tk
      rw [if_neg (by omega), Int.toNat_natCast, if_neg (by
        intro hh
        rcases hh with ⟨a, b⟩ | a
        · have := h3 b
          omega
        · omega)]
      simp
    · rw [enc_big h] at h2 ⊢
      have hl := enc_length_pos (m / 128)
      simp only [List.length_cons] at h2
      rw [List.cons_append]
      unfold tk
      have e : ((m % 128 + 128 : Nat) : Int).toNat - 128 = m % 128 := by omega
      have e2 : n + m % 128 * 128 ^ i + m / 128 * 128 ^ (i + 1) = n + m * 128 ^ i := by
        have e3 : m * 128 ^ i = (128 * (m / 128) + m % 128) * 128 ^ i := by rw [Nat.div_add_mod]
        rw [e3, Nat.pow_succ, Nat.add_mul, Nat.mul_comm (128 ^ i) 128, ← Nat.mul_assoc, Nat.mul_comm (m / 128) 128]
        omega
      rw [if_pos (by omega), if_neg (by omega), e, ih (m / 128) (by omega) _ _ rest (by rw [e2]; exact h1) (by omega) (by omega), e2]
      simp only [List.length_cons]
      have e4 : i + 1 + (dS (m / 128)).length = i + ((dS (m / 128)).length + 1) := by omega
      rw [e4]
theorem tk_put (m : Nat) (rest : List Int) (h : m ≤ 4611686018427387904) : tk (dS m ++ rest) 0 0 = ((m : Int), ((dS m).length : Int), 0) := by
  have := tk_enc m 0 0 rest (by omega) (by have := eZ h; omega) (by omega)
  simpa using this
/-- Cut off anywhere it is cut off. -/
theorem tk_cut : ∀ (m n i j : Nat), i + (dS m).length ≤ 9 → j < (dS m).length → tk ((dS m).take j) n i = (0, 0, 7) := by
  intro m
  induction m using Nat.strongRecOn with
  | _ m ih =>
    intro n i j h2 hj
    by_cases h : m < 128
    · rw [enc_small h] at hj ⊢
      have : j = 0 := by simp at hj; omega
      subst this
      rfl
    · rw [enc_big h] at h2 hj ⊢
      have hl := enc_length_pos (m / 128)
      simp only [List.length_cons] at h2 hj
      match j with
      | 0 => rfl
      | j + 1 =>
        rw [List.take_succ_cons]
        unfold tk
        rw [if_pos (by omega), if_neg (by omega)]
        exact ih (m / 128) (by omega) _ _ j (by omega) (by omega)
/-- What is taken was written so. -/
theorem tk_back : ∀ (l : List Int) (n i : Nat), dK l → (tk l n i).2.2 = 0 → ∃ m : Nat, (tk l n i).1 = ((n + m * 128 ^ i : Nat) : Int) ∧ (tk l n i).2.1 = ((i + (dS m).length : Nat) : Int) ∧ l.take (dS m).length = dS m ∧ (0 < i → 0 < m)
  | [], n, i, _, h => by simp [tk] at h
  | c :: r, n, i, hb, h => by
    have hc := hb c List.mem_cons_self
    have hr : dK r := fun x hx => hb x (List.mem_cons_of_mem _ hx)
    unfold tk at h ⊢
    by_cases h1 : 128 ≤ c
    · rw [if_pos h1] at h ⊢
      by_cases h2 : i = 8
      · rw [if_pos h2] at h
        simp at h
      · rw [if_neg h2] at h ⊢
        obtain ⟨m, e1, e2, e3, e4⟩ := tk_back r _ _ hr h
        have hm := e4 (by omega)
        have hbig : ¬ c.toNat - 128 + 128 * m < 128 := by omega
        have ed : (c.toNat - 128 + 128 * m) / 128 = m := by omega
        have em : (c.toNat - 128 + 128 * m) % 128 = c.toNat - 128 := by omega
        refine ⟨c.toNat - 128 + 128 * m, ?_, ?_, ?_, by omega⟩
        · rw [e1, Nat.pow_succ, Nat.add_mul, Nat.mul_comm (128 ^ i) 128, ← Nat.mul_assoc, Nat.mul_comm m 128]
          congr 1
          omega
        · rw [e2, enc_big hbig, ed]
          simp only [List.length_cons]
          congr 1
          omega
        · rw [enc_big hbig, ed, em, List.length_cons, List.take_succ_cons, e3]
          congr 1
          omega
    · rw [if_neg h1] at h ⊢
      by_cases h2 : (c = 0 ∧ 0 < i) ∨ 4611686018427387904 < n + c.toNat * 128 ^ i
      · rw [if_pos h2] at h
        simp at h
      · rw [if_neg h2]
        refine ⟨c.toNat, rfl, ?_, ?_, fun hi => ?_⟩
        · rw [enc_small (by omega)]
          simp
        · rw [enc_small (by omega)]
          simp
          omega
        · have h3 : ¬ (c = 0 ∧ 0 < i) := fun h => h2 (.inl h)
          omega
def iC (t r : Int) : Bool := decide (1 ≤ t ∧ t ≤ 1099511627776 ∧ 0 ≤ r ∧ r < 16)
def gY (t r : Int) : Bool := iC t r || (t == 0 && r == 0) || (t == 0 && r == 1)
theorem stampIs (t r : Int) : fZ.f t r = some (iC t r) := by
  unfold fZ.f iC
  split
  · split
    · split
      · exact congrArg some (decide_eq_decide.2 (by omega))
      · exact congrArg some (decide_eq_false (by omega)).symm
    · exact congrArg some (decide_eq_false (by omega)).symm
  · exact congrArg some (decide_eq_false (by omega)).symm
theorem refNum (a m : Int) : fM.f a m = some (decide (0 ≤ a ∧ a ≤ m)) := by
  unfold fM.f
  split
  · exact congrArg some (decide_eq_decide.2 (by omega))
  · exact congrArg some (decide_eq_false (by omega)).symm
theorem refStamp (t r : Int) : bY.f t r = some (iC t r) := by
  unfold bY.f iC
  rw [refNum]
  split
  · split
    · exact congrArg some (decide_eq_decide.2 (by omega))
    · exact congrArg some (decide_eq_false (by omega)).symm
  · exact congrArg some (decide_eq_false (by omega)).symm
theorem stampPlace (t r : Int) : dV.f t r = some (gY t r) := by
  unfold dV.f gY
  rw [stampIs]
  simp only [Option.bind_some, gH.f, jo.f]
  cases iC t r <;> simp
  split <;> simp_all
theorem refPlace (t r : Int) : bS.f t r = some (gY t r) := by
  unfold bS.f gY
  rw [refStamp]
  simp only [Option.bind_some, ik.f, gL.f]
  cases iC t r <;> simp
  split <;> simp_all
theorem iW {t r : Int} (h : gY t r = true) : 0 ≤ t ∧ t ≤ 1099511627776 ∧ 0 ≤ r ∧ r < 16 := by
  unfold gY iC at h
  simp at h
  omega
def ic (t r : Int) : List Int := dS t.toNat ++ dS r.toNat
theorem iH {t r : Int} (h : gY t r = true) : (ic t r).length ≤ 18 := by
  have := iW h
  have h1 := eZ (n := t.toNat) (by omega)
  have h2 := eZ (n := r.toNat) (by omega)
  unfold ic
  rw [List.length_append]
  omega
theorem stampEnc_bytes (t r : Int) : dK (ic t r) := (enc_bytes _).append (enc_bytes _)
theorem stampPut (acc : List Int) {t r : Int} (ht : 0 ≤ t ∧ t ≤ 4611686018427387904) (hr : 0 ≤ r ∧ r ≤ 4611686018427387904) (ha : acc.length < 140737488355000) : dJ.F acc t r = some (acc ++ ic t r) := by
  have h1 := eZ (n := t.toNat) (by omega)
  have h2 := eZ (n := r.toNat) (by omega)
  have e1 : t = (t.toNat : Int) := by omega
  have e2 : r = (r.toNat : Int) := by omega
  rw [dJ.iD, e1, e2, put_F _ _ (by omega) (by omega), Option.bind_some, put_F _ _ (by omega) (by rw [List.length_append]; omega), Option.bind_some, List.append_assoc]
  rfl
def iJ (l : List Int) : Int × Int × Int × Int :=
  if (tk l 0 0).2.2 = 0 then (if (tk (l.drop (tk l 0 0).2.1.toNat) 0 0).2.2 = 0 then
    (if gY (tk l 0 0).1 (tk (l.drop (tk l 0 0).2.1.toNat) 0 0).1 = true then ((tk l 0 0).1, (tk (l.drop (tk l 0 0).2.1.toNat) 0 0).1, (tk l 0 0).2.1 + (tk (l.drop (tk l 0 0).2.1.toNat) 0 0).2.1, 0) else (0, 0, 0, 1))
    else (0, 0, 0, (tk (l.drop (tk l 0 0).2.1.toNat) 0 0).2.2)) else (0, 0, 0, (tk l 0 0).2.2)
theorem stampTake (l : List Int) (hb : dK l) (hl : l.length < 4611686018427387904) : eP.F l = some (iJ l) := by
  rw [eP.iD, takeNum l hb hl, Option.bind_some]
  unfold iJ
  by_cases h : (tk l 0 0).2.2 = 0
  · obtain ⟨h1, h2, h3, h4⟩ := tk_ok l 0 0 h
    rw [if_pos h, if_pos h, if_pos (by omega), if_pos (by omega), takeNum _ (hb.drop _) (by rw [List.length_drop]; omega), Option.bind_some]
    by_cases h' : (tk (l.drop (tk l 0 0).2.1.toNat) 0 0).2.2 = 0
    · obtain ⟨g1, g2, g3, g4⟩ := tk_ok _ 0 0 h'
      rw [List.length_drop] at g4
      rw [if_pos h', if_pos h', stampPlace, Option.bind_some, w64_l (by omega) (by omega)]
      by_cases hp : gY (tk l 0 0).1 (tk (l.drop (tk l 0 0).2.1.toNat) 0 0).1 = true
      · rw [if_pos hp, if_pos hp]
      · rw [if_neg hp, if_neg hp]
    · rw [if_neg h', if_neg h']
  · rw [if_neg h, if_neg h]
theorem refTake (l : List Int) (hb : dK l) (hl : l.length < 4611686018427387904) : cZ.F l = some (iJ l) := by
  rw [cZ.iD, refTakeNum l hb hl, Option.bind_some]
  unfold iJ
  by_cases h : (tk l 0 0).2.2 = 0
  · obtain ⟨h1, h2, h3, h4⟩ := tk_ok l 0 0 h
    rw [if_pos h, if_pos h, if_pos (by omega), if_pos (by omega), refTakeNum _ (hb.drop _) (by rw [List.length_drop]; omega), Option.bind_some]
    by_cases h' : (tk (l.drop (tk l 0 0).2.1.toNat) 0 0).2.2 = 0
    · obtain ⟨g1, g2, g3, g4⟩ := tk_ok _ 0 0 h'
      rw [List.length_drop] at g4
      rw [if_pos h', if_pos h', refPlace, Option.bind_some, w64_l (by omega) (by omega)]
      by_cases hp : gY (tk l 0 0).1 (tk (l.drop (tk l 0 0).2.1.toNat) 0 0).1 = true
      · rw [if_pos hp, if_pos hp]
      · rw [if_neg hp, if_neg hp]
    · rw [if_neg h', if_neg h']
  · rw [if_neg h, if_neg h]
theorem tkStamp_put {t r : Int} (h : gY t r = true) (rest : List Int) : iJ (ic t r ++ rest) = (t, r, ((ic t r).length : Int), 0) := by
  have hr := iW h
  have e1 : ((t.toNat : Nat) : Int) = t := by omega
  have e2 : ((r.toNat : Nat) : Int) = r := by omega
  unfold iJ ic
  rw [List.append_assoc, tk_put t.toNat _ (by omega)]
  simp only [Int.toNat_natCast, List.drop_left]
  rw [tk_put r.toNat _ (by omega)]
  simp only [if_true, e1, e2, h, List.length_append]
  simp
def encs : List Int → List Int
  | [] => []
  | x :: r => dS x.toNat ++ encs r
def iT (x : Int) : Prop := 0 ≤ x ∧ x ≤ 4611686018427387904
def encN (l : List Int) : List Int := dS l.length ++ encs l
theorem encs_bytes : ∀ l, dK (encs l)
  | [] => fun _ h => nomatch h
  | x :: r => (enc_bytes _).append (encs_bytes r)
theorem encN_bytes (l : List Int) : dK (encN l) := (enc_bytes _).append (encs_bytes l)
theorem encs_length : ∀ l : List Int, (∀ x ∈ l, iT x) → (encs l).length ≤ 9 * l.length
  | [], _ => by simp [encs]
  | x :: r, h => by
    have h1 := encs_length r (fun y hy => h y (List.mem_cons_of_mem _ hy))
    have hx := h x List.mem_cons_self
    unfold iT at hx
    have h2 := eZ (n := x.toNat) (by omega)
    unfold encs
    rw [List.length_append, List.length_cons]
    omega
theorem encN_length (l : List Int) (hl : l.length ≤ 1024) (h : ∀ x ∈ l, iT x) : (encN l).length ≤ 9225 := by
  have h1 := encs_length l h
  have h2 := eZ (n := l.length) (by omega)
  unfold encN
  rw [List.length_append]
  omega
theorem putAll_L (l : List Int) (hl : l.length ≤ 1024) (h : ∀ x ∈ l, iT x) : ∀ (d i : Nat) (acc : List Int), i ≤ l.length → l.length - i = d → acc.length + 9 * d < 140737488355328 →
    bD.L0 acc l (l.length : Int) (i : Int) = some (acc ++ encs (l.drop i)) := by
  intro d
  induction d with
  | zero =>
    intro i acc hi hd ha
    rw [bD.iR, if_neg (by omega), List.drop_of_length_le (by omega)]
    simp [encs]
  | succ d ih =>
    intro i acc hi hd ha
    have hil : i < l.length := by omega
    have hx := h l[i] (List.getElem_mem hil)
    unfold iT at hx
    have h9 := eZ (n := l[i].toNat) (by omega)
    have e : l[i] = (l[i].toNat : Int) := by omega
    rw [bD.iR, if_pos (by omega), if_pos (by omega), if_pos (by omega), rd_nat l i hil, List.drop_eq_getElem_cons hil]
    show (bB.F acc l[i]).bind _ = some (acc ++ (dS l[i].toNat ++ encs (l.drop (i + 1))))
    rw [e, put_F _ _ (by omega) (by omega), Option.bind_some, w64s (by omega) (by omega), ← List.append_assoc, Int.toNat_natCast]
    exact ih (i + 1) _ (by omega) (by omega) (by rw [List.length_append]; omega)
theorem tkNs_put : ∀ (r : List Int) (L pre rest acc : List Int), L = pre ++ (encs r ++ rest) → (∀ x ∈ r, iT x) → tkNs L r.length (pre.length : Int) acc = (acc ++ r, ((pre.length + (encs r).length : Nat) : Int), 0)
  | [], L, pre, rest, acc, _, _ => by simp [tkNs, encs]
  | x :: r, L, pre, rest, acc, e, h => by
    have hx := h x List.mem_cons_self
    unfold iT at hx
    have e1 : L.drop ((pre.length : Int)).toNat = dS x.toNat ++ (encs r ++ rest) := by
      rw [e, Int.toNat_natCast, List.drop_left]
      show dS x.toNat ++ encs r ++ rest = _
      rw [List.append_assoc]
    have e2 : L = (pre ++ dS x.toNat) ++ (encs r ++ rest) := by
      rw [e]
      show pre ++ (dS x.toNat ++ encs r ++ rest) = _
      simp only [List.append_assoc]
    have e3 : ((x.toNat : Nat) : Int) = x := by omega
    have ih := tkNs_put r L (pre ++ dS x.toNat) rest (acc ++ [x]) e2 (fun y hy => h y (List.mem_cons_of_mem _ hy))
    rw [List.length_cons]
    unfold tkNs
    rw [e1, tk_put x.toNat _ (by omega)]
    simp only [if_true, e3]
    rw [List.length_append] at ih
    rw [← Int.natCast_add, ih]
    simp only [List.append_assoc, List.cons_append, List.nil_append]
    congr 2
    show _ = ((pre.length + (dS x.toNat ++ encs r).length : Nat) : Int)
    rw [List.length_append]
    omega
theorem tkNums_put (l rest : List Int) (hl : l.length ≤ 1024) (h : ∀ x ∈ l, iT x) : iV (encN l ++ rest) = (l, ((encN l).length : Int), 0) := by
  have e : encN l ++ rest = dS l.length ++ (encs l ++ rest) := by unfold encN; rw [List.append_assoc]
  have := tkNs_put l (encN l ++ rest) (dS l.length) rest [] e h
  unfold iV
  rw [e] at this ⊢
  rw [tk_put l.length _ (by omega)]
  simp only [if_true, Int.toNat_natCast]
  rw [if_neg (by omega), this]
  unfold encN
  simp [List.length_append]
theorem str_back (s : ByteArray) : strOfNums (bytesOf s) = s := by
  unfold strOfNums bytesOf
  rw [List.map_map]
  have e : ((fun n : Int => UInt8.ofNat n.toNat) ∘ fun b : UInt8 => (b.toNat : Int)) = id := by
    funext b
    simp
  first
    | (rw [e, List.map_id]; done)
    | (simp [e]; done)
    | (simp [Function.comp_def]; done)
theorem bytesOf_bytes (s : ByteArray) : dK (bytesOf s) := by
  intro x hx
  unfold bytesOf at hx
  obtain ⟨b, _, rfl⟩ := List.mem_map.1 hx
  have := b.toNat_lt
  omega
def encT (s : ByteArray) : List Int := dS s.size ++ bytesOf s
theorem encT_bytes (s : ByteArray) : dK (encT s) := (enc_bytes _).append (bytesOf_bytes s)
theorem encT_length (s : ByteArray) (h : s.size ≤ 65536) : (encT s).length ≤ 65545 := by
  have h2 := eZ (n := s.size) (by omega)
  unfold encT
  rw [List.length_append, bytesOf_length]
  omega
theorem tkText_put (s : ByteArray) (rest : List Int) (h : s.size ≤ 65536) : gm (encT s ++ rest) = (s, ((encT s).length : Int), 0) := by
  have e : encT s ++ rest = dS s.size ++ (bytesOf s ++ rest) := by unfold encT; rw [List.append_assoc]
  have hb := bytesOf_length s
  unfold gm
  rw [e, tk_put s.size _ (by omega)]
  simp only [if_true]
  rw [if_neg (by omega), if_neg (by simp only [List.length_append]; omega)]
  have e1 : ((dS s.size).length : Int) + (s.size : Int) = (((dS s.size).length + s.size : Nat) : Int) := by omega
  have e2 : (List.take ((dS s.size).length + s.size) (dS s.size ++ (bytesOf s ++ rest))).drop (dS s.size).length = bytesOf s := by
    rw [List.take_length_add_append, List.drop_left, ← hb, List.take_left]
  rw [e1, Int.toNat_natCast, Int.toNat_natCast, e2, str_back]
  unfold encT
  rw [List.length_append, hb]
theorem tkText_cut (s : ByteArray) (j : Nat) (h : s.size ≤ 65536) (hj : j < (encT s).length) : (gm ((encT s).take j)).2.2 = 7 := by
  have h9 := eZ (n := s.size) (by omega)
  have hb := bytesOf_length s
  unfold gm
  by_cases hc : j < (dS s.size).length
  · have e : (encT s).take j = (dS s.size).take j := by
      unfold encT
      rw [List.take_append_of_le_length (by omega)]
    rw [e, tk_cut s.size 0 0 j (by omega) hc]
    simp
  · have e : (encT s).take j = dS s.size ++ (bytesOf s).take (j - (dS s.size).length) := by
      unfold encT
      rw [List.take_append, List.take_of_length_le (by omega)]
    have hl : (encT s).length = (dS s.size).length + s.size := by unfold encT; rw [List.length_append, hb]
    rw [e, tk_put s.size _ (by omega)]
    simp only [if_true]
    rw [if_neg (by omega), if_pos (by simp only [List.length_append, List.length_take, hb]; omega)]
def inVec (x : Int) : Prop := 0 ≤ x ∧ x ≤ 1099511627776
instance (x : Int) : Decidable (inVec x) := inferInstanceAs (Decidable (_ ∧ _))
def isVec (v : List Int) : Bool := decide (1 ≤ v.length ∧ v.length ≤ 16 ∧ ∀ x ∈ v, inVec x)
theorem isVec_iff {v : List Int} : isVec v = true ↔ 1 ≤ v.length ∧ v.length ≤ 16 ∧ ∀ x ∈ v, inVec x := by unfold isVec; rw [decide_eq_true_eq]
theorem all_drop {p : Int → Prop} {v : List Int} {i : Nat} (h : i < v.length) : (∀ x ∈ v.drop i, p x) ↔ p v[i] ∧ ∀ x ∈ v.drop (i + 1), p x := by
  rw [List.drop_eq_getElem_cons h, List.forall_mem_cons]
theorem haveIs_L (v : List Int) (hl : v.length < 9223372036854775807) : ∀ (d i : Nat), i ≤ v.length → v.length - i = d → dB.L0 v (i : Int) = some (decide (1 ≤ v.length ∧ v.length ≤ 16 ∧ ∀ x ∈ v.drop i, inVec x)) := by
  intro d
  induction d with
  | zero =>
    intro i hi hd
    have hi' : i = v.length := by omega
    subst hi'
    rw [dB.iR, if_pos (by omega)]
    simp only [List.drop_length]
    by_cases h : (v.length : Int) ≥ 1
    · rw [if_pos h]
      exact congrArg some (decide_eq_decide.2 (by simp; omega))
    · rw [if_neg h]
      exact congrArg some (decide_eq_false (by omega)).symm
  | succ d ih =>
    intro i hi hd
    have hil : i < v.length := by omega
    rw [dB.iR, if_neg (by omega), if_pos (by omega), if_pos (by omega), rd_nat v i hil]
    have hall := all_drop (p := inVec) hil
    by_cases h1 : v[i] ≥ 0
    · rw [if_pos h1]
      by_cases h2 : v[i] ≤ 1099511627776
      · rw [if_pos h2, w64s (by omega) (by omega), show ((i : Int) + 1) = ((i + 1 : Nat) : Int) from rfl, ih (i + 1) (by omega) (by omega)]
        refine congrArg some (decide_eq_decide.2 ?_)
        rw [hall]
        exact ⟨fun h => ⟨h.1, h.2.1, ⟨h1, h2⟩, h.2.2⟩, fun h => ⟨h.1, h.2.1, h.2.2.2⟩⟩
      · rw [if_neg h2]
        exact congrArg some (decide_eq_false (fun h => h2 (hall.1 h.2.2).1.2)).symm
    · rw [if_neg h1]
      exact congrArg some (decide_eq_false (fun h => h1 (hall.1 h.2.2).1.1)).symm
theorem haveIs (v : List Int) (hl : v.length < 9223372036854775807) : dB.F v = some (isVec v) := by
  rw [dB.iD]
  exact haveIs_L v hl v.length 0 (by omega) (by omega)
theorem refVector_L (v : List Int) (hl : v.length < 9223372036854775807) : ∀ (d i : Nat), i ≤ v.length → v.length - i = d → aJ.L0 v (i : Int) = some (decide (1 ≤ v.length ∧ v.length ≤ 16 ∧ ∀ x ∈ v.drop i, inVec x)) := by
  intro d
  induction d with
  | zero =>
    intro i hi hd
    have hi' : i = v.length := by omega
    subst hi'
    rw [aJ.iR, if_neg (by omega)]
    simp only [List.drop_length]
    by_cases h : (v.length : Int) ≥ 1
    · rw [if_pos h]
      exact congrArg some (decide_eq_decide.2 (by simp; omega))
    · rw [if_neg h]
      exact congrArg some (decide_eq_false (by omega)).symm
  | succ d ih =>
    intro i hi hd
    have hil : i < v.length := by omega
    rw [aJ.iR, if_pos (by omega), if_pos (by omega), rd_nat v i hil, refNum, Option.bind_some]
    have hall := all_drop (p := inVec) hil
    by_cases h1 : 0 ≤ v[i] ∧ v[i] ≤ 1099511627776
    · rw [if_pos (decide_eq_true h1), w64s (by omega) (by omega), show ((i : Int) + 1) = ((i + 1 : Nat) : Int) from rfl, ih (i + 1) (by omega) (by omega)]
      refine congrArg some (decide_eq_decide.2 ?_)
      rw [hall]
      exact ⟨fun h => ⟨h.1, h.2.1, h1, h.2.2⟩, fun h => ⟨h.1, h.2.1, h.2.2.2⟩⟩
    · rw [if_neg (by rw [decide_eq_true_eq]; exact h1)]
      exact congrArg some (decide_eq_false (fun h => h1 (hall.1 h.2.2).1)).symm
theorem refVector (v : List Int) (hl : v.length < 9223372036854775807) : aJ.F v = some (isVec v) := by
  rw [aJ.iD]
  exact refVector_L v hl v.length 0 (by omega) (by omega)
theorem vec_get {v : List Int} (h : isVec v = true) (i : Nat) (hi : i < v.length) : 0 ≤ v[i] ∧ v[i] ≤ 1099511627776 := (isVec_iff.1 h).2.2 _ (List.getElem_mem hi)
theorem vec_nums {v : List Int} (h : isVec v = true) : v.length ≤ 1024 ∧ ∀ x ∈ v, iT x := by
  obtain ⟨_, h2, h3⟩ := isVec_iff.1 h
  refine ⟨by omega, fun x hx => ?_⟩
  have := h3 x hx
  unfold inVec at this
  unfold iT
  omega
def dX (l : List Int) : List Int × Int × Int :=
  if (iV l).2.2 = 0 then (if isVec (iV l).1 = true then ((iV l).1, (iV l).2.1, 0) else ([], 0, 1)) else ([], 0, (iV l).2.2)
theorem haveTake (l : List Int) (hb : dK l) (hl : l.length < 4611686018427387904) : eH.F l = some (dX l) := by
  have hn := tkNums_length l
  rw [eH.iD, takeNums l hb hl, Option.bind_some]
  unfold dX
  by_cases h : (iV l).2.2 = 0
  · rw [if_pos h, if_pos h, haveIs _ (by omega), Option.bind_some]
    by_cases g : isVec (iV l).1 = true
    · rw [if_pos g, if_pos g]
    · rw [if_neg g, if_neg g]
  · rw [if_neg h, if_neg h]
theorem refTakeVec (l : List Int) (hb : dK l) (hl : l.length < 4611686018427387904) : aY.F l = some (dX l) := by
  have hn := tkNums_length l
  rw [aY.iD, refTakeNums l hb hl, Option.bind_some]
  unfold dX
  by_cases h : (iV l).2.2 = 0
  · rw [if_pos h, if_pos h, refVector _ (by omega), Option.bind_some]
    by_cases g : isVec (iV l).1 = true
    · rw [if_pos g, if_pos g]
    · rw [if_neg g, if_neg g]
  · rw [if_neg h, if_neg h]
end Go.Proofs.Ytddnlnjmikcgfaa.PC
end
section
set_option linter.unusedVariables false
set_option linter.unusedSimpArgs false
namespace Go.Proofs.Ytddnlnjmikcgfaa.PC
open Go.RowKit Go.WB.PrintWords Go.WB.PrintLast Go.WB.PrintMore
structure Good {α : Type} (p : List Int → α × Int × Int) (dS : α → List Int) (ok : α → Prop) : Prop where
  put : ∀ a rest, ok a → p (dS a ++ rest) = (a, ((dS a).length : Int), 0)
  cut : ∀ a j, ok a → j < (dS a).length → (p ((dS a).take j)).2.2 = 7
  was : ∀ l, dK l → (p l).2.2 = 0 → ok (p l).1 ∧ (p l).2.1 = ((dS (p l).1).length : Int) ∧ (dS (p l).1).length ≤ l.length ∧ l.take (dS (p l).1).length = dS (p l).1
theorem Good.ran {α : Type} {p : List Int → α × Int × Int} {dS : α → List Int} {ok : α → Prop} (g : Good p dS ok) (l : List Int) (hb : dK l) (h : (p l).2.2 = 0) : 0 ≤ (p l).2.1 ∧ (p l).2.1 ≤ l.length := by
  obtain ⟨_, h1, h2, _⟩ := g.was l hb h
  omega
theorem jB : Good (fun l => tk l 0 0) (fun n => dS n.toNat) iT where
  put a rest h := by
    unfold iT at h
    have e : ((a.toNat : Nat) : Int) = a := by omega
    show tk _ 0 0 = _
    rw [tk_put _ _ (by omega), e]
  cut a j h hj := by
    unfold iT at h
    have := eZ (n := a.toNat) (by omega)
    show (tk _ 0 0).2.2 = 7
    rw [tk_cut a.toNat 0 0 j (by omega) hj]
  was l hb h := by
    obtain ⟨h1, h2, h3, h4⟩ := tk_ok l 0 0 h
    obtain ⟨m, e1, e2, e3, _⟩ := tk_back l 0 0 hb h
    simp only [Nat.pow_zero, Nat.mul_one, Nat.zero_add] at e1 e2
    refine ⟨⟨h1, h2⟩, ?_, ?_, ?_⟩
    · show (tk l 0 0).2.1 = ((dS (tk l 0 0).1.toNat).length : Int)
      rw [e1, Int.toNat_natCast, e2]
    · show (dS (tk l 0 0).1.toNat).length ≤ l.length
      rw [e1, Int.toNat_natCast]
      omega
    · show l.take (dS (tk l 0 0).1.toNat).length = dS (tk l 0 0).1.toNat
      rw [e1, Int.toNat_natCast, e3]
def jF {α β : Type} (p : List Int → α × Int × Int) (q : α → List Int → β × Int × Int) (l : List Int) : (α × β) × Int × Int :=
  if (p l).2.2 = 0 then (((p l).1, (q (p l).1 (l.drop (p l).2.1.toNat)).1), (if (q (p l).1 (l.drop (p l).2.1.toNat)).2.2 = 0 then (p l).2.1 + (q (p l).1 (l.drop (p l).2.1.toNat)).2.1 else 0), (q (p l).1 (l.drop (p l).2.1.toNat)).2.2)
  else (((p l).1, (q (p l).1 l).1), 0, (p l).2.2)
theorem Good.seq {α β : Type} {p : List Int → α × Int × Int} {ea : α → List Int} {oka : α → Prop} (gp : Good p ea oka) {q : α → List Int → β × Int × Int} {eb : α → β → List Int} {okb : α → β → Prop}
    (gq : ∀ a, oka a → Good (q a) (eb a) (okb a)) : Good (jF p q) (fun x => ea x.1 ++ eb x.1 x.2) (fun x => oka x.1 ∧ okb x.1 x.2) where
  put x rest h := by
    obtain ⟨a, b⟩ := x
    have e1 := gp.put a (eb a b ++ rest) h.1
    have e2 := (gq a h.1).put b rest h.2
    unfold jF
    simp only [List.append_assoc]
    rw [e1]
    simp only [Int.toNat_natCast, List.drop_left, e2, if_true, List.length_append]
    simp
  cut x j h hj := by
    obtain ⟨a, b⟩ := x
    simp only [List.length_append] at hj
    unfold jF
    simp only
    by_cases hc : j < (ea a).length
    · have e : (ea a ++ eb a b).take j = (ea a).take j := List.take_append_of_le_length (by omega)
      have := gp.cut a j h.1 hc
      rw [e]
      rw [this]
      simp
    · have e : (ea a ++ eb a b).take j = ea a ++ (eb a b).take (j - (ea a).length) := by rw [List.take_append, List.take_of_length_le (by omega)]
      have e1 := gp.put a ((eb a b).take (j - (ea a).length)) h.1
      have e2 := (gq a h.1).cut b (j - (ea a).length) h.2 (by omega)
      rw [e, e1]
      simp only [Int.toNat_natCast, List.drop_left, if_true]
      exact e2
  was l hb h := by
    unfold jF at h ⊢
    by_cases h1 : (p l).2.2 = 0
    · rw [if_pos h1] at h ⊢
      simp only at h ⊢
      obtain ⟨a1, a2, a3, a4⟩ := gp.was l hb h1
      obtain ⟨b1, b2, b3, b4⟩ := (gq _ a1).was _ (hb.drop _) h
      rw [if_pos h]
      rw [a2, Int.toNat_natCast] at b1 b2 b3 b4 h ⊢
      rw [List.length_drop] at b3
      refine ⟨⟨a1, b1⟩, ?_, ?_, ?_⟩
      · rw [b2, List.length_append]; omega
      · rw [List.length_append]; omega
      · rw [List.length_append, List.take_add, a4, b4]
    · rw [if_neg h1] at h
      exact absurd h h1
def mapP {α β : Type} (f : α → β) (p : List Int → α × Int × Int) (l : List Int) : β × Int × Int := (f (p l).1, (p l).2)
theorem Good.map {α β : Type} {p : List Int → α × Int × Int} {e : α → List Int} {ok : α → Prop} (gp : Good p e ok) (f : α → β) (g : β → α) (hg : ∀ a, ok a → g (f a) = a) : Good (mapP f p) (fun b => e (g b)) (fun b => ok (g b) ∧ f (g b) = b) where
  put b rest h := by
    unfold mapP
    rw [gp.put _ _ h.1, h.2]
  cut b j h hj := gp.cut (g b) j h.1 hj
  was l hb h := by
    obtain ⟨h1, h2, h3, h4⟩ := gp.was l hb h
    unfold mapP
    simp only [hg _ h1]
    exact ⟨⟨h1, trivial⟩, h2, h3, h4⟩
/-- What else is asked of what was taken. -/
def onlyP {α : Type} (c : α → Bool) (p : List Int → α × Int × Int) (l : List Int) : α × Int × Int := if (p l).2.2 = 0 then (if c (p l).1 = true then p l else ((p l).1, 0, 1)) else p l
theorem Good.only {α : Type} {p : List Int → α × Int × Int} {e : α → List Int} {ok : α → Prop} (gp : Good p e ok) (c : α → Bool) : Good (onlyP c p) e (fun a => ok a ∧ c a = true) where
  put a rest h := by
    unfold onlyP
    rw [gp.put _ _ h.1]
    simp [h.2]
  cut a j h hj := by
    have := gp.cut a j h.1 hj
    unfold onlyP
    rw [if_neg (by rw [this]; decide), this]
  was l hb h := by
    unfold onlyP at h ⊢
    by_cases h1 : (p l).2.2 = 0
    · rw [if_pos h1] at h ⊢
      by_cases h2 : c (p l).1 = true
      · rw [if_pos h2] at h ⊢
        obtain ⟨g1, g2⟩ := gp.was l hb h1
        exact ⟨⟨g1, h2⟩, g2⟩
      · rw [if_neg h2] at h
        simp at h
    · rw [if_neg h1] at h
      exact absurd h h1
theorem Good.weak {α : Type} {p : List Int → α × Int × Int} {e : α → List Int} {ok ok' : α → Prop} (gp : Good p e ok) (h : ∀ a, ok' a ↔ ok a) : Good p e ok' where
  put a rest k := gp.put a rest ((h a).1 k)
  cut a j k hj := gp.cut a j ((h a).1 k) hj
  was l hb k := by
    obtain ⟨h1, h2⟩ := gp.was l hb k
    exact ⟨(h _).2 h1, h2⟩
theorem goodStamp : Good (fun l => ((((iJ l).1, (iJ l).2.1) : Int × Int), (iJ l).2.2)) (fun s => ic s.1 s.2) (fun s => gY s.1 s.2 = true) where
  put a rest h := by
    simp only [tkStamp_put h]
  cut a j h hj := by
    have hr := iW h
    have g := (jB.seq (q := fun _ l => tk l 0 0) (eb := fun _ n => dS n.toNat) (okb := fun _ => iT) (fun _ _ => jB)).cut a j ⟨⟨by omega, by omega⟩, ⟨by omega, by omega⟩⟩ hj
    show (iJ ((dS a.1.toNat ++ dS a.2.toNat).take j)).2.2.2 = 7
    revert g
    generalize (dS a.1.toNat ++ dS a.2.toNat).take j = L
    unfold jF iJ
    intro g
    split at g
    · rename_i h1
      try simp only at g
      rw [if_pos h1, if_neg (by rw [g]; decide)]
      exact g
    · rename_i h1
      rw [if_neg h1]
      exact g
  was l hb h := by
    have g := (jB.seq (q := fun _ l => tk l 0 0) (eb := fun _ n => dS n.toNat) (okb := fun _ => iT) (fun _ _ => jB)).was l hb
    simp only at h ⊢
    revert h
    unfold iJ
    unfold jF at g
    by_cases h1 : (tk l 0 0).2.2 = 0
    · rw [if_pos h1]
      by_cases h2 : (tk (l.drop (tk l 0 0).2.1.toNat) 0 0).2.2 = 0
      · rw [if_pos h2]
        by_cases h3 : gY (tk l 0 0).1 (tk (l.drop (tk l 0 0).2.1.toNat) 0 0).1 = true
        · rw [if_pos h3]
          intro _
          simp only [if_pos h1, if_pos h2] at g
          obtain ⟨_, g2, g3, g4⟩ := g h2
          exact ⟨h3, g2, g3, g4⟩
        · rw [if_neg h3]
          intro h; exact absurd h (by decide)
      · rw [if_neg h2]
        intro h; exact absurd h h2
    · rw [if_neg h1]
      intro h; exact absurd h h1
theorem bytesOf_str (l : List Int) (hb : dK l) : bytesOf (strOfNums l) = l := by
  unfold strOfNums bytesOf
  rw [List.map_map]
  have e : ∀ x ∈ l, ((fun b : UInt8 => (b.toNat : Int)) ∘ fun n : Int => UInt8.ofNat n.toNat) x = x := by
    intro x hx
    have := hb x hx
    show ((UInt8.ofNat x.toNat).toNat : Int) = x
    rw [UInt8.toNat_ofNat_of_lt' (by show x.toNat < 256; omega)]
    omega
  first
    | (exact (List.map_congr_left e).trans (List.map_id' l))
    | (rw [List.map_congr_left e]; simp)
theorem strOfNums_size (l : List Int) : (strOfNums l).size = l.length := by
  unfold strOfNums
  show Array.size _ = _
  simp
theorem goodText : Good gm encT (fun s => s.size ≤ 65536) where
  put a rest h := tkText_put a rest h
  cut a j h hj := tkText_cut a j h hj
  was l hb h := by
    unfold gm at h ⊢
    by_cases h1 : (tk l 0 0).2.2 = 0
    · rw [if_pos h1] at h ⊢
      obtain ⟨a1, a2, a3, a4⟩ := jB.was l hb h1
      try simp only at a1 a2 a3 a4
      unfold iT at a1
      by_cases h2 : (tk l 0 0).1 > 65536
      · rw [if_pos h2] at h; exact absurd h (by decide)
      · rw [if_neg h2] at h ⊢
        by_cases h3 : (tk l 0 0).1 > (l.length : Int) - (tk l 0 0).2.1
        · rw [if_pos h3] at h; exact absurd h (by decide)
        · rw [if_neg h3]
          simp only
          generalize (tk l 0 0).1 = m at *
          generalize (tk l 0 0).2.1 = k at *
          subst a2
          have e1 : (((dS m.toNat).length : Int) + m).toNat = (dS m.toNat).length + m.toNat := by omega
          rw [e1, Int.toNat_natCast]
          have hs : (strOfNums ((l.take ((dS m.toNat).length + m.toNat)).drop (dS m.toNat).length)).size = m.toNat := by
            rw [strOfNums_size, List.length_drop, List.length_take]
            omega
          have hbs : bytesOf (strOfNums ((l.take ((dS m.toNat).length + m.toNat)).drop (dS m.toNat).length)) = (l.take ((dS m.toNat).length + m.toNat)).drop (dS m.toNat).length := bytesOf_str _ ((hb.take _).drop _)
          have hE : encT (strOfNums ((l.take ((dS m.toNat).length + m.toNat)).drop (dS m.toNat).length)) = l.take ((dS m.toNat).length + m.toNat) := by
            unfold encT
            rw [hs, hbs]
            have e2 : dS m.toNat = (l.take ((dS m.toNat).length + m.toNat)).take (dS m.toNat).length := by rw [List.take_take, Nat.min_eq_left (by omega), a4]
            conv => lhs; arg 1; rw [e2]
            exact List.take_append_drop _ _
          rw [hE, hs, List.length_take]
          refine ⟨by omega, by omega, by omega, ?_⟩
          congr 1
          omega
    · rw [if_neg h1] at h
      exact absurd h h1
theorem takeMore (L pre : List Int) (n : Nat) (h : pre.length ≤ L.length) (h1 : L.take pre.length = pre) : L.take (pre.length + n) = pre ++ (L.drop pre.length).take n := by
  rw [List.take_add, h1]
theorem tkNs_cut : ∀ (r : List Int) (L pre acc : List Int) (j : Nat), L = pre ++ (encs r).take j → j < (encs r).length → (∀ x ∈ r, iT x) → (tkNs L r.length (pre.length : Int) acc).2.2 = 7
  | [], L, pre, acc, j, e, hj, h => by simp [encs] at hj
  | x :: r, L, pre, acc, j, e, hj, h => by
    have hx := h x List.mem_cons_self
    have e0 : encs (x :: r) = dS x.toNat ++ encs r := rfl
    rw [e0] at hj e
    rw [List.length_append] at hj
    rw [List.length_cons]
    unfold tkNs
    have e1 : L.drop ((pre.length : Int)).toNat = (dS x.toNat ++ encs r).take j := by rw [e, Int.toNat_natCast, List.drop_left]
    rw [e1]
    by_cases hc : j < (dS x.toNat).length
    · have e2 : (dS x.toNat ++ encs r).take j = (dS x.toNat).take j := List.take_append_of_le_length (by omega)
      have := jB.cut x j hx hc
      try simp only at this
      rw [e2, if_neg (by rw [this]; decide)]
      exact this
    · have e2 : (dS x.toNat ++ encs r).take j = dS x.toNat ++ (encs r).take (j - (dS x.toNat).length) := by rw [List.take_append, List.take_of_length_le (by omega)]
      have g := jB.put x ((encs r).take (j - (dS x.toNat).length)) hx
      try simp only at g
      rw [e2, g]
      simp only [if_true]
      rw [← Int.natCast_add, ← List.length_append]
      exact tkNs_cut r L (pre ++ dS x.toNat) _ (j - (dS x.toNat).length) (by rw [e, e2, List.append_assoc]) (by omega) (fun y hy => h y (List.mem_cons_of_mem _ hy))
theorem tkNs_was (L : List Int) (hb : dK L) : ∀ (m : Nat) (pre acc : List Int), pre.length ≤ L.length → L.take pre.length = pre → (tkNs L m (pre.length : Int) acc).2.2 = 0 →
    ∃ r : List Int, r.length = m ∧ (tkNs L m (pre.length : Int) acc).1 = acc ++ r ∧ (∀ x ∈ r, iT x) ∧ (tkNs L m (pre.length : Int) acc).2.1 = ((pre.length + (encs r).length : Nat) : Int) ∧ pre.length + (encs r).length ≤ L.length ∧ L.take (pre.length + (encs r).length) = pre ++ encs r
  | 0, pre, acc, hl, hp, _ => ⟨[], rfl, by simp [tkNs], by simp, by simp [tkNs, encs], by simpa [encs] using hl, by simpa [encs] using hp⟩
  | m + 1, pre, acc, hl, hp, h => by
    unfold tkNs at h ⊢
    by_cases h1 : (tk (L.drop ((pre.length : Int)).toNat) 0 0).2.2 = 0
    · rw [if_pos h1] at h ⊢
      obtain ⟨a1, a2, a3, a4⟩ := jB.was _ (hb.drop _) h1
      try simp only at a1 a2 a3 a4
      rw [Int.toNat_natCast] at a1 a2 a3 a4 h ⊢
      generalize (tk (L.drop pre.length) 0 0).1 = x at *
      rw [a2] at h ⊢
      rw [← Int.natCast_add, ← List.length_append] at h ⊢
      rw [List.length_drop] at a3
      obtain ⟨r, h2, h3, h4, h5, h6, h7⟩ := tkNs_was L hb m (pre ++ dS x.toNat) (acc ++ [x]) (by rw [List.length_append]; omega) (by rw [List.length_append, takeMore L pre _ hl hp, a4]) h
      have e0 : encs (x :: r) = dS x.toNat ++ encs r := rfl
      refine ⟨x :: r, by simp [h2], by rw [h3, List.append_assoc]; rfl, ?_, ?_, ?_, ?_⟩
      · intro y hy
        rcases List.mem_cons.1 hy with rfl | hy
        · exact a1
        · exact h4 y hy
      · rw [h5, e0, List.length_append, List.length_append]; omega
      · rw [e0, List.length_append]; rw [List.length_append] at h6; omega
      · rw [e0, List.length_append, ← Nat.add_assoc, ← List.length_append, h7, List.append_assoc]
    · rw [if_neg h1] at h
      exact absurd h h1
theorem goodNums : Good iV encN (fun l => l.length ≤ 1024 ∧ ∀ x ∈ l, iT x) where
  put a rest h := tkNums_put a rest h.1 h.2
  cut a j h hj := by
    have hn : iT (a.length : Int) := by unfold iT; omega
    unfold iV
    unfold encN at hj ⊢
    rw [List.length_append] at hj
    by_cases hc : j < (dS a.length).length
    · have e2 : (dS a.length ++ encs a).take j = (dS a.length).take j := List.take_append_of_le_length (by omega)
      have := jB.cut (a.length : Int) j hn (by simpa using hc)
      simp only [Int.toNat_natCast] at this
      rw [e2, if_neg (by rw [this]; decide)]
      exact this
    · have e2 : (dS a.length ++ encs a).take j = dS a.length ++ (encs a).take (j - (dS a.length).length) := by rw [List.take_append, List.take_of_length_le (by omega)]
      have g := jB.put (a.length : Int) ((encs a).take (j - (dS a.length).length)) hn
      simp only [Int.toNat_natCast] at g
      rw [e2, g]
      simp only [if_true, Int.toNat_natCast]
      rw [if_neg (by omega)]
      exact tkNs_cut a _ (dS a.length) [] (j - (dS a.length).length) rfl (by omega) h.2
  was l hb h := by
    unfold iV at h ⊢
    by_cases h1 : (tk l 0 0).2.2 = 0
    · rw [if_pos h1] at h ⊢
      obtain ⟨a1, a2, a3, a4⟩ := jB.was l hb h1
      try simp only at a1 a2 a3 a4
      unfold iT at a1
      by_cases h2 : (tk l 0 0).1 > 1024
      · rw [if_pos h2] at h; exact absurd h (by decide)
      · rw [if_neg h2] at h ⊢
        generalize (tk l 0 0).1 = m at *
        rw [a2] at h ⊢
        obtain ⟨r, g2, g3, g4, g5, g6, g7⟩ := tkNs_was l hb m.toNat (dS m.toNat) [] a3 a4 h
        rw [g3, g5, List.nil_append]
        unfold encN
        rw [g2]
        refine ⟨⟨by omega, g4⟩, ?_, ?_, ?_⟩
        · rw [List.length_append]
        · rw [List.length_append]; exact g6
        · rw [List.length_append, g7]
    · rw [if_neg h1] at h
      exact absurd h h1
theorem goodVec : Good dX encN (fun v => isVec v = true) := by
  have g := (goodNums.only isVec).weak (ok' := fun v => isVec v = true) (fun v => ⟨fun h => ⟨vec_nums h, h⟩, fun h => h.2⟩)
  have e : ∀ l, (dX l).2.2 = (onlyP isVec iV l).2.2 ∧ ((dX l).2.2 = 0 → dX l = onlyP isVec iV l) := by
    intro l
    unfold dX onlyP
    by_cases h1 : (iV l).2.2 = 0
    · rw [if_pos h1, if_pos h1]
      by_cases h2 : isVec (iV l).1 = true
      · rw [if_pos h2, if_pos h2]
        exact ⟨h1.symm, fun _ => by rw [← h1]⟩
      · rw [if_neg h2, if_neg h2]
        exact ⟨rfl, fun h => by simp at h⟩
    · rw [if_neg h1, if_neg h1]
      exact ⟨rfl, fun h => absurd h h1⟩
  constructor
  · intro a rest h
    have := g.put a rest h
    rw [(e _).2 (by rw [(e _).1, this]), this]
  · intro a j h hj
    rw [(e _).1]
    exact g.cut a j h hj
  · intro l hb h
    have := g.was l hb (by rw [← (e _).1]; exact h)
    rw [(e _).2 h]
    exact this
end Go.Proofs.Ytddnlnjmikcgfaa.PC
end
section
set_option linter.unusedVariables false
set_option linter.unusedSimpArgs false
namespace Go.Proofs.Ytddnlnjmikcgfaa.PC
open Go.RowKit Go.WB.PrintWords Go.WB.PrintLast Go.WB.PrintMore
theorem tk_bad : ∀ (l : List Int) (n i : Nat), (tk l n i).2.2 ≠ 0 → (tk l n i).2.1 = 0
  | [], _, _, _ => rfl
  | c :: r, n, i, h => by
    unfold tk at h ⊢
    split at h
    · rename_i h1
      rw [if_pos h1]
      split at h
      · rename_i h2; rw [if_pos h2]
      · rename_i h2; rw [if_neg h2]; exact tk_bad r _ _ h
    · rename_i h1
      rw [if_neg h1]
      split at h
      · rename_i h2; rw [if_pos h2]
      · exact absurd rfl h
theorem num_ran (l : List Int) (hb : dK l) : 0 ≤ (tk l 0 0).2.1 ∧ (tk l 0 0).2.1 ≤ l.length := by
  by_cases h : (tk l 0 0).2.2 = 0
  · exact jB.ran l hb h
  · rw [tk_bad l 0 0 h]; omega
theorem stamp_ran (l : List Int) (hb : dK l) : 0 ≤ (iJ l).2.2.1 ∧ (iJ l).2.2.1 ≤ l.length := by
  by_cases h : (iJ l).2.2.2 = 0
  · exact goodStamp.ran l hb h
  · have : (iJ l).2.2.1 = 0 := by
      revert h
      unfold iJ
      split
      · split
        · split
          · intro h; exact absurd rfl h
          · intro _; rfl
        · intro _; rfl
      · intro _; rfl
    omega
theorem text_ran (l : List Int) (hb : dK l) : 0 ≤ (gm l).2.1 ∧ (gm l).2.1 ≤ l.length := by
  by_cases h : (gm l).2.2 = 0
  · exact goodText.ran l hb h
  · have : (gm l).2.1 = 0 := by
      revert h
      unfold gm
      split
      · split
        · intro _; rfl
        · split
          · intro _; rfl
          · intro h; exact absurd rfl h
      · intro _; rfl
    omega
theorem vec_ran (l : List Int) (hb : dK l) : 0 ≤ (dX l).2.1 ∧ (dX l).2.1 ≤ l.length := by
  by_cases h : (dX l).2.2 = 0
  · exact goodVec.ran l hb h
  · have : (dX l).2.1 = 0 := by
      revert h
      unfold dX
      split
      · split
        · intro h; exact absurd rfl h
        · intro _; rfl
      · intro _; rfl
    omega
abbrev aR (l : List Int) : (Int × Int) × Int × Int := (((iJ l).1, (iJ l).2.1), (iJ l).2.2)
abbrev fB (l : List Int) : Int × Int × Int := tk l 0 0
theorem part_F (l : List Int) (k e dk de : Int) (h0 : 0 ≤ k) (h1 : k ≤ l.length) (h2 : 0 ≤ dk) (h3 : dk ≤ l.length) (hl : l.length < 4611686018427387904) :
    bT.f l k e dk de = some (if e = 0 then k + dk else k, if e = 0 then de else e) := by
  unfold bT.f
  split
  · rw [w64_l (by omega) (by omega)]
  · rfl
theorem place_F (l : List Int) (hb : dK l) (hl : l.length < 4611686018427387904) (k e : Int) (h0 : 0 ≤ k) (h1 : k ≤ l.length) :
    bq.F l k e = some ((aR (l.drop k.toNat)).1.1, (aR (l.drop k.toNat)).1.2, (if e = 0 then k + (aR (l.drop k.toNat)).2.1 else k), (if e = 0 then (aR (l.drop k.toNat)).2.2 else e)) := by
  have hr := stamp_ran _ (hb.drop k.toNat)
  have hd : (l.drop k.toNat).length ≤ l.length := by rw [List.length_drop]; omega
  rw [bq.iD, if_pos h0, if_pos h1, stampTake _ (hb.drop _) (by omega), Option.bind_some, part_F _ _ _ _ _ h0 h1 (by omega) (by omega) hl, Option.bind_some]
theorem number_F (l : List Int) (hb : dK l) (hl : l.length < 4611686018427387904) (k e : Int) (h0 : 0 ≤ k) (h1 : k ≤ l.length) :
    bA.F l k e = some ((fB (l.drop k.toNat)).1, (if e = 0 then k + (fB (l.drop k.toNat)).2.1 else k), (if e = 0 then (fB (l.drop k.toNat)).2.2 else e)) := by
  have hr := num_ran _ (hb.drop k.toNat)
  have hd : (l.drop k.toNat).length ≤ l.length := by rw [List.length_drop]; omega
  rw [bA.iD, if_pos h0, if_pos h1, takeNum _ (hb.drop _) (by omega), Option.bind_some, part_F _ _ _ _ _ h0 h1 (by omega) (by omega) hl, Option.bind_some]
abbrev Rest : Type := (Int × Int) × ByteArray × Int × Int
def noKey : ByteArray := ⟨#[]⟩
def fV (k : Int) (l : List Int) : Rest × Int × Int :=
  if k = 1 then mapP (fun x : (Int × Int) × ByteArray => ((x.1, x.2, 0, 0) : Rest)) (jF aR (fun _ => gm)) l
  else mapP (fun x : Int × Int => (((0, 0), noKey, x.1, x.2 - 1) : Rest)) (jF fB (fun _ => fB)) l
def restE (k : Int) (b : Rest) : List Int := if k = 1 then ic b.1.1 b.1.2 ++ encT b.2.1 else dS b.2.2.1.toNat ++ dS (b.2.2.2 + 1).toNat
def restOk (k : Int) (b : Rest) : Prop := if k = 1 then (gY b.1.1 b.1.2 = true ∧ b.2.1.size ≤ 65536) ∧ b.2.2 = (0, 0) else (iT b.2.2.1 ∧ iT (b.2.2.2 + 1)) ∧ b.1 = (0, 0) ∧ b.2.1 = noKey
theorem goodRest (k : Int) : Good (fV k) (restE k) (restOk k) := by
  by_cases hk : k = 1
  · have g := ((goodStamp.seq (q := fun _ => gm) (eb := fun _ => encT) (okb := fun _ s => s.size ≤ 65536) (fun _ _ => goodText)).map (fun x : (Int × Int) × ByteArray => ((x.1, x.2, 0, 0) : Rest)) (fun b => (b.1, b.2.1)) (fun _ _ => rfl))
    have e1 : fV k = mapP (fun x : (Int × Int) × ByteArray => ((x.1, x.2, 0, 0) : Rest)) (jF aR (fun _ => gm)) := by funext l; unfold fV; rw [if_pos hk]
    have e2 : restE k = fun b => ic b.1.1 b.1.2 ++ encT b.2.1 := by funext b; unfold restE; rw [if_pos hk]
    rw [e1, e2]
    refine g.weak (fun b => ?_)
    unfold restOk
    rw [if_pos hk]
    obtain ⟨a, s, p, v⟩ := b
    simp
    intro _ _
    exact ⟨fun ⟨h1, h2⟩ => ⟨h1.symm, h2.symm⟩, fun ⟨h1, h2⟩ => ⟨h1.symm, h2.symm⟩⟩
  · have g := ((jB.seq (q := fun _ => fB) (eb := fun _ n => dS n.toNat) (okb := fun _ => iT) (fun _ _ => jB)).map (fun x : Int × Int => (((0, 0), noKey, x.1, x.2 - 1) : Rest)) (fun b => (b.2.2.1, b.2.2.2 + 1)) (fun a _ => by simp))
    have e1 : fV k = mapP (fun x : Int × Int => (((0, 0), noKey, x.1, x.2 - 1) : Rest)) (jF fB (fun _ => fB)) := by funext l; unfold fV; rw [if_neg hk]
    have e2 : restE k = fun b => dS b.2.2.1.toNat ++ dS (b.2.2.2 + 1).toNat := by funext b; unfold restE; rw [if_neg hk]
    rw [e1, e2]
    refine g.weak (fun b => ?_)
    unfold restOk
    rw [if_neg hk]
    obtain ⟨⟨a1, a2⟩, s, p, v⟩ := b
    simp
    intro _ _
    exact ⟨fun ⟨h1, h2⟩ => ⟨⟨h1.1.symm, h1.2.symm⟩, h2.symm⟩, fun ⟨h1, h2⟩ => ⟨⟨h1.1.symm, h1.2.symm⟩, h2.symm⟩⟩
abbrev Body : Type := (Int × Int) × List Int × Int × (Int × Int) × Rest
def fU (k : Int) (l : List Int) : ((Int × Int) × Rest) × Int × Int := jF aR (fun _ => fV k) l
def jy (l : List Int) : Int × Int × Int := onlyP (fun k => k == 1 || k == 2) fB l
def opP (l : List Int) : Body × Int × Int := jF aR (fun _ => jF dX (fun _ => jF jy (fun k => jF aR (fun _ => fV k)))) l
def opE (b : Body) : List Int := ic b.1.1 b.1.2 ++ (encN b.2.1 ++ (dS b.2.2.1.toNat ++ (ic b.2.2.2.1.1 b.2.2.2.1.2 ++ restE b.2.2.1 b.2.2.2.2)))
def opOk (b : Body) : Prop := gY b.1.1 b.1.2 = true ∧ isVec b.2.1 = true ∧ (iT b.2.2.1 ∧ (b.2.2.1 == 1 || b.2.2.1 == 2) = true) ∧ gY b.2.2.2.1.1 b.2.2.2.1.2 = true ∧ restOk b.2.2.1 b.2.2.2.2
theorem goodTail (k : Int) : Good (fU k) (fun x => ic x.1.1 x.1.2 ++ restE k x.2) (fun x => gY x.1.1 x.1.2 = true ∧ restOk k x.2) :=
  goodStamp.seq (q := fun _ => fV k) (eb := fun _ => restE k) (okb := fun _ => restOk k) (fun _ _ => goodRest k)
theorem goodOp : Good opP opE opOk :=
  goodStamp.seq (q := fun _ => jF dX (fun _ => jF jy (fun k => jF aR (fun _ => fV k)))) (eb := fun _ b => encN b.1 ++ (dS b.2.1.toNat ++ (ic b.2.2.1.1 b.2.2.1.2 ++ restE b.2.1 b.2.2.2)))
    (okb := fun _ b => isVec b.1 = true ∧ (iT b.2.1 ∧ (b.2.1 == 1 || b.2.1 == 2) = true) ∧ gY b.2.2.1.1 b.2.2.1.2 = true ∧ restOk b.2.1 b.2.2.2)
    (fun _ _ => goodVec.seq (q := fun _ => jF jy (fun k => jF aR (fun _ => fV k))) (eb := fun _ b => dS b.1.toNat ++ (ic b.2.1.1 b.2.1.2 ++ restE b.1 b.2.2))
      (okb := fun _ b => (iT b.1 ∧ (b.1 == 1 || b.1 == 2) = true) ∧ gY b.2.1.1 b.2.1.2 = true ∧ restOk b.1 b.2.2)
      (fun _ _ => (jB.only (fun k => k == 1 || k == 2)).seq (q := fun k => jF aR (fun _ => fV k)) (eb := fun k b => ic b.1.1 b.1.2 ++ restE k b.2)
        (okb := fun k b => gY b.1.1 b.1.2 = true ∧ restOk k b.2) (fun k _ => goodTail k)))
end Go.Proofs.Ytddnlnjmikcgfaa.PC
end
section
set_option linter.unusedVariables false
set_option linter.unusedSimpArgs false
namespace Go.Proofs.Ytddnlnjmikcgfaa.PC
open Go.RowKit Go.WB.PrintWords Go.WB.PrintLast Go.WB.PrintMore
def nk {α : Type} (p : List Int → α × Int × Int) (l : List Int) (k e : Int) : Int := if e = 0 then k + (p (l.drop k.toNat)).2.1 else k
def ne {α : Type} (p : List Int → α × Int × Int) (l : List Int) (k e : Int) : Int := if e = 0 then (p (l.drop k.toNat)).2.2 else e
def nv {α : Type} (p : List Int → α × Int × Int) (l : List Int) (k : Int) : α := (p (l.drop k.toNat)).1
def Ran {α : Type} (p : List Int → α × Int × Int) : Prop := ∀ l, dK l → 0 ≤ (p l).2.1 ∧ (p l).2.1 ≤ l.length
theorem nk_ran {α : Type} {p : List Int → α × Int × Int} (hp : Ran p) {l : List Int} (hb : dK l) {k e : Int} (h : 0 ≤ k ∧ k ≤ l.length) : 0 ≤ nk p l k e ∧ nk p l k e ≤ l.length := by
  have := hp _ (hb.drop k.toNat)
  rw [List.length_drop] at this
  unfold nk
  split <;> omega
theorem chain_e {α β : Type} {p : List Int → α × Int × Int} {q : α → List Int → β × Int × Int} (hp : Ran p) {l : List Int} (hb : dK l) {k e : Int} (h : 0 ≤ k ∧ k ≤ l.length) :
    ne (q (nv p l k)) l (nk p l k e) (ne p l k e) = ne (jF p q) l k e := by
  have hr := hp _ (hb.drop k.toNat)
  unfold ne nk nv jF
  by_cases he : e = 0
  · simp only [if_pos he]
    by_cases h1 : (p (l.drop k.toNat)).2.2 = 0
    · simp only [if_pos h1]
      rw [List.drop_drop, show (k + (p (l.drop k.toNat)).2.1).toNat = k.toNat + (p (l.drop k.toNat)).2.1.toNat by omega]
    · simp only [if_neg h1]
  · simp only [if_neg he]
theorem chain_v {α β : Type} {p : List Int → α × Int × Int} {q : α → List Int → β × Int × Int} (hp : Ran p) {l : List Int} (hb : dK l) {k : Int} (h : 0 ≤ k ∧ k ≤ l.length) (h0 : ne (jF p q) l k 0 = 0) :
    ne p l k 0 = 0 ∧ nk (q (nv p l k)) l (nk p l k 0) 0 = nk (jF p q) l k 0 ∧ nv (jF p q) l k = (nv p l k, nv (q (nv p l k)) l (nk p l k 0)) := by
  have hr := hp _ (hb.drop k.toNat)
  unfold ne nk nv jF at *
  simp only [if_true] at *
  by_cases h1 : (p (l.drop k.toNat)).2.2 = 0
  · simp only [if_pos h1] at h0 ⊢
    have e : l.drop (k + (p (l.drop k.toNat)).2.1).toNat = (l.drop k.toNat).drop (p (l.drop k.toNat)).2.1.toNat := by
      rw [List.drop_drop, show (k + (p (l.drop k.toNat)).2.1).toNat = k.toNat + (p (l.drop k.toNat)).2.1.toNat by omega]
    rw [e, if_pos h0]
    exact ⟨h1, by omega, rfl⟩
  · simp only [if_neg h1] at h0
    exact absurd h0 h1
theorem fw : Ran aR := fun l hb => stamp_ran l hb
theorem ran_num : Ran fB := fun l hb => num_ran l hb
theorem ran_text : Ran gm := fun l hb => text_ran l hb
theorem ran_vec : Ran dX := fun l hb => vec_ran l hb
theorem place_N (l : List Int) (hb : dK l) (hl : l.length < 4611686018427387904) (k e : Int) (h : 0 ≤ k ∧ k ≤ l.length) :
    bq.F l k e = some ((nv aR l k).1, (nv aR l k).2, nk aR l k e, ne aR l k e) := place_F l hb hl k e h.1 h.2
theorem number_N (l : List Int) (hb : dK l) (hl : l.length < 4611686018427387904) (k e : Int) (h : 0 ≤ k ∧ k ≤ l.length) :
    bA.F l k e = some (nv fB l k, nk fB l k e, ne fB l k e) := number_F l hb hl k e h.1 h.2
theorem text_N (l : List Int) (hb : dK l) (hl : l.length < 4611686018427387904) (k : Int) : bV.F (l.drop k.toNat) = some (gm (l.drop k.toNat)) :=
  takeText _ (hb.drop _) (by rw [List.length_drop]; omega)
theorem part_N {α : Type} (p : List Int → α × Int × Int) (hp : Ran p) (l : List Int) (hb : dK l) (hl : l.length < 4611686018427387904) (k e : Int) (h : 0 ≤ k ∧ k ≤ l.length) :
    bT.f l k e (p (l.drop k.toNat)).2.1 (p (l.drop k.toNat)).2.2 = some (nk p l k e, ne p l k e) := by
  have := hp _ (hb.drop k.toNat)
  rw [List.length_drop] at this
  exact part_F l k e _ _ h.1 h.2 (by omega) (by omega) hl
abbrev T14 : Type := Int × Int × Int × List Int × Int × Int × Int × Int × Int × ByteArray × Int × Int × Int × Int
def errOf (z : T14) : Int := z.2.2.2.2.2.2.2.2.2.2.2.2.2
theorem tail_J1 (l : List Int) (hb : dK l) (hl : l.length < 4611686018427387904) (k e : Int) (h : 0 ≤ k ∧ k ≤ l.length) (s1 s2 s3 : Int) (d : List Int) (kk : Int) :
    ∃ z : T14, ax.J1 l k e s1 s2 s3 d kk 0 0 0 0 (⟨#[]⟩ : ByteArray) 0 0 = some z ∧ errOf z = ne (fU kk) l k e ∧
      (e = 0 → ne (fU kk) l k 0 = 0 → z = (s1, s2, s3, d, kk, (nv (fU kk) l k).1.1, (nv (fU kk) l k).1.2, (nv (fU kk) l k).2.1.1, (nv (fU kk) l k).2.1.2, (nv (fU kk) l k).2.2.1, (nv (fU kk) l k).2.2.2.1, (nv (fU kk) l k).2.2.2.2, nk (fU kk) l k 0, 0)) := by
  have h1 := nk_ran fw hb (e := e) h
  have c1 : ne (fV kk) l (nk aR l k e) (ne aR l k e) = ne (fU kk) l k e := chain_e (q := fun _ => fV kk) fw hb h
  rw [ax.J1_eq, place_N l hb hl k e h, Option.bind_some]
  by_cases hk : kk = 1
  · have h2 := nk_ran fw hb (e := ne aR l k e) h1
    have eR : fV kk = mapP (fun x : (Int × Int) × ByteArray => ((x.1, x.2, 0, 0) : Rest)) (jF aR (fun _ => gm)) := by funext l; unfold fV; rw [if_pos hk]
    have c2 : ne gm l (nk aR l (nk aR l k e) (ne aR l k e)) (ne aR l (nk aR l k e) (ne aR l k e)) = ne (fV kk) l (nk aR l k e) (ne aR l k e) := by
      rw [eR]
      exact chain_e (q := fun _ => gm) fw hb h1
    rw [if_pos hk, place_N l hb hl _ _ h1, Option.bind_some, if_pos h2.1, if_pos h2.2, text_N l hb hl, Option.bind_some, part_N gm ran_text l hb hl _ _ h2, Option.bind_some]
    refine ⟨_, rfl, c2.trans c1, ?_⟩
    intro he h0
    subst he
    obtain ⟨g1, g2, g3⟩ := chain_v (q := fun _ => fV kk) fw hb h h0
    rw [g1] at c1 c2 ⊢
    have h0' : ne (fV kk) l (nk aR l k 0) 0 = 0 := c1.trans h0
    rw [eR] at h0'
    obtain ⟨f1, f2, f3⟩ := chain_v (q := fun _ => gm) fw hb h1 h0'
    rw [f1] at c2 ⊢
    have e1 : nv (fU kk) l k = (nv aR l k, nv (fV kk) l (nk aR l k 0)) := g3
    have e2 : nv (fV kk) l (nk aR l k 0) = (nv aR l (nk aR l k 0), nv gm l (nk aR l (nk aR l k 0) 0), 0, 0) := by
      rw [eR]
      exact congrArg (fun x : (Int × Int) × ByteArray => ((x.1, x.2, 0, 0) : Rest)) f3
    have e3 : nk gm l (nk aR l (nk aR l k 0) 0) 0 = nk (fU kk) l k 0 := by
      have t : nk (fV kk) l (nk aR l k 0) 0 = nk (jF aR (fun _ => gm)) l (nk aR l k 0) 0 := by rw [eR]; rfl
      exact f2.trans (t.symm.trans g2)
    have e4 : ne gm l (nk aR l (nk aR l k 0) 0) 0 = 0 := by rw [c2, eR]; exact h0'
    rw [e1, e2, e3, e4]
    rfl
  · have h2 := nk_ran ran_num hb (e := ne aR l k e) h1
    have eR : fV kk = mapP (fun x : Int × Int => (((0, 0), noKey, x.1, x.2 - 1) : Rest)) (jF fB (fun _ => fB)) := by funext l; unfold fV; rw [if_neg hk]
    have c2 : ne fB l (nk fB l (nk aR l k e) (ne aR l k e)) (ne fB l (nk aR l k e) (ne aR l k e)) = ne (fV kk) l (nk aR l k e) (ne aR l k e) := by
      rw [eR]
      exact chain_e (q := fun _ => fB) ran_num hb h1
    rw [if_neg hk, number_N l hb hl _ _ h1, Option.bind_some, number_N l hb hl _ _ h2, Option.bind_some]
    refine ⟨_, rfl, c2.trans c1, ?_⟩
    intro he h0
    subst he
    obtain ⟨g1, g2, g3⟩ := chain_v (q := fun _ => fV kk) fw hb h h0
    rw [g1] at c1 c2 ⊢
    have h0' : ne (fV kk) l (nk aR l k 0) 0 = 0 := c1.trans h0
    rw [eR] at h0'
    obtain ⟨f1, f2, f3⟩ := chain_v (q := fun _ => fB) ran_num hb h1 h0'
    rw [f1] at c2 ⊢
    have e1 : nv (fU kk) l k = (nv aR l k, nv (fV kk) l (nk aR l k 0)) := g3
    have e2 : nv (fV kk) l (nk aR l k 0) = ((0, 0), noKey, nv fB l (nk aR l k 0), nv fB l (nk fB l (nk aR l k 0) 0) - 1) := by
      rw [eR]
      exact congrArg (fun x : Int × Int => (((0, 0), noKey, x.1, x.2 - 1) : Rest)) f3
    have e3 : nk fB l (nk fB l (nk aR l k 0) 0) 0 = nk (fU kk) l k 0 := by
      have t : nk (fV kk) l (nk aR l k 0) 0 = nk (jF fB (fun _ => fB)) l (nk aR l k 0) 0 := by rw [eR]; rfl
      exact f2.trans (t.symm.trans g2)
    have e4 : ne fB l (nk fB l (nk aR l k 0) 0) 0 = 0 := by rw [c2, eR]; exact h0'
    have e5 := tk_ok (l.drop (nk fB l (nk aR l k 0) 0).toNat) 0 0 (by simpa [ne] using e4)
    have e6 : wrap64 (nv fB l (nk fB l (nk aR l k 0) 0) - 1) = nv fB l (nk fB l (nk aR l k 0) 0) - 1 := by
      have q1 : 0 ≤ nv fB l (nk fB l (nk aR l k 0) 0) := e5.1
      have q2 : nv fB l (nk fB l (nk aR l k 0) 0) ≤ 4611686018427387904 := e5.2.1
      exact w64_l (by omega) (by omega)
    rw [e1, e2, e3, e4, e6]
    rfl
def c12_l (k : Int) : Bool := k == 1 || k == 2
theorem bad_J0 (l : List Int) (hb : dK l) (hl : l.length < 4611686018427387904) (k e : Int) (h : 0 ≤ k ∧ k ≤ l.length) (s1 s2 s3 : Int) (d : List Int) (kk : Int) (b : Bool) (hbk : b = !c12_l kk) :
    ∃ z : T14, ax.J0 b l k e s1 s2 s3 d kk 0 0 0 0 (⟨#[]⟩ : ByteArray) 0 0 = some z ∧ errOf z = (if e = 0 then (if c12_l kk = true then ne (fU kk) l k 0 else 1) else e) ∧
      (e = 0 → c12_l kk = true → ne (fU kk) l k 0 = 0 → z = (s1, s2, s3, d, kk, (nv (fU kk) l k).1.1, (nv (fU kk) l k).1.2, (nv (fU kk) l k).2.1.1, (nv (fU kk) l k).2.1.2, (nv (fU kk) l k).2.2.1, (nv (fU kk) l k).2.2.2.1, (nv (fU kk) l k).2.2.2.2, nk (fU kk) l k 0, 0)) := by
  rw [ax.J0_eq]
  by_cases hc : c12_l kk = true
  · have : b = false := by rw [hbk, hc]; rfl
    rw [this, if_neg (by decide)]
    obtain ⟨z, z1, z2, z3⟩ := tail_J1 l hb hl k e h s1 s2 s3 d kk
    refine ⟨z, z1, ?_, fun he _ => z3 he⟩
    rw [z2, if_pos hc]
    by_cases he : e = 0
    · rw [if_pos he, he]
    · rw [if_neg he]; unfold ne; rw [if_neg he]
  · have : b = true := by rw [hbk]; simp at hc; rw [hc]; rfl
    rw [this, if_pos rfl, part_F l k e 0 1 h.1 h.2 (by omega) (by omega) hl, Option.bind_some]
    have e0 : (if e = 0 then k + 0 else k) = k := by split <;> omega
    simp only [e0]
    obtain ⟨z, z1, z2, z3⟩ := tail_J1 l hb hl k (if e = 0 then 1 else e) h s1 s2 s3 d kk
    refine ⟨z, z1, ?_, fun _ h => absurd h hc⟩
    rw [z2, if_neg hc]
    unfold ne
    by_cases he : e = 0
    · simp [he]
    · simp [he]
theorem take_F1 (l : List Int) (hb : dK l) (hl : l.length < 4611686018427387904) :
    ∃ z : T14, ax.F l 0 0 = some z ∧ errOf z = (opP l).2.2 ∧
      ((opP l).2.2 = 0 → z = ((opP l).1.1.1, (opP l).1.1.2, 0, (opP l).1.2.1, (opP l).1.2.2.1, (opP l).1.2.2.2.1.1, (opP l).1.2.2.2.1.2, (opP l).1.2.2.2.2.1.1, (opP l).1.2.2.2.2.1.2, (opP l).1.2.2.2.2.2.1, (opP l).1.2.2.2.2.2.2.1, (opP l).1.2.2.2.2.2.2.2, (opP l).2.1, 0)) := by
  have h : (0 : Int) ≤ 0 ∧ (0 : Int) ≤ l.length := by omega
  have h1 := nk_ran fw hb (e := 0) h
  have h2 := nk_ran ran_vec hb (e := ne aR l 0 0) h1
  have h3 := nk_ran ran_num hb (e := ne dX l (nk aR l 0 0) (ne aR l 0 0)) h2
  rw [ax.iD, place_N l hb hl 0 0 h, Option.bind_some, if_pos h1.1, if_pos h1.2, haveTake _ (hb.drop _) (by rw [List.length_drop]; omega), Option.bind_some, part_N dX ran_vec l hb hl _ _ h1, Option.bind_some, number_N l hb hl _ _ h2, Option.bind_some]
  simp only
  -- the kind's number
  generalize hK : nv fB l (nk dX l (nk aR l 0 0) (ne aR l 0 0)) = kk
  have hJ : (if kk = 1 then ax.J0 false l (nk fB l (nk dX l (nk aR l 0 0) (ne aR l 0 0)) (ne dX l (nk aR l 0 0) (ne aR l 0 0))) (ne fB l (nk dX l (nk aR l 0 0) (ne aR l 0 0)) (ne dX l (nk aR l 0 0) (ne aR l 0 0))) (nv aR l 0).1 (nv aR l 0).2 0 (dX (l.drop (nk aR l 0 0).toNat)).1 kk 0 0 0 0 (⟨#[]⟩ : ByteArray) 0 0
      else ax.J0 (kk != 2) l (nk fB l (nk dX l (nk aR l 0 0) (ne aR l 0 0)) (ne dX l (nk aR l 0 0) (ne aR l 0 0))) (ne fB l (nk dX l (nk aR l 0 0) (ne aR l 0 0)) (ne dX l (nk aR l 0 0) (ne aR l 0 0))) (nv aR l 0).1 (nv aR l 0).2 0 (dX (l.drop (nk aR l 0 0).toNat)).1 kk 0 0 0 0 (⟨#[]⟩ : ByteArray) 0 0)
      = ax.J0 (!c12_l kk) l (nk fB l (nk dX l (nk aR l 0 0) (ne aR l 0 0)) (ne dX l (nk aR l 0 0) (ne aR l 0 0))) (ne fB l (nk dX l (nk aR l 0 0) (ne aR l 0 0)) (ne dX l (nk aR l 0 0) (ne aR l 0 0))) (nv aR l 0).1 (nv aR l 0).2 0 (dX (l.drop (nk aR l 0 0).toNat)).1 kk 0 0 0 0 (⟨#[]⟩ : ByteArray) 0 0 := by
    unfold c12_l
    by_cases hk1 : kk = 1
    · subst hk1; rfl
    · rw [if_neg hk1]
      have : (kk == 1) = false := by simpa using hk1
      rw [this, Bool.false_or]; rfl
  rw [hJ]
  obtain ⟨z, z1, z2, z3⟩ := bad_J0 l hb hl (nk fB l (nk dX l (nk aR l 0 0) (ne aR l 0 0)) (ne dX l (nk aR l 0 0) (ne aR l 0 0))) (ne fB l (nk dX l (nk aR l 0 0) (ne aR l 0 0)) (ne dX l (nk aR l 0 0) (ne aR l 0 0))) h3 (nv aR l 0).1 (nv aR l 0).2 0 (dX (l.drop (nk aR l 0 0).toNat)).1 kk _ rfl
  -- the chain
  have a1 : ne (jF dX (fun _ => jF jy (fun k => jF aR (fun _ => fV k)))) l (nk aR l 0 0) (ne aR l 0 0) = ne opP l 0 0 := chain_e (q := fun _ => jF dX (fun _ => jF jy (fun k => jF aR (fun _ => fV k)))) fw hb h
  have a2 : ne (jF jy (fun k => jF aR (fun _ => fV k))) l (nk dX l (nk aR l 0 0) (ne aR l 0 0)) (ne dX l (nk aR l 0 0) (ne aR l 0 0)) = ne opP l 0 0 := (chain_e (q := fun _ => jF jy (fun k => jF aR (fun _ => fV k))) ran_vec hb h1).trans a1
  have eo : ne opP l 0 0 = (opP l).2.2 := by unfold ne; simp
  have key : ∀ k e, ne (jF jy (fun k => jF aR (fun _ => fV k))) l k e = (if ne fB l k e = 0 then (if c12_l (nv fB l k) = true then (if 0 ≤ k ∧ k ≤ l.length then ne (fU (nv fB l k)) l (nk fB l k e) 0 else ne (jF jy (fun k => jF aR (fun _ => fV k))) l k e) else 1) else ne fB l k e) := by
    intro k e
    unfold ne nv nk jF jy onlyP
    by_cases he : e = 0
    · simp only [if_pos he]
      by_cases hn : (fB (l.drop k.toNat)).2.2 = 0
      · by_cases hc : c12_l (fB (l.drop k.toNat)).1 = true
        · have hc' : ((fB (l.drop k.toNat)).1 == 1 || (fB (l.drop k.toNat)).1 == 2) = true := hc
          simp only [if_pos hn, hc, hc', if_true]
          by_cases hr : 0 ≤ k ∧ k ≤ (l.length : Int)
          · rw [if_pos hr]
            have hq := num_ran _ (hb.drop k.toNat)
            have hq1 : 0 ≤ (fB (l.drop k.toNat)).2.1 := hq.1
            rw [List.drop_drop, show (k + (fB (l.drop k.toNat)).2.1).toNat = k.toNat + (fB (l.drop k.toNat)).2.1.toNat by omega]
            rfl
          · rw [if_neg hr]
        · have hc' : ¬ ((fB (l.drop k.toNat)).1 == 1 || (fB (l.drop k.toNat)).1 == 2) = true := hc
          simp only [if_pos hn, if_neg hc, if_neg hc', if_neg (show ¬ ((1 : Int) = 0) by decide)]
      · simp only [if_neg hn]
    · simp only [if_neg he]
  have a3 := key (nk dX l (nk aR l 0 0) (ne aR l 0 0)) (ne dX l (nk aR l 0 0) (ne aR l 0 0))
  rw [if_pos h2, hK, a2] at a3
  refine ⟨z, z1, by rw [z2, ← eo, a3], ?_⟩
  intro h0
  rw [← eo] at h0
  obtain ⟨b1, b2, b3⟩ := chain_v (q := fun _ => jF dX (fun _ => jF jy (fun k => jF aR (fun _ => fV k)))) fw hb h h0
  rw [b1] at a1 a2 a3 z3 z1 h2 h3 hK
  obtain ⟨d1, d2, d3⟩ := chain_v (q := fun _ => jF jy (fun k => jF aR (fun _ => fV k))) ran_vec hb h1 (a1.trans h0)
  rw [d1] at a2 a3 z3 z1 h3
  rw [h0] at a3
  have n0 : ne fB l (nk dX l (nk aR l 0 0) 0) 0 = 0 := by
    by_cases hn : ne fB l (nk dX l (nk aR l 0 0) 0) 0 = 0
    · exact hn
    · rw [if_neg hn] at a3; exact absurd a3.symm hn
  rw [if_pos n0] at a3
  have cc : c12_l kk = true := by
    by_cases hc : c12_l kk = true
    · exact hc
    · rw [if_neg hc] at a3; exact absurd a3 (by decide)
  rw [if_pos cc] at a3
  rw [z3 n0 cc a3.symm]
  -- the values
  have hkind : jy (l.drop (nk dX l (nk aR l 0 0) 0).toNat) = fB (l.drop (nk dX l (nk aR l 0 0) 0).toNat) := by
    unfold jy onlyP
    have e1 : (fB (l.drop (nk dX l (nk aR l 0 0) 0).toNat)).2.2 = 0 := by have := n0; unfold ne at this; simpa using this
    have e2 : ((fB (l.drop (nk dX l (nk aR l 0 0) 0).toNat)).1 == 1 || (fB (l.drop (nk dX l (nk aR l 0 0) 0).toNat)).1 == 2) = true := by
      have : nv fB l (nk dX l (nk aR l 0 0) 0) = kk := hK
      unfold nv at this
      rw [this]; exact cc
    rw [if_pos e1, if_pos e2]
  have rk : Ran jy := by
    intro l hb
    have := num_ran l hb
    unfold jy onlyP
    split
    · split
      · exact this
      · exact ⟨Int.le_refl 0, by show (0 : Int) ≤ l.length; omega⟩
    · exact this
  have hv : nv jy l (nk dX l (nk aR l 0 0) 0) = kk := by
    show (jy (l.drop (nk dX l (nk aR l 0 0) 0).toNat)).1 = kk
    rw [hkind]
    exact hK
  have hkk : nk jy l (nk dX l (nk aR l 0 0) 0) 0 = nk fB l (nk dX l (nk aR l 0 0) 0) 0 := by
    show (if (0 : Int) = 0 then nk dX l (nk aR l 0 0) 0 + (jy (l.drop (nk dX l (nk aR l 0 0) 0).toNat)).2.1 else _) = _
    rw [hkind]
    rfl
  obtain ⟨f1, f2, f3⟩ := chain_v (p := jy) (q := fun k => jF aR (fun _ => fV k)) rk hb h2 (a2.trans h0)
  rw [hv, hkk] at f2 f3
  have e1 : (opP l).1 = (nv aR l 0, nv dX l (nk aR l 0 0), kk, nv (fU kk) l (nk fB l (nk dX l (nk aR l 0 0) 0) 0)) := by
    have : (opP l).1 = nv opP l 0 := by unfold nv; simp
    rw [this]
    exact b3.trans (by rw [d3, f3]; rfl)
  have e2 : (opP l).2.1 = nk (fU kk) l (nk fB l (nk dX l (nk aR l 0 0) 0) 0) 0 := by
    have : (opP l).2.1 = nk opP l 0 0 := by unfold nk; simp
    rw [this]
    exact (f2.trans (d2.trans b2)).symm
  rw [e1, e2]
  rfl
end Go.Proofs.Ytddnlnjmikcgfaa.PC
end
