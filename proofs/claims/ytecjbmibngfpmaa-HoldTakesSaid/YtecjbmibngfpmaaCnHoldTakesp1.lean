/- What the functions that the law reaches come to, down to the law itself. -/
import Derived.Test.YtecjbmibngfpmaaCnHoldTakesp0
import Derived.Test.YtecjbmibngfpmaaProg
import Derived.Lib.Overlaps
set_option linter.unusedVariables false
set_option linter.unusedSimpArgs false
set_option maxRecDepth 100000
namespace Go.Proofs.YtecjbmibngfpmaaAn
open Go
/- arras/hold.May$1 -/
theorem vc49 (x0 : Int) (x1 : Int) (x2 : Int) (x3 : AV) (x4 : Int) (x5 : Int) (x6 : Int) (x7 : Int) (x8 : Int) (x9 : List Nat) (x10 : Int) (x11 : Int) (p : AV) (h : Hp) (Post : AV → Hp → Prop) : vcCall Try.prog [] 49 [.ag [.ii .i64 x0, .ii .i64 x1, .ii .i64 x2, .vv x3, .ii .i64 x4, .ii .i64 x5, .ii .i64 x6, .ii .i64 x7, .ii .i64 x8, .ss x9, .ii .i64 x10, .ii .i64 x11], .vv p] h Post = (
  ∀ (p0 : Nat),
  onO (ptrV p) fun r0 =>
    onO (rdH h r0.fst r0.snd 12) fun l0 =>
      onL
        [Kd.int IntKind.i64, Kd.int IntKind.i64, Kd.int IntKind.i64, Kd.ref, Kd.int IntKind.i64, Kd.int IntKind.i64, Kd.int IntKind.i64, Kd.int IntKind.i64, Kd.int IntKind.i64, Kd.str,
          Kd.int IntKind.i64, Kd.int IntKind.i64]
        l0 fun n0 n1 n2 a0 n3 n4 n5 n6 n7 l1 n8 n9 =>
        wpC Try.prog 50
          [AV.agg
              [AV.i IntKind.i64 x0, AV.i IntKind.i64 x1, AV.i IntKind.i64 x2, x3, AV.i IntKind.i64 x4, AV.i IntKind.i64 x5, AV.i IntKind.i64 x6, AV.i IntKind.i64 x7, AV.i IntKind.i64 x8, AV.s x9,
                AV.i IntKind.i64 x10, AV.i IntKind.i64 x11],
            AV.agg
              [AV.i IntKind.i64 n0, AV.i IntKind.i64 n1, AV.i IntKind.i64 n2, a0, AV.i IntKind.i64 n3, AV.i IntKind.i64 n4, AV.i IntKind.i64 n5, AV.i IntKind.i64 n6, AV.i IntKind.i64 n7, AV.s l1,
                AV.i IntKind.i64 n8, AV.i IntKind.i64 n9]]
          (fun a1 h0 => onRet [Sh.one Kd.bool] a1 fun c0 => Post (AV.b c0) h0) h) := by kernel_rfl
/- arras/hold.Let$1 -/
theorem vc52 (x0 : Int) (x1 : Int) (x2 : Int) (x3 : AV) (x4 : Int) (x5 : Int) (x6 : Int) (x7 : Int) (x8 : Int) (x9 : List Nat) (x10 : Int) (x11 : Int) (p : AV) (h : Hp) (Post : AV → Hp → Prop) : vcCall Try.prog [] 52 [.ag [.ii .i64 x0, .ii .i64 x1, .ii .i64 x2, .vv x3, .ii .i64 x4, .ii .i64 x5, .ii .i64 x6, .ii .i64 x7, .ii .i64 x8, .ss x9, .ii .i64 x10, .ii .i64 x11], .vv p] h Post = (
  ∀ (p0 : Nat),
  onO (ptrV p) fun r0 =>
    onO (rdH h r0.fst r0.snd 12) fun l0 =>
      onL
        [Kd.int IntKind.i64, Kd.int IntKind.i64, Kd.int IntKind.i64, Kd.ref, Kd.int IntKind.i64, Kd.int IntKind.i64, Kd.int IntKind.i64, Kd.int IntKind.i64, Kd.int IntKind.i64, Kd.str,
          Kd.int IntKind.i64, Kd.int IntKind.i64]
        l0 fun n0 n1 n2 a0 n3 n4 n5 n6 n7 l1 n8 n9 =>
        wpC Try.prog 50
          [AV.agg
              [AV.i IntKind.i64 x0, AV.i IntKind.i64 x1, AV.i IntKind.i64 x2, x3, AV.i IntKind.i64 x4, AV.i IntKind.i64 x5, AV.i IntKind.i64 x6, AV.i IntKind.i64 x7, AV.i IntKind.i64 x8, AV.s x9,
                AV.i IntKind.i64 x10, AV.i IntKind.i64 x11],
            AV.agg
              [AV.i IntKind.i64 n0, AV.i IntKind.i64 n1, AV.i IntKind.i64 n2, a0, AV.i IntKind.i64 n3, AV.i IntKind.i64 n4, AV.i IntKind.i64 n5, AV.i IntKind.i64 n6, AV.i IntKind.i64 n7, AV.s l1,
                AV.i IntKind.i64 n8, AV.i IntKind.i64 n9]]
          (fun a1 h0 => onRet [Sh.one Kd.bool] a1 fun c0 => Post (AV.b c0) h0) h) := by kernel_rfl
/- arras/hold.Let$2 -/
theorem vc56 (x0 : Int) (x1 : Int) (x2 : Int) (x3 : AV) (x4 : Int) (x5 : Int) (x6 : Int) (x7 : Int) (x8 : Int) (x9 : List Nat) (x10 : Int) (x11 : Int) (p : AV) (h : Hp) (Post : AV → Hp → Prop) : vcCall Try.prog [] 56 [.ag [.ii .i64 x0, .ii .i64 x1, .ii .i64 x2, .vv x3, .ii .i64 x4, .ii .i64 x5, .ii .i64 x6, .ii .i64 x7, .ii .i64 x8, .ss x9, .ii .i64 x10, .ii .i64 x11], .vv p] h Post = (
  ∀ (p0 : Nat),
  onO (ptrV p) fun r0 =>
    onO (rdH h r0.fst r0.snd 1) fun l0 =>
      onL [Kd.ref] l0 fun a0 =>
        wpC Try.prog 42
          [a0,
            AV.agg
              [AV.i IntKind.i64 x0, AV.i IntKind.i64 x1, AV.i IntKind.i64 x2, x3, AV.i IntKind.i64 x4, AV.i IntKind.i64 x5, AV.i IntKind.i64 x6, AV.i IntKind.i64 x7, AV.i IntKind.i64 x8, AV.s x9,
                AV.i IntKind.i64 x10, AV.i IntKind.i64 x11]]
          (fun a1 h0 => onRet [Sh.one Kd.bool] a1 fun c0 => Post (AV.b c0) h0) h) := by kernel_rfl
/- arras/hold.Let$3 -/
theorem vc59 (x0 : Int) (x1 : Int) (x2 : Int) (x3 : AV) (x4 : Int) (x5 : Int) (x6 : Int) (x7 : Int) (x8 : Int) (x9 : List Nat) (x10 : Int) (x11 : Int) (p : AV) (h : Hp) (Post : AV → Hp → Prop) : vcCall Try.prog [] 59 [.ag [.ii .i64 x0, .ii .i64 x1, .ii .i64 x2, .vv x3, .ii .i64 x4, .ii .i64 x5, .ii .i64 x6, .ii .i64 x7, .ii .i64 x8, .ss x9, .ii .i64 x10, .ii .i64 x11], .vv p] h Post = (
  ∀ (p0 : Nat),
  onO (ptrV p) fun r0 =>
    onO (rdH h r0.fst r0.snd 1) fun l0 =>
      onL [Kd.ref] l0 fun a0 => onO (idxV a0 x1 1) fun r1 => onO (rdH h r1.fst r1.snd 1) fun l1 => onL [Kd.int IntKind.i64] l1 fun n0 => Post (AV.b (decide (x2 ≤ n0))) h) := by kernel_rfl
/- slices.ContainsFunc[[]arras/api.Op,arras/api.Op] -/
theorem vc48 (a : AV) (b : AV) (h : Hp) (Post : AV → Hp → Prop) : vcCall Try.prog [] 48 [(SV.vv a), (SV.vv b)] h Post = (
  wpC Try.prog 55 [a, b] (fun a0 h0 => onRet [Sh.one (Kd.int IntKind.i64)] a0 fun n0 => Post (AV.b (decide (0 ≤ n0))) h0) h) := by kernel_rfl
/- slices.IndexFunc[[]arras/api.Op,arras/api.Op] -/
theorem vc55 (a : AV) (b : AV) (h : Hp) (Post : AV → Hp → Prop) : vcCall Try.prog [] 55 [(SV.vv a), (SV.vv b)] h Post = (
  onO (lenV a) fun p0 =>
  ∃ I0 : Nat → Int → Int → Hp → Prop,
    (∃ p1, I0 p1 0 0 h) ∧
      ∀ (p2 : Nat) (h0 : Hp) (n0 n1 : Int),
        I0 p2 n0 n1 h0 →
          onB (decide (n1 < ↑p0))
            (onO (idxV a n1 12) fun r0 =>
              onO (rdH h0 r0.fst r0.snd 12) fun l0 =>
                onL
                  [Kd.int IntKind.i64, Kd.int IntKind.i64, Kd.int IntKind.i64, Kd.ref, Kd.int IntKind.i64, Kd.int IntKind.i64, Kd.int IntKind.i64, Kd.int IntKind.i64, Kd.int IntKind.i64, Kd.str,
                    Kd.int IntKind.i64, Kd.int IntKind.i64]
                  l0 fun n2 n3 n4 a0 n5 n6 n7 n8 n9 l1 n10 n11 =>
                  onO (fnV b) fun r1 =>
                    onC (fnOk Try.prog r1.fst)
                      (wpC Try.prog r1.fst
                        (AV.agg
                            [AV.i IntKind.i64 n2, AV.i IntKind.i64 n3, AV.i IntKind.i64 n4, a0, AV.i IntKind.i64 n5, AV.i IntKind.i64 n6, AV.i IntKind.i64 n7, AV.i IntKind.i64 n8, AV.i IntKind.i64 n9,
                              AV.s l1, AV.i IntKind.i64 n10, AV.i IntKind.i64 n11] ::
                            r1.snd)
                        (fun a1 h1 => onRet [Sh.one Kd.bool] a1 fun c0 => onB c0 (Post (AV.i IntKind.i64 n1) h1) (onO (intO BinOp.add IntKind.i64 n1 1) fun n12 => ∃ p3, ltN p3 p2 ∧ I0 p3 n0 n12 h1))
                        h0))
            (Post (AV.i IntKind.i64 (-1)) h0)) := by kernel_rfl
/- slices.DeleteFunc[[]arras/api.Op,arras/api.Op] -/
theorem vc58 (a : AV) (b : AV) (h : Hp) (Post : AV → Hp → Prop) : vcCall Try.prog [] 58 [(SV.vv a), (SV.vv b)] h Post = (
  wpC Try.prog 55 [a, b]
  (fun a0 h0 =>
    onRet [Sh.one (Kd.int IntKind.i64)] a0 fun n0 =>
      onB (decide (n0 = -1)) (Post a h0)
        (onO (intO BinOp.add IntKind.i64 n0 1) fun n1 =>
          ∃ I0 : Nat → Int → Int → Hp → Prop,
            (∃ p0, I0 p0 n0 n1 h0) ∧
              ∀ (p1 : Nat) (h1 : Hp) (n2 n3 : Int),
                I0 p1 n2 n3 h1 →
                  onO (lenV a) fun p2 =>
                    onB (decide (n3 < ↑p2))
                      (onO (idxV a n3 12) fun r0 =>
                        onO (rdH h1 r0.fst r0.snd 12) fun l0 =>
                          onL
                            [Kd.int IntKind.i64, Kd.int IntKind.i64, Kd.int IntKind.i64, Kd.ref, Kd.int IntKind.i64, Kd.int IntKind.i64, Kd.int IntKind.i64, Kd.int IntKind.i64, Kd.int IntKind.i64,
                              Kd.str, Kd.int IntKind.i64, Kd.int IntKind.i64]
                            l0 fun n4 n5 n6 a1 n7 n8 n9 n10 n11 l1 n12 n13 =>
                            ∀ (p3 : Nat),
                              onO (fnV b) fun r1 =>
                                onC (fnOk Try.prog r1.fst)
                                  (wpC Try.prog r1.fst
                                    (AV.agg
                                        [AV.i IntKind.i64 n4, AV.i IntKind.i64 n5, AV.i IntKind.i64 n6, a1, AV.i IntKind.i64 n7, AV.i IntKind.i64 n8, AV.i IntKind.i64 n9, AV.i IntKind.i64 n10,
                                          AV.i IntKind.i64 n11, AV.s l1, AV.i IntKind.i64 n12, AV.i IntKind.i64 n13] ::
                                        r1.snd)
                                    (fun a2 h2 =>
                                      onRet [Sh.one Kd.bool] a2 fun c0 =>
                                        onB (!c0)
                                          (onO (idxV a n2 12) fun r2 =>
                                            wpE
                                              (Eff.w r2.fst r2.snd
                                                (Src.lit
                                                  [AV.i IntKind.i64 n4, AV.i IntKind.i64 n5, AV.i IntKind.i64 n6, a1, AV.i IntKind.i64 n7, AV.i IntKind.i64 n8, AV.i IntKind.i64 n9,
                                                    AV.i IntKind.i64 n10, AV.i IntKind.i64 n11, AV.s l1, AV.i IntKind.i64 n12, AV.i IntKind.i64 n13])
                                                none)
                                              (fun x0 h3 => onO (intO BinOp.add IntKind.i64 n2 1) fun n14 => onO (intO BinOp.add IntKind.i64 n3 1) fun n15 => ∃ p4, ltN p4 p1 ∧ I0 p4 n14 n15 h3) h2)
                                          (onO (intO BinOp.add IntKind.i64 n3 1) fun n16 => ∃ p5, ltN p5 p1 ∧ I0 p5 n2 n16 h2))
                                    h1))
                      (onO (slV a (some n2) none none 12) fun a3 =>
                        onO
                          (clearV
                            [AV.i IntKind.i64 0, AV.i IntKind.i64 0, AV.i IntKind.i64 0, AV.ns, AV.i IntKind.i64 0, AV.i IntKind.i64 0, AV.i IntKind.i64 0, AV.i IntKind.i64 0, AV.i IntKind.i64 0,
                              AV.s [], AV.i IntKind.i64 0, AV.i IntKind.i64 0]
                            a3)
                          fun y0 => wpE y0 (fun x1 h4 => onO (slV a none (some n2) none 12) fun a4 => Post a4 h4) h1)))
  h) := by kernel_rfl
/- slices.BinarySearchFunc[[]arras/api.Op,arras/api.Op,arras/api.Op] -/
theorem vc70 (a : AV) (x0 : Int) (x1 : Int) (x2 : Int) (x3 : AV) (x4 : Int) (x5 : Int) (x6 : Int) (x7 : Int) (x8 : Int) (x9 : List Nat) (x10 : Int) (x11 : Int) (h : Hp) (Post : AV → Hp → Prop) : vcCall Try.prog [] 70 [.vv a, .ag [.ii .i64 x0, .ii .i64 x1, .ii .i64 x2, .vv x3, .ii .i64 x4, .ii .i64 x5, .ii .i64 x6, .ii .i64 x7, .ii .i64 x8, .ss x9, .ii .i64 x10, .ii .i64 x11], .ff 71 []] h Post = (
  ∀ (p0 : Nat),
  onO (lenV a) fun p1 =>
    ∃ I0 : Nat → Int → Int → Hp → Prop,
      (∃ p2, I0 p2 0 (↑p1) h) ∧
        ∀ (p3 : Nat) (h0 : Hp) (n0 n1 : Int),
          I0 p3 n0 n1 h0 →
            onB (decide (n0 < n1))
              (onO (intO BinOp.add IntKind.i64 n0 n1) fun n2 =>
                onO (wrO IntKind.u64 n2) fun n3 =>
                  onO (shO BinOp.shr IntKind.u64 n3 1) fun n4 =>
                    onO (wrO IntKind.i64 n4) fun n5 =>
                      onO (idxV a n5 12) fun r0 =>
                        onO (rdH h0 r0.fst r0.snd 12) fun l0 =>
                          onL
                            [Kd.int IntKind.i64, Kd.int IntKind.i64, Kd.int IntKind.i64, Kd.ref, Kd.int IntKind.i64, Kd.int IntKind.i64, Kd.int IntKind.i64, Kd.int IntKind.i64, Kd.int IntKind.i64,
                              Kd.str, Kd.int IntKind.i64, Kd.int IntKind.i64]
                            l0 fun n6 n7 n8 a0 n9 n10 n11 n12 n13 l1 n14 n15 =>
                            wpC Try.prog (OfNat.ofNat 71)
                              [AV.agg
                                  [AV.i IntKind.i64 n6, AV.i IntKind.i64 n7, AV.i IntKind.i64 n8, a0, AV.i IntKind.i64 n9, AV.i IntKind.i64 n10, AV.i IntKind.i64 n11, AV.i IntKind.i64 n12,
                                    AV.i IntKind.i64 n13, AV.s l1, AV.i IntKind.i64 n14, AV.i IntKind.i64 n15],
                                AV.agg
                                  [AV.i IntKind.i64 x0, AV.i IntKind.i64 x1, AV.i IntKind.i64 x2, x3, AV.i IntKind.i64 x4, AV.i IntKind.i64 x5, AV.i IntKind.i64 x6, AV.i IntKind.i64 x7,
                                    AV.i IntKind.i64 x8, AV.s x9, AV.i IntKind.i64 x10, AV.i IntKind.i64 x11]]
                              (fun a1 h1 =>
                                onRet [Sh.one (Kd.int IntKind.i64)] a1 fun n16 =>
                                  onB (decide (n16 < 0)) (onO (intO BinOp.add IntKind.i64 n5 1) fun n17 => ∃ p4, ltN p4 p3 ∧ I0 p4 n17 n1 h1) (∃ p5, ltN p5 p3 ∧ I0 p5 n0 n5 h1))
                              h0)
              (onB (decide (n0 < ↑p1))
                (onO (idxV a n0 12) fun r1 =>
                  onO (rdH h0 r1.fst r1.snd 12) fun l2 =>
                    onL
                      [Kd.int IntKind.i64, Kd.int IntKind.i64, Kd.int IntKind.i64, Kd.ref, Kd.int IntKind.i64, Kd.int IntKind.i64, Kd.int IntKind.i64, Kd.int IntKind.i64, Kd.int IntKind.i64, Kd.str,
                        Kd.int IntKind.i64, Kd.int IntKind.i64]
                      l2 fun n18 n19 n20 a2 n21 n22 n23 n24 n25 l3 n26 n27 =>
                      wpC Try.prog (OfNat.ofNat 71)
                        [AV.agg
                            [AV.i IntKind.i64 n18, AV.i IntKind.i64 n19, AV.i IntKind.i64 n20, a2, AV.i IntKind.i64 n21, AV.i IntKind.i64 n22, AV.i IntKind.i64 n23, AV.i IntKind.i64 n24,
                              AV.i IntKind.i64 n25, AV.s l3, AV.i IntKind.i64 n26, AV.i IntKind.i64 n27],
                          AV.agg
                            [AV.i IntKind.i64 x0, AV.i IntKind.i64 x1, AV.i IntKind.i64 x2, x3, AV.i IntKind.i64 x4, AV.i IntKind.i64 x5, AV.i IntKind.i64 x6, AV.i IntKind.i64 x7, AV.i IntKind.i64 x8,
                              AV.s x9, AV.i IntKind.i64 x10, AV.i IntKind.i64 x11]]
                        (fun a3 h2 => onRet [Sh.one (Kd.int IntKind.i64)] a3 fun n28 => Post (AV.tup [AV.i IntKind.i64 n0, AV.b (decide (n28 = 0))]) h2) h0)
                (Post (AV.tup [AV.i IntKind.i64 n0, AV.b false]) h0))) := by kernel_rfl
/-! ### plain -/
noncomputable def coverV (v d : List Int) : Bool := decide (∀ k, k < v.length → d.getD k 0 ≤ v.getD k 0)
noncomputable def readyV (v : List Int) (o : D.Op) : Bool := decide (v.getD o.stamp.rep.toNat 0 = o.seq - 1) && coverV v o.deps
noncomputable def fitsO (v : List Int) (o : D.Op) : Bool := mayO o && decide (o.deps.length = v.length)
noncomputable def twinO (a b : D.Op) : Bool := decide (a.stamp.rep = b.stamp.rep) && decide (a.seq = b.seq)
theorem fits_rep {v : List Int} {o : D.Op} (h : fitsO v o = true) : ∃ r : Nat, o.stamp.rep = r ∧ r < v.length ∧ 1 ≤ o.seq ∧ o.seq ≤ 1099511627776 ∧ o.deps.length = v.length ∧ mayO o = true := by
  unfold fitsO at h
  rw [Bool.and_eq_true, decide_eq_true_eq] at h
  obtain ⟨h1, h2⟩ := h
  obtain ⟨g1, g2⟩ := mayO_rep h1
  have h0 := h1
  unfold mayO at h0
  simp only [Bool.and_eq_true] at h0
  obtain ⟨_, hv, _, hs, _⟩ := h0
  obtain ⟨r, hr⟩ := Int.eq_ofNat_of_zero_le g1
  obtain ⟨x, hx⟩ := get_lt (l := o.deps) (k := r) (by omega)
  unfold seqV at hs
  rw [show o.stamp.rep.toNat = r by omega, hx] at hs
  have hx2 := vecV_at hv hx
  simp only [Bool.and_eq_true, decide_eq_true_eq] at hs
  exact ⟨r, hr, by omega, by omega, by omega, h2, h1⟩
theorem getD_some {l : List Int} {k : Nat} {x : Int} (h : l[k]? = some x) : l.getD k 0 = x := by rw [List.getD_eq_getElem?_getD, h]; rfl
section
variable {g h : Hp} {a b c d : AV} {v : List Int} {l m : List D.Op} {o p : D.Op} {Post : AV → Hp → Prop}
theorem c10 {n : Int} (k : Post (.i .i64 n) h) : wpC Try.prog 10 [.i .i64 n] Post h := by
  refine call_sound (args := [.ii .i64 n]) (cuts := []) ⟨trivial, trivial⟩ ?_
  rw [vc10]; exact k
theorem c12 {e : List Int} (ra : IR h a v) (rb : IR h b e) (hl : v.length ≤ e.length) (hb : e.length < 1000000) (k : Post (.b (coverV v e)) h) : wpC Try.prog 12 [a, b] Post h := by
  refine call_sound (args := [.vv a, .vv b]) (cuts := []) ⟨ra.sc, rb.sc, trivial⟩ ?_
  rw [vc12]
  refine ⟨fun m _ n0 h' => h = h' ∧ ∃ j : Nat, n0 = j ∧ j ≤ v.length ∧ m = v.length - j ∧ ∀ k, k < j → e.getD k 0 ≤ v.getD k 0, ⟨v.length, rfl, 0, rfl, by omega, rfl, fun k hk => by omega⟩, ?_⟩
  rintro m _ _ _ ⟨rfl, j, rfl, hj, rfl, hp⟩
  refine onO.mk ra.len (onB.dec (fun e1 => ?_) (fun e1 => ?_))
  · obtain ⟨x, hx⟩ := get_lt (l := v) (k := j) (by omega)
    obtain ⟨y, hy⟩ := get_lt (l := e) (k := j) (by omega)
    refine int0 rb hy (int0 ra hx (onB.dec (fun e2 => ?_) (fun e2 => ?_)))
    · have : coverV v e = false := decide_eq_false fun q => by
        have := q j (by omega)
        rw [getD_some hx, getD_some hy] at this; omega
      rw [this] at k; exact k
    · exact onO.mk (inc64 (by omega)) ⟨_, by show v.length - (j + 1) < v.length - j; omega, rfl, j + 1, rfl, by omega, rfl, fun k hk => by
        rcases Nat.lt_or_ge k j with h | h
        · exact hp k h
        · have : k = j := by omega
          subst this
          rw [getD_some hx, getD_some hy]; omega⟩
  · have : coverV v e = true := decide_eq_true fun k hk => hp k (by omega)
    rw [this] at k; exact k
theorem c66 {e : List Int} (ra : IR h a v) (rb : IR h b e) (hl : v.length ≤ e.length) (hb : e.length < 1000000) (k : Post (.b (coverV v e)) h) : wpC Try.prog 66 [a, b] Post h := by
  refine call_sound (args := [.vv a, .vv b]) (cuts := []) ⟨ra.sc, rb.sc, trivial⟩ ?_
  rw [vc66]
  refine onO.mk ra.len ⟨fun m _ n0 h' => h = h' ∧ ∃ j : Nat, n0 = j ∧ j ≤ v.length ∧ m = v.length - j ∧ ∀ k, k < j → e.getD k 0 ≤ v.getD k 0, ⟨v.length, rfl, 0, rfl, by omega, rfl, fun k hk => by omega⟩, ?_⟩
  rintro m _ _ _ ⟨rfl, j, rfl, hj, rfl, hp⟩
  refine onB.dec (fun e1 => ?_) (fun e1 => ?_)
  · obtain ⟨x, hx⟩ := get_lt (l := v) (k := j) (by omega)
    obtain ⟨y, hy⟩ := get_lt (l := e) (k := j) (by omega)
    refine int0 rb hy (int0 ra hx (onB.dec (fun e2 => ?_) (fun e2 => ?_)))
    · have : coverV v e = false := decide_eq_false fun q => by
        have := q j (by omega)
        rw [getD_some hx, getD_some hy] at this; omega
      rw [this] at k; exact k
    · exact onO.mk (inc64 (by omega)) ⟨_, by show v.length - (j + 1) < v.length - j; omega, rfl, j + 1, rfl, by omega, rfl, fun k hk => by
        rcases Nat.lt_or_ge k j with h | h
        · exact hp k h
        · have : k = j := by omega
          subst this
          rw [getD_some hx, getD_some hy]; omega⟩
  · have : coverV v e = true := decide_eq_true fun k hk => hp k (by omega)
    rw [this] at k; exact k
theorem c50 (ha : a.sc = true) (hb : b.sc = true) (k : Post (.b (twinO o p)) h) : wpC Try.prog 50 [.agg (opC o a), .agg (opC p b)] Post h := by
  refine call_sound (args := [opS o a, opS p b]) (cuts := []) ⟨opS_good ha, opS_good hb, trivial⟩ ?_
  unfold opS
  rw [vc50]
  unfold twinO at k
  refine fun _ _ => onB.dec (fun e => ?_) (fun e => ?_)
  · rw [decide_eq_true e, Bool.true_and] at k; exact k
  · rw [decide_eq_false e, Bool.false_and] at k; exact k
theorem c44 (ha : a.sc = true) (hb : b.sc = true) (k : Post (.b (twinO o p)) h) : wpC Try.prog 44 [.agg (opC o a), .agg (opC p b)] Post h := by
  refine call_sound (args := [opS o a, opS p b]) (cuts := []) ⟨opS_good ha, opS_good hb, trivial⟩ ?_
  unfold opS
  rw [vc44]
  unfold twinO at k
  refine fun _ _ => onB.dec (fun e => ?_) (fun e => ?_)
  · rw [decide_eq_true e, Bool.true_and] at k; exact k
  · rw [decide_eq_false e, Bool.false_and] at k; exact k
theorem c47 (ha : a.sc = true) (hb : b.sc = true) (k : ∀ h', h.le h' → h'.lo = h.lo → Post (.b (decide (cmpT o.stamp p.stamp < 0))) h') : wpC Try.prog 47 [.agg (opC o a), .agg (opC p b)] Post h := by
  refine call_sound (args := [opS o a, opS p b]) (cuts := []) ⟨opS_good ha, opS_good hb, trivial⟩ ?_
  unfold opS
  rw [vc47]
  exact fun _ _ => c67 (a := o.stamp) (b := p.stamp) fun h' le lo => onRet.i (k h' le lo)
theorem c31 (ra : IR h a v) (rd : IR h d o.deps) (hd : o.deps.length < 1000000) (k : Post (.b (fitsO v o)) h) : wpC Try.prog 31 [a, .agg (opC o d)] Post h := by
  refine call_sound (args := [.vv a, opS o d]) (cuts := []) ⟨ra.sc, opS_good rd.sc, trivial⟩ ?_
  unfold opS
  rw [vc31]
  unfold fitsO at k
  refine fun _ => c51 rd hd (onRet.b (onB.mk (fun e => onO.mk rd.len (onO.mk ra.len ?_)) (fun e => ?_)))
  · rw [e, Bool.true_and] at k
    rw [show decide ((o.deps.length : Int) = v.length) = decide (o.deps.length = v.length) by rw [decide_eq_decide]; omega]
    exact k
  · rw [e, Bool.false_and] at k; exact k
theorem c42 (ra : IR h a v) (rd : IR h d o.deps) (hf : fitsO v o = true) (hv : v.length < 1000000) (k : Post (.b (readyV v o)) h) : wpC Try.prog 42 [a, .agg (opC o d)] Post h := by
  refine call_sound (args := [.vv a, opS o d]) (cuts := []) ⟨ra.sc, opS_good rd.sc, trivial⟩ ?_
  unfold opS
  rw [vc42]
  obtain ⟨r, hr, hlt, s1, s2, hdl, _⟩ := fits_rep hf
  obtain ⟨x, hx⟩ := get_lt (l := v) (k := r) hlt
  unfold readyV at k
  rw [hr, Int.toNat_natCast, getD_some hx] at k
  rw [hr]
  refine fun _ => int0 ra hx (onO.mk (sub64 (by omega) (by omega)) (onB.dec (fun e => ?_) (fun e => ?_)))
  · rw [decide_eq_true e, Bool.true_and] at k
    exact c66 ra rd (by omega) (by omega) (onRet.b k)
  · rw [decide_eq_false e, Bool.false_and] at k; exact k
theorem c18 (ra : IR h a v) (rd : IR h d o.deps) (hf : fitsO v o = true) (hv : v.length < 1000000) (k : Post (.b (readyV v o)) h) : wpC Try.prog 18 [a, .agg (opC o d)] Post h := by
  refine call_sound (args := [.vv a, opS o d]) (cuts := []) ⟨ra.sc, opS_good rd.sc, trivial⟩ ?_
  unfold opS
  rw [vc18]
  obtain ⟨r, hr, hlt, s1, s2, hdl, _⟩ := fits_rep hf
  obtain ⟨x, hx⟩ := get_lt (l := v) (k := r) hlt
  unfold readyV at k
  rw [hr, Int.toNat_natCast, getD_some hx] at k
  rw [hr]
  refine fun _ => int0 ra hx (onO.mk (sub64 (by omega) (by omega)) (onB.dec (fun e => ?_) (fun e => ?_)))
  · rw [decide_eq_true e, Bool.true_and] at k
    exact c12 ra rd (by omega) (by omega) (onRet.b k)
  · rw [decide_eq_false e, Bool.false_and] at k; exact k
theorem c17 (ra : IR h a v) (rd : IR h d o.deps) (hv : v.length < 1000000) (hd : o.deps.length < 1000000) (k : Post (.b (vecV v && fitsO v o)) h) : wpC Try.prog 17 [a, .agg (opC o d)] Post h := by
  refine call_sound (args := [.vv a, opS o d]) (cuts := []) ⟨ra.sc, opS_good rd.sc, trivial⟩ ?_
  unfold opS
  rw [vc17]
  unfold fitsO at k
  refine fun _ => c36 ra hv (onRet.b (onB.mk (fun e => c11 rd hd (onRet.b (onB.mk (fun e1 => onO.mk rd.len (onO.mk ra.len ?_)) (fun e1 => ?_)))) (fun e => ?_)))
  · rw [e, e1, Bool.true_and, Bool.true_and] at k
    rw [show decide ((o.deps.length : Int) = v.length) = decide (o.deps.length = v.length) by rw [decide_eq_decide]; omega]
    exact k
  · rw [e, e1, Bool.true_and, Bool.false_and] at k; exact k
  · rw [e, Bool.false_and] at k; exact k
theorem c16 (ra : IR h a v) (rd : IR h d o.deps) (hv : v.length < 1000000) (hd : o.deps.length < 1000000) (k1 : (vecV v && fitsO v o) = false → Post (.tup [.b false, .i .i64 1]) h) (k2 : (vecV v && fitsO v o) = true → Post (.tup [.b (readyV v o), .i .i64 0]) h) : wpC Try.prog 16 [a, .agg (opC o d)] Post h := by
  refine call_sound (args := [.vv a, opS o d]) (cuts := []) ⟨ra.sc, opS_good rd.sc, trivial⟩ ?_
  unfold opS
  rw [vc16]
  exact fun _ => c29 ra hv (onRet.b (onB.not (fun e => k1 (by rw [e]; rfl)) (fun e => c31 ra rd hd (onRet.b (onB.not (fun e1 => k1 (by rw [e, e1]; rfl)) (fun e1 => c42 ra rd e1 hv (onRet.b (k2 (by rw [e, e1]; rfl)))))))))
theorem c15 (ra : IR h a v) (rb : OpRow h b l) (rc : OpRow h c m) (h1 : v.length ≤ 140737488351232) (h2 : l.length ≤ 140737488351232) (h3 : m.length ≤ 140737488351232) (k1 : Post (.b true) h)
    (k2 : v.length ≤ 5000 → (l.length ≤ 5000 ∧ ∀ o ∈ l, o.deps.length ≤ 5000) → (m.length ≤ 5000 ∧ ∀ o ∈ m, o.deps.length ≤ 5000) → Post (.b false) h) : wpC Try.prog 15 [.agg [a, b, c]] Post h := by
  refine call_sound (args := [.ag [.vv a, .vv b, .vv c]]) (cuts := []) ⟨⟨ra.sc, rb.sc, rc.sc, trivial⟩, trivial⟩ ?_
  rw [vc15]
  refine fun _ => onO.mk ra.len (c41 rb h2 fun n n0 n1 hn => onRet.i (onO.mk (add64 (by omega) (by omega)) (c41 rc h3 fun n' n0' n1' hn' => onRet.i (onO.mk (add64 (by omega) (by omega)) ?_))))
  by_cases e : (5000 : Int) < (v.length : Int) + n + n'
  · rw [decide_eq_true e]; exact k1
  · rw [decide_eq_false e]
    obtain ⟨q1, q2⟩ := hn (by omega)
    obtain ⟨q3, q4⟩ := hn' (by omega)
    exact k2 (by omega) ⟨q1, fun o ho => (q2 o ho).1⟩ ⟨q3, fun o ho => (q4 o ho).1⟩
end
theorem All2.set {α β : Type} {R : α → β → Prop} {xs : List α} {ys : List β} (h : All2 R xs ys) {i : Nat} {x : α} {y : β} (hr : R x y) : All2 R (xs.set i x) (ys.set i y) :=
  All2.of_get (by rw [List.length_set, List.length_set, h.length]) fun k a b ha hb => by
    by_cases e : i = k
    · subst e
      rw [List.getElem?_set_self' ] at ha hb
      cases hx : xs[i]? with
      | none => rw [hx] at ha; cases ha
      | some _ =>
        cases hy : ys[i]? with
        | none => rw [hy] at hb; cases hb
        | some _ =>
          rw [hx] at ha; rw [hy] at hb
          injection ha with ha; injection hb with hb
          subst ha; subst hb; exact hr
    · rw [List.getElem?_set_ne e] at ha hb
      exact h.get2 ha hb
/-- one element written -/
theorem Kn.Own.set1 {α : Type} {d : Kn α} {g h : Hp} {a : AV} {l : List α} {sz : Nat} (o : d.Own g h a l) (hsz : d.sz = sz) (fl : d.Flat) {i : Nat} {x : α} {c : List AV} (hi : i < l.length) (hx : d.K h x c) {Post : Option AV → Hp → Prop} (k : ∀ h', d.Own g h' a (l.set i x) → Post none h') :
    onO (idxV a (i : Int) sz) fun r => wpE (.w r.1 r.2 (.lit c) none) Post h := by
  subst hsz
  obtain ⟨p, css, h0, h1, f, h2⟩ := o
  have hcl : c.length = d.sz := Kn.all_len (All2.cons hx .nil) c (by simp)
  have hsc : c.all AV.sc = true := by have := Kn.all_sc (All2.cons hx .nil); simpa using this
  obtain ⟨c0, hc0⟩ := get_lt (l := css) (k := i) (by rw [← h2.length]; exact hi)
  have hc0l := f.row.1 c0 (List.mem_of_getElem? hc0)
  refine f.set hc0 0 (new := c) (by omega) hsc fun h' f' => k h' ⟨p, _, h0, h1, f', ?_⟩
  have e : splice c0 0 c = c := by
    unfold splice
    rw [List.take_zero, List.nil_append, List.drop_eq_nil_of_le (by omega), List.append_nil]
  rw [e]
  exact All2.set h2 (fl _ _ _ _ hx)
/-- the place of the first of which it holds -/
noncomputable def idxO (pr : D.Op → Bool) : List D.Op → Nat → Int
  | [], _ => -1
  | o :: l, k => if pr o = true then (k : Int) else idxO pr l (k + 1)
noncomputable def theH : D.Op := ⟨⟨1, 0⟩, 1, [0], 1, ⟨1, 0⟩, ⟨0, 0⟩, [107], 0, 0⟩
theorem IntOwn.putn {g h : Hp} {a : AV} {l : List Int} (o : Kn.int.Own g h a l) {p : Nat} (hp : h.g p = none) (c : List AV) : Kn.int.Own (g.put p c) (h.put p c) a l := by
  obtain ⟨q, css, h0, h1, f, h2⟩ := o
  have hq : q.g p = none := le_none f.le hp
  refine ⟨q.put p c, css, fun k x e => ?_, h1, f.putn hp c, h2.mono fun _ _ k => int_flat _ _ _ _ k⟩
  by_cases hk : k = p
  · subst hk; rw [Hp.put_same] at e ⊢; exact e
  · rw [Hp.put_ne _ _ hk] at e ⊢; exact h0 k x e
theorem onTup.rrri {a b c : AV} {n : Int} (ha : a.sc = true) (hb : b.sc = true) (hc : c.sc = true) {K : AV → AV → AV → Int → Prop} (k : K a b c n) : onTup [Sh.one Kd.ref, Sh.one Kd.ref, Sh.one Kd.ref, Sh.one (Kd.int .i64)] (.tup [a, b, c, .i .i64 n]) K := by
  show onS [Sh.one Kd.ref, Sh.one Kd.ref, Sh.one Kd.ref, Sh.one (Kd.int .i64)] [a, b, c, .i .i64 n] K
  unfold onS
  have e : flatV [Sh.one Kd.ref, Sh.one Kd.ref, Sh.one Kd.ref, Sh.one (Kd.int .i64)] [a, b, c, .i .i64 n] = some [a, b, c, .i .i64 n] := by
    cases a <;> first | (cases ha; done) | (cases b <;> first | (cases hb; done) | (cases c <;> first | rfl | cases hc))
  rw [e]
  exact onRef.mk (K := fun a => onRef b fun b => onRef c fun c => K a b c n) ha (onRef.mk (K := fun b => onRef c fun c => K a b c n) hb (onRef.mk (K := fun c => K a b c n) hc k))
theorem onTup.bi {c : Bool} {n : Int} {K : Bool → Int → Prop} (k : K c n) : onTup [Sh.one Kd.bool, Sh.one (Kd.int .i64)] (.tup [.b c, .i .i64 n]) K := k
section
variable {g h : Hp} {a b c d : AV} {v : List Int} {l m : List D.Op} {o p : D.Op} {Post : AV → Hp → Prop}
theorem c55 {f : FuncId} {caps : List AV} {pr : D.Op → Bool} (ra : OpRow h a l) (hb : l.length < 1000000) (hf : fnOk Try.prog f = true)
    (hp : ∀ o d, o ∈ l → IR h d o.deps → ∀ Post : AV → Hp → Prop, Post (.b (pr o)) h → wpC Try.prog f (.agg (opC o d) :: caps) Post h) (k : Post (.i .i64 (idxO pr l 0)) h) : wpC Try.prog 55 [a, .f f caps] Post h := by
  refine call_sound (args := [.vv a, .vv (.f f caps)]) (cuts := []) ⟨ra.sc, rfl, trivial⟩ ?_
  rw [vc55]
  refine onO.mk ra.len ⟨fun m _ n1 h' => h = h' ∧ ∃ j : Nat, n1 = j ∧ j ≤ l.length ∧ m = l.length - j ∧ idxO pr l 0 = idxO pr (l.drop j) j, ⟨l.length, rfl, 0, rfl, by omega, rfl, rfl⟩, ?_⟩
  rintro m _ _ _ ⟨rfl, j, rfl, hj, rfl, hi⟩
  refine onB.dec (fun e => ?_) (fun e => ?_)
  · obtain ⟨o, ho⟩ := get_lt (l := l) (k := j) (by omega)
    rw [drop_of ho] at hi
    have hs : idxO pr (o :: l.drop (j + 1)) j = if pr o = true then (j : Int) else idxO pr (l.drop (j + 1)) (j + 1) := rfl
    rw [hs] at hi
    refine opW ra (Hp.le_refl _) ho fun d rd kd => onO.mk (a := (f, caps)) rfl ⟨hf, hp o d (List.mem_of_getElem? ho) rd _ (onRet.b (onB.mk (fun e1 => ?_) (fun e1 => ?_)))⟩
    · rw [if_pos e1] at hi
      rw [hi] at k; exact k
    · rw [if_neg (by rw [e1]; simp)] at hi
      exact onO.mk (inc64 (by omega)) ⟨_, by show l.length - (j + 1) < l.length - j; omega, rfl, j + 1, rfl, by omega, rfl, hi⟩
  · have : j = l.length := by omega
    subst this
    rw [List.drop_length] at hi
    rw [hi] at k; exact k
theorem c48 {f : FuncId} {caps : List AV} {pr : D.Op → Bool} (ra : OpRow h a l) (hb : l.length < 1000000) (hf : fnOk Try.prog f = true)
    (hp : ∀ o d, o ∈ l → IR h d o.deps → ∀ Post : AV → Hp → Prop, Post (.b (pr o)) h → wpC Try.prog f (.agg (opC o d) :: caps) Post h) (k : Post (.b (decide (0 ≤ idxO pr l 0))) h) : wpC Try.prog 48 [a, .f f caps] Post h := by
  refine call_sound (args := [.vv a, .vv (.f f caps)]) (cuts := []) ⟨ra.sc, rfl, trivial⟩ ?_
  rw [vc48]
  exact c55 ra hb hf hp (onRet.i k)
theorem c40 (k : ∀ d h', Kn.int.Own h h' d theH.deps → Post (.agg (opC theH d)) h') : wpC Try.prog 40 [] Post h := by
  refine call_sound (args := []) (cuts := []) trivial ?_
  rw [vc40]
  refine fun _ p e1 e2 => k _ _ ⟨h, intC [0], Hp.le_refl h, rfl, Fresh.put (css := intC [0]) (sz := 1) (len := 1) (cs := [.i .i64 0]) (Hp.le_refl h) rfl e1 e2 true (fun c hc => by simp [intC] at hc; subst hc; rfl) rfl rfl, .cons ⟨rfl, by omega, by omega⟩ .nil⟩
theorem ok227 : fnOk Try.prog (fno (fn := 49)) = true := by kernel_rfl
theorem ok229 : fnOk Try.prog (fno (fn := 52)) = true := by kernel_rfl
theorem ok233 : fnOk Try.prog (fno (fn := 56)) = true := by kernel_rfl
theorem ok236 : fnOk Try.prog (fno (fn := 59)) = true := by kernel_rfl
/-- Let, where nothing waits and the one is ready -/
theorem c163n (oa : Kn.int.Own g h a [0]) (rd : IR g d [0]) (k : ∀ r t h', IR h' r [1] → t.sc = true → lenV t = some 1 → Post (.tup [r, .ns, t, .i .i64 0]) h') : wpC Try.prog 32 [a, .ns, .agg (opC theH d)] Post h := by
  refine call_sound (args := [.vv a, .vv .ns, opS theH d]) (cuts := [0, 5000024]) ⟨oa.sc, rfl, opS_good rd.sc, trivial⟩ ?_
  unfold opS
  rw [vc32]
  intro p0 p1 hp1 hl1
  have o1 := IntOwn.putn oa hp1 (opC theH d)
  have r1 : ∀ {H : Hp} (o n : Nat) (c : List AV), (g.put p1 (opC theH d)).le H → sub? (opC theH d) o n = some c → rdH H p1 o n = some c := fun {H} o n c le hs => by
    unfold rdH
    rw [le p1 _ (Hp.put_same _ _ _)]; exact hs
  have hgp1 : g.g p1 = none := le_none oa.le hp1
  have rdd : IR (g.put p1 (opC theH d)) d theH.deps := rd.mono (Hp.le_put hgp1)
  have hfit : fitsO [0] theH = true := by decide
  have hready : readyV [0] theH = true := by decide
  refine ⟨fun c h' => c = false ∧ h' = h.put p1 (opC theH d), ?_, ?_⟩
  · refine onO.mk (r1 1 1 _ o1.le rfl) (onL.i1 (int0 o1.row (k := 0) rfl (onO.mk (r1 2 1 _ o1.le rfl) (onL.i1 (onB.neg rfl ?_)))))
    exact c48 (f := fno (fn := 52)) (pr := fun _ => false) nsO (by simp) ok229 (fun o d ho => by cases ho) (onRet.b ⟨rfl, rfl⟩)
  rintro _ c1 ⟨rfl, rfl⟩
  refine onB.neg rfl (onO.mk (r1 0 12 _ o1.le rfl) (onL.op rd.sc (c42 (o := theH) o1.row (rdd.mono o1.le) hfit (by simp) (onRet.b (onB.neg (by rw [hready]; rfl) fun hp0 hl0 => ?_)))))
  have o2 := IntOwn.putn o1 hp0 [a]
  have hgp0 : (g.put p1 (opC theH d)).g p0 = none := le_none o1.le hp0
  have hpp : (g.put p1 (opC theH d)).le ((g.put p1 (opC theH d)).put p0 [a]) := Hp.le_put hgp0
  have r0 : ∀ {H : Hp}, ((g.put p1 (opC theH d)).put p0 [a]).le H → rdH H p0 0 1 = some [a] := fun {H} le => by
    unfold rdH
    rw [le p0 _ (Hp.put_same _ _ _)]; rfl
  refine ⟨fun m n24 a6 a7 a8 a9 n25 h' => a6 = .ns ∧ a9 = .ns ∧ h' = (h.put p1 (opC theH d)).put p0 [a], ⟨0, rfl, rfl, rfl⟩, ?_⟩
  rintro m _ _ a6 _ a7 _ a8 _ a9 _ _ ⟨rfl, rfl, rfl⟩
  refine Dup.mk ?_
  refine onO.mk (r0 o2.le) ?_
  refine onL.r1 oa.sc ?_
  refine onO.mk (r1 1 1 _ (Hp.le_trans hpp o2.le) rfl) (onL.i1 (onO.mk (r1 2 1 _ (Hp.le_trans hpp o2.le) rfl) (onL.i1 ?_)))
  have hset := o2.set1 (sz := 1) rfl int_flat (i := 0) (x := 1) (c := [.i .i64 1]) (by simp) ⟨rfl, by omega, by omega⟩ (Post := fun v h5 => v = none ∧ Kn.int.Own ((g.put p1 (opC theH d)).put p0 [a]) h5 a [1]) fun h' o' => ⟨rfl, o'⟩
  obtain ⟨r, hr, hw⟩ := onO_some hset
  refine onO.mk hr (wpE.mono hw ?_)
  rintro x0 h5 ⟨rfl, o5⟩
  have le5 := Hp.le_trans hpp o5.le
  refine onO.mk (r1 0 12 _ le5 rfl) (onL.op rd.sc (c54 (o := theH) (rdd.mono le5) (by simp [theH]) fun d6 h6 o6 => onRet.op o6.sc fun _ => ?_))
  have kx : D.kOp.K h6 theH (opC theH d6) := op_mk ⟨by decide, by decide⟩ ⟨by decide, by decide⟩ ⟨by decide, by decide⟩ o6.row (by simp [theH]) ⟨by decide, by decide⟩ ⟨by decide, by decide⟩ ⟨by decide, by decide⟩ ⟨by decide, by decide⟩ ⟨by decide, by decide⟩ (by simp [theH]) (fun x hx => by simp [theH] at hx; omega) ⟨by decide, by decide⟩ ⟨by decide, by decide⟩
  refine (Fresh.nil h6 12).app (n := 1) (css2 := [opC theH d6]) (src := .lit (opC theH d6)) (by simp [srcH]) (fun c hc => by simp at hc; subst hc; rfl) rfl (D.kOp.sc kx |> fun e => by simpa using e) (by simp) fun t h7 f7 => onO.mk rfl ?_
  have o7 : IR h7 a [1] := o5.row.mono (Hp.le_trans o6.le f7.le)
  have le7 : ((g.put p1 (opC theH d)).put p0 [a]).le h7 := Hp.le_trans o5.le (Hp.le_trans o6.le f7.le)
  refine c55 (f := fno (fn := 56)) (pr := fun _ => false) nsO (by simp) ok233 (fun o d ho => by cases ho) (onRet.i (onB.neg rfl ?_))
  refine call_sound (args := [.vv .ns, .vv (.f (fno (fn := 59)) [.p p0 0])]) (cuts := []) ⟨rfl, rfl, trivial⟩ ?_
  rw [vc58]
  refine c55 (f := fno (fn := 59)) (pr := fun _ => false) nsO (by simp) ok236 (fun o d ho => by cases ho) (onRet.i (onB.pos rfl (onRet.r rfl (onO.mk (r0 le7) (onL.r1 oa.sc (k _ _ _ o7 f7.row.sc f7.row.len))))))
theorem c161n (ra : IR h a [0]) (k : ∀ h', h.le h' → h'.lo = h.lo → Post (.b true) h') : wpC Try.prog 30 [a, .ns] Post h := by
  refine call_sound (args := [.vv a, .vv .ns]) (cuts := [0]) ⟨ra.sc, rfl, trivial⟩ ?_
  rw [vc30]
  intro p0 hp hl
  refine ⟨fun m n0 _ h' => n0 = 0 ∧ h' = h.put p0 (opC ⟨⟨0, 0⟩, 0, [], 0, ⟨0, 0⟩, ⟨0, 0⟩, [], 0, 0⟩ .ns), ⟨0, rfl, rfl⟩, ?_⟩
  rintro m _ _ _ ⟨rfl, rfl⟩
  exact Dup.mk (onO.mk (a := 0) rfl (onB.pos rfl (k _ (Hp.le_put hp) rfl)))
theorem c165n (k : Post .ns h) : wpC Try.prog 34 [.ns] Post h := by
  refine call_sound (args := [.vv .ns]) (cuts := []) ⟨rfl, trivial⟩ ?_
  rw [vc34]
  refine call_sound (args := [.vv .ns]) (cuts := []) ⟨rfl, trivial⟩ ?_
  rw [vc60]
  refine onO.mk (a := true) rfl (onB.pos rfl (onRet.r rfl (onO.mk (a := 0) rfl ⟨fun m n0 h' => n0 = 0 ∧ h' = h, ⟨0, rfl, rfl⟩, ?_⟩)))
  rintro m _ _ ⟨rfl, rfl⟩
  exact onB.neg rfl k
theorem c14 (k : ∀ h', Post (.b true) h') : wpC Try.prog 14 [] Post h := by
  refine call_sound (args := []) (cuts := []) trivial ?_
  rw [vc14]
  refine fun p0 => c40 fun d h0 od => onRet.op (o := theH) od.sc fun hp hl => ?_
  have f0 : Fresh h0 (h0.put p0 [.i .i64 0]) (.sl p0 0 1 1 true 1) 1 [[.i .i64 0]] := Fresh.put (css := [[.i .i64 0]]) (sz := 1) (len := 1) (cs := [.i .i64 0]) (Hp.le_refl _) rfl hp hl true (fun c hc => by simp at hc; subst hc; rfl) rfl rfl
  have ra : IR (h0.put p0 [.i .i64 0]) (.sl p0 0 1 1 true 1) [0] := ⟨_, f0.row, .cons ⟨rfl, by omega, by omega⟩ .nil⟩
  have rd : IR (h0.put p0 [.i .i64 0]) d [0] := od.row.mono (Hp.le_put hp)
  refine call_sound (args := [.vv (.sl p0 0 1 1 true 1), .vv .ns, opS theH d]) (cuts := []) ⟨rfl, rfl, opS_good od.sc, trivial⟩ ?_
  unfold opS
  rw [vc9]
  have hv : vecV [0] = true := by decide
  have hfit : fitsO [0] theH = true := by decide
  refine fun _ => c29 ra (by simp) (onRet.b (onB.neg (by rw [hv]; rfl) (c161n ra fun h1 le1 lo1 => onRet.b (onB.neg rfl (c31 (o := theH) (ra.mono le1) (rd.mono le1) (by simp [theH]) (onRet.b (onB.neg (by rw [hfit]; rfl) (c33 (ra.mono le1) (by simp) fun a4 h3 o4 => onRet.r o4.sc (c165n (onRet.r rfl (c163n o4 (rd.mono le1) fun r t h5 r5 st lt => onTup.rrri r5.sc rfl st ?_)))))))))))
  refine onTup.rrri r5.sc rfl st (c10 (onRet.i (onB.pos rfl fun p1 hp1 hl1 => ?_)))
  have f1 : Fresh h5 (h5.put p1 [.i .i64 1]) (.sl p1 0 1 1 true 1) 1 [[.i .i64 1]] := Fresh.put (css := [[.i .i64 1]]) (sz := 1) (len := 1) (cs := [.i .i64 1]) (Hp.le_refl _) rfl hp1 hl1 true (fun c hc => by simp at hc; subst hc; rfl) rfl rfl
  exact c13 (r5.mono (Hp.le_put hp1)) (lb := [1]) ⟨_, f1.row, .cons ⟨rfl, by omega, by omega⟩ .nil⟩ (by simp) (onRet.b (onB.pos rfl (onO.mk (a := 0) rfl (onB.pos rfl (onO.mk lt (k _))))))
theorem hola_open {x : D.HoldB} {cs : List AV} (k : D.kHoldB.K h x cs) : ∃ a0 a1 a2, cs = [a0, a1, a2] ∧ (IR h a0 x.v ∧ x.v.length ≤ 140737488351232) ∧ (OpRow h a1 x.h ∧ x.h.length ≤ 140737488351232) ∧ (OpRow h a2 x.l ∧ x.l.length ≤ 140737488351232) := by
  obtain ⟨a0, a1, a2, e, ⟨r0, h0⟩, ⟨r1, h1⟩, ⟨r2, h2⟩⟩ := D.kHoldB_open k
  exact ⟨a0, a1, a2, e, ⟨r0, by omega⟩, ⟨r1, by omega⟩, ⟨r2, by omega⟩⟩
end
/-! ### parts -/
theorem add_cases {p g : Hp} {k : Nat} {c : List AV} (e : (p.add g).g k = some c) : p.g k = some c ∨ g.g k = some c := by
  have e : (match p.g k with | some c => some c | none => g.g k) = some c := e
  cases h : p.g k with
  | none => rw [h] at e; exact .inr e
  | some x => rw [h] at e; exact .inl e
theorem addH_none {p g : Hp} {k : Nat} (h1 : p.g k = none) (h2 : g.g k = none) : (p.add g).g k = none := by
  show (match p.g k with | some c => some c | none => g.g k) = none
  rw [h1]; exact h2
theorem restH_le (H q : Hp) : (restH H q).le H := fun k c e => by
  have e : (match q.g k with | some _ => none | none => H.g k) = some c := e
  cases h : q.g k with
  | none => rw [h] at e; exact e
  | some x => rw [h] at e; cases e
theorem rest_none {H q : Hp} {k : Nat} (h : q.g k ≠ none) : (restH H q).g k = none := by
  show (match q.g k with | some _ => none | none => H.g k) = none
  cases e : q.g k with
  | none => exact absurd e h
  | some x => rfl
theorem rest_disj' {H q R : Hp} (l : R.le q) : Disj R (restH H q) := fun k c e => rest_none (by rw [l k c e]; simp)
/-- numbers in a part of their own -/
noncomputable def IntP (lo : Nat) (q : Hp) (a : AV) (v : List Int) : Prop := q.lo = lo ∧ Fresh (Hp.none lo) q a 1 (intC v) ∧ IR q a v ∧ ∀ b, q.g b ≠ none → lo ≤ b
/-- operations in a part of their own -/
noncomputable def OpsP (lo : Nat) (q : Hp) (a : AV) (l : List D.Op) : Prop := q.lo = lo ∧ OpOwn (Hp.none lo) q a l
theorem IntP.row {lo : Nat} {q H : Hp} {a : AV} {v : List Int} (p : IntP lo q a v) (l : q.le H) : IR H a v := p.2.2.1.mono l
theorem OpsP.row {lo : Nat} {q H : Hp} {a : AV} {v : List D.Op} (p : OpsP lo q a v) (l : q.le H) : OpRow H a v := by
  have r : OpRow q a v := OpOwn.kn p.2 |>.row
  exact r.mono l
theorem IntP.of {g H : Hp} {a : AV} {v : List Int} (o : Kn.int.Own g H a v) : ∃ q, q.le H ∧ Disj q g ∧ IntP g.lo q a v := by
  obtain ⟨q, q1, q2, q3, q4, q5, q6⟩ := o.part
  exact ⟨q, q1, q2, q3, q5, q6, q4⟩
theorem OpsP.of {g H : Hp} {a : AV} {l : List D.Op} (o : OpOwn g H a l) : ∃ q, q.le H ∧ Disj q g ∧ OpsP g.lo q a l := by
  obtain ⟨q, q1, q2, q3, q4⟩ := o.part
  exact ⟨q, q1, q2, q3, q4⟩
theorem Fresh.outer {p q H : Hp} {a : AV} {sz : Nat} {css : List (List AV)} (f : Fresh p q a sz css) (l : q.le H) (lo : p.lo = H.lo) : Fresh (restH H q) H a sz css :=
  ⟨restH_le _ _, rfl, f.row.mono l, fun b o len lo' ex z e => by
    obtain ⟨n1, n2, cs, n3, n4⟩ := f.new _ _ _ _ _ _ e
    exact ⟨rest_none (by rw [n3]; simp), by show H.lo ≤ b; rw [← lo]; exact n2, cs, l b cs n3, n4⟩⟩
theorem ints_all {h : Hp} {a : AV} {v : List Int} (r : IR h a v) {H : Hp} : All2 (Kn.int.K H) v (intC v) := by
  obtain ⟨css, r1, r2⟩ := r
  have := ints_css r2
  subst this
  exact r2.mono fun _ _ k => int_flat _ _ _ _ k
theorem IntP.outer {q H : Hp} {a : AV} {v : List Int} (p : IntP H.lo q a v) (l : q.le H) : Kn.int.Own (restH H q) H a v :=
  ⟨restH H q, intC v, Hp.le_refl _, rfl, p.2.1.outer l rfl, ints_all p.2.2.1⟩
theorem OpsP.outerE {q H : Hp} {a : AV} {l : List D.Op} (p : OpsP H.lo q a l) (hl : q.le H) : ∃ p' css qs, OwnE eOp 12 (restH H q) H a l p' css qs ∧ ∀ i, (qs i).le q := by
  obtain ⟨hlo, p0, css, qs, o⟩ := p
  have hp0 : p0.le q := o.fr.le
  have hd : Disj p0 (restH H q) := rest_disj' hp0
  refine ⟨(restH H q).add p0, css, qs, ⟨Hp.le_left _ _, o.lo, ⟨fun k c e => ?_, o.lo.symm, o.fr.row.mono hl, fun b of len lo ex z e => ?_⟩, o.len, fun i => Hp.le_trans (o.sub i) (Hp.le_right hd.symm), fun i => rest_disj' (Hp.le_trans (o.sub i) hp0), o.dd, fun i => (o.qlo i), fun i b e => o.own i b e, o.el⟩, fun i => Hp.le_trans (o.sub i) hp0⟩
  · rcases add_cases e with e | e
    · exact restH_le _ _ k c e
    · exact hl k c (hp0 k c e)
  · obtain ⟨n1, n2, cs, n3, n4⟩ := o.fr.new _ _ _ _ _ _ e
    exact ⟨addH_none (rest_none (by rw [n3]; simp)) n1, n2, cs, hl b cs n3, n4⟩
theorem OpsP.outer {q H : Hp} {a : AV} {l : List D.Op} (p : OpsP H.lo q a l) (hl : q.le H) : OpOwn (restH H q) H a l := by
  obtain ⟨p', css, qs, o, _⟩ := p.outerE hl
  exact ⟨p', css, qs, o⟩
section
variable {g h : Hp} {a b c d : AV} {v : List Int} {l m : List D.Op} {o p : D.Op} {Post : AV → Hp → Prop}
/-! ### what is asked of each -/
theorem c52 {q : Nat} (hd : d.sc = true) (hb : rdH h q 0 12 = some (opC p c)) (hc : c.sc = true) (k : Post (.b (twinO o p)) h) : wpC Try.prog 52 [.agg (opC o d), .p q 0] Post h := by
  refine call_sound (args := [opS o d, .vv (.p q 0)]) (cuts := []) ⟨opS_good hd, rfl, trivial⟩ ?_
  unfold opS
  rw [vc52]
  exact fun _ => onO.mk (a := (q, 0)) rfl (onO.mk hb (onL.op hc (c50 hd hc (onRet.b k))))
theorem c49 {q : Nat} (hd : d.sc = true) (hb : rdH h q 0 12 = some (opC p c)) (hc : c.sc = true) (k : Post (.b (twinO o p)) h) : wpC Try.prog 49 [.agg (opC o d), .p q 0] Post h := by
  refine call_sound (args := [opS o d, .vv (.p q 0)]) (cuts := []) ⟨opS_good hd, rfl, trivial⟩ ?_
  unfold opS
  rw [vc49]
  exact fun _ => onO.mk (a := (q, 0)) rfl (onO.mk hb (onL.op hc (c50 hd hc (onRet.b k))))
theorem c56 {q : Nat} (rd : IR h d o.deps) (hb : rdH h q 0 1 = some [a]) (ra : IR h a v) (hf : fitsO v o = true) (hv : v.length < 1000000) (k : Post (.b (readyV v o)) h) : wpC Try.prog 56 [.agg (opC o d), .p q 0] Post h := by
  refine call_sound (args := [opS o d, .vv (.p q 0)]) (cuts := []) ⟨opS_good rd.sc, rfl, trivial⟩ ?_
  unfold opS
  rw [vc56]
  exact fun _ => onO.mk (a := (q, 0)) rfl (onO.mk hb (onL.r1 ra.sc (c42 ra rd hf hv (onRet.b k))))
noncomputable def staleV (v : List Int) (o : D.Op) : Bool := decide (o.seq ≤ v.getD o.stamp.rep.toNat 0)
theorem c59 {q : Nat} (rd : IR h d o.deps) (hb : rdH h q 0 1 = some [a]) (ra : IR h a v) (hf : fitsO v o = true) (hv : v.length < 1000000) (k : Post (.b (staleV v o)) h) : wpC Try.prog 59 [.agg (opC o d), .p q 0] Post h := by
  refine call_sound (args := [opS o d, .vv (.p q 0)]) (cuts := []) ⟨opS_good rd.sc, rfl, trivial⟩ ?_
  unfold opS
  rw [vc59]
  obtain ⟨r, hr, hlt, s1, s2, hdl, _⟩ := fits_rep hf
  obtain ⟨x, hx⟩ := get_lt (l := v) (k := r) hlt
  unfold staleV at k
  rw [hr, Int.toNat_natCast, getD_some hx] at k
  rw [hr]
  exact fun _ => onO.mk (a := (q, 0)) rfl (onO.mk hb (onL.r1 ra.sc (int0 ra hx k)))
/-! ### an element taken out -/
theorem slV_two {b o len cap sz i j m : Nat} {ex : Bool} (h1 : i ≤ j) (h2 : j ≤ m) (h3 : m ≤ cap) : ∃ r, slV (.sl b o len cap ex sz) (some (.ofNat i)) (some (.ofNat j)) (some (.ofNat m)) sz = some r := by
  refine ⟨.sl b (cond (Nat.beq m i) o (o + i * sz)) (j - i) (m - i) true sz, ?_⟩
  show (cond (Nat.beq sz sz) (cond true (cond (Nat.ble i j && Nat.ble j m && Nat.ble m cap) _ none) none) none : Option AV) = _
  rw [Nat.beq_refl, cond_true, cond_true, Nat.ble_eq_true_of_le h1, Nat.ble_eq_true_of_le h2, Nat.ble_eq_true_of_le h3]
  rfl
theorem slV_lohi {b o len cap sz i j : Nat} {ex : Bool} (h1 : i ≤ j) (h3 : j ≤ cap) : slV (.sl b o len cap ex sz) (some (.ofNat i)) (some (.ofNat j)) none sz = some (.sl b (cond (Nat.beq cap i) o (o + i * sz)) (j - i) (cap - i) ex sz) := by
  show (cond (Nat.beq sz sz) (cond (Nat.ble i j && Nat.ble j cap) _ none) none : Option AV) = _
  rw [Nat.beq_refl, cond_true, Nat.ble_eq_true_of_le h1, Nat.ble_eq_true_of_le h3]; rfl
theorem del_cells {c T Z : List AV} {o p r z : Nat} (hT : T.length = r) (hl : o + p + r + z ≤ c.length) (hZ : Z.length = z) : sub? (splice (splice c (o + p) T) (o + p + r) Z) o (p + r) = some ((c.drop o).take p ++ T) := by
  have e : splice (splice c (o + p) T) (o + p + r) Z = c.take (o + p) ++ (T ++ (Z ++ c.drop (o + p + r + z))) := by
    unfold splice
    have e1 : (c.take (o + p) ++ (T ++ c.drop (o + p + T.length))).take (o + p + r) = c.take (o + p) ++ T := by
      rw [← List.append_assoc, List.take_left' (by simp; omega)]
    have e2 : (c.take (o + p) ++ (T ++ c.drop (o + p + T.length))).drop (o + p + r + Z.length) = c.drop (o + p + r + z) := by
      rw [← List.append_assoc, List.drop_append, List.drop_eq_nil_of_le (by simp; omega), List.nil_append, List.drop_drop]
      congr 1
      simp; omega
    rw [e1, e2, List.append_assoc]
  rw [e]
  unfold sub?
  rw [Nat.ble_eq_true_of_le (by simp; omega), cond_true]
  congr 1
  rw [List.drop_append_of_le_length (by simp; omega), List.drop_take]
  rw [show o + p - o = p by omega, ← List.append_assoc, List.take_left' (by simp; omega)]
theorem c57 {css : List (List AV)} (f : Fresh g h a 12 css) (hb : css.length < 1000000) (hsc : css.flatten.all AV.sc = true) {i : Nat} (hi : i < css.length) (k : ∀ r h', Fresh g h' r 12 (css.take i ++ css.drop (i + 1)) → Post r h') : wpC Try.prog 57 [a, .i .i64 (i : Int), .i .i64 ((i + 1 : Nat) : Int)] Post h := by
  refine call_sound (args := [.vv a, .ii .i64 i, .ii .i64 ((i + 1 : Nat) : Int)]) (cuts := []) ⟨f.row.sc, trivial, trivial, trivial⟩ ?_
  rw [vc57]
  have hrow := f.row
  have hcc := hrow.1
  have r := hrow.2
  cases a <;> first | exact r.elim | (have r : css = [] := r; rw [r] at hi; cases hi; done) | skip
  rename_i b of len lo ex z
  obtain ⟨r1, r2, r3, r4⟩ := r
  subst r1; subst r2
  obtain ⟨n1, n2, cs, n3, n4⟩ := f.new _ _ _ _ _ _ rfl
  have r5 : sub? cs of (css.length * 12) = some css.flatten := by
    rcases r4 with e | e
    · subst e; cases hi
    · unfold rdH at e; rw [n3] at e; exact e
  obtain ⟨hle, hfl⟩ := sub_some r5
  have hloz : css.length * 12 ≤ lo * 12 := Nat.mul_le_mul_right _ r3
  have hlow : h.lo ≤ b := by rw [f.lo]; exact n2
  obtain ⟨w, hw⟩ := slV_two (b := b) (o := of) (len := css.length) (cap := lo) (sz := 12) (i := i) (j := i + 1) (m := css.length) (ex := ex) (by omega) (by omega) r3
  refine onO.mk f.row.len (onO.mk hw (onB.dec (fun e => by omega) (fun _ => onO.mk f.row.len (onO.mk (slV_hi (by omega)) (onO.mk (slV_lo (by omega) r3) ?_)))))
  have hne : Nat.beq lo (i + 1) = true → css.length = i + 1 := fun e => by have := beq_eq' e; omega
  -- what stands behind
  have htl : css.flatten.drop ((i + 1) * 12) = (css.drop (i + 1)).flatten := flat_dp hcc
  have hhd : css.flatten.take (i * 12) = (css.take i).flatten := flat_tk hcc
  have hfll : css.flatten.length = css.length * 12 := flat_len hcc
  have hres : ∀ c ∈ css.take i ++ css.drop (i + 1), c.length = 12 := fun c hc => by
    rcases List.mem_append.1 hc with h | h
    · exact hcc c (List.mem_of_mem_take h)
    · exact hcc c (List.mem_of_mem_drop h)
  have hrl : (css.take i ++ css.drop (i + 1)).length = css.length - 1 := by simp; omega
  have hTl : (css.drop (i + 1)).flatten.length = (css.length - (i + 1)) * 12 := by rw [← htl, List.length_drop, hfll]; omega
  have fin : ∀ h1 : Hp, h1.g b = some (splice cs (of + i * 12) (css.drop (i + 1)).flatten) → g.le h1 → h1.lo = g.lo → onO (lenV (.sl b of (css.length - 1) lo ex 12)) fun p2 => onO (slV (.sl b of (css.length - 1) lo ex 12) (some (p2 : Int)) (some (css.length : Int)) none 12) fun a4 =>
      onO (clearV [.i .i64 0, .i .i64 0, .i .i64 0, .ns, .i .i64 0, .i .i64 0, .i .i64 0, .i .i64 0, .i .i64 0, .s [], .i .i64 0, .i .i64 0] a4) fun y0 => wpE y0 (fun x1 h2 => Post (.sl b of (css.length - 1) lo ex 12) h2) h1 := by
    intro h1 g1 gle glo
    refine onO.mk rfl (onO.mk (slV_lohi (i := css.length - 1) (j := css.length) (by omega) r3) ?_)
    rw [beq_ne (show lo ≠ css.length - 1 by omega), cond_false]
    refine onO.mk (a := Eff.w b (of + (css.length - 1) * 12) (.lit (zerosV [.i .i64 0, .i .i64 0, .i .i64 0, .ns, .i .i64 0, .i .i64 0, .i .i64 0, .i .i64 0, .i .i64 0, .s [], .i .i64 0, .i .i64 0] 1)) (some (.tup []))) ?_ ?_
    · show (cond (Nat.beq (css.length - (css.length - 1)) 0) _ (cond true (some (Eff.w b (of + (css.length - 1) * 12) (.lit (zerosV _ (css.length - (css.length - 1)))) (some (.tup [])))) none) : Option Eff) = _
      rw [beq_ne (show css.length - (css.length - 1) ≠ 0 by omega), cond_false, cond_true, show css.length - (css.length - 1) = 1 by omega]
    · have hZ : (zerosV [.i .i64 0, .i .i64 0, .i .i64 0, .ns, .i .i64 0, .i .i64 0, .i .i64 0, .i .i64 0, .i .i64 0, .s [], .i .i64 0, .i .i64 0] 1).length = 12 := rfl
      have eo : of + (css.length - 1) * 12 = of + i * 12 + (css.length - (i + 1)) * 12 := by rw [Nat.add_assoc, ← Nat.add_mul]; congr 2; omega
      have e12 : of + i * 12 + (css.length - (i + 1)) * 12 + 12 = of + css.length * 12 := by
        have : i * 12 + (css.length - (i + 1)) * 12 + 12 = css.length * 12 := by rw [← Nat.add_mul, ← Nat.succ_mul]; congr 1; omega
        omega
      refine wpE.w g1 (by rw [glo, ← f.lo]; exact hlow) rfl (by rw [splice_len _ _ _ (by rw [hTl]; omega), hZ, eo]; omega) rfl (k _ _ ⟨fun k c e => ?_, glo, ⟨hres, rfl, hrl.symm, by omega, .inr ?_⟩, fun b' o' len' lo' ex' z' e => ?_⟩)
      · by_cases hk : k = b
        · rw [hk, n1] at e; cases e
        · rw [Hp.put_ne _ _ hk]; exact gle k c e
      · unfold rdH
        rw [Hp.put_same, Option.bind_some, hrl, eo]
        have := del_cells (c := cs) (T := (css.drop (i + 1)).flatten) (Z := zerosV [.i .i64 0, .i .i64 0, .i .i64 0, .ns, .i .i64 0, .i .i64 0, .i .i64 0, .i .i64 0, .i .i64 0, .s [], .i .i64 0, .i .i64 0] 1) (o := of) (p := i * 12) (r := (css.length - (i + 1)) * 12) (z := 12) hTl (by omega) hZ
        rw [show (css.length - 1) * 12 = i * 12 + (css.length - (i + 1)) * 12 by rw [← Nat.add_mul]; congr 1; omega, this, List.flatten_append, ← hhd, hfl, List.take_take, Nat.min_eq_left (by omega)]
      · injection e with e1 e2 e3 e4 e5 e6
        subst e1; subst e2; subst e4
        exact ⟨n1, n2, _, Hp.put_same _ _ _, by rw [splice_len _ _ _ (by rw [splice_len _ _ _ (by rw [hTl]; omega), hZ, eo]; omega), splice_len _ _ _ (by rw [hTl]; omega)]; exact n4⟩
  by_cases h0 : css.length - (i + 1) = 0
  · refine onO.mk (a := (0, Src.lit [])) ?_ ⟨rfl, ?_⟩
    · show (cond (Nat.beq 12 12) (some (css.length - (i + 1), cond (Nat.beq (css.length - (i + 1)) 0) (Src.lit []) _)) none : Option (Nat × Src)) = _
      rw [h0]; rfl
    · have hT : (css.drop (i + 1)).flatten = [] := List.length_eq_zero_iff.1 (by rw [hTl, h0])
      have hsp : splice cs (of + i * 12) [] = cs := by
        unfold splice
        rw [List.nil_append, List.length_nil, Nat.add_zero, List.take_append_drop]
      refine wpE.app_0 (by omega) (by omega) ?_
      have hi1 : i = css.length - 1 := by omega
      refine onO.mk rfl ?_
      have := fin h (by rw [hT, hsp]; exact n3) f.le f.lo
      rw [hi1]; exact this
  · refine onO.mk (a := (css.length - (i + 1), Src.mem b (of + (i + 1) * 12) ((css.length - (i + 1)) * 12))) ?_ ⟨Nat.ble_eq_true_of_le (show (4 * (css.length - (i + 1)) + 4000) * 120 ≤ 17179869184 by omega), ?_⟩
    · show (cond (Nat.beq 12 12) (some (css.length - (i + 1), cond (Nat.beq (css.length - (i + 1)) 0) (Src.lit []) _)) none : Option (Nat × Src)) = _
      rw [beq_ne h0, cond_false]
      cases e : Nat.beq lo (i + 1) with
      | true => have := hne e; omega
      | false => rfl
    · have hsrc : srcH h (.mem b (of + (i + 1) * 12) ((css.length - (i + 1)) * 12)) = some (css.drop (i + 1)).flatten := by
        show rdH h b _ _ = _
        unfold rdH
        rw [n3, Option.bind_some]
        have e12 : (i + 1) * 12 + (css.length - (i + 1)) * 12 = css.length * 12 := by rw [← Nat.add_mul]; congr 1; omega
        unfold sub?
        rw [Nat.ble_eq_true_of_le (by omega), cond_true, ← htl, hfl, List.drop_take, List.drop_drop]
        congr 2
        omega
      have hss : (css.drop (i + 1)).flatten.all AV.sc = true := by
        rw [← htl]
        rw [List.all_eq_true] at hsc ⊢
        exact fun x hx => hsc x (List.mem_of_mem_drop hx)
      have e12 : i * 12 + (css.length - (i + 1)) * 12 + 12 = css.length * 12 := by rw [← Nat.add_mul, ← Nat.succ_mul]; congr 1; omega
      refine wpE.app_in n3 hlow hsrc hTl (by omega) (by omega) (by rw [hTl]; omega) hss (by omega) (onO.mk rfl ?_)
      rw [show i + (css.length - (i + 1)) = css.length - 1 by omega]
      exact fin _ (Hp.put_same _ _ _) (fun k c e => by
        by_cases hk : k = b
        · rw [hk, n1] at e; cases e
        · rw [Hp.put_ne _ _ hk]; exact f.le k c e) f.lo
end
/- arras/hold.Check -/
theorem vc21 (a : AV) (b : AV) (h : Hp) (Post : AV → Hp → Prop) : vcCall Try.prog [] 21 [(SV.vv a), (SV.vv b)] h Post = (
  wpC Try.prog 29 [a]
  (fun a0 h0 =>
    onRet [Sh.one Kd.bool] a0 fun c0 =>
      onB (!c0) (Post (AV.i IntKind.i64 1) h0) (wpC Try.prog 30 [a, b] (fun a1 h1 => onRet [Sh.one Kd.bool] a1 fun c1 => onB (!c1) (Post (AV.i IntKind.i64 1) h1) (Post (AV.i IntKind.i64 0) h1)) h0))
  h) := by kernel_rfl
/- arras/arraslaw14.HoldTakes -/
theorem vc6 (a0 : AV) (a1 : AV) (a2 : AV) (h : Hp) (Post : AV → Hp → Prop) : vcCall Try.prog [] 6 [(SV.ag [(SV.vv a0), (SV.vv a1), (SV.vv a2)])] h Post = (
  ∀ (p0 : Nat),
  wpC Try.prog 15 [AV.agg [a0, a1, a2]]
    (fun a0_1 h0 =>
      onRet [Sh.one Kd.bool] a0_1 fun c0 =>
        onB c0 (Post (AV.b true) h0)
          (∃ I0 : Nat → Bool → Int → Hp → Prop,
            (∃ p1, I0 p1 false 0 h0) ∧
              ∀ (p2 : Nat) (h1 : Hp) (c1 : Bool) (n0 : Int),
                I0 p2 c1 n0 h1 →
                  onO (lenV a2) fun p3 =>
                    onB (decide (n0 < ↑p3))
                      (onB (decide (n0 < 25))
                        (∀ (p4 : Nat),
                          onO (intO BinOp.add IntKind.i64 n0 1) fun n1 =>
                            onO (slV a2 (some n0) (some n1) none 12) fun a1_1 =>
                              wpC Try.prog 5 [AV.agg [a0, a1, a1_1]]
                                (fun a2 h2 => onRet [Sh.one Kd.bool] a2 fun c2 => onB (!c2) (Post (AV.b false) h2) (onO (intO BinOp.add IntKind.i64 n0 1) fun n2 => ∃ p5, ltN p5 p2 ∧ I0 p5 c1 n2 h2))
                                h1)
                        (wpC Try.prog 14 [] (fun a3 h3 => onRet [Sh.one Kd.bool] a3 fun c3 => Post (AV.b c3) h3) h1))
                      (wpC Try.prog 14 [] (fun a4 h4 => onRet [Sh.one Kd.bool] a4 fun c4 => Post (AV.b c4) h4) h1)))
    h) := by kernel_rfl
/- arras/arrasref14.Hold -/
theorem vc22 (a : AV) (b : AV) (h : Hp) (Post : AV → Hp → Prop) : vcCall Try.prog [3000015,
 15000061] 22 [(SV.vv a), (SV.vv b)] h Post = (
  ∃ I0 : Bool → Hp → Prop,
  wpC Try.prog 36 [a] (fun a0 h0 => onRet [Sh.one Kd.bool] a0 fun c0 => onB (!c0) (I0 true h0) (onO (lenV b) fun p0 => I0 (decide ((16 : Int) < ↑p0)) h0)) h ∧
    ∀ (h1 : Hp) (c1 : Bool),
      I0 c1 h1 →
        onB c1 (Post (AV.b false) h1)
          (∃ I1 : Nat → Bool → Int → Hp → Prop,
            (∃ p1, I1 p1 false 0 h1) ∧
              ∀ (p2 : Nat) (h2 : Hp) (c2 : Bool) (n0 : Int),
                I1 p2 c2 n0 h2 →
                  onO (lenV b) fun p3 =>
                    onB (decide (n0 < ↑p3))
                      (onO (idxV b n0 12) fun r0 =>
                        onO (rdH h2 r0.fst r0.snd 12) fun l0 =>
                          onL
                            [Kd.int IntKind.i64, Kd.int IntKind.i64, Kd.int IntKind.i64, Kd.ref, Kd.int IntKind.i64, Kd.int IntKind.i64, Kd.int IntKind.i64, Kd.int IntKind.i64, Kd.int IntKind.i64,
                              Kd.str, Kd.int IntKind.i64, Kd.int IntKind.i64]
                            l0 fun n1 n2 n3 a1 n4 n5 n6 n7 n8 l1 n9 n10 =>
                            ∀ (p4 : Nat),
                              ∃ I2 : Bool → Hp → Prop,
                                wpC Try.prog 17
                                    [a,
                                      AV.agg
                                        [AV.i IntKind.i64 n1, AV.i IntKind.i64 n2, AV.i IntKind.i64 n3, a1, AV.i IntKind.i64 n4, AV.i IntKind.i64 n5, AV.i IntKind.i64 n6, AV.i IntKind.i64 n7,
                                          AV.i IntKind.i64 n8, AV.s l1, AV.i IntKind.i64 n9, AV.i IntKind.i64 n10]]
                                    (fun a2 h3 =>
                                      onRet [Sh.one Kd.bool] a2 fun c3 =>
                                        onB (!c3) (I2 true h3)
                                          (onO (idxV a n2 1) fun r1 =>
                                            onO (rdH h3 r1.fst r1.snd 1) fun l2 =>
                                              onL [Kd.int IntKind.i64] l2 fun n11 =>
                                                onB (decide (n3 ≤ n11)) (I2 true h3)
                                                  (wpC Try.prog 18
                                                    [a,
                                                      AV.agg
                                                        [AV.i IntKind.i64 n1, AV.i IntKind.i64 n2, AV.i IntKind.i64 n3, a1, AV.i IntKind.i64 n4, AV.i IntKind.i64 n5, AV.i IntKind.i64 n6,
                                                          AV.i IntKind.i64 n7, AV.i IntKind.i64 n8, AV.s l1, AV.i IntKind.i64 n9, AV.i IntKind.i64 n10]]
                                                    (fun a3 h4 =>
                                                      onRet [Sh.one Kd.bool] a3 fun c4 =>
                                                        onB c4 (I2 true h4)
                                                          (onB (decide (0 < n0))
                                                            (onO (intO BinOp.sub IntKind.i64 n0 1) fun n12 =>
                                                              onO (idxV b n12 12) fun r2 =>
                                                                onO (rdH h4 r2.fst (r2.snd + 0) 2) fun l3 =>
                                                                  onL [Kd.int IntKind.i64, Kd.int IntKind.i64] l3 fun n13 n14 =>
                                                                    wpC Try.prog 43 [AV.agg [AV.i IntKind.i64 n13, AV.i IntKind.i64 n14], AV.agg [AV.i IntKind.i64 n1, AV.i IntKind.i64 n2]]
                                                                      (fun a4 h5 => onRet [Sh.one (Kd.int IntKind.i64)] a4 fun n15 => I2 (decide (0 ≤ n15)) h5) h4)
                                                            (I2 false h4)))
                                                    h3)))
                                    h2 ∧
                                  ∀ (h6 : Hp) (c5 : Bool),
                                    I2 c5 h6 →
                                      onB c5 (Post (AV.b false) h6)
                                        (∃ I3 : Nat → Bool → Int → Hp → Prop,
                                          (∃ p5, I3 p5 c2 0 h6) ∧
                                            ∀ (p6 : Nat) (h7 : Hp) (c6 : Bool) (n16 : Int),
                                              I3 p6 c6 n16 h7 →
                                                onB (decide (n16 < n0))
                                                  (onO (idxV b n16 12) fun r3 =>
                                                    onO (rdH h7 r3.fst r3.snd 12) fun l4 =>
                                                      onL
                                                        [Kd.int IntKind.i64, Kd.int IntKind.i64, Kd.int IntKind.i64, Kd.ref, Kd.int IntKind.i64, Kd.int IntKind.i64, Kd.int IntKind.i64,
                                                          Kd.int IntKind.i64, Kd.int IntKind.i64, Kd.str, Kd.int IntKind.i64, Kd.int IntKind.i64]
                                                        l4 fun n17 n18 n19 a5 n20 n21 n22 n23 n24 l5 n25 n26 =>
                                                        wpC Try.prog 44
                                                          [AV.agg
                                                              [AV.i IntKind.i64 n17, AV.i IntKind.i64 n18, AV.i IntKind.i64 n19, a5, AV.i IntKind.i64 n20, AV.i IntKind.i64 n21, AV.i IntKind.i64 n22,
                                                                AV.i IntKind.i64 n23, AV.i IntKind.i64 n24, AV.s l5, AV.i IntKind.i64 n25, AV.i IntKind.i64 n26],
                                                            AV.agg
                                                              [AV.i IntKind.i64 n1, AV.i IntKind.i64 n2, AV.i IntKind.i64 n3, a1, AV.i IntKind.i64 n4, AV.i IntKind.i64 n5, AV.i IntKind.i64 n6,
                                                                AV.i IntKind.i64 n7, AV.i IntKind.i64 n8, AV.s l1, AV.i IntKind.i64 n9, AV.i IntKind.i64 n10]]
                                                          (fun a6 h8 =>
                                                            onRet [Sh.one Kd.bool] a6 fun c7 =>
                                                              onB c7 (Post (AV.b false) h8) (onO (intO BinOp.add IntKind.i64 n16 1) fun n27 => ∃ p7, ltN p7 p6 ∧ I3 p7 c6 n27 h8))
                                                          h7)
                                                  (onO (intO BinOp.add IntKind.i64 n0 1) fun n28 => ∃ p8, ltN p8 p2 ∧ I1 p8 c6 n28 h7)))
                      (Post (AV.b true) h2))) := by kernel_rfl
/- arras/arrasref14.Take -/
theorem vc26 (a : AV) (b : AV) (c0 : Int) (c1 : Int) (c2 : Int) (c3 : AV) (c4 : Int) (c5 : Int) (c6 : Int) (c7 : Int) (c8 : Int) (c9 : List Nat) (c10 : Int) (c11 : Int) (h : Hp) (Post : AV → Hp → Prop) : vcCall Try.prog [15000045,
 17000056,
 29000080,
 22999999] 26 [(SV.vv a), (SV.vv b), (SV.ag [(SV.ii .i64 c0), (SV.ii .i64 c1), (SV.ii .i64 c2), (SV.vv c3), (SV.ii .i64 c4), (SV.ii .i64 c5), (SV.ii .i64 c6), (SV.ii .i64 c7), (SV.ii .i64 c8), (SV.ss c9), (SV.ii .i64 c10), (SV.ii .i64 c11)])] h Post = (
  ∀ (p0 : Nat),
  wpC Try.prog 19 [a]
    (fun a0 h0 =>
      onRet [Sh.one Kd.ref] a0 fun a1 =>
        wpC Try.prog 20 [b]
          (fun a2 h1 =>
            onRet [Sh.one Kd.ref] a2 fun a3 =>
              onO (idxV a1 c1 1) fun r0 =>
                onO (rdH h1 r0.fst r0.snd 1) fun l0 =>
                  onL [Kd.int IntKind.i64] l0 fun n0 =>
                    ∃ I0 : Nat → Bool → Bool → Int → Int → Hp → Prop,
                      (∃ p1, I0 p1 (decide (c2 ≤ n0)) false 0 0 h1) ∧
                        ∀ (p2 : Nat) (h2 : Hp) (c0_1 c1_1 : Bool) (n1 n2 : Int),
                          I0 p2 c0_1 c1_1 n1 n2 h2 →
                            onO (lenV a3) fun p3 =>
                              onB (decide (n2 < ↑p3))
                                (∃ I1 : Bool → Bool → Hp → Prop,
                                  onB c0_1 (I1 true true h2)
                                      (onO (idxV a3 n2 12) fun r1 =>
                                        onO (rdH h2 r1.fst r1.snd 12) fun l1 =>
                                          onL
                                            [Kd.int IntKind.i64, Kd.int IntKind.i64, Kd.int IntKind.i64, Kd.ref, Kd.int IntKind.i64, Kd.int IntKind.i64, Kd.int IntKind.i64, Kd.int IntKind.i64,
                                              Kd.int IntKind.i64, Kd.str, Kd.int IntKind.i64, Kd.int IntKind.i64]
                                            l1 fun n3 n4 n5 a4 n6 n7 n8 n9 n10 l2 n11 n12 =>
                                            wpC Try.prog 44
                                              [AV.agg
                                                  [AV.i IntKind.i64 n3, AV.i IntKind.i64 n4, AV.i IntKind.i64 n5, a4, AV.i IntKind.i64 n6, AV.i IntKind.i64 n7, AV.i IntKind.i64 n8,
                                                    AV.i IntKind.i64 n9, AV.i IntKind.i64 n10, AV.s l2, AV.i IntKind.i64 n11, AV.i IntKind.i64 n12],
                                                AV.agg
                                                  [AV.i IntKind.i64 c0, AV.i IntKind.i64 c1, AV.i IntKind.i64 c2, c3, AV.i IntKind.i64 c4, AV.i IntKind.i64 c5, AV.i IntKind.i64 c6,
                                                    AV.i IntKind.i64 c7, AV.i IntKind.i64 c8, AV.s c9, AV.i IntKind.i64 c10, AV.i IntKind.i64 c11]]
                                              (fun a5 h3 => onRet [Sh.one Kd.bool] a5 fun c2 => I1 c2 c2 h3) h2) ∧
                                    ∀ (h4 : Hp) (c3 c4 : Bool),
                                      I1 c3 c4 h4 →
                                        ∃ I2 : Bool → Bool → Hp → Prop,
                                          onB c1_1 (I2 true true h4)
                                              (onO (idxV a3 n2 12) fun r2 =>
                                                onO (rdH h4 r2.fst (r2.snd + 0) 2) fun l3 =>
                                                  onL [Kd.int IntKind.i64, Kd.int IntKind.i64] l3 fun n13 n14 =>
                                                    I2 (decide (n13 = c0) && decide (n14 = c1)) (decide (n13 = c0) && decide (n14 = c1)) h4) ∧
                                            ∀ (h5 : Hp) (c5 c6 : Bool),
                                              I2 c5 c6 h5 →
                                                onO (idxV a3 n2 12) fun r3 =>
                                                  onO (rdH h5 r3.fst (r3.snd + 0) 2) fun l4 =>
                                                    onL [Kd.int IntKind.i64, Kd.int IntKind.i64] l4 fun n15 n16 =>
                                                      wpC Try.prog 43 [AV.agg [AV.i IntKind.i64 n15, AV.i IntKind.i64 n16], AV.agg [AV.i IntKind.i64 c0, AV.i IntKind.i64 c1]]
                                                        (fun a6 h6 =>
                                                          onRet [Sh.one (Kd.int IntKind.i64)] a6 fun n17 =>
                                                            ∃ I3 : Int → Hp → Prop,
                                                              onB (decide (n17 < 0)) (onO (intO BinOp.add IntKind.i64 n2 1) fun n18 => I3 n18 h6) (I3 n1 h6) ∧
                                                                ∀ (h7 : Hp) (n19 : Int), I3 n19 h7 → onO (intO BinOp.add IntKind.i64 n2 1) fun n20 => ∃ p4, ltN p4 p2 ∧ I0 p4 c3 c5 n19 n20 h7)
                                                        h5)
                                (onB c0_1 (Post (AV.tup [a1, a3, AV.ns, AV.i IntKind.i64 0]) h2)
                                  (wpC Try.prog 18
                                    [a1,
                                      AV.agg
                                        [AV.i IntKind.i64 c0, AV.i IntKind.i64 c1, AV.i IntKind.i64 c2, c3, AV.i IntKind.i64 c4, AV.i IntKind.i64 c5, AV.i IntKind.i64 c6, AV.i IntKind.i64 c7,
                                          AV.i IntKind.i64 c8, AV.s c9, AV.i IntKind.i64 c10, AV.i IntKind.i64 c11]]
                                    (fun a7 h8 =>
                                      onRet [Sh.one Kd.bool] a7 fun c7_1 =>
                                        onB (!c7_1)
                                          (∃ I4 : Bool → Hp → Prop,
                                            (onO (lenV a3) fun p5 => onB (decide ((16 : Int) ≤ ↑p5)) (I4 true h8) (I4 c1_1 h8)) ∧
                                              ∀ (h9 : Hp) (c8_1 : Bool),
                                                I4 c8_1 h9 →
                                                  onB c8_1 (Post (AV.tup [a1, a3, AV.ns, AV.i IntKind.i64 5]) h9)
                                                    (onO (slV a3 none (some n1) none 12) fun a8 =>
                                                      wpC Try.prog 20 [a8]
                                                        (fun a9 h10 =>
                                                          onRet [Sh.one Kd.ref] a9 fun a10 =>
                                                            wpC Try.prog 23
                                                              [AV.agg
                                                                  [AV.i IntKind.i64 c0, AV.i IntKind.i64 c1, AV.i IntKind.i64 c2, c3, AV.i IntKind.i64 c4, AV.i IntKind.i64 c5, AV.i IntKind.i64 c6,
                                                                    AV.i IntKind.i64 c7, AV.i IntKind.i64 c8, AV.s c9, AV.i IntKind.i64 c10, AV.i IntKind.i64 c11]]
                                                              (fun a11 h11 =>
                                                                onRet
                                                                  [Sh.agg
                                                                      [Kd.int IntKind.i64, Kd.int IntKind.i64, Kd.int IntKind.i64, Kd.ref, Kd.int IntKind.i64, Kd.int IntKind.i64, Kd.int IntKind.i64,
                                                                        Kd.int IntKind.i64, Kd.int IntKind.i64, Kd.str, Kd.int IntKind.i64, Kd.int IntKind.i64]]
                                                                  a11 fun n21 n22 n23 a12 n24 n25 n26 n27 n28 l5 n29 n30 =>
                                                                  ∀ (p6 : Nat),
                                                                    wpE
                                                                      (Eff.app a10 1
                                                                        (Src.lit
                                                                          [AV.i IntKind.i64 n21, AV.i IntKind.i64 n22, AV.i IntKind.i64 n23, a12, AV.i IntKind.i64 n24, AV.i IntKind.i64 n25,
                                                                            AV.i IntKind.i64 n26, AV.i IntKind.i64 n27, AV.i IntKind.i64 n28, AV.s l5, AV.i IntKind.i64 n29, AV.i IntKind.i64 n30])
                                                                        12)
                                                                      (fun x0 h12 =>
                                                                        onO x0 fun a13 =>
                                                                          onO (slV a3 (some n1) none none 12) fun a14 =>
                                                                            onO (srcV 12 a14) fun r4 =>
                                                                              onC (((4 * r4.fst + 4000) * 120).ble (OfNat.ofNat 17179869184))
                                                                                (wpE (Eff.app a13 r4.fst r4.snd 12)
                                                                                  (fun x1 h13 => onO x1 fun a15 => Post (AV.tup [a1, a15, AV.ns, AV.i IntKind.i64 0]) h13) h12))
                                                                      h11)
                                                              h10)
                                                        h9))
                                          (wpC Try.prog 23
                                            [AV.agg
                                                [AV.i IntKind.i64 c0, AV.i IntKind.i64 c1, AV.i IntKind.i64 c2, c3, AV.i IntKind.i64 c4, AV.i IntKind.i64 c5, AV.i IntKind.i64 c6, AV.i IntKind.i64 c7,
                                                  AV.i IntKind.i64 c8, AV.s c9, AV.i IntKind.i64 c10, AV.i IntKind.i64 c11]]
                                            (fun a16 h14 =>
                                              onRet
                                                [Sh.agg
                                                    [Kd.int IntKind.i64, Kd.int IntKind.i64, Kd.int IntKind.i64, Kd.ref, Kd.int IntKind.i64, Kd.int IntKind.i64, Kd.int IntKind.i64, Kd.int IntKind.i64,
                                                      Kd.int IntKind.i64, Kd.str, Kd.int IntKind.i64, Kd.int IntKind.i64]]
                                                a16 fun n31 n32 n33 a17 n34 n35 n36 n37 n38 l6 n39 n40 =>
                                                ∀ (p7 : Nat),
                                                  onO (idxV a1 c1 1) fun r5 =>
                                                    wpE (Eff.w r5.fst r5.snd (Src.lit [AV.i IntKind.i64 c2]) none)
                                                      (fun x2 h15 =>
                                                        h15.g p7 = none →
                                                          h15.lo.le p7 →
                                                            ∃ I5 : Nat → AV → AV → Int → Hp → Prop,
                                                              (∃ p8,
                                                                  I5 p8 (AV.sl p7 0 1 1 true 12) a3 0
                                                                    (h15.put p7
                                                                      [AV.i IntKind.i64 n31, AV.i IntKind.i64 n32, AV.i IntKind.i64 n33, a17, AV.i IntKind.i64 n34, AV.i IntKind.i64 n35,
                                                                        AV.i IntKind.i64 n36, AV.i IntKind.i64 n37, AV.i IntKind.i64 n38, AV.s l6, AV.i IntKind.i64 n39, AV.i IntKind.i64 n40])) ∧
                                                                ∀ (p9 : Nat) (h16 : Hp) (a18 : AV),
                                                                  a18.sc = true →
                                                                    ∀ (a19 : AV),
                                                                      a19.sc = true →
                                                                        ∀ (n41 : Int),
                                                                          I5 p9 a18 a19 n41 h16 →
                                                                            onO (lenV a19) fun p10 =>
                                                                              onB (decide (n41 < ↑p10))
                                                                                (onO (idxV a19 n41 12) fun r6 =>
                                                                                  onO (rdH h16 r6.fst r6.snd 12) fun l7 =>
                                                                                    onL
                                                                                      [Kd.int IntKind.i64, Kd.int IntKind.i64, Kd.int IntKind.i64, Kd.ref, Kd.int IntKind.i64, Kd.int IntKind.i64,
                                                                                        Kd.int IntKind.i64, Kd.int IntKind.i64, Kd.int IntKind.i64, Kd.str, Kd.int IntKind.i64, Kd.int IntKind.i64]
                                                                                      l7 fun n42 n43 n44 a20 n45 n46 n47 n48 n49 l8 n50 n51 =>
                                                                                      wpC Try.prog 18
                                                                                        [a1,
                                                                                          AV.agg
                                                                                            [AV.i IntKind.i64 n42, AV.i IntKind.i64 n43, AV.i IntKind.i64 n44, a20, AV.i IntKind.i64 n45,
                                                                                              AV.i IntKind.i64 n46, AV.i IntKind.i64 n47, AV.i IntKind.i64 n48, AV.i IntKind.i64 n49, AV.s l8,
                                                                                              AV.i IntKind.i64 n50, AV.i IntKind.i64 n51]]
                                                                                        (fun a21 h17 =>
                                                                                          onRet [Sh.one Kd.bool] a21 fun c9 =>
                                                                                            onB (!c9) (onO (intO BinOp.add IntKind.i64 n41 1) fun n52 => ∃ p11, ltN p11 p9 ∧ I5 p11 a18 a19 n52 h17)
                                                                                              (onO (idxV a19 n41 12) fun r7 =>
                                                                                                onO (rdH h17 r7.fst r7.snd 12) fun l9 =>
                                                                                                  onL
                                                                                                    [Kd.int IntKind.i64, Kd.int IntKind.i64, Kd.int IntKind.i64, Kd.ref, Kd.int IntKind.i64,
                                                                                                      Kd.int IntKind.i64, Kd.int IntKind.i64, Kd.int IntKind.i64, Kd.int IntKind.i64, Kd.str,
                                                                                                      Kd.int IntKind.i64, Kd.int IntKind.i64]
                                                                                                    l9 fun n53 n54 n55 a22 n56 n57 n58 n59 n60 l10 n61 n62 =>
                                                                                                    ∀ (p12 : Nat),
                                                                                                      wpE
                                                                                                        (Eff.app a18 1
                                                                                                          (Src.lit
                                                                                                            [AV.i IntKind.i64 n53, AV.i IntKind.i64 n54, AV.i IntKind.i64 n55, a22,
                                                                                                              AV.i IntKind.i64 n56, AV.i IntKind.i64 n57, AV.i IntKind.i64 n58, AV.i IntKind.i64 n59,
                                                                                                              AV.i IntKind.i64 n60, AV.s l10, AV.i IntKind.i64 n61, AV.i IntKind.i64 n62])
                                                                                                          12)
                                                                                                        (fun x3 h18 =>
                                                                                                          onO x3 fun a23 =>
                                                                                                            onO (idxV a19 n41 12) fun r8 =>
                                                                                                              onO (rdH h18 r8.fst (r8.snd + 0 + 1) 1) fun l11 =>
                                                                                                                onL [Kd.int IntKind.i64] l11 fun n63 =>
                                                                                                                  onO (idxV a19 n41 12) fun r9 =>
                                                                                                                    onO (rdH h18 r9.fst (r9.snd + 2) 1) fun l12 =>
                                                                                                                      onL [Kd.int IntKind.i64] l12 fun n64 =>
                                                                                                                        onO (idxV a1 n63 1) fun r10 =>
                                                                                                                          wpE (Eff.w r10.fst r10.snd (Src.lit [AV.i IntKind.i64 n64]) none)
                                                                                                                            (fun x4 h19 =>
                                                                                                                              wpC Try.prog 45 [a19, AV.i IntKind.i64 n41]
                                                                                                                                (fun a24 h20 =>
                                                                                                                                  onRet [Sh.one Kd.ref] a24 fun a25 =>
                                                                                                                                    ∃ p13, ltN p13 p9 ∧ I5 p13 a23 a25 0 h20)
                                                                                                                                h19)
                                                                                                                            h18)
                                                                                                        h17))
                                                                                        h16)
                                                                                (∃ I6 : Nat → AV → Int → Hp → Prop,
                                                                                  (∃ p14, I6 p14 a19 0 h16) ∧
                                                                                    ∀ (p15 : Nat) (h21 : Hp) (a26 : AV),
                                                                                      a26.sc = true →
                                                                                        ∀ (n65 : Int),
                                                                                          I6 p15 a26 n65 h21 →
                                                                                            onO (lenV a26) fun p16 =>
                                                                                              onB (decide (n65 < ↑p16))
                                                                                                (onO (idxV a26 n65 12) fun r11 =>
                                                                                                  onO (rdH h21 r11.fst (r11.snd + 2) 1) fun l13 =>
                                                                                                    onL [Kd.int IntKind.i64] l13 fun n66 =>
                                                                                                      onO (idxV a26 n65 12) fun r12 =>
                                                                                                        onO (rdH h21 r12.fst (r12.snd + 0 + 1) 1) fun l14 =>
                                                                                                          onL [Kd.int IntKind.i64] l14 fun n67 =>
                                                                                                            onO (idxV a1 n67 1) fun r13 =>
                                                                                                              onO (rdH h21 r13.fst r13.snd 1) fun l15 =>
                                                                                                                onL [Kd.int IntKind.i64] l15 fun n68 =>
                                                                                                                  onB (decide (n66 ≤ n68))
                                                                                                                    (wpC Try.prog 45 [a26, AV.i IntKind.i64 n65]
                                                                                                                      (fun a27 h22 =>
                                                                                                                        onRet [Sh.one Kd.ref] a27 fun a28 => ∃ p17, ltN p17 p15 ∧ I6 p17 a28 n65 h22)
                                                                                                                      h21)
                                                                                                                    (onO (intO BinOp.add IntKind.i64 n65 1) fun n69 =>
                                                                                                                      ∃ p18, ltN p18 p15 ∧ I6 p18 a26 n69 h21))
                                                                                                (Post (AV.tup [a1, a26, a18, AV.i IntKind.i64 0]) h21)))
                                                      h14)
                                            h8))
                                    h2)))
          h0)
    h) := by kernel_rfl
/- arras/arraslaw14.HoldExact -/
theorem vc5 (a0 : AV) (a1 : AV) (a2 : AV) (h : Hp) (Post : AV → Hp → Prop) : vcCall Try.prog [21000066,
 25000009,
 31000108,
 39000139,
 57000181,
 67000197] 5 [(SV.ag [(SV.vv a0), (SV.vv a1), (SV.vv a2)])] h Post = (
  ∀ (p0 : Nat),
  wpC Try.prog 15 [AV.agg [a0, a1, a2]]
    (fun a0_1 h0 =>
      onRet [Sh.one Kd.bool] a0_1 fun c0 =>
        onB c0 (Post (AV.b true) h0)
          (wpC Try.prog 19 [a0]
            (fun a1_1 h1 =>
              onRet [Sh.one Kd.ref] a1_1 fun a2_1 =>
                wpC Try.prog 20 [a1]
                  (fun a3 h2 =>
                    onRet [Sh.one Kd.ref] a3 fun a4 =>
                      ∃ I0 : Nat → Bool → AV → AV → Int → Hp → Prop,
                        (∃ p1, I0 p1 false a2_1 a4 0 h2) ∧
                          ∀ (p2 : Nat) (h3 : Hp) (c1 : Bool) (a5 : AV),
                            a5.sc = true →
                              ∀ (a6 : AV),
                                a6.sc = true →
                                  ∀ (n0 : Int),
                                    I0 p2 c1 a5 a6 n0 h3 →
                                      onO (lenV a2) fun p3 =>
                                        onB (decide (n0 < ↑p3))
                                          (onB (decide (n0 < 25))
                                            (onO (idxV a2 n0 12) fun r0 =>
                                              onO (rdH h3 r0.fst r0.snd 12) fun l0 =>
                                                onL
                                                  [Kd.int IntKind.i64, Kd.int IntKind.i64, Kd.int IntKind.i64, Kd.ref, Kd.int IntKind.i64, Kd.int IntKind.i64, Kd.int IntKind.i64, Kd.int IntKind.i64,
                                                    Kd.int IntKind.i64, Kd.str, Kd.int IntKind.i64, Kd.int IntKind.i64]
                                                  l0 fun n1 n2 n3 a7 n4 n5 n6 n7 n8 l1 n9 n10 =>
                                                  ∀ (p4 : Nat),
                                                    wpC Try.prog 21 [a5, a6]
                                                      (fun a8 h4 =>
                                                        onRet [Sh.one (Kd.int IntKind.i64)] a8 fun n11 =>
                                                          wpC Try.prog 10 [AV.i IntKind.i64 n11]
                                                            (fun a9 h5 =>
                                                              onRet [Sh.one (Kd.int IntKind.i64)] a9 fun n12 =>
                                                                wpC Try.prog 22 [a5, a6]
                                                                  (fun a10 h6 =>
                                                                    onRet [Sh.one Kd.bool] a10 fun c2 =>
                                                                      ∃ I1 : Bool → Hp → Prop,
                                                                        onB (!c2 == decide (n12 = 0)) (I1 true h6) (onB (!c2) (I1 (!decide (n12 = 1)) h6) (I1 false h6)) ∧
                                                                          ∀ (h7 : Hp) (c3 : Bool),
                                                                            I1 c3 h7 →
                                                                              onB c3 (Post (AV.b false) h7)
                                                                                (∃ I2 : Bool → Hp → Prop,
                                                                                  onB c2
                                                                                      (wpC Try.prog 17
                                                                                        [a5,
                                                                                          AV.agg
                                                                                            [AV.i IntKind.i64 n1, AV.i IntKind.i64 n2, AV.i IntKind.i64 n3, a7, AV.i IntKind.i64 n4,
                                                                                              AV.i IntKind.i64 n5, AV.i IntKind.i64 n6, AV.i IntKind.i64 n7, AV.i IntKind.i64 n8, AV.s l1,
                                                                                              AV.i IntKind.i64 n9, AV.i IntKind.i64 n10]]
                                                                                        (fun a11 h8 => onRet [Sh.one Kd.bool] a11 fun c4 => I2 c4 h8) h7)
                                                                                      (I2 false h7) ∧
                                                                                    ∀ (h9 : Hp) (c5 : Bool),
                                                                                      I2 c5 h9 →
                                                                                        wpC Try.prog 16
                                                                                          [a5,
                                                                                            AV.agg
                                                                                              [AV.i IntKind.i64 n1, AV.i IntKind.i64 n2, AV.i IntKind.i64 n3, a7, AV.i IntKind.i64 n4,
                                                                                                AV.i IntKind.i64 n5, AV.i IntKind.i64 n6, AV.i IntKind.i64 n7, AV.i IntKind.i64 n8, AV.s l1,
                                                                                                AV.i IntKind.i64 n9, AV.i IntKind.i64 n10]]
                                                                                          (fun a12 h10 =>
                                                                                            onTup [Sh.one Kd.bool, Sh.one (Kd.int IntKind.i64)] a12 fun c6 n13 =>
                                                                                              wpC Try.prog 17
                                                                                                [a5,
                                                                                                  AV.agg
                                                                                                    [AV.i IntKind.i64 n1, AV.i IntKind.i64 n2, AV.i IntKind.i64 n3, a7, AV.i IntKind.i64 n4,
                                                                                                      AV.i IntKind.i64 n5, AV.i IntKind.i64 n6, AV.i IntKind.i64 n7, AV.i IntKind.i64 n8, AV.s l1,
                                                                                                      AV.i IntKind.i64 n9, AV.i IntKind.i64 n10]]
                                                                                                (fun a13 h11 =>
                                                                                                  onRet [Sh.one Kd.bool] a13 fun c7 =>
                                                                                                    ∃ I3 : Bool → Hp → Prop,
                                                                                                      wpC Try.prog 10 [AV.i IntKind.i64 n13]
                                                                                                          (fun a14 h12 =>
                                                                                                            onRet [Sh.one (Kd.int IntKind.i64)] a14 fun n14 =>
                                                                                                              onB (!c7 == decide (n14 = 0)) (I3 true h12)
                                                                                                                (onB (!c7)
                                                                                                                  (wpC Try.prog 10 [AV.i IntKind.i64 n13]
                                                                                                                    (fun a15 h13 =>
                                                                                                                      onRet [Sh.one (Kd.int IntKind.i64)] a15 fun n15 =>
                                                                                                                        onB (!decide (n15 = 1)) (I3 true h13)
                                                                                                                          (onB c6 (I3 true h13)
                                                                                                                            (onB c7
                                                                                                                              (wpC Try.prog 18
                                                                                                                                [a5,
                                                                                                                                  AV.agg
                                                                                                                                    [AV.i IntKind.i64 n1, AV.i IntKind.i64 n2, AV.i IntKind.i64 n3, a7,
                                                                                                                                      AV.i IntKind.i64 n4, AV.i IntKind.i64 n5, AV.i IntKind.i64 n6,
                                                                                                                                      AV.i IntKind.i64 n7, AV.i IntKind.i64 n8, AV.s l1,
                                                                                                                                      AV.i IntKind.i64 n9, AV.i IntKind.i64 n10]]
                                                                                                                                (fun a16 h14 => onRet [Sh.one Kd.bool] a16 fun c8 => I3 (!c6 == c8) h14)
                                                                                                                                h13)
                                                                                                                              (I3 false h13))))
                                                                                                                    h12)
                                                                                                                  (onB c7
                                                                                                                    (wpC Try.prog 18
                                                                                                                      [a5,
                                                                                                                        AV.agg
                                                                                                                          [AV.i IntKind.i64 n1, AV.i IntKind.i64 n2, AV.i IntKind.i64 n3, a7,
                                                                                                                            AV.i IntKind.i64 n4, AV.i IntKind.i64 n5, AV.i IntKind.i64 n6,
                                                                                                                            AV.i IntKind.i64 n7, AV.i IntKind.i64 n8, AV.s l1, AV.i IntKind.i64 n9,
                                                                                                                            AV.i IntKind.i64 n10]]
                                                                                                                      (fun a17 h15 => onRet [Sh.one Kd.bool] a17 fun c9 => I3 (!c6 == c9) h15) h12)
                                                                                                                    (I3 false h12))))
                                                                                                          h11 ∧
                                                                                                        ∀ (h16 : Hp) (c10 : Bool),
                                                                                                          I3 c10 h16 →
                                                                                                            onB c10 (Post (AV.b false) h16)
                                                                                                              (wpC Try.prog 19 [a5]
                                                                                                                (fun a18 h17 =>
                                                                                                                  onRet [Sh.one Kd.ref] a18 fun a19 =>
                                                                                                                    wpC Try.prog 20 [a6]
                                                                                                                      (fun a20 h18 =>
                                                                                                                        onRet [Sh.one Kd.ref] a20 fun a21 =>
                                                                                                                          wpC Try.prog 23
                                                                                                                            [AV.agg
                                                                                                                                [AV.i IntKind.i64 n1, AV.i IntKind.i64 n2, AV.i IntKind.i64 n3, a7,
                                                                                                                                  AV.i IntKind.i64 n4, AV.i IntKind.i64 n5, AV.i IntKind.i64 n6,
                                                                                                                                  AV.i IntKind.i64 n7, AV.i IntKind.i64 n8, AV.s l1,
                                                                                                                                  AV.i IntKind.i64 n9, AV.i IntKind.i64 n10]]
                                                                                                                            (fun a22 h19 =>
                                                                                                                              onRet
                                                                                                                                [Sh.agg
                                                                                                                                    [Kd.int IntKind.i64, Kd.int IntKind.i64, Kd.int IntKind.i64, Kd.ref,
                                                                                                                                      Kd.int IntKind.i64, Kd.int IntKind.i64, Kd.int IntKind.i64,
                                                                                                                                      Kd.int IntKind.i64, Kd.int IntKind.i64, Kd.str,
                                                                                                                                      Kd.int IntKind.i64, Kd.int IntKind.i64]]
                                                                                                                                a22 fun n16 n17 n18 a23 n19 n20 n21 n22 n23 l2 n24 n25 =>
                                                                                                                                ∀ (p5 : Nat),
                                                                                                                                  wpC Try.prog 9
                                                                                                                                    [a19, a21,
                                                                                                                                      AV.agg
                                                                                                                                        [AV.i IntKind.i64 n16, AV.i IntKind.i64 n17,
                                                                                                                                          AV.i IntKind.i64 n18, a23, AV.i IntKind.i64 n19,
                                                                                                                                          AV.i IntKind.i64 n20, AV.i IntKind.i64 n21,
                                                                                                                                          AV.i IntKind.i64 n22, AV.i IntKind.i64 n23, AV.s l2,
                                                                                                                                          AV.i IntKind.i64 n24, AV.i IntKind.i64 n25]]
                                                                                                                                    (fun a24 h20 =>
                                                                                                                                      onTup
                                                                                                                                        [Sh.one Kd.ref, Sh.one Kd.ref, Sh.one Kd.ref,
                                                                                                                                          Sh.one (Kd.int IntKind.i64)]
                                                                                                                                        a24 fun a25 a26 a27 n26 =>
                                                                                                                                        ∃ I4 : Bool → Hp → Prop,
                                                                                                                                          wpC Try.prog 13 [a19, a5]
                                                                                                                                              (fun a28 h21 =>
                                                                                                                                                onRet [Sh.one Kd.bool] a28 fun c11 =>
                                                                                                                                                  onB (!c11) (I4 true h21)
                                                                                                                                                    (wpC Try.prog 24 [a21, a6]
                                                                                                                                                      (fun a29 h22 =>
                                                                                                                                                        onRet [Sh.one Kd.bool] a29 fun c12 =>
                                                                                                                                                          onB (!c12) (I4 true h22)
                                                                                                                                                            (wpC Try.prog 25
                                                                                                                                                              [AV.agg
                                                                                                                                                                  [AV.i IntKind.i64 n16,
                                                                                                                                                                    AV.i IntKind.i64 n17,
                                                                                                                                                                    AV.i IntKind.i64 n18, a23,
                                                                                                                                                                    AV.i IntKind.i64 n19,
                                                                                                                                                                    AV.i IntKind.i64 n20,
                                                                                                                                                                    AV.i IntKind.i64 n21,
                                                                                                                                                                    AV.i IntKind.i64 n22,
                                                                                                                                                                    AV.i IntKind.i64 n23, AV.s l2,
                                                                                                                                                                    AV.i IntKind.i64 n24,
                                                                                                                                                                    AV.i IntKind.i64 n25],
                                                                                                                                                                AV.agg
                                                                                                                                                                  [AV.i IntKind.i64 n1,
                                                                                                                                                                    AV.i IntKind.i64 n2,
                                                                                                                                                                    AV.i IntKind.i64 n3, a7,
                                                                                                                                                                    AV.i IntKind.i64 n4,
                                                                                                                                                                    AV.i IntKind.i64 n5,
                                                                                                                                                                    AV.i IntKind.i64 n6,
                                                                                                                                                                    AV.i IntKind.i64 n7,
                                                                                                                                                                    AV.i IntKind.i64 n8, AV.s l1,
                                                                                                                                                                    AV.i IntKind.i64 n9,
                                                                                                                                                                    AV.i IntKind.i64 n10]]
                                                                                                                                                              (fun a30 h23 =>
                                                                                                                                                                onRet [Sh.one Kd.bool] a30 fun c13 =>
                                                                                                                                                                  I4 (!c13) h23)
                                                                                                                                                              h22))
                                                                                                                                                      h21))
                                                                                                                                              h20 ∧
                                                                                                                                            ∀ (h24 : Hp) (c14 : Bool),
                                                                                                                                              I4 c14 h24 →
                                                                                                                                                onB c14 (Post (AV.b false) h24)
                                                                                                                                                  (onB (!c5)
                                                                                                                                                    (wpC Try.prog 10 [AV.i IntKind.i64 n26]
                                                                                                                                                      (fun a31 h25 =>
                                                                                                                                                        onRet [Sh.one (Kd.int IntKind.i64)] a31
                                                                                                                                                          fun n27 =>
                                                                                                                                                          onB (!decide (n27 = 1))
                                                                                                                                                            (Post (AV.b false) h25)
                                                                                                                                                            (onO (intO BinOp.add IntKind.i64 n0 1)
                                                                                                                                                              fun n28 =>
                                                                                                                                                              ∃ p6, ltN p6 p2 ∧ I0 p6 c1 a5 a6 n28 h25))
                                                                                                                                                      h24)
                                                                                                                                                    (wpC Try.prog 26
                                                                                                                                                      [a5, a6,
                                                                                                                                                        AV.agg
                                                                                                                                                          [AV.i IntKind.i64 n1, AV.i IntKind.i64 n2,
                                                                                                                                                            AV.i IntKind.i64 n3, a7,
                                                                                                                                                            AV.i IntKind.i64 n4, AV.i IntKind.i64 n5,
                                                                                                                                                            AV.i IntKind.i64 n6, AV.i IntKind.i64 n7,
                                                                                                                                                            AV.i IntKind.i64 n8, AV.s l1,
                                                                                                                                                            AV.i IntKind.i64 n9, AV.i IntKind.i64 n10]]
                                                                                                                                                      (fun a32 h26 =>
                                                                                                                                                        onTup
                                                                                                                                                          [Sh.one Kd.ref, Sh.one Kd.ref, Sh.one Kd.ref,
                                                                                                                                                            Sh.one (Kd.int IntKind.i64)]
                                                                                                                                                          a32 fun a33 a34 a35 n29 =>
                                                                                                                                                          wpC Try.prog 10 [AV.i IntKind.i64 n26]
                                                                                                                                                            (fun a36 h27 =>
                                                                                                                                                              onRet [Sh.one (Kd.int IntKind.i64)] a36
                                                                                                                                                                fun n30 =>
                                                                                                                                                                onB (!decide (n30 = n29))
                                                                                                                                                                  (Post (AV.b false) h27)
                                                                                                                                                                  (onB (!decide (n29 = 0))
                                                                                                                                                                    (onO
                                                                                                                                                                      (intO BinOp.add IntKind.i64 n0 1)
                                                                                                                                                                      fun n31 =>
                                                                                                                                                                      ∃ p7,
                                                                                                                                                                        ltN p7 p2 ∧
                                                                                                                                                                          I0 p7 c1 a5 a6 n31 h27)
                                                                                                                                                                    (∃ I5 : Bool → Hp → Prop,
                                                                                                                                                                      wpC Try.prog 13 [a25, a33]
                                                                                                                                                                          (fun a37 h28 =>
                                                                                                                                                                            onRet [Sh.one Kd.bool] a37
                                                                                                                                                                              fun c15 =>
                                                                                                                                                                              onB (!c15) (I5 true h28)
                                                                                                                                                                                (wpC Try.prog 24
                                                                                                                                                                                  [a26, a34]
                                                                                                                                                                                  (fun a38 h29 =>
                                                                                                                                                                                    onRet
                                                                                                                                                                                      [Sh.one Kd.bool]
                                                                                                                                                                                      a38 fun c16 =>
                                                                                                                                                                                      onB (!c16)
                                                                                                                                                                                        (I5 true h29)
                                                                                                                                                                                        (wpC Try.prog 24
                                                                                                                                                                                          [a27, a35]
                                                                                                                                                                                          (fun a39
                                                                                                                                                                                              h30 =>
                                                                                                                                                                                            onRet
                                                                                                                                                                                              [Sh.one
                                                                                                                                                                                                  Kd.bool]
                                                                                                                                                                                              a39
                                                                                                                                                                                              fun c17 =>
                                                                                                                                                                                              onB (!c17)
                                                                                                                                                                                                (I5 true
                                                                                                                                                                                                  h30)
                                                                                                                                                                                                (wpC
                                                                                                                                                                                                  Try.prog
                                                                                                                                                                                                  22
                                                                                                                                                                                                  [a33,
                                                                                                                                                                                                    a34]
                                                                                                                                                                                                  (fun
                                                                                                                                                                                                      a40
                                                                                                                                                                                                      h31 =>
                                                                                                                                                                                                    onRet
                                                                                                                                                                                                      [Sh.one
                                                                                                                                                                                                          Kd.bool]
                                                                                                                                                                                                      a40
                                                                                                                                                                                                      fun
                                                                                                                                                                                                        c18 =>
                                                                                                                                                                                                      I5
                                                                                                                                                                                                        (!c18)
                                                                                                                                                                                                        h31)
                                                                                                                                                                                                  h30))
                                                                                                                                                                                          h29))
                                                                                                                                                                                  h28))
                                                                                                                                                                          h27 ∧
                                                                                                                                                                        ∀ (h32 : Hp) (c19 : Bool),
                                                                                                                                                                          I5 c19 h32 →
                                                                                                                                                                            onB c19
                                                                                                                                                                              (Post (AV.b false) h32)
                                                                                                                                                                              (wpC Try.prog 27 [a25]
                                                                                                                                                                                (fun a41 h33 =>
                                                                                                                                                                                  onTup [] a41
                                                                                                                                                                                    (wpC Try.prog 28
                                                                                                                                                                                      [a26]
                                                                                                                                                                                      (fun a42 h34 =>
                                                                                                                                                                                        onTup [] a42
                                                                                                                                                                                          (wpC Try.prog
                                                                                                                                                                                            28 [a27]
                                                                                                                                                                                            (fun a43
                                                                                                                                                                                                h35 =>
                                                                                                                                                                                              onTup []
                                                                                                                                                                                                a43
                                                                                                                                                                                                (∃ I6 : Bool → Hp → Prop,
                                                                                                                                                                                                  wpC
                                                                                                                                                                                                      Try.prog
                                                                                                                                                                                                      24
                                                                                                                                                                                                      [a21,
                                                                                                                                                                                                        a6]
                                                                                                                                                                                                      (fun
                                                                                                                                                                                                          a44
                                                                                                                                                                                                          h36 =>
                                                                                                                                                                                                        onRet
                                                                                                                                                                                                          [Sh.one
                                                                                                                                                                                                              Kd.bool]
                                                                                                                                                                                                          a44
                                                                                                                                                                                                          fun
                                                                                                                                                                                                            c20 =>
                                                                                                                                                                                                          onB
                                                                                                                                                                                                            (!c20)
                                                                                                                                                                                                            (I6
                                                                                                                                                                                                              true
                                                                                                                                                                                                              h36)
                                                                                                                                                                                                            (wpC
                                                                                                                                                                                                              Try.prog
                                                                                                                                                                                                              25
                                                                                                                                                                                                              [AV.agg
                                                                                                                                                                                                                  [AV.i
                                                                                                                                                                                                                      IntKind.i64
                                                                                                                                                                                                                      n16,
                                                                                                                                                                                                                    AV.i
                                                                                                                                                                                                                      IntKind.i64
                                                                                                                                                                                                                      n17,
                                                                                                                                                                                                                    AV.i
                                                                                                                                                                                                                      IntKind.i64
                                                                                                                                                                                                                      n18,
                                                                                                                                                                                                                    a23,
                                                                                                                                                                                                                    AV.i
                                                                                                                                                                                                                      IntKind.i64
                                                                                                                                                                                                                      n19,
                                                                                                                                                                                                                    AV.i
                                                                                                                                                                                                                      IntKind.i64
                                                                                                                                                                                                                      n20,
                                                                                                                                                                                                                    AV.i
                                                                                                                                                                                                                      IntKind.i64
                                                                                                                                                                                                                      n21,
                                                                                                                                                                                                                    AV.i
                                                                                                                                                                                                                      IntKind.i64
                                                                                                                                                                                                                      n22,
                                                                                                                                                                                                                    AV.i
                                                                                                                                                                                                                      IntKind.i64
                                                                                                                                                                                                                      n23,
                                                                                                                                                                                                                    AV.s
                                                                                                                                                                                                                      l2,
                                                                                                                                                                                                                    AV.i
                                                                                                                                                                                                                      IntKind.i64
                                                                                                                                                                                                                      n24,
                                                                                                                                                                                                                    AV.i
                                                                                                                                                                                                                      IntKind.i64
                                                                                                                                                                                                                      n25],
                                                                                                                                                                                                                AV.agg
                                                                                                                                                                                                                  [AV.i
                                                                                                                                                                                                                      IntKind.i64
                                                                                                                                                                                                                      n1,
                                                                                                                                                                                                                    AV.i
                                                                                                                                                                                                                      IntKind.i64
                                                                                                                                                                                                                      n2,
                                                                                                                                                                                                                    AV.i
                                                                                                                                                                                                                      IntKind.i64
                                                                                                                                                                                                                      n3,
                                                                                                                                                                                                                    a7,
                                                                                                                                                                                                                    AV.i
                                                                                                                                                                                                                      IntKind.i64
                                                                                                                                                                                                                      n4,
                                                                                                                                                                                                                    AV.i
                                                                                                                                                                                                                      IntKind.i64
                                                                                                                                                                                                                      n5,
                                                                                                                                                                                                                    AV.i
                                                                                                                                                                                                                      IntKind.i64
                                                                                                                                                                                                                      n6,
                                                                                                                                                                                                                    AV.i
                                                                                                                                                                                                                      IntKind.i64
                                                                                                                                                                                                                      n7,
                                                                                                                                                                                                                    AV.i
                                                                                                                                                                                                                      IntKind.i64
                                                                                                                                                                                                                      n8,
                                                                                                                                                                                                                    AV.s
                                                                                                                                                                                                                      l1,
                                                                                                                                                                                                                    AV.i
                                                                                                                                                                                                                      IntKind.i64
                                                                                                                                                                                                                      n9,
                                                                                                                                                                                                                    AV.i
                                                                                                                                                                                                                      IntKind.i64
                                                                                                                                                                                                                      n10]]
                                                                                                                                                                                                              (fun
                                                                                                                                                                                                                  a45
                                                                                                                                                                                                                  h37 =>
                                                                                                                                                                                                                onRet
                                                                                                                                                                                                                  [Sh.one
                                                                                                                                                                                                                      Kd.bool]
                                                                                                                                                                                                                  a45
                                                                                                                                                                                                                  fun
                                                                                                                                                                                                                    c21 =>
                                                                                                                                                                                                                  I6
                                                                                                                                                                                                                    (!c21)
                                                                                                                                                                                                                    h37)
                                                                                                                                                                                                              h36))
                                                                                                                                                                                                      h35 ∧
                                                                                                                                                                                                    ∀
                                                                                                                                                                                                      (h38 :
                                                                                                                                                                                                        Hp)
                                                                                                                                                                                                      (c22 :
                                                                                                                                                                                                        Bool),
                                                                                                                                                                                                      I6
                                                                                                                                                                                                          c22
                                                                                                                                                                                                          h38 →
                                                                                                                                                                                                        onB
                                                                                                                                                                                                          c22
                                                                                                                                                                                                          (Post
                                                                                                                                                                                                            (AV.b
                                                                                                                                                                                                              false)
                                                                                                                                                                                                            h38)
                                                                                                                                                                                                          (wpC
                                                                                                                                                                                                            Try.prog
                                                                                                                                                                                                            19
                                                                                                                                                                                                            [a33]
                                                                                                                                                                                                            (fun
                                                                                                                                                                                                                a46
                                                                                                                                                                                                                h39 =>
                                                                                                                                                                                                              onRet
                                                                                                                                                                                                                [Sh.one
                                                                                                                                                                                                                    Kd.ref]
                                                                                                                                                                                                                a46
                                                                                                                                                                                                                fun
                                                                                                                                                                                                                  a47 =>
                                                                                                                                                                                                                wpC
                                                                                                                                                                                                                  Try.prog
                                                                                                                                                                                                                  20
                                                                                                                                                                                                                  [a34]
                                                                                                                                                                                                                  (fun
                                                                                                                                                                                                                      a48
                                                                                                                                                                                                                      h40 =>
                                                                                                                                                                                                                    onRet
                                                                                                                                                                                                                      [Sh.one
                                                                                                                                                                                                                          Kd.ref]
                                                                                                                                                                                                                      a48
                                                                                                                                                                                                                      fun
                                                                                                                                                                                                                        a49 =>
                                                                                                                                                                                                                      onO
                                                                                                                                                                                                                        (intO
                                                                                                                                                                                                                          BinOp.add
                                                                                                                                                                                                                          IntKind.i64
                                                                                                                                                                                                                          n0
                                                                                                                                                                                                                          1)
                                                                                                                                                                                                                        fun
                                                                                                                                                                                                                          n32 =>
                                                                                                                                                                                                                        ∃
                                                                                                                                                                                                                          p8,
                                                                                                                                                                                                                          ltN
                                                                                                                                                                                                                              p8
                                                                                                                                                                                                                              p2 ∧
                                                                                                                                                                                                                            I0
                                                                                                                                                                                                                              p8
                                                                                                                                                                                                                              c1
                                                                                                                                                                                                                              a47
                                                                                                                                                                                                                              a49
                                                                                                                                                                                                                              n32
                                                                                                                                                                                                                              h40)
                                                                                                                                                                                                                  h39)
                                                                                                                                                                                                            h38)))
                                                                                                                                                                                            h34))
                                                                                                                                                                                      h33))
                                                                                                                                                                                h32))))
                                                                                                                                                            h26)
                                                                                                                                                      h24)))
                                                                                                                                    h19)
                                                                                                                            h18)
                                                                                                                      h17)
                                                                                                                h16))
                                                                                                h10)
                                                                                          h9))
                                                                  h5)
                                                            h4)
                                                      h3)
                                            (wpC Try.prog 14 [] (fun a50 h41 => onRet [Sh.one Kd.bool] a50 fun c23 => Post (AV.b c23) h41) h3))
                                          (wpC Try.prog 14 [] (fun a51 h42 => onRet [Sh.one Kd.bool] a51 fun c24 => Post (AV.b c24) h42) h3))
                  h1)
            h0))
    h) := by kernel_rfl
/-- the parts of a row's elements, in what is seen -/
structure OpsE (G : Hp) (l : List D.Op) (css : List (List AV)) (qs : Nat → Hp) : Prop where
  len : css.length = l.length
  inG : ∀ i, (qs i).le G
  dd : ∀ i j, i ≠ j → Disj (qs i) (qs j)
  qlo : ∀ i, (qs i).lo = G.lo
  own : ∀ i b, (qs i).g b ≠ none → G.lo ≤ b
  el : ∀ i x c, l[i]? = some x → css[i]? = some c → eOp (qs i) x c
theorem le_restH {X H q : Hp} (l : X.le H) (d : Disj q X) : X.le (restH H q) := le_rest l d
theorem OpsP.openG {q H : Hp} {a : AV} {l : List D.Op} (p : OpsP H.lo q a l) (hl : q.le H) :
    ∃ (G : Hp) (css : List (List AV)) (qs : Nat → Hp), Fresh G H a 12 css ∧ OpsE G l css qs ∧ (∀ i, (qs i).le q) ∧ G.lo = H.lo ∧ ∀ X : Hp, X.le H → Disj q X → X.le G := by
  obtain ⟨hlo, p0, css, qs, o⟩ := p
  obtain ⟨qb, b1, b2, b3, b4, b5⟩ := o.fr.part
  have hp0 : p0.lo = H.lo := o.lo
  have hbq : qb.le q := b1
  rw [hp0] at b5
  have hin : ∀ i, (qs i).le (restH H qb) := fun i => le_restH (Hp.le_trans (o.sub i) (Hp.le_trans o.fr.le hl)) (b2.le_right (o.sub i))
  exact ⟨restH H qb, css, qs, b5.outer (Hp.le_trans hbq hl) rfl, ⟨o.len, hin, o.dd, fun i => o.qlo i, fun i b e => o.own i b e, o.el⟩, fun i => Hp.le_trans (o.sub i) o.fr.le, rfl, fun X x1 x2 => le_restH x1 (x2.le_left hbq)⟩
theorem OpsE.close {G H : Hp} {r : AV} {l : List D.Op} {css : List (List AV)} {qs : Nat → Hp} (e : OpsE G l css qs) (f : Fresh G H r 12 css) : ∃ Q : Hp, Q.le H ∧ OpsP H.lo Q r l ∧ ∀ X : Hp, X.le G → (∀ i, Disj (qs i) X) → Disj Q X := by
  have o : OwnE eOp 12 (G.res fun k => ∀ i, (qs i).g k = none) H r l G css qs :=
    ⟨Hp.res_le _ _, rfl, f, e.len, e.inG, fun i k c h => Hp.res_out fun hk => (by rw [hk i] at h; cases h), e.dd, e.qlo, e.own, e.el⟩
  obtain ⟨Q, q1, q2, q3, q4⟩ := OwnD.part ⟨G, css, qs, o⟩
  have hlo : H.lo = G.lo := f.lo
  refine ⟨Q, q1, ⟨q3.trans hlo.symm, by rw [hlo]; exact q4⟩, fun X x1 x2 => q2.le_right fun k c h => ?_⟩
  rw [Hp.res_in (fun i => (x2 i).symm k c h)]
  exact x1 k c h
theorem OpsE.mono {G G' : Hp} {l : List D.Op} {css : List (List AV)} {qs : Nat → Hp} (e : OpsE G l css qs) (le : ∀ i, (qs i).le G') (lo : G'.lo = G.lo) : OpsE G' l css qs :=
  ⟨e.len, le, e.dd, fun i => (e.qlo i).trans lo.symm, fun i b h => by rw [lo]; exact e.own i b h, e.el⟩
theorem get_del {α : Type} {l : List α} {i k : Nat} (hi : i < l.length) : (l.take i ++ l.drop (i + 1))[k]? = if k < i then l[k]? else l[k + 1]? := by
  by_cases h : k < i
  · rw [if_pos h, List.getElem?_append_left (by simp; omega), List.getElem?_take_of_lt h]
  · rw [if_neg h, List.getElem?_append_right (by simp; omega), List.getElem?_drop]
    congr 1
    simp; omega
theorem get_ins {α : Type} {l : List α} {i k : Nat} {x : α} (hi : i ≤ l.length) : (l.take i ++ x :: l.drop i)[k]? = if k < i then l[k]? else if k = i then some x else l[k - 1]? := by
  have ht : (l.take i).length = i := by simp; omega
  by_cases h : k < i
  · rw [if_pos h, List.getElem?_append_left (by omega), List.getElem?_take_of_lt h]
  · rw [if_neg h, List.getElem?_append_right (by omega), ht]
    by_cases h2 : k = i
    · rw [if_pos h2, h2, Nat.sub_self]; rfl
    · rw [if_neg h2, show k - i = (k - i - 1) + 1 by omega, List.getElem?_cons_succ, List.getElem?_drop]
      congr 1; omega
theorem OpsE.del {G : Hp} {l : List D.Op} {css : List (List AV)} {qs : Nat → Hp} (e : OpsE G l css qs) {i : Nat} (hi : i < l.length) : OpsE G (l.take i ++ l.drop (i + 1)) (css.take i ++ css.drop (i + 1)) (fun k => if k < i then qs k else qs (k + 1)) := by
  have hl := e.len
  refine ⟨by simp; omega, fun k => ?_, fun j k hjk => ?_, fun k => ?_, fun k => ?_, fun k x c h1 h2 => ?_⟩
  · by_cases h : k < i
    · simp only [if_pos h]; exact e.inG k
    · simp only [if_neg h]; exact e.inG _
  · by_cases h : j < i
    · by_cases h' : k < i
      · simp only [if_pos h, if_pos h']; exact e.dd _ _ hjk
      · simp only [if_pos h, if_neg h']; exact e.dd _ _ (by omega)
    · by_cases h' : k < i
      · simp only [if_neg h, if_pos h']; exact e.dd _ _ (by omega)
      · simp only [if_neg h, if_neg h']; exact e.dd _ _ (by omega)
  · by_cases h : k < i
    · simp only [if_pos h]; exact e.qlo k
    · simp only [if_neg h]; exact e.qlo _
  · by_cases h : k < i
    · simp only [if_pos h]; exact e.own k
    · simp only [if_neg h]; exact e.own _
  · rw [get_del hi] at h1
    rw [get_del (by omega)] at h2
    by_cases h : k < i
    · rw [if_pos h] at h1 h2; simp only [if_pos h]; exact e.el _ _ _ h1 h2
    · rw [if_neg h] at h1 h2; simp only [if_neg h]; exact e.el _ _ _ h1 h2
theorem OpsE.ins {G : Hp} {l : List D.Op} {css : List (List AV)} {qs : Nat → Hp} (e : OpsE G l css qs) {i : Nat} (hi : i ≤ l.length) {qd : Hp} {x : D.Op} {c : List AV} (d1 : qd.le G) (d2 : ∀ i, Disj (qs i) qd) (d3 : qd.lo = G.lo) (d4 : ∀ b, qd.g b ≠ none → G.lo ≤ b) (d5 : eOp qd x c) :
    OpsE G (l.take i ++ x :: l.drop i) (css.take i ++ c :: css.drop i) (fun k => if k < i then qs k else if k = i then qd else qs (k - 1)) := by
  have hl := e.len
  have cs : ∀ {P : Hp → Prop} (k : Nat), (∀ j, (k < i ∧ j = k ∨ i < k ∧ j = k - 1) → P (qs j)) → (k = i → P qd) → P (if k < i then qs k else if k = i then qd else qs (k - 1)) := fun {P} k p1 p2 => by
    by_cases h : k < i
    · rw [if_pos h]; exact p1 k (.inl ⟨h, rfl⟩)
    · by_cases h2 : k = i
      · rw [if_neg h, if_pos h2]; exact p2 h2
      · rw [if_neg h, if_neg h2]; exact p1 _ (.inr ⟨by omega, rfl⟩)
  refine ⟨by simp; omega, fun k => cs (P := fun q => q.le G) k (fun j _ => e.inG j) fun _ => d1, fun j k hjk => ?_, fun k => cs (P := fun q => q.lo = G.lo) k (fun j _ => e.qlo j) fun _ => d3, fun k => cs (P := fun q => ∀ b, q.g b ≠ none → G.lo ≤ b) k (fun j _ => e.own j) fun _ => d4, fun k y c' h1 h2 => ?_⟩
  · refine cs (P := fun q => Disj q (if k < i then qs k else if k = i then qd else qs (k - 1))) j (fun j' hj => ?_) (fun hj => ?_)
    · exact cs (P := fun q => Disj (qs j') q) k (fun k' hk => e.dd _ _ (by omega)) (fun _ => d2 j')
    · exact cs (P := fun q => Disj qd q) k (fun k' hk => (d2 k').symm) (fun hk => by omega)
  · rw [get_ins hi] at h1
    rw [get_ins (by omega)] at h2
    by_cases h : k < i
    · rw [if_pos h] at h1 h2; simp only [if_pos h]; exact e.el _ _ _ h1 h2
    · by_cases h3 : k = i
      · rw [if_neg h, if_pos h3] at h1 h2; simp only [if_neg h, if_pos h3]
        injection h1 with h1; injection h2 with h2
        subst h1; subst h2; exact d5
      · rw [if_neg h, if_neg h3] at h1 h2; simp only [if_neg h, if_neg h3]; exact e.el _ _ _ h1 h2
/-- an operation with its own row of what it depends on -/
theorem IntP.eOp {lo : Nat} {q h : Hp} {o : D.Op} {d d' : AV} (p : IntP lo q d o.deps) (kx : D.kOp.K h o (opC o d')) : eOp q o (opC o d) :=
  ⟨op_again kx p.2.2.1, d, rfl, by rw [p.1]; exact p.2.1⟩
theorem OpsP.nil (lo : Nat) : OpsP lo (Hp.none lo) .ns [] := ⟨rfl, OwnD.nil _⟩
theorem shr1n {n : Nat} (h : n < 18446744073709551616) : shO .shr .u64 (n : Int) 1 = some ((n / 2 : Nat) : Int) := by
  unfold shO
  show (match some (AV.i .u64 (Int.fdiv (n : Int) ((2 : Nat) : Int))) with | some (.i _ c) => some c | _ => none) = _
  show some (Int.fdiv (n : Int) ((2 : Nat) : Int)) = _
  rw [Int.fdiv_eq_ediv_of_nonneg _ (by omega)]
  rfl
theorem wri64n {n : Nat} (h : n < 9223372036854775808) : wrO .i64 (n : Int) = some (n : Int) := by
  unfold wrO; rw [wrap64 (by omega) (by omega)]
theorem Kn.Row.cutH {α : Type} {d : Kn α} {h : Hp} {a : AV} {l : List α} (r : d.Row h a l) {lo hi : Option Int} {i j sz : Nat} (hsz : d.sz = sz) (hlo : natO 0 lo = some i) (hhi : natO l.length hi = some j) (h1 : i ≤ j) (h2 : j ≤ l.length) :
    ∃ r', slV a lo hi none sz = some r' ∧ d.Row h r' ((l.drop i).take (j - i)) := by
  subst hsz
  obtain ⟨css, r1, r2⟩ := r
  have hl := r2.length
  obtain ⟨r', e1, e2⟩ := r1.slice (lo := lo) (hi := hi) hlo (by rw [← hl]; exact hhi) h1 (by omega) (fun _ => trivial)
  exact ⟨r', e1, _, e2, (r2.drop i).take (j - i)⟩
theorem Kn.Row.uptoH {α : Type} {d : Kn α} {h : Hp} {a : AV} {l : List α} (r : d.Row h a l) {j sz : Nat} (hsz : d.sz = sz) (h1 : j ≤ l.length) {K : AV → Prop} (k : ∀ r', d.Row h r' (l.take j) → K r') : onO (slV a none (some (j : Int)) none sz) K := by
  obtain ⟨r', e1, e2⟩ := r.cutH (lo := none) (hi := some (j : Int)) (i := 0) (j := j) hsz rfl rfl (Nat.zero_le _) h1
  exact onO.mk e1 (k r' (by simpa using e2))
theorem Kn.Row.fromH {α : Type} {d : Kn α} {h : Hp} {a : AV} {l : List α} (r : d.Row h a l) {j sz : Nat} (hsz : d.sz = sz) (h1 : j ≤ l.length) {K : AV → Prop} (k : ∀ r', d.Row h r' (l.drop j) → K r') : onO (slV a (some (j : Int)) none none sz) K := by
  obtain ⟨r', e1, e2⟩ := r.cutH (lo := some (j : Int)) (hi := none) (i := j) (j := l.length) hsz rfl rfl h1 (Nat.le_refl _)
  rw [List.take_of_length_le (by simp)] at e2
  exact onO.mk e1 (k r' e2)
theorem int0e {h : Hp} {a : AV} {l : List Int} (r : IR h a l) {n : Int} {k : Nat} (hn : n = k) {x : Int} (e : l[k]? = some x) {K : Int → Prop} (q : K x) : onO (idxV a n 1) fun r0 => onO (rdH h r0.1 r0.2 1) fun l0 => onL [Kd.int .i64] l0 K := by
  subst hn; exact int0 r e q
/-! ### plain -/
noncomputable def staleB (v : List Int) (o : D.Op) : Bool := decide (o.seq ≤ v.getD o.stamp.rep.toNat 0)
noncomputable def prevLt (l : List D.Op) (i : Nat) (o : D.Op) : Bool := if i = 0 then true else match l[i - 1]? with
  | some p => decide (cmpT p.stamp o.stamp < 0)
  | none => true
noncomputable def okH (v : List Int) (l : List D.Op) (i : Nat) (o : D.Op) : Bool := fitsO v o && (!staleB v o && (!readyV v o && (prevLt l i o && !(l.take i).any fun x => twinO x o)))
noncomputable def mayQ (v : List Int) (l : List D.Op) : Prop := l.length ≤ 16 ∧ ∀ i o, l[i]? = some o → okH v l i o = true
noncomputable def mayH (v : List Int) (l : List D.Op) : Bool := @decide (mayQ v l) (Classical.propDecidable _)
theorem mayH_true {v : List Int} {l : List D.Op} (h : mayQ v l) : mayH v l = true := @decide_eq_true _ (Classical.propDecidable _) h
theorem mayH_false {v : List Int} {l : List D.Op} (h : ¬ mayQ v l) : mayH v l = false := @decide_eq_false _ (Classical.propDecidable _) h
theorem mayH_of {v : List Int} {l : List D.Op} (h : mayH v l = true) : mayQ v l := @of_decide_eq_true _ (Classical.propDecidable _) h
theorem mayH_bad {v : List Int} {l : List D.Op} {i : Nat} {o : D.Op} (h : l[i]? = some o) (e : okH v l i o = false) : mayH v l = false := mayH_false fun q => by rw [q.2 i o h] at e; cases e
theorem idxO_any {pr : D.Op → Bool} : ∀ {l : List D.Op} {k : Nat}, decide (0 ≤ idxO pr l k) = l.any pr
  | [], k => rfl
  | o :: l, k => by
    show decide (0 ≤ if pr o = true then (k : Int) else idxO pr l (k + 1)) = (pr o || l.any pr)
    by_cases h : pr o = true
    · rw [if_pos h, h, Bool.true_or]; exact decide_eq_true (by omega)
    · rw [if_neg h, idxO_any (k := k + 1)]
      simp [h]
/-! ### boxes -/
theorem boxW {h : Hp} {p : Nat} {c new : List AV} {Post : Option AV → Hp → Prop} (hp : h.g p = some c) (hlo : h.lo ≤ p) (hl : c.length = new.length) (hs : new.all AV.sc = true) (k : ∀ h1, h1 = h.put p new → Post none h1) : wpE (.w p 0 (.lit new) none) Post h := by
  refine wpE.w hp hlo rfl (by omega) hs ?_
  have e : splice c 0 new = new := by
    unfold splice
    rw [List.take_zero, List.nil_append, List.drop_eq_nil_of_le (by omega), List.append_nil]
  rw [e]; exact k _ rfl
theorem rdBox {h : Hp} {p o n : Nat} {c r : List AV} (hp : h.g p = some c) (hs : sub? c o n = some r) : rdH h p o n = some r := by
  unfold rdH
  rw [hp]; exact hs
/-- some cells of an element -/
theorem opP {h h1 : Hp} {a : AV} {l : List D.Op} (r : OpRow h a l) (le : h.le h1) {k : Nat} {o : D.Op} (e : l[k]? = some o) {off n : Nat} {c : List AV} (hs : ∀ {d}, sub? (opC o d) off n = some c) {K : List AV → Prop} (q : K c) :
    onO (idxV a (k : Int) 12) fun r0 => onO (rdH h1 r0.1 (r0.2 + off) n) K := by
  obtain ⟨b, p, c', e1, e2, e3⟩ := r.idx (i := (k : Int)) (Int.natCast_nonneg k) (by simpa using e)
  obtain ⟨d, rfl, e4⟩ := op_cells e3
  exact onO.mk e1 (onO.mk (rdH_le le (rdH_sub e2 hs)) q)
section
variable {g h : Hp} {a b c d : AV} {v : List Int} {l m : List D.Op} {o p : D.Op} {Post : AV → Hp → Prop}
theorem opC_sc {o : D.Op} {d : AV} (hd : d.sc = true) : (opC o d).all AV.sc = true := by
  show (true && (true && (true && (d.sc && true)))) = true
  rw [hd]; rfl
theorem c30 (ra : IR h a v) (rb : OpRow h b l) (hv : v.length < 1000000) (hb : l.length < 1000000) (ho : ∀ o ∈ l, o.deps.length < 1000000) (k : ∀ h', h.le h' → h'.lo = h.lo → Post (.b (mayH v l)) h') : wpC Try.prog 30 [a, b] Post h := by
  refine call_sound (args := [.vv a, .vv b]) (cuts := [0]) ⟨ra.sc, rb.sc, trivial⟩ ?_
  rw [vc30]
  intro p0 hp hlo0
  have hlo : h.lo ≤ p0 := hlo0
  refine ⟨fun m n0 _ h' => ∃ i : Nat, n0 = i ∧ i ≤ l.length ∧ m = l.length - i ∧ (∀ j o, j < i → l[j]? = some o → okH v l j o = true) ∧ h.le h' ∧ h'.lo = h.lo ∧ ∃ c : List AV, c.length = 12 ∧ h'.g p0 = some c, ⟨l.length, 0, rfl, by omega, rfl, fun j o hj => by omega, Hp.le_put hp, rfl, _, rfl, Hp.put_same _ _ _⟩, ?_⟩
  rintro m h0 _ _ ⟨i, rfl, hi, rfl, hall, le0, lo0, c, hc, hcp⟩
  refine Dup.mk (onO.mk rb.len (onB.dec (fun e => ?_) (fun e => ?_)))
  · have : i = l.length := by omega
    subst this
    have k := k h0 le0 lo0
    by_cases h16 : l.length ≤ 16
    · rw [mayH_true ⟨h16, fun j o hj => hall j o (List.getElem?_eq_some_iff.1 hj).1 hj⟩] at k
      rw [decide_eq_true (by omega)]; exact k
    · rw [mayH_false fun q => h16 q.1] at k
      rw [decide_eq_false (by omega)]; exact k
  obtain ⟨o, hoi⟩ := get_lt (l := l) (k := i) (by omega)
  have hod := ho o (List.mem_of_getElem? hoi)
  refine opW rb le0 hoi fun d rd _ => boxW hcp (by rw [lo0]; exact hlo) hc (opC_sc rd.sc) fun h1 eh1 => ?_
  have eh1 : h1 = h0.put p0 (opC o d) := eh1
  have le1 : h.le h1 := fun j x e => by
    have hj : j ≠ p0 := fun e' => by rw [e', hp] at e; cases e
    rw [eh1, Hp.put_ne _ _ hj]; exact le0 j x e
  have g1 : h1.g p0 = some (opC o d) := by rw [eh1]; exact Hp.put_same _ _ _
  have lo1 : h1.lo = h.lo := by rw [eh1]; exact lo0
  have bad : ∀ {h'}, okH v l i o = false → h.le h' → h'.lo = h.lo → Post (.b false) h' := fun {h'} e l1 l2 => by
    have k := k h' l1 l2
    rw [mayH_bad hoi e] at k; exact k
  refine onO.mk (rdBox g1 rfl) (onL.op rd.sc (c31 (ra.mono le1) (rd.mono le1) hod (onRet.b (onB.not (fun e1 => bad (by unfold okH; rw [e1]; rfl) le1 lo1) (fun e1 => ?_)))))
  refine onO.mk (rdBox g1 (o := 2) (n := 1) rfl) (onL.i1 (onO.mk (rdBox g1 (o := 1) (n := 1) rfl) (onL.i1 ?_)))
  obtain ⟨r, hr, hlt, s1, s2, hdl, _⟩ := fits_rep e1
  obtain ⟨x, hx⟩ := get_lt (l := v) (k := r) hlt
  have hst : staleB v o = decide (o.seq ≤ x) := by unfold staleB; rw [hr, Int.toNat_natCast, getD_some hx]
  refine int0e (ra.mono le1) hr hx (onB.dec (fun e2 => bad (by unfold okH; rw [e1, hst, decide_eq_true e2]; rfl) le1 lo1) (fun e2 => ?_))
  refine onO.mk (rdBox g1 rfl) (onL.op rd.sc (c42 (ra.mono le1) (rd.mono le1) e1 hv (onRet.b (onB.mk (fun e3 => bad (by unfold okH; rw [e1, hst, decide_eq_false e2, e3]; rfl) le1 lo1) (fun e3 => ?_)))))
  have tail : ∀ {h4 : Hp}, prevLt l i o = true → h.le h4 → h4.lo = h.lo → h4.g p0 = some (opC o d) → onO (slV b none (some (i : Int)) none 12) fun a8 => wpC Try.prog 48 [a8, .f 49 [.p p0 0]] (fun a9 h5 => onRet [Sh.one Kd.bool] a9 fun c4 => onB (!c4) (onO (intO BinOp.add IntKind.i64 (i : Int) 1) fun n55 => ∃ p4, ltN p4 (l.length - i) ∧ ∃ i' : Nat, n55 = i' ∧ i' ≤ l.length ∧ p4 = l.length - i' ∧ (∀ j o, j < i' → l[j]? = some o → okH v l j o = true) ∧ h.le h5 ∧ h5.lo = h.lo ∧ ∃ c : List AV, c.length = 12 ∧ h5.g p0 = some c) (Post (.b false) h5)) h4 := by
    intro h4 e4 le4 lo4 g4
    refine (rb.mono le4).uptoH rfl hi fun r' br => c48 (f := fno (fn := 49)) (pr := fun x => twinO x o) br (by simp; omega) ok227 (fun x dx _ rdx Post' k' => c49 (o := x) (p := o) rdx.sc (rdBox g4 rfl) rd.sc k') (onRet.b ?_)
    rw [idxO_any]
    refine onB.not (fun e5 => ?_) (fun e5 => bad (by unfold okH; rw [e1, hst, decide_eq_false e2, e3, e4, e5]; rfl) le4 lo4)
    refine onO.mk (inc64 (by omega)) ⟨_, by show l.length - (i + 1) < l.length - i; omega, i + 1, rfl, by omega, rfl, fun j y hj hy => ?_, le4, lo4, _, rfl, g4⟩
    by_cases hji : j < i
    · exact hall j y hji hy
    · have : j = i := by omega
      subst this
      rw [hoi] at hy; injection hy with hy; subst hy
      unfold okH; rw [e1, hst, decide_eq_false e2, e3, e4, e5]; rfl
  refine onB.dec (fun e4 => ?_) (fun e4 => tail (by unfold prevLt; rw [if_pos (by omega)]) le1 lo1 g1)
  obtain ⟨y, hy⟩ := get_lt (l := l) (k := i - 1) (by omega)
  have hpl : prevLt l i o = decide (cmpT y.stamp o.stamp < 0) := by unfold prevLt; rw [if_neg (by omega), hy]
  refine onO.mk (sub64 (by omega) (by omega)) ?_
  have ei : ((i : Int) - 1) = ((i - 1 : Nat) : Int) := by omega
  rw [ei]
  refine opW rb le1 hy fun dy rdy _ => onO.mk (rdBox g1 rfl) (onL.op rd.sc (c47 (o := y) (p := o) rdy.sc rd.sc fun h4 le4 lo4 => onRet.b (onB.not (fun e5 => bad (by unfold okH; rw [e1, hst, decide_eq_false e2, e3, hpl, e5]; rfl) (Hp.le_trans le1 le4) (lo4.trans lo1)) (fun e5 => tail (by rw [hpl, e5]) (Hp.le_trans le1 le4) (lo4.trans lo1) (le4 _ _ g1)))))
theorem c21 (ra : IR h a v) (rb : OpRow h b l) (hv : v.length < 1000000) (hb : l.length < 1000000) (ho : ∀ o ∈ l, o.deps.length < 1000000) (k : ∀ h', h.le h' → h'.lo = h.lo → Post (.i .i64 (if (vecV v && mayH v l) = true then 0 else 1)) h') : wpC Try.prog 21 [a, b] Post h := by
  refine call_sound (args := [.vv a, .vv b]) (cuts := []) ⟨ra.sc, rb.sc, trivial⟩ ?_
  rw [vc21]
  refine c29 ra hv (onRet.b (onB.not (fun e => ?_) (fun e => c30 ra rb hv hb ho fun h' le lo => onRet.b (onB.not (fun e1 => ?_) (fun e1 => ?_)))))
  · have k := k h (Hp.le_refl _) rfl
    rw [e] at k; exact k
  · have k := k h' le lo
    rw [e, e1] at k; exact k
  · have k := k h' le lo
    rw [e, e1] at k; exact k
theorem c22 (ra : IR h a v) (rb : OpRow h b l) (hv : v.length < 1000000) (hb : l.length < 1000000) (ho : ∀ o ∈ l, o.deps.length < 1000000) (k : Post (.b (vecV v && mayH v l)) h) : wpC Try.prog 22 [a, b] Post h := by
  refine call_sound (args := [.vv a, .vv b]) (cuts := [3000015, 15000061]) ⟨ra.sc, rb.sc, trivial⟩ ?_
  rw [vc22]
  refine ⟨fun c h' => h' = h ∧ c = (!vecV v || decide (16 < l.length)), c36 ra hv (onRet.b (onB.not (fun e => ⟨rfl, by rw [e]; rfl⟩) (fun e => onO.mk rb.len ⟨rfl, by rw [e]; show decide _ = decide _; rw [decide_eq_decide]; omega⟩))), ?_⟩
  rintro h1 c1 ⟨eh1, hc1⟩
  subst eh1
  refine onB.mk (fun e => ?_) (fun e => ?_)
  · rw [hc1, Bool.or_eq_true, decide_eq_true_eq] at e
    have : (vecV v && mayH v l) = false := by
      rcases e with e | e
      · rw [show vecV v = false by simpa using e]; rfl
      · rw [mayH_false fun q => by have := q.1; omega, Bool.and_false]
    rw [this] at k; exact k
  rw [hc1, Bool.or_eq_false_iff, decide_eq_false_iff_not] at e
  obtain ⟨ev, e16⟩ := e
  have ev : vecV v = true := by simpa using ev
  rw [ev, Bool.true_and] at k
  refine ⟨fun m _ n0 h' => h' = h1 ∧ ∃ i : Nat, n0 = i ∧ i ≤ l.length ∧ m = l.length - i ∧ (∀ j o, j < i → l[j]? = some o → okH v l j o = true), ⟨l.length, rfl, 0, rfl, by omega, rfl, fun j o hj => by omega⟩, ?_⟩
  rintro m h2 _ _ ⟨eh2, i, rfl, hi, rfl, hall⟩
  subst eh2
  refine onO.mk rb.len (onB.dec (fun e => ?_) (fun e => ?_))
  rotate_left
  · have : i = l.length := by omega
    subst this
    rw [mayH_true ⟨by omega, fun j o hj => hall j o (List.getElem?_eq_some_iff.1 hj).1 hj⟩] at k; exact k
  obtain ⟨o, hoi⟩ := get_lt (l := l) (k := i) (by omega)
  have hod := ho o (List.mem_of_getElem? hoi)
  have bad : okH v l i o = false → Post (.b false) h2 := fun e => by rw [mayH_bad hoi e] at k; exact k
  refine opW rb (Hp.le_refl _) hoi fun d rd _ _ => ⟨fun c h' => h' = h2 ∧ c = !(fitsO v o && (!staleB v o && (!readyV v o && prevLt l i o))), ?_, ?_⟩
  · refine c17 ra rd hv hod (onRet.b ?_)
    rw [ev, Bool.true_and]
    refine onB.not (fun e1 => ⟨rfl, by rw [e1]; rfl⟩) (fun e1 => ?_)
    obtain ⟨r, hr, hlt, s1, s2, hdl, _⟩ := fits_rep e1
    obtain ⟨x, hx⟩ := get_lt (l := v) (k := r) hlt
    have hst : staleB v o = decide (o.seq ≤ x) := by unfold staleB; rw [hr, Int.toNat_natCast, getD_some hx]
    rw [e1, hst]
    refine int0e ra hr hx (onB.dec (fun e2 => ⟨rfl, by rw [decide_eq_true e2]; rfl⟩) (fun e2 => c18 ra rd e1 hv (onRet.b (onB.mk (fun e3 => ⟨rfl, by rw [e3, decide_eq_false e2]; rfl⟩) (fun e3 => ?_)))))
    rw [e3, decide_eq_false e2]
    refine onB.dec (fun e4 => ?_) (fun e4 => ⟨rfl, by unfold prevLt; rw [if_pos (by omega)]; rfl⟩)
    obtain ⟨y, hy⟩ := get_lt (l := l) (k := i - 1) (by omega)
    have hpl : prevLt l i o = decide (cmpT y.stamp o.stamp < 0) := by unfold prevLt; rw [if_neg (by omega), hy]
    refine onO.mk (sub64 (by omega) (by omega)) ?_
    have ei : ((i : Int) - 1) = ((i - 1 : Nat) : Int) := by omega
    rw [ei]
    refine opP rb (Hp.le_refl _) hy (off := 0) (n := 2) (c := [.i .i64 y.stamp.time, .i .i64 y.stamp.rep]) rfl (onL.i2 (c43 (a := y.stamp) (b := o.stamp) (onRet.i ⟨rfl, ?_⟩)))
    rw [hpl]
    by_cases e5 : cmpT y.stamp o.stamp < 0
    · rw [decide_eq_true e5, decide_eq_false (by omega)]; rfl
    · rw [decide_eq_false e5, decide_eq_true (by omega)]; rfl
  · rintro h6 c5 ⟨eh6, hc5⟩
    subst eh6
    refine onB.mk (fun e1 => bad ?_) (fun e1 => ?_)
    · rw [hc5] at e1
      cases hk : okH v l i o with
      | false => rfl
      | true =>
        unfold okH at hk
        simp only [Bool.and_eq_true] at hk
        obtain ⟨k1, k2, k3, k4, k5⟩ := hk
        rw [k1, k2, k3, k4] at e1; cases e1
    have e1 : (fitsO v o && (!staleB v o && (!readyV v o && prevLt l i o))) = true := by rw [hc5] at e1; simpa using e1
    refine ⟨fun m _ n16 h' => h' = h6 ∧ ∃ j : Nat, n16 = j ∧ j ≤ i ∧ m = i - j ∧ (∀ x ∈ l.take j, twinO x o = false), ⟨i, rfl, 0, rfl, by omega, rfl, fun x hx => by simp at hx⟩, ?_⟩
    rintro m h7 _ _ ⟨eh7, j, rfl, hj, rfl, hno⟩
    subst eh7
    refine onB.dec (fun e2 => ?_) (fun e2 => ?_)
    · obtain ⟨y, hy⟩ := get_lt (l := l) (k := j) (by omega)
      refine opW rb (Hp.le_refl _) hy fun dy rdy _ => c44 (o := y) (p := o) rdy.sc rd.sc (onRet.b (onB.mk (fun e3 => bad ?_) (fun e3 => ?_)))
      · have : ((l.take i).any fun x => twinO x o) = true := List.any_eq_true.2 ⟨y, List.mem_take_iff_getElem.2 ⟨j, by have := (List.getElem?_eq_some_iff.1 hy).1; omega, (List.getElem?_eq_some_iff.1 hy).2⟩, e3⟩
        unfold okH
        rw [this]; simp
      · refine onO.mk (inc64 (by omega)) ⟨_, by show i - (j + 1) < i - j; omega, rfl, j + 1, rfl, by omega, rfl, fun x hx => ?_⟩
        rw [take_succ' hy] at hx
        rcases List.mem_append.1 hx with hx | hx
        · exact hno x hx
        · simp at hx; subst hx; exact e3
    · have : j = i := by omega
      subst this
      refine onO.mk (inc64 (by omega)) ⟨_, by show l.length - (j + 1) < l.length - j; omega, rfl, j + 1, rfl, by omega, rfl, fun k y hk hy => ?_⟩
      by_cases hji : k < j
      · exact hall k y hji hy
      · have : k = j := by omega
        subst this
        rw [hoi] at hy; injection hy with hy; subst hy
        have ha : ((l.take k).any fun x => twinO x o) = false := by
          rw [List.any_eq_false]; intro x hx; rw [hno x hx]; simp
        simp only [Bool.and_eq_true] at e1
        obtain ⟨k1, k2, k3, k4⟩ := e1
        unfold okH
        rw [k1, k2, k3, k4, ha]; rfl
end
/-- an element's cells as they are -/
noncomputable def kRaw : Kn (List AV) := ⟨12, fun _ x c => c = x ∧ x.length = 12 ∧ x.all AV.sc = true, fun _ k => k, fun k => by rw [k.1]; exact k.2.1, fun k => by rw [k.1]; exact k.2.2⟩
theorem kRaw_all {h : Hp} : ∀ {xs css : List (List AV)}, All2 (kRaw.K h) xs css → css = xs
  | [], _, .nil => rfl
  | _ :: _, _, .cons k t => by rw [k.1, kRaw_all t]
theorem kRaw_mk {h h' : Hp} : ∀ {l : List D.Op} {css : List (List AV)}, All2 (D.kOp.K h) l css → All2 (kRaw.K h') css css
  | [], _, .nil => .nil
  | _ :: _, _, .cons k t => .cons ⟨rfl, D.kOp.len k, D.kOp.sc k⟩ (kRaw_mk t)
section
variable {g h : Hp} {a b c d : AV} {v : List Int} {l m : List D.Op} {o p : D.Op} {Post : AV → Hp → Prop}
theorem c60 {css : List (List AV)} (ra : OpRow h a l) (rc : Raw h a 12 css) (ka : All2 (D.kOp.K h) l css) (hl : l.length < 1000000) (k : ∀ r h', Fresh h h' r 12 css → Post r h') : wpC Try.prog 60 [a] Post h := by
  refine call_sound (args := [.vv a]) (cuts := []) ⟨ra.sc, trivial⟩ ?_
  rw [vc60]
  have hlen := ka.length
  refine clone_body (d := kRaw) ⟨css, rc, kRaw_mk ka⟩ rfl (fun _ _ _ _ k => k) (by omega) (Nat.ble_eq_true_of_le (by show (4 * css.length + 4000) * 120 ≤ 17179869184; omega)) fun r h' o => ?_
  obtain ⟨p, css', p1, p2, f, f2⟩ := o
  have := kRaw_all f2
  subst this
  exact k r h' (f.mono p1 p2)
theorem c34 (ra : OpRow h a l) (hl : l.length < 1000000) (ho : ∀ o ∈ l, o.deps.length < 1000000) (k : ∀ r h' Q, h.le h' → h'.lo = h.lo → Q.le h' → Disj Q h → OpsP h'.lo Q r l → Post r h') : wpC Try.prog 34 [a] Post h := by
  refine call_sound (args := [.vv a]) (cuts := []) ⟨ra.sc, trivial⟩ ?_
  rw [vc34]
  obtain ⟨css, rc, ka⟩ := ra
  have hlen := ka.length
  refine c60 ⟨css, rc, ka⟩ rc ka hl fun r h0 f0 => onRet.r f0.row.sc (onO.mk f0.row.len ?_)
  refine ⟨fun m n0 h' => ∃ (i : Nat) (G : Hp) (css' : List (List AV)) (qs : Nat → Hp), n0 = i ∧ i ≤ l.length ∧ m = l.length - i ∧ Fresh G h' r 12 css' ∧ h.le G ∧ G.lo = h.lo ∧ css'.length = l.length ∧ (∀ j, (qs j).le G) ∧ (∀ j, Disj (qs j) h) ∧ (∀ j j', j ≠ j' → Disj (qs j) (qs j')) ∧ (∀ j, (qs j).lo = G.lo) ∧ (∀ j b, (qs j).g b ≠ none → G.lo ≤ b) ∧ (∀ j x c, j < i → l[j]? = some x → css'[j]? = some c → eOp (qs j) x c) ∧ (∀ j, i ≤ j → css'[j]? = css[j]?) ∧ ∀ j, i ≤ j → qs j = Hp.none h.lo,
    ⟨l.length, 0, h, css, fun _ => Hp.none h.lo, rfl, by omega, rfl, f0, Hp.le_refl _, rfl, hlen.symm ▸ rfl, fun _ => none_le _ _, fun _ k c e => (by cases e), fun _ _ _ k c e => (by cases e), fun _ => rfl, fun _ b e => absurd rfl e, fun j x c hj => by omega, fun _ _ => rfl, fun _ _ => rfl⟩, ?_⟩
  rintro m h1 _ ⟨i, G, css', qs, rfl, hi, rfl, f, hG, loG, hl', q1, q2, q3, q4, q5, q6, q7, q8⟩
  refine onB.dec (fun e => ?_) (fun e => ?_)
  · obtain ⟨x, hx⟩ := get_lt (l := l) (k := i) (by omega)
    obtain ⟨c, hc⟩ := get_lt (l := css) (k := i) (by omega)
    have hc' : css'[i]? = some c := by rw [q7 i (Nat.le_refl _)]; exact hc
    have kx := ka.get2 hx hc
    obtain ⟨d, rfl, rd⟩ := op_cells kx
    have hod := ho x (List.mem_of_getElem? hx)
    obtain ⟨b, of, e1, e2, e3⟩ := f.row.idx (i := (i : Int)) (Int.natCast_nonneg i) (by simpa using hc')
    refine onO.mk e1 (onO.mk e2 (onL.op rd.sc ?_))
    refine (f.call (Q := fun v p' => ∃ r', v = .agg (opC x r') ∧ Kn.int.Own G p' r' x.deps) (c54 (o := x) (rd.mono hG) hod fun r' h' ow => ⟨r', rfl, ow⟩)).mono ?_
    rintro v h2 ⟨p', f', hlo, r', rfl, ow⟩
    obtain ⟨qd, d1, d2, d3⟩ := IntP.of ow
    refine onRet.op ow.sc (f'.set hc' 0 (new := opC x r') (by simp [opC]) (opC_sc ow.sc) fun h3 f3 => ?_)
    have esp : splice (opC x d) 0 (opC x r') = opC x r' := rfl
    rw [esp] at f3
    have hGp : G.le p' := ow.le
    have cs : ∀ {P : Hp → Prop} (j : Nat), (j ≠ i → P (qs j)) → (j = i → P qd) → P (if j = i then qd else qs j) := fun {P} j a1 a2 => by
      by_cases h : j = i
      · rw [if_pos h]; exact a2 h
      · rw [if_neg h]; exact a1 h
    refine onO.mk (inc64 (by omega)) ⟨_, by show l.length - (i + 1) < l.length - i; omega, i + 1, p', _, fun j => if j = i then qd else qs j, rfl, by omega, rfl, f3, Hp.le_trans hG hGp, hlo.trans loG, by rw [List.length_set]; exact hl', fun j => cs (P := fun q => q.le p') j (fun _ => Hp.le_trans (q1 j) hGp) fun _ => d1, fun j => cs (P := fun q => Disj q h) j (fun _ => q2 j) fun _ => d2.le_right hG, fun j j' hjj => ?_, fun j => cs (P := fun q => q.lo = p'.lo) j (fun _ => (q4 j).trans hlo.symm) fun _ => d3.1.trans hlo.symm, fun j => cs (P := fun q => ∀ b, q.g b ≠ none → p'.lo ≤ b) j (fun _ b hb => by rw [hlo]; exact q5 j b hb) fun _ b hb => by rw [hlo]; exact d3.2.2.2 b hb, fun j y c' hj hy hc'' => ?_, fun j hj => ?_, fun j hj => ?_⟩
    · refine cs (P := fun q => Disj q (if j' = i then qd else qs j')) j (fun hj => ?_) fun hj => ?_
      · exact cs (P := fun q => Disj (qs j) q) j' (fun _ => q3 _ _ hjj) fun _ => (d2.le_right (q1 j)).symm
      · exact cs (P := fun q => Disj qd q) j' (fun _ => d2.le_right (q1 j')) fun hj' => by omega
    · by_cases hji : j = i
      · subst hji
        rw [hx] at hy; injection hy with hy; subst hy
        rw [List.getElem?_set_self (by omega)] at hc''
        injection hc'' with hc''; subst hc''
        simp only [if_pos rfl]
        exact d3.eOp kx
      · rw [List.getElem?_set_ne (by omega)] at hc''
        simp only [if_neg hji]
        exact q6 j y c' (by omega) hy hc''
    · rw [List.getElem?_set_ne (by omega)]; exact q7 j (by omega)
    · simp only [if_neg (show j ≠ i by omega)]; exact q8 j (by omega)
  · have : i = l.length := by omega
    subst this
    have ee : OpsE G l css' qs := ⟨hl', q1, q3, q4, q5, fun j x c hx hc => q6 j x c (List.getElem?_eq_some_iff.1 hx).1 hx hc⟩
    obtain ⟨Q, Q1, Q2, Q3⟩ := ee.close f
    exact k r h1 Q (Hp.le_trans hG f.le) (f.lo.trans loG) Q1 (Q3 h hG q2) Q2
end
/-! ### plain: stamps in order -/
noncomputable def ltS (a b : D.Stamp) : Prop := a.time < b.time ∨ a.time = b.time ∧ a.rep < b.rep
theorem cmpT_ltS {a b : D.Stamp} : cmpT a b < 0 ↔ ltS a b := by
  unfold cmpT ltS
  have neg : ∀ {x y : Int}, x < y → cmpN x y = -1 := fun h => if_pos h
  have pos : ∀ {x y : Int}, y < x → cmpN x y = 1 := fun {x y} h => by unfold cmpN; rw [if_neg (by omega), if_pos h]
  have zer : ∀ {x y : Int}, x = y → cmpN x y = 0 := fun {x y} h => by unfold cmpN; rw [if_neg (by omega), if_neg (by omega)]
  rcases Int.lt_trichotomy a.time b.time with h | h | h
  · rw [neg h, if_neg (by omega)]; omega
  · rw [zer h, if_pos rfl]
    rcases Int.lt_trichotomy a.rep b.rep with h' | h' | h'
    · rw [neg h']; omega
    · rw [zer h']; omega
    · rw [pos h']; omega
  · rw [pos h, if_neg (by omega)]; omega
noncomputable def cmpK (a b : D.Op) : Int := if cmpT a.stamp b.stamp < 0 then -1 else if cmpT b.stamp a.stamp < 0 then 1 else 0
noncomputable def Srt (l : List D.Op) : Prop := ∀ (i j : Nat) (x y : D.Op), i < j → l[i]? = some x → l[j]? = some y → ltS x.stamp y.stamp
noncomputable def SplitAt (l : List D.Op) (o : D.Op) (i : Nat) : Prop := i ≤ l.length ∧ (∀ (k : Nat) (y : D.Op), k < i → l[k]? = some y → ltS y.stamp o.stamp) ∧ ∀ (k : Nat) (y : D.Op), i ≤ k → l[k]? = some y → ¬ ltS y.stamp o.stamp
noncomputable def posH (o : D.Op) : List D.Op → Nat
  | [] => 0
  | x :: l => if cmpT x.stamp o.stamp < 0 then posH o l + 1 else 0
theorem split_pos {o : D.Op} : ∀ {l : List D.Op} {i : Nat}, SplitAt l o i → i = posH o l
  | [], i, h => by have := h.1; simp at this; rw [this]; rfl
  | x :: l, i, h => by
    unfold posH
    by_cases hx : cmpT x.stamp o.stamp < 0
    · rw [if_pos hx]
      cases i with
      | zero => exact absurd (cmpT_ltS.1 hx) (h.2.2 0 x (Nat.le_refl _) rfl)
      | succ i =>
        have : SplitAt l o i := ⟨by have := h.1; simp at this; omega, fun k y hk hy => h.2.1 (k + 1) y (by omega) (by simpa using hy), fun k y hk hy => h.2.2 (k + 1) y (by omega) (by simpa using hy)⟩
        rw [← split_pos this]
    · rw [if_neg hx]
      cases i with
      | zero => rfl
      | succ i => exact absurd (cmpT_ltS.2 (h.2.1 0 x (by omega) rfl)) hx
noncomputable def insH (l : List D.Op) (o : D.Op) : List D.Op := l.take (posH o l) ++ o :: l.drop (posH o l)
/-- is its stamp there? -/
noncomputable def hasS (l : List D.Op) (o : D.Op) : Bool := l.any fun x => decide (x.stamp = o.stamp)
noncomputable def foundO (o : D.Op) (l : List D.Op) (i : Nat) : Bool := match l[i]? with
  | some y => decide (cmpK y o = 0)
  | none => false
theorem stamp_same {a b : D.Stamp} (h1 : ¬ ltS a b) (h2 : ¬ ltS b a) : a = b := by
  unfold ltS at h1 h2
  cases a; cases b
  simp only at h1 h2
  rw [D.Stamp.mk.injEq]
  exact ⟨by omega, by omega⟩
theorem ltS_self {a : D.Stamp} : ¬ ltS a a := by unfold ltS; omega
theorem cmpK_zero {a b : D.Op} : cmpK a b = 0 ↔ a.stamp = b.stamp := by
  unfold cmpK
  constructor
  · intro h
    by_cases h1 : cmpT a.stamp b.stamp < 0
    · rw [if_pos h1] at h; omega
    · rw [if_neg h1] at h
      by_cases h2 : cmpT b.stamp a.stamp < 0
      · rw [if_pos h2] at h; omega
      · exact stamp_same (fun e => h1 (cmpT_ltS.2 e)) (fun e => h2 (cmpT_ltS.2 e))
  · intro h
    rw [h]
    have : ¬ cmpT b.stamp b.stamp < 0 := fun e => ltS_self (cmpT_ltS.1 e)
    rw [if_neg this, if_neg this]
theorem found_has {l : List D.Op} {o : D.Op} {i : Nat} (hs : Srt l) (h : SplitAt l o i) : foundO o l i = hasS l o := by
  unfold foundO hasS
  cases hi : l[i]? with
  | none =>
    symm
    rw [List.any_eq_false]
    intro x hx
    obtain ⟨k, hk⟩ := List.getElem?_of_mem hx
    have hk2 : k < i := by
      have := (List.getElem?_eq_some_iff.1 hk).1
      rw [List.getElem?_eq_none_iff] at hi
      omega
    have := h.2.1 k x hk2 hk
    intro e
    rw [of_decide_eq_true e] at this
    exact ltS_self this
  | some y =>
    show decide (cmpK y o = 0) = _
    by_cases e : cmpK y o = 0
    · rw [decide_eq_true e]
      symm
      exact List.any_eq_true.2 ⟨y, List.mem_of_getElem? hi, decide_eq_true (cmpK_zero.1 e)⟩
    · rw [decide_eq_false e]
      symm
      rw [List.any_eq_false]
      intro x hx e2
      have e2 := of_decide_eq_true e2
      obtain ⟨k, hk⟩ := List.getElem?_of_mem hx
      rcases Nat.lt_trichotomy k i with hki | hki | hki
      · have := h.2.1 k x hki hk
        rw [e2] at this; exact ltS_self this
      · subst hki; rw [hi] at hk; injection hk with hk; subst hk
        exact e (cmpK_zero.2 e2)
      · have := hs i k y x hki hi hk
        rw [e2] at this
        exact h.2.2 i y (Nat.le_refl _) hi this
theorem may_srt {v : List Int} {l : List D.Op} (h : mayQ v l) : Srt l := by
  have step : ∀ (i : Nat) (x y : D.Op), l[i]? = some x → l[i + 1]? = some y → ltS x.stamp y.stamp := fun i x y hx hy => by
    have := h.2 _ _ hy
    unfold okH at this
    simp only [Bool.and_eq_true] at this
    obtain ⟨_, _, _, k4, _⟩ := this
    unfold prevLt at k4
    rw [if_neg (by omega), Nat.add_sub_cancel, hx] at k4
    exact cmpT_ltS.1 (of_decide_eq_true k4)
  intro i j x y hij hx hy
  obtain ⟨n, rfl⟩ := Nat.exists_eq_add_of_lt hij
  induction n generalizing y with
  | zero => exact step i x y hx hy
  | succ n ih =>
    obtain ⟨z, hz⟩ := get_lt (l := l) (k := i + n + 1) (by have := (List.getElem?_eq_some_iff.1 hy).1; omega)
    have h1 := ih z (by omega) hz
    have h2 := step (i + n + 1) z y hz hy
    unfold ltS at *; omega
section
variable {g h : Hp} {a b c d : AV} {v : List Int} {l m : List D.Op} {o p : D.Op} {Post : AV → Hp → Prop}
theorem c71 (ha : a.sc = true) (hb : b.sc = true) (k : ∀ h', h.le h' → h'.lo = h.lo → Post (.i .i64 (cmpK o p)) h') : wpC Try.prog 71 [.agg (opC o a), .agg (opC p b)] Post h := by
  refine call_sound (args := [opS o a, opS p b]) (cuts := []) ⟨opS_good ha, opS_good hb, trivial⟩ ?_
  unfold opS
  rw [vc71]
  unfold cmpK at k
  refine fun _ _ => c47 (o := o) (p := p) ha hb fun h1 le1 lo1 => onRet.b (onB.dec (fun e => ?_) (fun e => c47 (o := p) (p := o) hb ha fun h2 le2 lo2 => onRet.b (onB.dec (fun e2 => ?_) (fun e2 => ?_))))
  · have k := k h1 le1 lo1
    rw [if_pos e] at k; exact k
  · have k := k h2 (Hp.le_trans le1 le2) (lo2.trans lo1)
    rw [if_neg e, if_pos e2] at k; exact k
  · have k := k h2 (Hp.le_trans le1 le2) (lo2.trans lo1)
    rw [if_neg e, if_neg e2] at k; exact k
theorem cmpK_neg {a b : D.Op} : cmpK a b < 0 ↔ ltS a.stamp b.stamp := by
  unfold cmpK
  rw [← cmpT_ltS]
  constructor
  · intro h
    by_cases e : cmpT a.stamp b.stamp < 0
    · exact e
    · rw [if_neg e] at h
      split at h <;> omega
  · intro h; rw [if_pos h]; omega
theorem c70 (r : OpRow h a l) (hd : d.sc = true) (hb : l.length < 1000000) (hs : Srt l) (k : ∀ (i : Nat) h', h.le h' → h'.lo = h.lo → SplitAt l o i → Post (.tup [.i .i64 (i : Int), .b (foundO o l i)]) h') : wpC Try.prog 70 [a, .agg (opC o d), .f 71 []] Post h := by
  refine call_sound (args := [.vv a, opS o d, .ff 71 []]) (cuts := []) ⟨r.sc, opS_good hd, trivial, trivial⟩ ?_
  unfold opS
  rw [vc70]
  intro _
  refine onO.mk r.len ⟨fun m n0 n1 h' => h.le h' ∧ h'.lo = h.lo ∧ ∃ i j : Nat, n0 = i ∧ n1 = j ∧ i ≤ j ∧ j ≤ l.length ∧ m = j - i ∧ (∀ (k : Nat) (y : D.Op), k < i → l[k]? = some y → ltS y.stamp o.stamp) ∧ ∀ (k : Nat) (y : D.Op), j ≤ k → l[k]? = some y → ¬ ltS y.stamp o.stamp, ⟨l.length, Hp.le_refl _, rfl, 0, l.length, rfl, rfl, by omega, by omega, rfl, fun k y hk => by omega, fun k y hk hy => by rw [List.getElem?_eq_none hk] at hy; cases hy⟩, ?_⟩
  rintro m h0 _ _ ⟨le0, lo0, i, j, rfl, rfl, hij, hj, rfl, h1, h2⟩
  refine onB.dec (fun e => ?_) (fun e => ?_)
  · have hlt : i < j := by omega
    refine onO.mk (add64 (by omega) (by omega)) ?_
    rw [← Int.natCast_add]
    refine onO.mk ((show wrO .u64 ((i + j : Nat) : Int) = some ((i + j : Nat) : Int) by rw [wru64]; congr 1; omega)) (onO.mk (shr1n (by omega)) (onO.mk (wri64n (by omega)) ?_))
    obtain ⟨x, hx⟩ := get_lt (l := l) (k := (i + j) / 2) (by omega)
    refine opW r le0 hx fun dx rdx _ => c71 (o := x) (p := o) rdx.sc hd fun h' le lo => onRet.i (onB.dec (fun e1 => ?_) (fun e1 => ?_))
    · have e1 := cmpK_neg.1 e1
      refine onO.mk (inc64 (by omega)) ⟨j - ((i + j) / 2 + 1), by show _ < _; omega, Hp.le_trans le0 le, lo.trans lo0, (i + j) / 2 + 1, j, rfl, rfl, by omega, hj, rfl, fun k y hk hy => ?_, h2⟩
      rcases Nat.lt_or_ge k ((i + j) / 2) with hk2 | hk2
      · have := hs k _ y x hk2 hy hx
        unfold ltS at *; omega
      · have : k = (i + j) / 2 := by omega
        subst this
        rw [hx] at hy; injection hy with hy; subst hy; exact e1
    · have e1 : ¬ ltS x.stamp o.stamp := fun q => e1 (cmpK_neg.2 q)
      refine ⟨(i + j) / 2 - i, by show _ < _; omega, Hp.le_trans le0 le, lo.trans lo0, i, (i + j) / 2, rfl, rfl, by omega, by omega, rfl, h1, fun k y hk hy => ?_⟩
      rcases Nat.lt_or_ge ((i + j) / 2) k with hk2 | hk2
      · have := hs _ k x y hk2 hx hy
        intro q; apply e1
        unfold ltS at *; omega
      · have : k = (i + j) / 2 := by omega
        subst this
        rw [hx] at hy; injection hy with hy; subst hy; exact e1
  · have : i = j := by omega
    subst this
    refine onB.dec (fun e2 => ?_) (fun e2 => ?_)
    · obtain ⟨x, hx⟩ := get_lt (l := l) (k := i) (by omega)
      refine opW r le0 hx fun dx rdx _ => c71 (o := x) (p := o) rdx.sc hd fun h' le lo => onRet.i ?_
      have k := k i h' (Hp.le_trans le0 le) (lo.trans lo0) ⟨hj, h1, h2⟩
      unfold foundO at k
      rw [hx] at k; exact k
    · have k := k i h0 le0 lo0 ⟨hj, h1, h2⟩
      unfold foundO at k
      rw [List.getElem?_eq_none (by omega)] at k; exact k
theorem OpsE.sc {G : Hp} {l : List D.Op} {css : List (List AV)} {qs : Nat → Hp} (e : OpsE G l css qs) : All2 (D.kOp.K G) l css :=
  All2.of_get e.len.symm fun i x c hx hc => D.kOp.mono (e.inG i) (e.el i x c hx hc).1
/-- keep -/
theorem c53 {q : Hp} (pq : OpsP h.lo q a l) (hq : q.le h) (rd : IR h d o.deps) (kx : D.kOp.K h o (opC o d)) (hd : o.deps.length < 1000000) (hb : l.length < 900000) (hs : Srt l)
    (k1 : (hasS l o = true ∨ l.length = 16) → ∀ h', h.le h' → h'.lo = h.lo → Post (.tup [.ns, .i .i64 5]) h')
    (k2 : ¬ (hasS l o = true ∨ l.length = 16) → ∀ r h' Q, (restH h q).le h' → h'.lo = h.lo → Q.le h' → Disj Q (restH h q) → OpsP h'.lo Q r (insH l o) → Post (.tup [r, .i .i64 0]) h') : wpC Try.prog 53 [a, .agg (opC o d)] Post h := by
  have ra : OpRow h a l := pq.row hq
  refine call_sound (args := [.vv a, opS o d]) (cuts := [7999999]) ⟨ra.sc, opS_good rd.sc, trivial⟩ ?_
  unfold opS
  rw [vc53]
  refine fun _ => c70 (o := o) ra rd.sc (by omega) hs fun i h0 le0 lo0 hi => onTup.ib ?_
  rw [found_has hs hi]
  refine onB.mk (fun e => ⟨fun a n h' => a = .ns ∧ n = 5 ∧ h' = h0, ⟨rfl, rfl, rfl⟩, ?_⟩) (fun e => onO.mk ra.len (onB.dec (fun e2 => ⟨fun a n h' => a = .ns ∧ n = 5 ∧ h' = h0, ⟨rfl, rfl, rfl⟩, ?_⟩) (fun e2 => ?_)))
  · rintro _ _ _ _ ⟨rfl, rfl, rfl⟩
    exact k1 (.inl e) _ le0 lo0
  · rintro _ _ _ _ ⟨rfl, rfl, rfl⟩
    exact k1 (.inr (by omega)) _ le0 lo0
  refine c54 (o := o) (rd.mono le0) hd fun d' h3 ow => onRet.op ow.sc fun p2 hp2 hlo2 => ?_
  have hlo2 : h3.lo ≤ p2 := hlo2
  obtain ⟨qd, d1, d2, d3⟩ := IntP.of ow
  have le3 : h.le h3 := Hp.le_trans le0 ow.le
  have lo3 : h3.lo = h.lo := ow.lo.trans lo0
  have leH : h3.le (h3.put p2 (opC o d')) := Hp.le_put hp2
  obtain ⟨G, css, qs, f, oe, oq, oG, oX⟩ := OpsP.openG (H := h3.put p2 (opC o d')) (q := q) (a := a) (l := l) (by show OpsP h3.lo q a l; rw [lo3]; exact pq) (Hp.le_trans hq (Hp.le_trans le3 leH))
  have hqd : Disj q qd := (d2.le_right (Hp.le_trans hq le0)).symm
  have dG : qd.le G := oX _ (Hp.le_trans d1 leH) hqd
  have hpos := split_pos hi
  have hcl := oe.len
  have ksc : (opC o d').all AV.sc = true := opC_sc ow.sc
  refine Fresh.ins (hk := hookI) (sz := 12) rfl (fun _ _ => rfl) (vn := 1) (css2 := [opC o d']) f ?_ hlo2 ?_ rfl (by omega) (fun c' hc' => by simp at hc'; rw [hc']; rfl) (Kn.all_sc oe.sc) (by simpa using ksc) (i := i) (by rw [hcl]; exact hi.1) (by rw [hcl]; omega) fun r h4 f4 => ?_
  · exact rdBox (Hp.put_same _ _ _) (by rw [List.flatten_cons, List.flatten_nil, List.append_nil]; rfl)
  · intro b of len lo ex z e1 e2
    obtain ⟨n1, n2, cs, n3, n4⟩ := f.new _ _ _ _ _ _ e1
    have r2 := pq.row hq
    -- the row's block is seen in q
    obtain ⟨hlo', p0, css0, qs0, o0⟩ := pq
    obtain ⟨m1, m2, cs0, m3, m4⟩ := o0.fr.new _ _ _ _ _ _ e1
    have := le3 b _ (hq b _ m3)
    rw [← e2, hp2] at this; cases this
  have kx' : eOp qd o (opC o d') := d3.eOp kx
  have loG : G.lo = h0.lo := oG.trans (show h3.lo = h0.lo from ow.lo)
  have oi := oe.ins (i := i) hi.1 (qd := qd) (x := o) (c := opC o d') dG (fun j => hqd.le_left (oq j)) (d3.1.trans loG.symm) (fun b hb => by rw [loG]; exact d3.2.2.2 b hb) kx'
  obtain ⟨Q, Q1, Q2, Q3⟩ := oi.close (r := r) (H := h4) f4
  have hR : (restH h q).le G := oX _ (Hp.le_trans (restH_le _ _) (Hp.le_trans le3 leH)) (rest_disj q h)
  have lo4 : h4.lo = h.lo := f4.lo.trans (loG.trans lo0)
  refine onRet.r f4.row.sc (k2 (fun e3 => ?_) r h4 Q (Hp.le_trans hR f4.le) lo4 Q1 (Q3 _ hR fun j => ?_) (by unfold insH; rw [← hpos]; exact Q2))
  · rcases e3 with e3 | e3
    · rw [e] at e3; cases e3
    · omega
  · by_cases hj : j < i
    · simp only [if_pos hj]; exact ((rest_disj q h).le_left (oq j))
    · by_cases hj2 : j = i
      · simp only [if_neg hj, if_pos hj2]; exact d2.le_right (Hp.le_trans (restH_le _ _) le0)
      · simp only [if_neg hj, if_neg hj2]; exact ((rest_disj q h).le_left (oq _))
end
noncomputable def setV (v : List Int) (o : D.Op) : List Int := v.set o.stamp.rep.toNat o.seq
noncomputable def nextH (v : List Int) (l : List D.Op) : Option Nat := if idxO (readyV v) l 0 < 0 then none else some (idxO (readyV v) l 0).toNat
noncomputable def delH (l : List D.Op) (i : Nat) : List D.Op := l.take i ++ l.drop (i + 1)
noncomputable def runH : Nat → List Int → List D.Op → D.Op → List D.Op → List Int × List D.Op × List D.Op
  | 0, v, l, o, t => (setV v o, l, t ++ [o])
  | n + 1, v, l, o, t => match nextH (setV v o) l with
    | none => (setV v o, l, t ++ [o])
    | some i => runH n (setV v o) (delH l i) (l.getD i o) (t ++ [o])
noncomputable def letH (v : List Int) (l : List D.Op) (o : D.Op) : Option (List Int × List D.Op × List D.Op) :=
  if (staleB v o || l.any fun x => twinO x o) = true then some (v, l, []) else
  if readyV v o = true then some (runH l.length v l o []) else
  if (hasS l o || decide (l.length = 16)) = true then none else some (v, insH l o, [])
theorem idxO_spec {pr : D.Op → Bool} : ∀ {l : List D.Op} {k : Nat}, (idxO pr l k = -1 ∧ ∀ x ∈ l, pr x = false) ∨ ∃ i x, idxO pr l k = ((k + i : Nat) : Int) ∧ l[i]? = some x ∧ pr x = true ∧ ∀ y ∈ l.take i, pr y = false
  | [], k => .inl ⟨rfl, fun x hx => by cases hx⟩
  | o :: l, k => by
    show (((if pr o = true then (k : Int) else idxO pr l (k + 1)) = -1 ∧ _) ∨ _)
    by_cases h : pr o = true
    · refine .inr ⟨0, o, ?_, rfl, h, fun y hy => by simp at hy⟩
      show (if pr o = true then (k : Int) else idxO pr l (k + 1)) = _
      rw [if_pos h]; rfl
    · rcases idxO_spec (pr := pr) (l := l) (k := k + 1) with ⟨e1, e2⟩ | ⟨i, x, e1, e2, e3, e4⟩
      · refine .inl ⟨by rw [if_neg h]; exact e1, fun x hx => ?_⟩
        rcases List.mem_cons.1 hx with rfl | hx
        · simpa using h
        · exact e2 x hx
      · refine .inr ⟨i + 1, x, ?_, by simpa using e2, e3, fun y hy => ?_⟩
        · show (if pr o = true then (k : Int) else idxO pr l (k + 1)) = _
          rw [if_neg h, e1]; congr 1; omega
        · rw [List.take_succ_cons] at hy
          rcases List.mem_cons.1 hy with rfl | hy
          · simpa using h
          · exact e4 y hy
theorem next_spec {v : List Int} {l : List D.Op} : (nextH v l = none ∧ idxO (readyV v) l 0 = -1 ∧ ∀ x ∈ l, readyV v x = false) ∨ ∃ i x, nextH v l = some i ∧ idxO (readyV v) l 0 = (i : Int) ∧ l[i]? = some x ∧ readyV v x = true ∧ ∀ y ∈ l.take i, readyV v y = false := by
  unfold nextH
  rcases idxO_spec (pr := readyV v) (l := l) (k := 0) with ⟨e1, e2⟩ | ⟨i, x, e1, e2, e3, e4⟩
  · exact .inl ⟨by rw [if_pos (by omega)], e1, e2⟩
  · rw [Nat.zero_add] at e1
    exact .inr ⟨i, x, by rw [if_neg (by omega), e1]; rfl, e1, e2, e3, e4⟩
theorem del_len {l : List D.Op} {i : Nat} (h : i < l.length) : (delH l i).length + 1 = l.length := by unfold delH; simp; omega
theorem run_none {v : List Int} {l t : List D.Op} {o : D.Op} (h : nextH (setV v o) l = none) : runH l.length v l o t = (setV v o, l, t ++ [o]) := by
  cases hl : l.length with
  | zero => rfl
  | succ n => unfold runH; rw [h]
theorem run_some {v : List Int} {l t : List D.Op} {o x : D.Op} {i : Nat} (h : nextH (setV v o) l = some i) (hx : l[i]? = some x) : runH l.length v l o t = runH (delH l i).length (setV v o) (delH l i) x (t ++ [o]) := by
  have hi := (List.getElem?_eq_some_iff.1 hx).1
  cases hl : l.length with
  | zero => omega
  | succ n =>
    have := del_len hi
    rw [show (delH l i).length = n by omega]
    show (match nextH (setV v o) l with | none => _ | some i => runH n (setV v o) (delH l i) (l.getD i o) (t ++ [o])) = _
    rw [h]
    show runH n (setV v o) (delH l i) (l.getD i o) (t ++ [o]) = _
    rw [List.getD_eq_getElem?_getD, hx]; rfl
/-! ### what may be -/
noncomputable def NoTw (l : List D.Op) : Prop := ∀ (i j : Nat) (x y : D.Op), i < j → l[i]? = some x → l[j]? = some y → twinO x y = false
structure MayR (v : List Int) (l : List D.Op) : Prop where
  len : l.length ≤ 16
  fit : ∀ x ∈ l, fitsO v x = true
  sta : ∀ x ∈ l, staleB v x = false
  rdy : ∀ x ∈ l, readyV v x = false
  srt : Srt l
  tw : NoTw l
theorem may_R {v : List Int} {l : List D.Op} (h : mayQ v l) : MayR v l := by
  have key : ∀ x ∈ l, ∃ i, l[i]? = some x ∧ okH v l i x = true := fun x hx => by
    obtain ⟨i, hi⟩ := List.getElem?_of_mem hx
    exact ⟨i, hi, h.2 i x hi⟩
  refine ⟨h.1, fun x hx => ?_, fun x hx => ?_, fun x hx => ?_, may_srt h, fun i j x y hij hx hy => ?_⟩
  · obtain ⟨i, _, hk⟩ := key x hx
    unfold okH at hk; simp only [Bool.and_eq_true] at hk; exact hk.1
  · obtain ⟨i, _, hk⟩ := key x hx
    unfold okH at hk; simp only [Bool.and_eq_true] at hk; simpa using hk.2.1
  · obtain ⟨i, _, hk⟩ := key x hx
    unfold okH at hk; simp only [Bool.and_eq_true] at hk; simpa using hk.2.2.1
  · have hk := h.2 j y hy
    unfold okH at hk; simp only [Bool.and_eq_true] at hk
    have hk := hk.2.2.2.2
    have hk : ((l.take j).any fun x => twinO x y) = false := by simpa using hk
    rw [List.any_eq_false] at hk
    have := hk x (List.mem_take_iff_getElem.2 ⟨i, by have := (List.getElem?_eq_some_iff.1 hx).1; omega, (List.getElem?_eq_some_iff.1 hx).2⟩)
    simpa using this
theorem R_may {v : List Int} {l : List D.Op} (h : MayR v l) : mayQ v l := by
  refine ⟨h.len, fun i o hi => ?_⟩
  have hm := List.mem_of_getElem? hi
  have hp : prevLt l i o = true := by
    unfold prevLt
    by_cases h0 : i = 0
    · rw [if_pos h0]
    · obtain ⟨y, hy⟩ := get_lt (l := l) (k := i - 1) (by have := (List.getElem?_eq_some_iff.1 hi).1; omega)
      rw [if_neg h0, hy]
      exact decide_eq_true (cmpT_ltS.2 (h.srt (i - 1) i y o (by omega) hy hi))
  have ht : ((l.take i).any fun x => twinO x o) = false := by
    rw [List.any_eq_false]
    intro x hx
    obtain ⟨k, hk, hx⟩ := List.mem_take_iff_getElem.1 hx
    have := h.tw k i x o (by omega) (List.getElem?_eq_some_iff.2 ⟨by omega, hx⟩) hi
    rw [this]; simp
  unfold okH
  rw [h.fit o hm, h.sta o hm, h.rdy o hm, hp, ht]; rfl
theorem twin_sym {a b : D.Op} : twinO a b = twinO b a := by
  unfold twinO
  rw [show decide (a.stamp.rep = b.stamp.rep) = decide (b.stamp.rep = a.stamp.rep) by rw [decide_eq_decide]; omega, show decide (a.seq = b.seq) = decide (b.seq = a.seq) by rw [decide_eq_decide]; omega]
theorem getD_set {v : List Int} {i k : Nat} {x : Int} (hi : i < v.length) : (v.set i x).getD k 0 = if k = i then x else v.getD k 0 := by
  rw [List.getD_eq_getElem?_getD, List.getD_eq_getElem?_getD]
  by_cases h : k = i
  · subst h; rw [if_pos rfl, List.getElem?_set_self hi]; rfl
  · rw [if_neg h, List.getElem?_set_ne (by omega)]
theorem fits_set {v : List Int} {o x : D.Op} : fitsO (setV v o) x = fitsO v x := by unfold fitsO setV; rw [List.length_set]
/-- while operations are taken -/
structure InvH (v : List Int) (l : List D.Op) (o : D.Op) : Prop where
  len : l.length ≤ 16
  fit : ∀ x ∈ l, fitsO v x = true
  fo : fitsO v o = true
  sta : ∀ x ∈ l, staleB v x = false
  ro : readyV v o = true
  to : ∀ x ∈ l, twinO x o = false
  srt : Srt l
  tw : NoTw l
theorem del_mem {l : List D.Op} {i : Nat} {x : D.Op} (h : x ∈ delH l i) : x ∈ l := by
  unfold delH at h
  rcases List.mem_append.1 h with h | h
  · exact List.mem_of_mem_take h
  · exact List.mem_of_mem_drop h
theorem del_get {l : List D.Op} {i : Nat} (hi : i < l.length) {k : Nat} {x : D.Op} (h : (delH l i)[k]? = some x) : ∃ k', l[k']? = some x ∧ k' ≠ i ∧ (k < i ∧ k' = k ∨ i ≤ k ∧ k' = k + 1) := by
  unfold delH at h
  rw [get_del hi] at h
  by_cases e : k < i
  · rw [if_pos e] at h; exact ⟨k, h, by omega, .inl ⟨e, rfl⟩⟩
  · rw [if_neg e] at h; exact ⟨k + 1, h, by omega, .inr ⟨by omega, rfl⟩⟩
theorem sta_set {v : List Int} {l : List D.Op} {o : D.Op} (i : InvH v l o) : ∀ x ∈ l, staleB (setV v o) x = false := by
  intro x hx
  obtain ⟨r, hr, hlt, _⟩ := fits_rep i.fo
  obtain ⟨r', hr', _⟩ := fits_rep (i.fit x hx)
  have h1 := i.sta x hx
  have h2 := i.ro
  have h3 := i.to x hx
  unfold staleB at h1 ⊢
  unfold setV
  unfold readyV at h2
  unfold twinO at h3
  rw [Bool.and_eq_true, decide_eq_true_eq] at h2
  have h1 := of_decide_eq_false h1
  apply decide_eq_false
  rw [getD_set (by rw [hr]; simpa using hlt)]
  by_cases e : x.stamp.rep.toNat = o.stamp.rep.toNat
  · rw [if_pos e]
    rw [e] at h1
    have e2 : x.stamp.rep = o.stamp.rep := by omega
    rw [decide_eq_true e2, Bool.true_and] at h3
    have := of_decide_eq_false h3
    omega
  · rw [if_neg e]; exact h1
theorem inv_next {v : List Int} {l : List D.Op} {o x : D.Op} {k : Nat} (i : InvH v l o) (hx : l[k]? = some x) (hr : readyV (setV v o) x = true) : InvH (setV v o) (delH l k) x := by
  have hk := (List.getElem?_eq_some_iff.1 hx).1
  have hl := del_len hk
  refine ⟨by have := i.len; omega, fun y hy => by rw [fits_set]; exact i.fit y (del_mem hy), by rw [fits_set]; exact i.fit x (List.mem_of_getElem? hx), fun y hy => sta_set i y (del_mem hy), hr, fun y hy => ?_, fun a b y z hab hy hz => ?_, fun a b y z hab hy hz => ?_⟩
  · obtain ⟨j, hj⟩ := List.getElem?_of_mem hy
    obtain ⟨j', h1, h2, _⟩ := del_get hk hj
    rcases Nat.lt_or_ge j' k with h | h
    · exact i.tw j' k y x h h1 hx
    · rw [twin_sym]; exact i.tw k j' x y (by omega) hx h1
  · obtain ⟨a', h1, h2, h3⟩ := del_get hk hy
    obtain ⟨b', h4, h5, h6⟩ := del_get hk hz
    exact i.srt a' b' y z (by omega) h1 h4
  · obtain ⟨a', h1, h2, h3⟩ := del_get hk hy
    obtain ⟨b', h4, h5, h6⟩ := del_get hk hz
    exact i.tw a' b' y z (by omega) h1 h4
theorem inv_done {v : List Int} {l : List D.Op} {o : D.Op} (i : InvH v l o) (h : ∀ x ∈ l, readyV (setV v o) x = false) : MayR (setV v o) l :=
  ⟨i.len, fun x hx => by rw [fits_set]; exact i.fit x hx, sta_set i, h, i.srt, i.tw⟩
theorem inv_first {v : List Int} {l : List D.Op} {o : D.Op} (m : MayR v l) (hf : fitsO v o = true) (ht : (l.any fun x => twinO x o) = false) (hr : readyV v o = true) : InvH v l o :=
  ⟨m.len, m.fit, hf, m.sta, hr, fun x hx => by rw [List.any_eq_false] at ht; simpa using ht x hx, m.srt, m.tw⟩
theorem run_may : ∀ (n : Nat) {v : List Int} {l t : List D.Op} {o : D.Op}, l.length = n → InvH v l o → MayR (runH n v l o t).1 (runH n v l o t).2.1 := by
  intro n
  induction n with
  | zero =>
    intro v l t o hn i
    have : l = [] := List.length_eq_zero_iff.1 hn
    subst this
    exact inv_done i fun x hx => by cases hx
  | succ n ih =>
    intro v l t o hn i
    rcases next_spec (v := setV v o) (l := l) with ⟨h1, h2, h3⟩ | ⟨k, x, h1, h2, h3, h4, h5⟩
    · rw [← hn, run_none h1]; exact inv_done i h3
    · have hd := del_len (List.getElem?_eq_some_iff.1 h3).1
      rw [← hn, run_some h1 h3, show (delH l k).length = n by omega]
      exact ih (by omega) (inv_next i h3 h4)
theorem srt_ins {l : List D.Op} {o : D.Op} {i : Nat} (hs : Srt l) (h : SplitAt l o i) (hn : hasS l o = false) : Srt (l.take i ++ o :: l.drop i) := by
  have ne : ∀ y ∈ l, y.stamp ≠ o.stamp := fun y hy e => by
    unfold hasS at hn
    rw [List.any_eq_false] at hn
    exact hn y hy (decide_eq_true e)
  have gt : ∀ (k : Nat) (y : D.Op), i ≤ k → l[k]? = some y → ltS o.stamp y.stamp := fun k y hk hy => by
    have h1 := h.2.2 k y hk hy
    have h2 := ne y (List.mem_of_getElem? hy)
    by_cases h3 : ltS o.stamp y.stamp
    · exact h3
    · exact absurd (stamp_same h1 h3) h2
  intro a b x y hab hx hy
  rw [get_ins h.1] at hx hy
  by_cases ha : a < i
  · rw [if_pos ha] at hx
    by_cases hb : b < i
    · rw [if_pos hb] at hy; exact hs a b x y hab hx hy
    · by_cases hb2 : b = i
      · rw [if_neg hb, if_pos hb2] at hy; injection hy with hy; subst hy; exact h.2.1 a x ha hx
      · rw [if_neg hb, if_neg hb2] at hy; exact hs a (b - 1) x y (by omega) hx hy
  · by_cases ha2 : a = i
    · rw [if_neg ha, if_pos ha2] at hx; injection hx with hx; subst hx
      rw [if_neg (by omega), if_neg (by omega)] at hy
      exact gt (b - 1) y (by omega) hy
    · rw [if_neg ha, if_neg ha2] at hx
      rw [if_neg (by omega), if_neg (by omega)] at hy
      exact hs (a - 1) (b - 1) x y (by omega) hx hy
theorem pos_split {o : D.Op} : ∀ {l : List D.Op}, Srt l → SplitAt l o (posH o l)
  | [], _ => ⟨Nat.le_refl _, fun k y _ h => by simp at h, fun k y _ h => by simp at h⟩
  | x :: l, hs => by
    have hs' : Srt l := fun i j a b hij ha hb => hs (i + 1) (j + 1) a b (by omega) (by simpa using ha) (by simpa using hb)
    have ih := pos_split (o := o) hs'
    unfold posH
    by_cases hx : cmpT x.stamp o.stamp < 0
    · rw [if_pos hx]
      refine ⟨by have := ih.1; simp; omega, fun k y hk hy => ?_, fun k y hk hy => ?_⟩
      · cases k with
        | zero => simp at hy; subst hy; exact cmpT_ltS.1 hx
        | succ k => exact ih.2.1 k y (by omega) (by simpa using hy)
      · cases k with
        | zero => omega
        | succ k => exact ih.2.2 k y (by omega) (by simpa using hy)
    · rw [if_neg hx]
      refine ⟨Nat.zero_le _, fun k y hk => by omega, fun k y _ hy => ?_⟩
      cases k with
      | zero => simp at hy; subst hy; exact fun e => hx (cmpT_ltS.2 e)
      | succ k =>
        have h1 := hs 0 (k + 1) x y (by omega) rfl hy
        intro e
        exact hx (cmpT_ltS.2 (by unfold ltS at *; omega))
theorem let_may {v w : List Int} {l s t : List D.Op} {o : D.Op} (m : MayR v l) (hf : fitsO v o = true) (h : letH v l o = some (w, s, t)) : MayR w s := by
  unfold letH at h
  by_cases h1 : (staleB v o || l.any fun x => twinO x o) = true
  · rw [if_pos h1] at h; injection h with h; injection h with e1 h; injection h with e2 h
    subst e1; subst e2; exact m
  · rw [if_neg h1] at h
    have h1 : (staleB v o || l.any fun x => twinO x o) = false := by simpa using h1
    rw [Bool.or_eq_false_iff] at h1
    by_cases h2 : readyV v o = true
    · rw [if_pos h2] at h; injection h with h
      have := run_may l.length (t := []) rfl (inv_first m hf h1.2 h2)
      rw [h] at this; exact this
    · rw [if_neg h2] at h
      by_cases h3 : (hasS l o || decide (l.length = 16)) = true
      · rw [if_pos h3] at h; cases h
      · rw [if_neg h3] at h; injection h with h; injection h with e1 h; injection h with e2 h
        subst e1; subst e2
        have h3 : (hasS l o || decide (l.length = 16)) = false := by simpa using h3
        rw [Bool.or_eq_false_iff] at h3
        have hp := pos_split (o := o) m.srt
        have hlen := m.len
        have hne := of_decide_eq_false h3.2
        have mem : ∀ x, x ∈ insH l o → x = o ∨ x ∈ l := fun x hx => by
          unfold insH at hx
          rcases List.mem_append.1 hx with hx | hx
          · exact .inr (List.mem_of_mem_take hx)
          · rcases List.mem_cons.1 hx with hx | hx
            · exact .inl hx
            · exact .inr (List.mem_of_mem_drop hx)
        have hall : ∀ {P : D.Op → Prop}, P o → (∀ x ∈ l, P x) → ∀ x ∈ insH l o, P x := fun {P} a b x hx => by
          rcases mem x hx with rfl | hx
          · exact a
          · exact b x hx
        refine ⟨?_, hall hf m.fit, hall h1.1 m.sta, hall (by simpa using h2) m.rdy, srt_ins m.srt hp h3.1, ?_⟩
        · have := hp.1
          unfold insH
          simp; omega
        · intro a b x y hab hx hy
          have ht := h1.2
          rw [List.any_eq_false] at ht
          have ht : ∀ x ∈ l, twinO x o = false := fun x hx => by simpa using ht x hx
          unfold insH at hx hy
          rw [get_ins hp.1] at hx hy
          by_cases ha : a < posH o l
          · rw [if_pos ha] at hx
            by_cases hb : b < posH o l
            · rw [if_pos hb] at hy; exact m.tw a b x y hab hx hy
            · by_cases hb2 : b = posH o l
              · rw [if_neg hb, if_pos hb2] at hy; injection hy with hy; subst hy; exact ht x (List.mem_of_getElem? hx)
              · rw [if_neg hb, if_neg hb2] at hy; exact m.tw a (b - 1) x y (by omega) hx hy
          · by_cases ha2 : a = posH o l
            · rw [if_neg ha, if_pos ha2] at hx; injection hx with hx; subst hx
              rw [if_neg (by omega), if_neg (by omega)] at hy
              rw [twin_sym]; exact ht y (List.mem_of_getElem? hy)
            · rw [if_neg ha, if_neg ha2] at hx
              rw [if_neg (by omega), if_neg (by omega)] at hy
              exact m.tw (a - 1) (b - 1) x y (by omega) hx hy
theorem one_le {h : Hp} {p lo : Nat} {c : List AV} (e : h.g p = some c) : (Hp.one p c lo).le h := fun k x hk => by
  have hk : (if k = p then some c else none) = some x := hk
  by_cases h : k = p
  · rw [if_pos h] at hk; rw [h, e]; exact hk
  · rw [if_neg h] at hk; cases hk
theorem disj_one {q : Hp} {p lo : Nat} {c : List AV} (e : q.g p = none) : Disj q (Hp.one p c lo) := fun k x hk => by
  show (if k = p then some c else none) = none
  exact if_neg fun h => by rw [h, e] at hk; cases hk
theorem one_none {q : Hp} {p lo : Nat} {c : List AV} (d : Disj q (Hp.one p c lo)) : q.g p = none := by
  cases h : q.g p with
  | none => rfl
  | some x =>
    have := d p x h
    have : (if p = p then some c else none) = none := this
    rw [if_pos rfl] at this; cases this
theorem le_putN {q h : Hp} {p : Nat} {c : List AV} (l : q.le h) (e : q.g p = none) : q.le (h.put p c) := fun k x hk => by
  have : k ≠ p := fun h => by rw [h, e] at hk; cases hk
  rw [Hp.put_ne _ _ this]; exact l k x hk
theorem eop_cells {q : Hp} {x : D.Op} {c : List AV} (e : eOp q x c) : ∃ d, c = opC x d ∧ IR q d x.deps ∧ D.kOp.K q x (opC x d) := by
  obtain ⟨d, rfl, r⟩ := op_cells e.1
  exact ⟨d, rfl, r, e.1⟩
/-- while operations are taken: what is seen -/
structure LW (g : Hp) (lo p0 p1 : Nat) (a a6 a9 d : AV) (v : List Int) (l t : List D.Op) (o : D.Op) (qv qh qt qo h : Hp) : Prop where
  gl : g.le h
  hlo : h.lo = lo
  b0 : g.g p0 = some [a]
  b1 : h.g p1 = some (opC o d)
  l1 : lo ≤ p1
  pv : IntP lo qv a v
  ph : OpsP lo qh a6 l
  pt : OpsP lo qt a9 t
  lv : qv.le h
  lh : qh.le h
  lt : qt.le h
  lq : qo.le h
  dvg : Disj qv g
  dhg : Disj qh g
  dtg : Disj qt g
  dvh : Disj qv qh
  dvt : Disj qv qt
  dht : Disj qh qt
  dvo : Disj qv qo
  dho : Disj qh qo
  dto : Disj qt qo
  rd : IR qo d o.deps
  n1g : g.g p1 = none
  n1v : qv.g p1 = none
  n1h : qh.g p1 = none
  n1t : qt.g p1 = none
  n1o : qo.g p1 = none
  kx : ∃ h', D.kOp.K h' o (opC o d)
section
variable {g h : Hp} {a b c d : AV} {v : List Int} {l m : List D.Op} {o p : D.Op} {Post : AV → Hp → Prop}
theorem setV_len : (setV v o).length = v.length := by unfold setV; rw [List.length_set]
/-- one round: the vector written, the operation taken -/
theorem let_round {lo p0 p1 : Nat} {a6 a9 d : AV} {t : List D.Op} {qv qh qt qo : Hp} (w : LW g lo p0 p1 a a6 a9 d v l t o qv qh qt qo h) (i : InvH v l o) (hv : v.length ≤ 16) (ht : t.length < 900000)
    {K : AV → Hp → Prop} (k : ∀ a14 h7 qv' qt', LW g lo p0 p1 a a6 a14 d (setV v o) l (t ++ [o]) o qv' qh qt' qo h7 → K a14 h7) :
    onO (rdH h p0 0 1) fun l7 => onL [Kd.ref] l7 fun a10 => onO (rdH h p1 1 1) fun l8 => onL [Kd.int IntKind.i64] l8 fun n26 => onO (rdH h p1 2 1) fun l9 => onL [Kd.int IntKind.i64] l9 fun n27 =>
      onO (idxV a10 n26 1) fun r1 => wpE (Eff.w r1.fst r1.snd (Src.lit [AV.i IntKind.i64 n27]) none) (fun x0 h5 => onO (rdH h5 p1 0 12) fun l10 =>
        onL [Kd.int IntKind.i64, Kd.int IntKind.i64, Kd.int IntKind.i64, Kd.ref, Kd.int IntKind.i64, Kd.int IntKind.i64, Kd.int IntKind.i64, Kd.int IntKind.i64, Kd.int IntKind.i64, Kd.str, Kd.int IntKind.i64, Kd.int IntKind.i64] l10 fun n28 n29 n30 a11 n31 n32 n33 n34 n35 l11 n36 n37 =>
        wpC Try.prog 54 [AV.agg [AV.i IntKind.i64 n28, AV.i IntKind.i64 n29, AV.i IntKind.i64 n30, a11, AV.i IntKind.i64 n31, AV.i IntKind.i64 n32, AV.i IntKind.i64 n33, AV.i IntKind.i64 n34, AV.i IntKind.i64 n35, AV.s l11, AV.i IntKind.i64 n36, AV.i IntKind.i64 n37]]
          (fun a12 h6 => onRet [Sh.agg [Kd.int IntKind.i64, Kd.int IntKind.i64, Kd.int IntKind.i64, Kd.ref, Kd.int IntKind.i64, Kd.int IntKind.i64, Kd.int IntKind.i64, Kd.int IntKind.i64, Kd.int IntKind.i64, Kd.str, Kd.int IntKind.i64, Kd.int IntKind.i64]] a12 fun n38 n39 n40 a13 n41 n42 n43 n44 n45 l12 n46 n47 =>
            ∀ (p4 : Nat), wpE (Eff.app a9 1 (Src.lit [AV.i IntKind.i64 n38, AV.i IntKind.i64 n39, AV.i IntKind.i64 n40, a13, AV.i IntKind.i64 n41, AV.i IntKind.i64 n42, AV.i IntKind.i64 n43, AV.i IntKind.i64 n44, AV.i IntKind.i64 n45, AV.s l12, AV.i IntKind.i64 n46, AV.i IntKind.i64 n47]) 12) (fun x1 h7 => onO x1 fun a14 => K a14 h7) h6) h5) h := by
  obtain ⟨r, hr, hlt, s1, s2, hdl, _⟩ := fits_rep i.fo
  have ob1 : (Hp.one p1 (opC o d) lo).le h := one_le w.b1
  refine onO.mk (rdBox (w.gl _ _ w.b0) rfl) (onL.r1 (w.pv.row w.lv).sc (onO.mk (rdBox w.b1 (o := 1) (n := 1) rfl) (onL.i1 (onO.mk (rdBox w.b1 (o := 2) (n := 1) rfl) (onL.i1 ?_)))))
  have o0 : Kn.int.Own (restH h qv) h a v := by
    have := IntP.outer (H := h) (q := qv) (a := a) (v := v) (by rw [w.hlo]; exact w.pv) w.lv
    exact this
  have hset := o0.set1 (sz := 1) rfl int_flat (i := r) (x := o.seq) (c := [.i .i64 o.seq]) hlt ⟨rfl, by omega, by omega⟩ (Post := fun v' h5 => v' = none ∧ Kn.int.Own (restH h qv) h5 a (v.set r o.seq)) fun h' o' => ⟨rfl, o'⟩
  obtain ⟨rr, hrr, hw⟩ := onO_some hset
  refine onO.mk (by rw [hr]; exact hrr) (wpE.mono hw ?_)
  rintro x0 h5 ⟨_, o5⟩
  have esv : v.set r o.seq = setV v o := by unfold setV; rw [hr]; rfl
  rw [esv] at o5
  obtain ⟨qv', v1, v2, v3⟩ := IntP.of o5
  have v3 : IntP lo qv' a (setV v o) := by rw [← w.hlo]; exact v3
  have lo5 : h5.lo = lo := o5.lo.trans w.hlo
  have R5 : (restH h qv).le h5 := o5.le
  have rG := le_restH w.gl w.dvg
  have rB := le_restH ob1 (disj_one (lo := lo) (c := opC o d) w.n1v)
  have rh := le_restH w.lh w.dvh
  have rt := le_restH w.lt w.dvt
  have ro := le_restH w.lq w.dvo
  have b15 : h5.g p1 = some (opC o d) := R5 _ _ (rB _ _ (if_pos rfl))
  have hod : o.deps.length < 1000000 := by rw [hdl]; omega
  refine onO.mk (rdBox b15 rfl) (onL.op w.rd.sc (c54 (o := o) (w.rd.mono (Hp.le_trans ro R5)) hod fun d6 h6 o6 => onRet.op o6.sc fun _ => ?_))
  obtain ⟨qd, d1, d2, d3⟩ := IntP.of o6
  have lo6 : h6.lo = lo := o6.lo.trans lo5
  obtain ⟨G, css, qs, f, oe, oq, oG, oX⟩ := OpsP.openG (H := h6) (q := qt) (a := a9) (l := t) (by rw [lo6]; exact w.pt) (Hp.le_trans (Hp.le_trans rt R5) o6.le)
  have hcl := oe.len
  refine f.app (n := 1) (css2 := [opC o d6]) (src := .lit (opC o d6)) (by simp [srcH]) (fun c' hc' => by simp at hc'; rw [hc']; rfl) rfl (by simpa using opC_sc o6.sc) (by omega) fun r7 h7 f7 => onO.mk rfl ?_
  have tX : ∀ {X : Hp}, X.le h5 → Disj qt X → X.le G := fun l1 dj => oX _ (Hp.le_trans l1 o6.le) dj
  have dtd : Disj qt qd := (d2.le_right (Hp.le_trans rt R5)).symm
  obtain ⟨h', kx⟩ := w.kx
  have oi := oe.ins (i := t.length) (Nat.le_refl _) (qd := qd) (x := o) (c := opC o d6) (oX _ d1 dtd) (fun j => dtd.le_left (oq j)) (d3.1.trans (lo5.trans (oG.trans lo6).symm)) (fun b hb => by rw [oG, lo6, ← lo5]; exact d3.2.2.2 b hb) (d3.eOp kx)
  have et : t.take t.length ++ o :: t.drop t.length = t ++ [o] := by simp
  have ec : css.take t.length ++ opC o d6 :: css.drop t.length = css ++ [opC o d6] := by rw [← hcl]; simp
  rw [et, ec] at oi
  obtain ⟨qt', t1, t2, t3⟩ := oi.close f7
  have lo7 : h7.lo = lo := f7.lo.trans (oG.trans lo6)
  have dX : ∀ {X : Hp}, X.le h5 → Disj qt X → X.le h7 ∧ Disj qt' X := fun {X} l1 dj => ⟨Hp.le_trans (tX l1 dj) f7.le, t3 X (tX l1 dj) fun j => by
    by_cases hj : j < t.length
    · simp only [if_pos hj]; exact dj.le_left (oq j)
    · by_cases hj2 : j = t.length
      · simp only [if_neg hj, if_pos hj2]; exact d2.le_right l1
      · simp only [if_neg hj, if_neg hj2]; exact dj.le_left (oq _)⟩
  have dtv : Disj qt qv' := (v2.le_right rt).symm
  obtain ⟨x1, x2⟩ := dX (Hp.le_trans rG R5) w.dtg
  obtain ⟨y1, y2⟩ := dX (Hp.le_trans rB R5) (disj_one w.n1t)
  obtain ⟨z1, z2⟩ := dX v1 dtv
  obtain ⟨u1, u2⟩ := dX (Hp.le_trans rh R5) w.dht.symm
  obtain ⟨w1, w2⟩ := dX (Hp.le_trans ro R5) w.dto
  refine k r7 h7 qv' qt' ⟨x1, lo7, w.b0, y1 _ _ (if_pos rfl), w.l1, v3, w.ph, by rw [← lo7]; exact t2, z1, u1, t1, w1, v2.le_right rG, w.dhg, x2, v2.le_right rh, z2.symm, u2.symm, v2.le_right ro, w.dho, w2, w.rd, w.n1g, one_none (v2.le_right rB), w.n1h, one_none y2, w.n1o, ⟨h', kx⟩⟩
/-- the next one, out of what is held -/
theorem let_next {lo p0 p1 : Nat} {a6 a9 d : AV} {t : List D.Op} {qv qh qt qo : Hp} (w : LW g lo p0 p1 a a6 a9 d v l t o qv qh qt qo h) {i : Nat} {x : D.Op} (hx : l[i]? = some x) (hb : l.length < 1000000)
    {K : AV → Hp → Prop} (k : ∀ a18 dx h10 qh' qo', LW g lo p0 p1 a a18 a9 dx v (delH l i) t x qv qh' qt qo' h10 → K a18 h10) :
    onO (idxV a6 (i : Int) 12) fun r2 => onO (rdH h r2.fst r2.snd 12) fun l13 =>
      onL [Kd.int IntKind.i64, Kd.int IntKind.i64, Kd.int IntKind.i64, Kd.ref, Kd.int IntKind.i64, Kd.int IntKind.i64, Kd.int IntKind.i64, Kd.int IntKind.i64, Kd.int IntKind.i64, Kd.str, Kd.int IntKind.i64, Kd.int IntKind.i64] l13 fun n49 n50 n51 a16 n52 n53 n54 n55 n56 l14 n57 n58 =>
      wpE (Eff.w p1 0 (Src.lit [AV.i IntKind.i64 n49, AV.i IntKind.i64 n50, AV.i IntKind.i64 n51, a16, AV.i IntKind.i64 n52, AV.i IntKind.i64 n53, AV.i IntKind.i64 n54, AV.i IntKind.i64 n55, AV.i IntKind.i64 n56, AV.s l14, AV.i IntKind.i64 n57, AV.i IntKind.i64 n58]) none)
        (fun x2 h9 => onO (intO BinOp.add IntKind.i64 (i : Int) 1) fun n59 => wpC Try.prog 57 [a6, AV.i IntKind.i64 (i : Int), AV.i IntKind.i64 n59] (fun a17 h10 => onRet [Sh.one Kd.ref] a17 fun a18 => K a18 h10) h9) h := by
  have hi := (List.getElem?_eq_some_iff.1 hx).1
  obtain ⟨G, css, qs, f, oe, oq, oG, oX⟩ := OpsP.openG (H := h) (q := qh) (a := a6) (l := l) (by rw [w.hlo]; exact w.ph) w.lh
  have hcl := oe.len
  obtain ⟨c, hc⟩ := get_lt (l := css) (k := i) (by omega)
  obtain ⟨dx, rfl, rdx, kx⟩ := eop_cells (oe.el i x c hx hc)
  obtain ⟨bb, of, e1, e2, e3⟩ := f.row.idx (i := (i : Int)) (Int.natCast_nonneg i) (by simpa using hc)
  refine onO.mk e1 (onO.mk e2 (onL.op rdx.sc ?_))
  have ob1 : (Hp.one p1 (opC o d) lo).le h := one_le w.b1
  have GB := oX _ ob1 (disj_one w.n1h)
  have gp1 : G.g p1 = some (opC o d) := GB _ _ (if_pos rfl)
  refine boxW w.b1 (by rw [w.hlo]; exact w.l1) rfl (opC_sc rdx.sc) fun h9 eh9 => ?_
  have eh9 : h9 = h.put p1 (opC x dx) := eh9
  have f9 : Fresh (G.put p1 (opC x dx)) h9 a6 12 css := by rw [eh9]; exact f.putg gp1 _
  refine onO.mk (inc64 (by omega)) (c57 f9 (by omega) (Kn.all_sc oe.sc) (by omega) fun r h10 f10 => onRet.r f10.row.sc ?_)
  have hq1 : ∀ j, (qs j).g p1 = none := fun j => le_none (oq j) w.n1h
  have oe' : OpsE (G.put p1 (opC x dx)) l css qs := oe.mono (fun j => le_putN (oe.inG j) (hq1 j)) rfl
  obtain ⟨qh', t1, t2, t3⟩ := (oe'.del hi).close f10
  have lo10 : h10.lo = lo := f10.lo.trans (oG.trans w.hlo)
  have dX : ∀ {X : Hp}, X.le (G.put p1 (opC x dx)) → (∀ j, j ≠ i → Disj (qs j) X) → X.le h10 ∧ Disj qh' X := fun {X} l1 dj => ⟨Hp.le_trans l1 f10.le, t3 X l1 fun j => by
    by_cases hj : j < i
    · simp only [if_pos hj]; exact dj j (by omega)
    · simp only [if_neg hj]; exact dj (j + 1) (by omega)⟩
  have aX : ∀ {X : Hp}, X.le h → Disj qh X → X.g p1 = none → X.le h10 ∧ Disj qh' X := fun {X} l1 dj n1 => dX (le_putN (oX _ l1 dj) n1) fun j _ => dj.le_left (oq j)
  obtain ⟨x1, x2⟩ := aX w.gl w.dhg w.n1g
  obtain ⟨y1, y2⟩ := aX w.lv w.dvh.symm w.n1v
  obtain ⟨z1, z2⟩ := aX w.lt w.dht w.n1t
  obtain ⟨u1, u2⟩ := dX (X := Hp.one p1 (opC x dx) lo) (one_le (Hp.put_same _ _ _)) fun j _ => disj_one (hq1 j)
  obtain ⟨w1, w2⟩ := dX (X := qs i) (le_putN (oe.inG i) (hq1 i)) fun j hj => oe.dd j i hj
  exact k r dx h10 qh' (qs i) ⟨x1, lo10, w.b0, u1 _ _ (if_pos rfl), w.l1, w.pv, by rw [← lo10]; exact t2, w.pt, y1, t1, z1, w1, w.dvg, x2, w.dtg, y2.symm, w.dvt, z2, w.dvh.le_right (oq i), w2, w.dht.symm.le_right (oq i), rdx, w.n1g, w.n1v, one_none u2, w.n1t, hq1 i, ⟨_, kx⟩⟩
end
end Go.Proofs.YtecjbmibngfpmaaAn
