/- What the functions that the law reaches come to, down to the law itself. -/
import Derived.Test.YtedhmpadkdmnhaaCnLogCrashesp1
import Derived.Test.YtedhmpadkdmnhaaProg
set_option linter.unusedVariables false
set_option linter.unusedSimpArgs false
set_option maxRecDepth 100000
namespace Go.Proofs.YtedhmpadkdmnhaaAn
open Go
/- arras/log.Open -/
theorem vc6 (a : AV) (h : Hp) (Post : AV → Hp → Prop) : vcCall Try.prog [] 6 [(SV.vv a)] h Post = (
  onO (nilP a) fun lc0 =>
  onB lc0 (Post (AV.tup [AV.np, AV.i IntKind.i64 1]) h)
    (∀ (p0 : Nat),
      h.g p0 = none →
        h.lo.le p0 →
          wpC Try.prog 22 [AV.p p0 0]
            (fun a0 h0 => onRet [Sh.one (Kd.int IntKind.i64)] a0 fun n0 => onB (!decide (n0 = 0)) (Post (AV.tup [AV.np, AV.i IntKind.i64 n0]) h0) (Post (AV.tup [AV.p p0 0, AV.i IntKind.i64 0]) h0))
            (h.put p0 [a, AV.ns, AV.i IntKind.i64 0, AV.i IntKind.i64 0, AV.i IntKind.i64 0, AV.b false]))) := by kernel_rfl
/- arras/arraslaw13.Disk -/
theorem vc7  (h : Hp) (Post : AV → Hp → Prop) : vcCall Try.prog [] 7 [] h Post = (
  wpC Try.prog 23 [AV.ns]
  (fun a0 h0 =>
    onTup [Sh.one Kd.ref, Sh.one (Kd.int IntKind.i64)] a0 fun a1 n0 =>
      wpC Try.prog 8 [AV.i IntKind.i64 n0] (fun a2 h1 => onRet [Sh.one (Kd.int IntKind.i64)] a2 fun n1 => onB (!decide (n1 = 0)) (Post AV.np h1) (Post a1 h1)) h0)
  h) := by kernel_rfl
/- arras/arraslaw13.num -/
theorem vc8 (a : Int) (h : Hp) (Post : AV → Hp → Prop) : vcCall Try.prog [] 8 [(SV.ii .i64 a)] h Post = (
  Post (AV.i IntKind.i64 a) h) := by kernel_rfl
/- (*arras/log.Log).Append -/
theorem vc9 (a : AV) (b : List Nat) (h : Hp) (Post : AV → Hp → Prop) : vcCall Try.prog [] 9 [(SV.vv a), (SV.ss b)] h Post = (
  onO (ptrV a) fun r0 =>
  onO (rdH h r0.fst (r0.snd + 5) 1) fun l0 =>
    onL [Kd.bool] l0 fun lc0 =>
      onB lc0 (Post (AV.i IntKind.i64 10) h)
        (onB (decide ((4096 : Int) < ↑b.length)) (Post (AV.i IntKind.i64 1) h)
          (onO (intO BinOp.add IntKind.i64 (↑b.length) 16) fun n0 =>
            onO (ptrV a) fun r1 =>
              onO (rdH h r1.fst (r1.snd + 2) 1) fun l1 =>
                onL [Kd.int IntKind.i64] l1 fun n1 =>
                  onO (intO BinOp.sub IntKind.i64 2097152 n1) fun n2 =>
                    onB (decide (n2 < n0)) (Post (AV.i IntKind.i64 5) h)
                      (∀ (p0 : Nat),
                        h.g p0 = none →
                          h.lo.le p0 →
                            wpC Try.prog 24 [AV.sl p0 0 1 1 true 1]
                              (fun a0 h0 =>
                                onRet [Sh.one Kd.ref] a0 fun a1 =>
                                  onO (ptrV a) fun r2 =>
                                    onO (rdH h0 r2.fst (r2.snd + 0) 1) fun l2 =>
                                      onL [Kd.ref] l2 fun a2 =>
                                        onO (ptrV a) fun r3 =>
                                          onO (rdH h0 r3.fst (r3.snd + 3) 1) fun l3 =>
                                            onL [Kd.int IntKind.i64] l3 fun n3 =>
                                              onO (ptrV a) fun r4 =>
                                                onO (rdH h0 r4.fst (r4.snd + 4) 1) fun l4 =>
                                                  onL [Kd.int IntKind.i64] l4 fun n4 =>
                                                    wpC Try.prog 26 [a2, AV.i IntKind.i64 n3, AV.i IntKind.i64 n4, a1]
                                                      (fun a3 h1 =>
                                                        onRet [Sh.one (Kd.int IntKind.i64)] a3 fun n5 =>
                                                          wpC Try.prog 25 [a, AV.i IntKind.i64 n5]
                                                            (fun a4 h2 =>
                                                              onRet [Sh.one (Kd.int IntKind.i64)] a4 fun n6 =>
                                                                onB (!decide (n6 = 0)) (Post (AV.i IntKind.i64 n6) h2)
                                                                  (onO (ptrV a) fun r5 =>
                                                                    onO (rdH h2 r5.fst (r5.snd + 1) 1) fun l5 =>
                                                                      onL [Kd.ref] l5 fun a5 =>
                                                                        ∀ (p1 : Nat),
                                                                          wpE (Eff.app a5 1 (Src.lit [AV.s b]) 1)
                                                                            (fun x0 h3 =>
                                                                              onO x0 fun a6 =>
                                                                                onO (ptrV a) fun r6 =>
                                                                                  onO (rdH h3 r6.fst (r6.snd + 2) 1) fun l6 =>
                                                                                    onL [Kd.int IntKind.i64] l6 fun n7 =>
                                                                                      sameH h2 h3 r6.fst (r6.snd + 2) 1 ∧
                                                                                        onO (intO BinOp.add IntKind.i64 n7 ↑b.length) fun n8 =>
                                                                                          onO (intO BinOp.add IntKind.i64 n8 16) fun n9 =>
                                                                                            onO (ptrV a) fun r7 =>
                                                                                              onO (rdH h3 r7.fst (r7.snd + 4) 1) fun l7 =>
                                                                                                onL [Kd.int IntKind.i64] l7 fun n10 =>
                                                                                                  sameH h2 h3 r7.fst (r7.snd + 4) 1 ∧
                                                                                                    onO (lenV a1) fun p2 =>
                                                                                                      onO (intO BinOp.add IntKind.i64 n10 ↑p2) fun n11 =>
                                                                                                        onO (ptrV a) fun r8 =>
                                                                                                          wpE (Eff.w r8.fst (r8.snd + 1) (Src.lit [a6]) none)
                                                                                                            (fun x1 h4 =>
                                                                                                              onO (ptrV a) fun r9 =>
                                                                                                                wpE (Eff.w r9.fst (r9.snd + 2) (Src.lit [AV.i IntKind.i64 n9]) none)
                                                                                                                  (fun x2 h5 =>
                                                                                                                    onO (ptrV a) fun r10 =>
                                                                                                                      wpE (Eff.w r10.fst (r10.snd + 4) (Src.lit [AV.i IntKind.i64 n11]) none)
                                                                                                                        (fun x3 h6 => Post (AV.i IntKind.i64 0) h6) h5)
                                                                                                                  h4)
                                                                                                            h3)
                                                                            h2))
                                                            h1)
                                                      h0)
                              (h.put p0 [AV.s b]))))) := by kernel_rfl
/- (*arras/log.Log).All -/
theorem vc10 (a : AV) (h : Hp) (Post : AV → Hp → Prop) : vcCall Try.prog [] 10 [(SV.vv a)] h Post = (
  onO (ptrV a) fun r0 => onO (rdH h r0.fst (r0.snd + 1) 1) fun l0 => onL [Kd.ref] l0 fun a0 => wpC Try.prog 27 [a0] (fun a1 h0 => onRet [Sh.one Kd.ref] a1 fun a2 => Post a2 h0) h) := by kernel_rfl
/- (*arras/log.Log).Reset -/
theorem vc11 (a : AV) (b : AV) (h : Hp) (Post : AV → Hp → Prop) : vcCall Try.prog [] 11 [(SV.vv a), (SV.vv b)] h Post = (
  onO (ptrV a) fun r0 =>
  onO (rdH h r0.fst (r0.snd + 5) 1) fun l0 =>
    onL [Kd.bool] l0 fun lc0 =>
      onB lc0 (Post (AV.i IntKind.i64 10) h)
        (wpC Try.prog 28 [b]
          (fun a0 h0 =>
            onTup [Sh.one (Kd.int IntKind.i64), Sh.one (Kd.int IntKind.i64)] a0 fun n0 n1 =>
              onB (!decide (n1 = 0)) (Post (AV.i IntKind.i64 n1) h0)
                (wpC Try.prog 24 [b]
                  (fun a1 h1 =>
                    onRet [Sh.one Kd.ref] a1 fun a2 =>
                      wpC Try.prog 29 [a, a2]
                        (fun a3 h2 =>
                          onRet [Sh.one (Kd.int IntKind.i64)] a3 fun n2 =>
                            wpC Try.prog 25 [a, AV.i IntKind.i64 n2]
                              (fun a4 h3 =>
                                onRet [Sh.one (Kd.int IntKind.i64)] a4 fun n3 =>
                                  onB (!decide (n3 = 0)) (Post (AV.i IntKind.i64 n3) h3)
                                    (wpC Try.prog 27 [b]
                                      (fun a5 h4 =>
                                        onRet [Sh.one Kd.ref] a5 fun a6 =>
                                          onO (ptrV a) fun r1 =>
                                            onO (rdH h4 r1.fst (r1.snd + 3) 1) fun l1 =>
                                              onL [Kd.int IntKind.i64] l1 fun n4 =>
                                                sameH h3 h4 r1.fst (r1.snd + 3) 1 ∧
                                                  onO (intO BinOp.sub IntKind.i64 1 n4) fun n5 =>
                                                    onO (lenV a2) fun p0 =>
                                                      onO (ptrV a) fun r2 =>
                                                        wpE (Eff.w r2.fst (r2.snd + 1) (Src.lit [a6]) none)
                                                          (fun x0 h5 =>
                                                            onO (ptrV a) fun r3 =>
                                                              wpE (Eff.w r3.fst (r3.snd + 2) (Src.lit [AV.i IntKind.i64 n0]) none)
                                                                (fun x1 h6 =>
                                                                  onO (ptrV a) fun r4 =>
                                                                    wpE (Eff.w r4.fst (r4.snd + 3) (Src.lit [AV.i IntKind.i64 n5]) none)
                                                                      (fun x2 h7 =>
                                                                        onO (ptrV a) fun r5 =>
                                                                          wpE (Eff.w r5.fst (r5.snd + 4) (Src.lit [AV.i IntKind.i64 ↑p0]) none) (fun x3 h8 => Post (AV.i IntKind.i64 0) h8) h7)
                                                                      h6)
                                                                h5)
                                                          h4)
                                      h3))
                              h2)
                        h1)
                  h0))
          h)) := by kernel_rfl
/- arras/arrasref0.EqStrings -/
theorem vc12 (a : AV) (b : AV) (h : Hp) (Post : AV → Hp → Prop) : vcCall Try.prog [] 12 [(SV.vv a), (SV.vv b)] h Post = (
  onO (lenV a) fun p0 =>
  onO (lenV b) fun p1 =>
    onB (!decide ((↑p0 : Int) = ↑p1)) (Post (AV.b false) h)
      (∃ I0 : Nat → Bool → Int → Hp → Prop,
        (∃ p2, I0 p2 false 0 h) ∧
          ∀ (p3 : Nat) (h0 : Hp) (lc0 : Bool) (n0 : Int),
            I0 p3 lc0 n0 h0 →
              onO (lenV a) fun p4 =>
                onB (decide (n0 < ↑p4))
                  (onO (idxV a n0 1) fun r0 =>
                    onO (rdH h0 r0.fst r0.snd 1) fun l0 =>
                      onL [Kd.str] l0 fun l1 =>
                        onO (idxV b n0 1) fun r1 =>
                          onO (rdH h0 r1.fst r1.snd 1) fun l2 =>
                            onL [Kd.str] l2 fun l3 => onB (!decide (l1 = l3)) (Post (AV.b false) h0) (onO (intO BinOp.add IntKind.i64 n0 1) fun n1 => ∃ p5, ltN p5 p3 ∧ I0 p5 lc0 n1 h0))
                  (Post (AV.b true) h0))) := by kernel_rfl
/- arras/arraslaw13.wakes -/
theorem vc13  (h : Hp) (Post : AV → Hp → Prop) : vcCall Try.prog [] 13 [] h Post = (
  wpC Try.prog 7 []
  (fun a0 h0 =>
    onRet [Sh.one Kd.ref] a0 fun a1 =>
      wpC Try.prog 6 [a1]
        (fun a2 h1 =>
          onTup [Sh.one Kd.ref, Sh.one (Kd.int IntKind.i64)] a2 fun a3 n0 =>
            wpC Try.prog 8 [AV.i IntKind.i64 n0]
              (fun a4 h2 =>
                onRet [Sh.one (Kd.int IntKind.i64)] a4 fun n1 =>
                  onB (decide (n1 = 0))
                    (onO (nilP a3) fun lc0 =>
                      onB (!lc0)
                        (wpC Try.prog 9 [a3, AV.s [97]]
                          (fun a5 h3 =>
                            onRet [Sh.one (Kd.int IntKind.i64)] a5 fun n2 =>
                              wpC Try.prog 8 [AV.i IntKind.i64 n2]
                                (fun a6 h4 =>
                                  onRet [Sh.one (Kd.int IntKind.i64)] a6 fun n3 =>
                                    onB (decide (n3 = 0))
                                      (wpC Try.prog 21 [a3]
                                        (fun a7 h5 =>
                                          onRet [Sh.one (Kd.int IntKind.i64)] a7 fun n4 =>
                                            wpC Try.prog 8 [AV.i IntKind.i64 n4]
                                              (fun a8 h6 =>
                                                onRet [Sh.one (Kd.int IntKind.i64)] a8 fun n5 =>
                                                  onB (decide (n5 = 0))
                                                    (wpC Try.prog 10 [a3]
                                                      (fun a9 h7 =>
                                                        onRet [Sh.one Kd.ref] a9 fun a10 =>
                                                          ∀ (p0 : Nat),
                                                            h7.g p0 = none →
                                                              h7.lo.le p0 →
                                                                wpC Try.prog 12 [a10, AV.sl p0 0 1 1 true 1] (fun a11 h8 => onRet [Sh.one Kd.bool] a11 fun lc1 => Post (AV.b lc1) h8)
                                                                  (h7.put p0 [AV.s [97]]))
                                                      h6)
                                                    (Post (AV.b false) h6))
                                              h5)
                                        h4)
                                      (Post (AV.b false) h4))
                                h3)
                          h2)
                        (Post (AV.b false) h2))
                    (Post (AV.b false) h2))
              h1)
        h0)
  h) := by kernel_rfl
/- arras/arraslaw13.heavy -/
theorem vc14 (a0 : AV) (a1 : AV) (h : Hp) (Post : AV → Hp → Prop) : vcCall Try.prog [] 14 [(SV.ag [(SV.vv a0), (SV.vv a1)])] h Post = (
  ∀ (p0 : Nat),
  ∃ I0 : Nat → Int → Int → Hp → Prop,
    (∃ p1, I0 p1 0 0 h) ∧
      ∀ (p2 : Nat) (h0 : Hp) (n0 n1 : Int),
        I0 p2 n0 n1 h0 →
          onO (lenV a0) fun p3 =>
            onB (decide (n1 < ↑p3))
              (onB (decide (n0 < 1048576))
                (onO (idxV a0 n1 4) fun r0 =>
                  onO (rdH h0 r0.fst (r0.snd + 1) 1) fun l0 =>
                    onL [Kd.str] l0 fun l1 =>
                      onO (intO BinOp.add IntKind.i64 n0 ↑l1.length) fun n2 =>
                        onO (idxV a0 n1 4) fun r1 =>
                          onO (rdH h0 r1.fst (r1.snd + 2) 1) fun l2 =>
                            onL [Kd.ref] l2 fun a0_1 =>
                              wpC Try.prog 30 [a0_1]
                                (fun a1 h1 =>
                                  onRet [Sh.one (Kd.int IntKind.i64)] a1 fun n3 =>
                                    sameH h0 h1 r0.fst (r0.snd + 1) 1 ∧
                                      onO (intO BinOp.add IntKind.i64 n2 n3) fun n4 =>
                                        onO (idxV a0 n1 4) fun r2 =>
                                          onO (rdH h1 r2.fst (r2.snd + 3) 1) fun l3 =>
                                            onL [Kd.ref] l3 fun a2 =>
                                              sameH h0 h1 r2.fst (r2.snd + 3) 1 ∧
                                                onO (lenV a2) fun p4 =>
                                                  onO (intO BinOp.add IntKind.i64 n4 ↑p4) fun n5 => onO (intO BinOp.add IntKind.i64 n1 1) fun n6 => ∃ p5, ltN p5 p2 ∧ I0 p5 n5 n6 h1)
                                h0)
                (onB (decide (40000 < n0)) (Post (AV.b true) h0) (onO (lenV a1) fun p6 => onB (decide ((20 : Int) < ↑p6)) (Post (AV.b true) h0) (onO (lenV a0) fun p7 => Post (AV.b (decide ((200 : Int) < ↑p7))) h0))))
              (onB (decide (40000 < n0)) (Post (AV.b true) h0) (onO (lenV a1) fun p8 => onB (decide ((20 : Int) < ↑p8)) (Post (AV.b true) h0) (onO (lenV a0) fun p9 => Post (AV.b (decide ((200 : Int) < ↑p9))) h0)))) := by kernel_rfl
/- arras/arraslaw13.next -/
theorem vc15 (a : AV) (b0 : Int) (b1 : List Nat) (b2 : AV) (b3 : AV) (h : Hp) (Post : AV → Hp → Prop) : vcCall Try.prog [] 15 [(SV.vv a), (SV.ag [(SV.ii .i64 b0), (SV.ss b1), (SV.vv b2), (SV.vv b3)])] h Post = (
  ∀ (p0 : Nat),
  wpC Try.prog 18 [AV.i IntKind.i64 b0, AV.i IntKind.i64 7]
    (fun a0 h0 =>
      onRet [Sh.one (Kd.int IntKind.i64)] a0 fun n0 =>
        onB (decide (n0 = 4))
          (∃ I0 : Nat → AV → Int → Int → Hp → Prop,
            (∃ p1, I0 p1 AV.ns 0 0 h0) ∧
              ∀ (p2 : Nat) (h1 : Hp) (a1 : AV),
                a1.sc = true →
                  ∀ (n1 n2 : Int),
                    I0 p2 a1 n1 n2 h1 →
                      onO (lenV b2) fun p3 =>
                        onB (decide (n2 < ↑p3))
                          (onO (idxV b2 n2 1) fun r0 =>
                            onO (rdH h1 r0.fst r0.snd 1) fun l0 =>
                              onL [Kd.str] l0 fun l1 =>
                                onB (decide ((4096 : Int) < ↑l1.length)) (Post (AV.tup [a, AV.i IntKind.i64 1]) h1) (onO (intO BinOp.add IntKind.i64 n2 1) fun n3 => ∃ p4, ltN p4 p2 ∧ I0 p4 a1 n1 n3 h1))
                          (wpC Try.prog 31 [b2]
                            (fun a2 h2 =>
                              onRet [Sh.one (Kd.int IntKind.i64)] a2 fun n4 =>
                                onB (decide (2097152 < n4)) (Post (AV.tup [a, AV.i IntKind.i64 5]) h2)
                                  (wpC Try.prog 32 [b2] (fun a3 h3 => onRet [Sh.one Kd.ref] a3 fun a4 => Post (AV.tup [a4, AV.i IntKind.i64 0]) h3) h2))
                            h1))
          (onB (decide (n0 = 5))
            (onB (decide (n0 = 5)) (Post (AV.tup [a, AV.i IntKind.i64 0]) h0)
              (onB (decide ((4096 : Int) < ↑b1.length)) (Post (AV.tup [a, AV.i IntKind.i64 1]) h0)
                (wpC Try.prog 31 [a]
                  (fun a5 h4 =>
                    onRet [Sh.one (Kd.int IntKind.i64)] a5 fun n5 =>
                      onO (intO BinOp.sub IntKind.i64 2097152 ↑b1.length) fun n6 =>
                        onO (intO BinOp.sub IntKind.i64 n6 16) fun n7 =>
                          onB (decide (n7 < n5)) (Post (AV.tup [a, AV.i IntKind.i64 5]) h4)
                            (wpC Try.prog 32 [a]
                              (fun a6 h5 =>
                                onRet [Sh.one Kd.ref] a6 fun a7 => ∀ (p5 : Nat), wpE (Eff.app a7 1 (Src.lit [AV.s b1]) 1) (fun x0 h6 => onO x0 fun a8 => Post (AV.tup [a8, AV.i IntKind.i64 0]) h6) h5)
                              h4))
                  h0)))
            (onB (decide (n0 = 6)) (Post (AV.tup [a, AV.i IntKind.i64 0]) h0)
              (onB (decide ((4096 : Int) < ↑b1.length)) (Post (AV.tup [a, AV.i IntKind.i64 1]) h0)
                (wpC Try.prog 31 [a]
                  (fun a9 h7 =>
                    onRet [Sh.one (Kd.int IntKind.i64)] a9 fun n8 =>
                      onO (intO BinOp.sub IntKind.i64 2097152 ↑b1.length) fun n9 =>
                        onO (intO BinOp.sub IntKind.i64 n9 16) fun n10 =>
                          onB (decide (n10 < n8)) (Post (AV.tup [a, AV.i IntKind.i64 5]) h7)
                            (wpC Try.prog 32 [a]
                              (fun a10 h8 =>
                                onRet [Sh.one Kd.ref] a10 fun a11 =>
                                  ∀ (p6 : Nat), wpE (Eff.app a11 1 (Src.lit [AV.s b1]) 1) (fun x1 h9 => onO x1 fun a12 => Post (AV.tup [a12, AV.i IntKind.i64 0]) h9) h8)
                              h7))
                  h0)))))
    h) := by kernel_rfl
/- arras/arraslaw13.does -/
theorem vc16 (a : AV) (b0 : Int) (b1 : List Nat) (b2 : AV) (b3 : AV) (h : Hp) (Post : AV → Hp → Prop) : vcCall Try.prog [] 16 [(SV.vv a), (SV.ag [(SV.ii .i64 b0), (SV.ss b1), (SV.vv b2), (SV.vv b3)])] h Post = (
  ∀ (p0 : Nat),
  wpC Try.prog 18 [AV.i IntKind.i64 b0, AV.i IntKind.i64 7]
    (fun a0 h0 =>
      onRet [Sh.one (Kd.int IntKind.i64)] a0 fun n0 =>
        onB (decide (n0 = 4))
          (wpC Try.prog 32 [b2]
            (fun a1 h1 =>
              onRet [Sh.one Kd.ref] a1 fun a2 =>
                wpC Try.prog 11 [a, a2]
                  (fun a3 h2 =>
                    onRet [Sh.one (Kd.int IntKind.i64)] a3 fun n1 =>
                      wpC Try.prog 8 [AV.i IntKind.i64 n1]
                        (fun a4 h3 => onRet [Sh.one (Kd.int IntKind.i64)] a4 fun n2 => wpC Try.prog 17 [a2] (fun a5 h4 => onTup [] a5 (Post (AV.i IntKind.i64 n2) h4)) h3) h2)
                  h1)
            h0)
          (onB (decide (n0 = 5))
            (onB (decide (n0 = 5))
              (wpC Try.prog 21 [a]
                (fun a6 h5 =>
                  onRet [Sh.one (Kd.int IntKind.i64)] a6 fun n3 =>
                    wpC Try.prog 8 [AV.i IntKind.i64 n3] (fun a7 h6 => onRet [Sh.one (Kd.int IntKind.i64)] a7 fun n4 => Post (AV.i IntKind.i64 n4) h6) h5)
                h0)
              (wpC Try.prog 9 [a, AV.s b1]
                (fun a8 h7 =>
                  onRet [Sh.one (Kd.int IntKind.i64)] a8 fun n5 =>
                    wpC Try.prog 8 [AV.i IntKind.i64 n5] (fun a9 h8 => onRet [Sh.one (Kd.int IntKind.i64)] a9 fun n6 => Post (AV.i IntKind.i64 n6) h8) h7)
                h0))
            (onB (decide (n0 = 6))
              (wpC Try.prog 21 [a]
                (fun a10 h9 =>
                  onRet [Sh.one (Kd.int IntKind.i64)] a10 fun n7 =>
                    wpC Try.prog 8 [AV.i IntKind.i64 n7] (fun a11 h10 => onRet [Sh.one (Kd.int IntKind.i64)] a11 fun n8 => Post (AV.i IntKind.i64 n8) h10) h9)
                h0)
              (wpC Try.prog 9 [a, AV.s b1]
                (fun a12 h11 =>
                  onRet [Sh.one (Kd.int IntKind.i64)] a12 fun n9 =>
                    wpC Try.prog 8 [AV.i IntKind.i64 n9] (fun a13 h12 => onRet [Sh.one (Kd.int IntKind.i64)] a13 fun n10 => Post (AV.i IntKind.i64 n10) h12) h11)
                h0))))
    h) := by kernel_rfl
/- arras/arraslaw0.Strings -/
theorem vc17 (a : AV) (h : Hp) (Post : AV → Hp → Prop) : vcCall Try.prog [] 17 [(SV.vv a)] h Post = (
  ∃ I0 : Nat → Int → Hp → Prop,
  (∃ p0, I0 p0 0 h) ∧
    ∀ (p1 : Nat) (h0 : Hp) (n0 : Int),
      I0 p1 n0 h0 →
        onO (lenV a) fun p2 =>
          onB (decide (n0 < ↑p2))
            (onO (idxV a n0 1) fun r0 => wpE (Eff.w r0.fst r0.snd (Src.lit [AV.s [63]]) none) (fun x0 h1 => onO (intO BinOp.add IntKind.i64 n0 1) fun n1 => ∃ p3, ltN p3 p1 ∧ I0 p3 n1 h1) h0)
            (∀ (p4 : Nat), wpE (Eff.app a 1 (Src.lit [AV.s [63]]) 1) (fun x1 h2 => onO x1 fun a0 => Post (AV.tup []) h2) h0)) := by kernel_rfl
/- arras/arraslaw13.Again -/
theorem vc19 (a : AV) (b : AV) (h : Hp) (Post : AV → Hp → Prop) : vcCall Try.prog [] 19 [(SV.vv a), (SV.vv b)] h Post = (
  wpC Try.prog 33 [a, b]
  (fun a0 h0 =>
    onRet [Sh.one Kd.ref] a0 fun a1 =>
      wpC Try.prog 23 [a1]
        (fun a2 h1 =>
          onTup [Sh.one Kd.ref, Sh.one (Kd.int IntKind.i64)] a2 fun a3 n0 =>
            wpC Try.prog 8 [AV.i IntKind.i64 n0] (fun a4 h2 => onRet [Sh.one (Kd.int IntKind.i64)] a4 fun n1 => onB (!decide (n1 = 0)) (Post AV.np h2) (Post a3 h2)) h1)
        h0)
  h) := by kernel_rfl
/- (*arras/log.Log).Sync -/
theorem vc21 (a : AV) (h : Hp) (Post : AV → Hp → Prop) : vcCall Try.prog [] 21 [(SV.vv a)] h Post = (
  onO (ptrV a) fun r0 =>
  onO (rdH h r0.fst (r0.snd + 5) 1) fun l0 =>
    onL [Kd.bool] l0 fun lc0 =>
      onB lc0 (Post (AV.i IntKind.i64 10) h)
        (onO (ptrV a) fun r1 =>
          onO (rdH h r1.fst (r1.snd + 0) 1) fun l1 =>
            onL [Kd.ref] l1 fun a0 =>
              onO (ptrV a) fun r2 =>
                onO (rdH h r2.fst (r2.snd + 3) 1) fun l2 =>
                  onL [Kd.int IntKind.i64] l2 fun n0 =>
                    wpC Try.prog 34 [a0, AV.i IntKind.i64 n0]
                      (fun a1 h0 =>
                        onRet [Sh.one (Kd.int IntKind.i64)] a1 fun n1 =>
                          wpC Try.prog 25 [a, AV.i IntKind.i64 n1] (fun a2 h1 => onRet [Sh.one (Kd.int IntKind.i64)] a2 fun n2 => Post (AV.i IntKind.i64 n2) h1) h0)
                      h)) := by kernel_rfl
/- (*arras/log.Log).load -/
theorem vc22 (a : AV) (h : Hp) (Post : AV → Hp → Prop) : vcCall Try.prog [12999999,
 24000004] 22 [(SV.vv a)] h Post = (
  wpC Try.prog 35 [a, AV.i IntKind.i64 2]
  (fun a0 h0 =>
    onTup [Sh.one Kd.ref, Sh.one (Kd.int IntKind.i64)] a0 fun a1 n0 =>
      onB (!decide (n0 = 0)) (Post (AV.i IntKind.i64 n0) h0)
        (onO (lenV a1) fun p0 =>
          ∃ I0 : Hp → Prop,
            onB (decide ((0 : Int) < ↑p0))
                (onO (lenV a1) fun p1 =>
                  onO (intO BinOp.sub IntKind.i64 (↑p1) 1) fun n1 =>
                    onO (idxV a1 n1 1) fun r0 =>
                      onO (rdH h0 r0.fst r0.snd 1) fun l0 =>
                        onL [Kd.int IntKind.u8] l0 fun n2 =>
                          onO (intO BinOp.and IntKind.u8 n2 1) fun n3 =>
                            onO (wrO IntKind.i64 n3) fun n4 => onO (ptrV a) fun r1 => wpE (Eff.w r1.fst (r1.snd + 3) (Src.lit [AV.i IntKind.i64 n4]) none) (fun x0 h1 => I0 h1) h0)
                (I0 h0) ∧
              ∀ (h2 : Hp),
                I0 h2 →
                  onO (ptrV a) fun r2 =>
                    onO (rdH h2 r2.fst (r2.snd + 3) 1) fun l1 =>
                      onL [Kd.int IntKind.i64] l1 fun n5 =>
                        wpC Try.prog 35 [a, AV.i IntKind.i64 n5]
                          (fun a2 h3 =>
                            onTup [Sh.one Kd.ref, Sh.one (Kd.int IntKind.i64)] a2 fun a3 n6 =>
                              onB (!decide (n6 = 0)) (Post (AV.i IntKind.i64 n6) h3)
                                (wpC Try.prog 36 [a, a3]
                                  (fun a4 h4 =>
                                    onTup [] a4
                                      (onO (ptrV a) fun r3 =>
                                        onO (rdH h4 r3.fst (r3.snd + 4) 1) fun l2 =>
                                          onL [Kd.int IntKind.i64] l2 fun n7 =>
                                            onO (lenV a3) fun p2 =>
                                              ∃ I1 : Int → Hp → Prop,
                                                onB (decide (n7 < ↑p2))
                                                    (onO (ptrV a) fun r4 =>
                                                      onO (rdH h4 r4.fst (r4.snd + 0) 1) fun l3 =>
                                                        onL [Kd.ref] l3 fun a5 =>
                                                          onO (ptrV a) fun r5 =>
                                                            onO (rdH h4 r5.fst (r5.snd + 3) 1) fun l4 =>
                                                              onL [Kd.int IntKind.i64] l4 fun n8 =>
                                                                onO (ptrV a) fun r6 =>
                                                                  onO (rdH h4 r6.fst (r6.snd + 4) 1) fun l5 =>
                                                                    onL [Kd.int IntKind.i64] l5 fun n9 =>
                                                                      wpC Try.prog 37 [a5, AV.i IntKind.i64 n8, AV.i IntKind.i64 n9]
                                                                        (fun a6 h5 => onRet [Sh.one (Kd.int IntKind.i64)] a6 fun n10 => I1 n10 h5) h4)
                                                    (I1 n6 h4) ∧
                                                  ∀ (h6 : Hp) (n11 : Int),
                                                    I1 n11 h6 →
                                                      onO (ptrV a) fun r7 =>
                                                        onO (rdH h6 r7.fst (r7.snd + 3) 1) fun l6 =>
                                                          onL [Kd.int IntKind.i64] l6 fun n12 =>
                                                            ∃ I2 : Nat → Int → Int → Hp → Prop,
                                                              (∃ p3, I2 p3 n11 0 h6) ∧
                                                                ∀ (p4 : Nat) (h7 : Hp) (n13 n14 : Int),
                                                                  I2 p4 n13 n14 h7 →
                                                                    onB (decide (n14 < 2))
                                                                      (onO (natLt n14 2) fun p5 =>
                                                                        (True ∧
                                                                            (p5 = 0 →
                                                                              onB (decide (n13 = 0))
                                                                                (onO (ptrV a) fun r8 =>
                                                                                  onO (rdH h7 r8.fst (r8.snd + 0) 1) fun l7 =>
                                                                                    onL [Kd.ref] l7 fun a7 =>
                                                                                      wpC Try.prog 34 [a7, AV.i IntKind.i64 n12]
                                                                                        (fun a8 h8 =>
                                                                                          onRet [Sh.one (Kd.int IntKind.i64)] a8 fun n15 =>
                                                                                            onO (intO BinOp.add IntKind.i64 n14 1) fun n16 => ∃ p6, ltN p6 p4 ∧ I2 p6 n15 n16 h8)
                                                                                        h7)
                                                                                (onO (intO BinOp.add IntKind.i64 n14 1) fun n17 => ∃ p7, ltN p7 p4 ∧ I2 p7 n13 n17 h7))) ∧
                                                                          (p5 = 1 →
                                                                            onB (decide (n13 = 0))
                                                                              (onO (ptrV a) fun r9 =>
                                                                                onO (rdH h7 r9.fst (r9.snd + 0) 1) fun l8 =>
                                                                                  onL [Kd.ref] l8 fun a9 =>
                                                                                    wpC Try.prog 34 [a9, AV.i IntKind.i64 2]
                                                                                      (fun a10 h9 =>
                                                                                        onRet [Sh.one (Kd.int IntKind.i64)] a10 fun n18 =>
                                                                                          onO (intO BinOp.add IntKind.i64 n14 1) fun n19 => ∃ p8, ltN p8 p4 ∧ I2 p8 n18 n19 h9)
                                                                                      h7)
                                                                              (onO (intO BinOp.add IntKind.i64 n14 1) fun n20 => ∃ p9, ltN p9 p4 ∧ I2 p9 n13 n20 h7)))
                                                                      (Post (AV.i IntKind.i64 n13) h7)))
                                  h3))
                          h2))
  h) := by kernel_rfl
/- arras/log.lay -/
theorem vc24 (a : AV) (h : Hp) (Post : AV → Hp → Prop) : vcCall Try.prog [] 24 [(SV.vv a)] h Post = (
  onO (lenV a) fun p0 =>
  ∃ I0 : Nat → AV → Int → Hp → Prop,
    (∃ p1, I0 p1 AV.ns 0 h) ∧
      ∀ (p2 : Nat) (h0 : Hp) (a0 : AV),
        a0.sc = true →
          ∀ (n0 : Int),
            I0 p2 a0 n0 h0 →
              onB (decide (n0 < ↑p0))
                (onO (idxV a n0 1) fun r0 =>
                  onO (rdH h0 r0.fst r0.snd 1) fun l0 =>
                    onL [Kd.str] l0 fun l1 =>
                      onO (wrO IntKind.u32 ↑l1.length) fun n1 =>
                        wpC Try.prog 39 [a0, AV.i IntKind.u32 n1]
                          (fun a1 h1 =>
                            onRet [Sh.one Kd.ref] a1 fun a2 =>
                              ∀ (p3 : Nat),
                                h1.g p3 = none →
                                  h1.lo.le p3 →
                                    wpC Try.prog 40 [AV.i IntKind.u32 0, AV.sl p3 0 l1.length l1.length false 1]
                                      (fun a3 h2 =>
                                        onRet [Sh.one (Kd.int IntKind.u32)] a3 fun n2 =>
                                          wpC Try.prog 39 [a2, AV.i IntKind.u32 n2]
                                            (fun a4 h3 =>
                                              onRet [Sh.one Kd.ref] a4 fun a5 =>
                                                onO (srcV 1 (AV.s l1)) fun r1 =>
                                                  onC (((4 * r1.fst + 4000) * 1).ble (OfNat.ofNat 17179869184))
                                                    (wpE (Eff.app a5 r1.fst r1.snd 1) (fun x0 h4 => onO x0 fun a6 => onO (intO BinOp.add IntKind.i64 n0 1) fun n3 => ∃ p4, ltN p4 p2 ∧ I0 p4 a6 n3 h4)
                                                      h3))
                                            h2)
                                      (h1.put p3 (bytesV l1)))
                          h0)
                (Post a0 h0)) := by kernel_rfl
/- (*arras/log.Log).did -/
theorem vc25 (a : AV) (b : Int) (h : Hp) (Post : AV → Hp → Prop) : vcCall Try.prog [] 25 [(SV.vv a), (SV.ii .i64 b)] h Post = (
  onO (ptrV a) fun r0 => wpE (Eff.w r0.fst (r0.snd + 5) (Src.lit [AV.b !decide (b = 0)]) none) (fun x0 h0 => Post (AV.i IntKind.i64 b) h0) h) := by kernel_rfl
/- slices.Clone[[]string,string] -/
theorem vc27 (a : AV) (h : Hp) (Post : AV → Hp → Prop) : vcCall Try.prog [] 27 [(SV.vv a)] h Post = (
  onO (nilSl a) fun lc0 =>
  onB lc0 (Post AV.ns h)
    (∀ (p0 : Nat),
      h.g p0 = none →
        h.lo.le p0 →
          onO (srcV 1 a) fun r0 =>
            onC (((4 * r0.fst + 4000) * 16).ble (OfNat.ofNat 17179869184)) (wpE (Eff.app (AV.sl p0 0 0 0 true 1) r0.fst r0.snd 1) (fun x0 h0 => onO x0 fun a0 => Post a0 h0) (h.put p0 [])))) := by kernel_rfl
/- arras/log.counted -/
theorem vc28 (a : AV) (h : Hp) (Post : AV → Hp → Prop) : vcCall Try.prog [] 28 [(SV.vv a)] h Post = (
  onO (lenV a) fun p0 =>
  ∃ I0 : Nat → Int → Bool → Int → Int → Hp → Prop,
    (∃ p1, I0 p1 0 false 0 0 h) ∧
      ∀ (p2 : Nat) (h0 : Hp) (n0 : Int) (lc0 : Bool) (n1 n2 : Int),
        I0 p2 n0 lc0 n1 n2 h0 →
          onB (decide (n2 < ↑p0))
            (onO (idxV a n2 1) fun r0 =>
              onO (rdH h0 r0.fst r0.snd 1) fun l0 =>
                onL [Kd.str] l0 fun l1 =>
                  onB (decide ((4096 : Int) < ↑l1.length)) (Post (AV.tup [AV.i IntKind.i64 0, AV.i IntKind.i64 1]) h0)
                    (onB lc0 (onO (intO BinOp.add IntKind.i64 n2 1) fun n3 => ∃ p3, ltN p3 p2 ∧ I0 p3 n0 true n1 n3 h0)
                      (onO (intO BinOp.add IntKind.i64 (↑l1.length) 16) fun n4 =>
                        onO (intO BinOp.sub IntKind.i64 2097152 n1) fun n5 =>
                          onB (!decide (n5 < n4))
                            (onO (intO BinOp.add IntKind.i64 (↑l1.length) 16) fun n6 =>
                              onO (intO BinOp.add IntKind.i64 n1 n6) fun n7 => onO (intO BinOp.add IntKind.i64 n2 1) fun n8 => ∃ p4, ltN p4 p2 ∧ I0 p4 n0 (decide (n5 < n4)) n7 n8 h0)
                            (onO (intO BinOp.add IntKind.i64 n2 1) fun n9 => ∃ p5, ltN p5 p2 ∧ I0 p5 n0 (decide (n5 < n4)) n1 n9 h0))))
            (onB lc0 (Post (AV.tup [AV.i IntKind.i64 0, AV.i IntKind.i64 5]) h0) (Post (AV.tup [AV.i IntKind.i64 n1, AV.i IntKind.i64 0]) h0))) := by kernel_rfl
/- (*arras/log.Log).renew -/
theorem vc29 (a : AV) (b : AV) (h : Hp) (Post : AV → Hp → Prop) : vcCall Try.prog [999999] 29 [(SV.vv a), (SV.vv b)] h Post = (
  ∀ (p0 p1 : Nat),
  onO (ptrV a) fun r0 =>
    onO (rdH h r0.fst (r0.snd + 3) 1) fun l0 =>
      onL [Kd.int IntKind.i64] l0 fun n0 =>
        onO (intO BinOp.sub IntKind.i64 1 n0) fun n1 =>
          ∀ (p2 : Nat),
            h.g p0 = none →
              h.lo.le p0 →
                (h.put p0 (SV.avs [SV.vv a])).g p1 = none →
                  (h.put p0 (SV.avs [SV.vv a])).lo.le p1 →
                    ((h.put p0 (SV.avs [SV.vv a])).put p1 (SV.avs [SV.vv b])).g p2 = none →
                      ((h.put p0 (SV.avs [SV.vv a])).put p1 (SV.avs [SV.vv b])).lo.le p2 →
                        ∃ I0 : Nat → Int → Int → Hp → Prop,
                          (∃ p3, I0 p3 0 0 (((h.put p0 [a]).put p1 [b]).put p2 [AV.i IntKind.i64 n1])) ∧
                            ∀ (p4 : Nat) (h0 : Hp) (n2 n3 : Int),
                              I0 p4 n2 n3 h0 →
                                onB (decide (n3 < 5))
                                  (onO (natLt n3 5) fun p5 =>
                                    ((((True ∧
                                              (p5 = 0 →
                                                wpC Try.prog 43 [AV.p p0 0, AV.p p2 0]
                                                  (fun a0 h1 =>
                                                    onRet [Sh.one (Kd.int IntKind.i64)] a0 fun n4 =>
                                                      onB (!decide (n4 = 0)) (Post (AV.i IntKind.i64 n4) h1) (onO (intO BinOp.add IntKind.i64 n3 1) fun n5 => ∃ p6, ltN p6 p4 ∧ I0 p6 n2 n5 h1))
                                                  h0)) ∧
                                            (p5 = 1 →
                                              wpC Try.prog 44 [AV.p p0 0, AV.p p2 0, AV.p p1 0]
                                                (fun a1 h2 =>
                                                  onRet [Sh.one (Kd.int IntKind.i64)] a1 fun n6 =>
                                                    onB (!decide (n6 = 0)) (Post (AV.i IntKind.i64 n6) h2) (onO (intO BinOp.add IntKind.i64 n3 1) fun n7 => ∃ p7, ltN p7 p4 ∧ I0 p7 n2 n7 h2))
                                                h0)) ∧
                                          (p5 = 2 →
                                            wpC Try.prog 45 [AV.p p0 0, AV.p p2 0]
                                              (fun a2 h3 =>
                                                onRet [Sh.one (Kd.int IntKind.i64)] a2 fun n8 =>
                                                  onB (!decide (n8 = 0)) (Post (AV.i IntKind.i64 n8) h3) (onO (intO BinOp.add IntKind.i64 n3 1) fun n9 => ∃ p8, ltN p8 p4 ∧ I0 p8 n2 n9 h3))
                                              h0)) ∧
                                        (p5 = 3 →
                                          wpC Try.prog 46 [AV.p p0 0, AV.p p2 0]
                                            (fun a3 h4 =>
                                              onRet [Sh.one (Kd.int IntKind.i64)] a3 fun n10 =>
                                                onB (!decide (n10 = 0)) (Post (AV.i IntKind.i64 n10) h4) (onO (intO BinOp.add IntKind.i64 n3 1) fun n11 => ∃ p9, ltN p9 p4 ∧ I0 p9 n2 n11 h4))
                                            h0)) ∧
                                      (p5 = 4 →
                                        wpC Try.prog 48 [AV.p p0 0]
                                          (fun a4 h5 =>
                                            onRet [Sh.one (Kd.int IntKind.i64)] a4 fun n12 =>
                                              onB (!decide (n12 = 0)) (Post (AV.i IntKind.i64 n12) h5) (onO (intO BinOp.add IntKind.i64 n3 1) fun n13 => ∃ p10, ltN p10 p4 ∧ I0 p10 n2 n13 h5))
                                          h0))
                                  (Post (AV.i IntKind.i64 0) h0)) := by kernel_rfl
/- arras/arraslaw0.TextWeight -/
theorem vc30 (a : AV) (h : Hp) (Post : AV → Hp → Prop) : vcCall Try.prog [] 30 [(SV.vv a)] h Post = (
  onO (lenV a) fun p0 =>
  ∃ I0 : Nat → Int → Int → Hp → Prop,
    (∃ p1, I0 p1 (↑p0) 0 h) ∧
      ∀ (p2 : Nat) (h0 : Hp) (n0 n1 : Int),
        I0 p2 n0 n1 h0 →
          onO (lenV a) fun p3 =>
            onB (decide (n1 < ↑p3))
              (onB (decide (n0 < 1048576))
                (onO (idxV a n1 1) fun r0 =>
                  onO (rdH h0 r0.fst r0.snd 1) fun l0 =>
                    onL [Kd.str] l0 fun l1 => onO (intO BinOp.add IntKind.i64 n0 ↑l1.length) fun n2 => onO (intO BinOp.add IntKind.i64 n1 1) fun n3 => ∃ p4, ltN p4 p2 ∧ I0 p4 n2 n3 h0)
                (Post (AV.i IntKind.i64 n0) h0))
              (Post (AV.i IntKind.i64 n0) h0)) := by kernel_rfl
/- arras/arraslaw13.size -/
theorem vc31 (a : AV) (h : Hp) (Post : AV → Hp → Prop) : vcCall Try.prog [] 31 [(SV.vv a)] h Post = (
  ∃ I0 : Nat → Int → Int → Hp → Prop,
  (∃ p0, I0 p0 0 0 h) ∧
    ∀ (p1 : Nat) (h0 : Hp) (n0 n1 : Int),
      I0 p1 n0 n1 h0 →
        onO (lenV a) fun p2 =>
          onB (decide (n1 < ↑p2))
            (onO (idxV a n1 1) fun r0 =>
              onO (rdH h0 r0.fst r0.snd 1) fun l0 =>
                onL [Kd.str] l0 fun l1 =>
                  onO (intO BinOp.add IntKind.i64 n0 ↑l1.length) fun n2 =>
                    onO (intO BinOp.add IntKind.i64 n2 16) fun n3 => onO (intO BinOp.add IntKind.i64 n1 1) fun n4 => ∃ p3, ltN p3 p1 ∧ I0 p3 n3 n4 h0)
            (Post (AV.i IntKind.i64 n0) h0)) := by kernel_rfl
/- arras/arrasref0.CopyStrings -/
theorem vc32 (a : AV) (h : Hp) (Post : AV → Hp → Prop) : vcCall Try.prog [] 32 [(SV.vv a)] h Post = (
  ∃ I0 : Nat → AV → Int → Hp → Prop,
  (∃ p0, I0 p0 AV.ns 0 h) ∧
    ∀ (p1 : Nat) (h0 : Hp) (a0 : AV),
      a0.sc = true →
        ∀ (n0 : Int),
          I0 p1 a0 n0 h0 →
            onO (lenV a) fun p2 =>
              onB (decide (n0 < ↑p2))
                (onO (idxV a n0 1) fun r0 =>
                  onO (rdH h0 r0.fst r0.snd 1) fun l0 =>
                    onL [Kd.str] l0 fun l1 =>
                      ∀ (p3 : Nat), wpE (Eff.app a0 1 (Src.lit [AV.s l1]) 1) (fun x0 h1 => onO x0 fun a1 => onO (intO BinOp.add IntKind.i64 n0 1) fun n1 => ∃ p4, ltN p4 p1 ∧ I0 p4 a1 n1 h1) h0)
                (Post a0 h0)) := by kernel_rfl
/- (*arras/log.Log).read -/
theorem vc35 (a : AV) (b : Int) (h : Hp) (Post : AV → Hp → Prop) : vcCall Try.prog [] 35 [(SV.vv a), (SV.ii .i64 b)] h Post = (
  onO (ptrV a) fun r0 =>
  onO (rdH h r0.fst (r0.snd + 0) 1) fun l0 =>
    onL [Kd.ref] l0 fun a0 =>
      wpC Try.prog 47 [a0, AV.i IntKind.i64 b]
        (fun a1 h0 =>
          onTup [Sh.one (Kd.int IntKind.i64), Sh.one (Kd.int IntKind.i64)] a1 fun n0 n1 =>
            onB (!decide (n1 = 0)) (Post (AV.tup [AV.ns, AV.i IntKind.i64 n1]) h0)
              (onO (ptrV a) fun r1 =>
                onO (rdH h0 r1.fst (r1.snd + 0) 1) fun l1 =>
                  onL [Kd.ref] l1 fun a2 =>
                    wpC Try.prog 53 [a2, AV.i IntKind.i64 b, AV.i IntKind.i64 0, AV.i IntKind.i64 n0]
                      (fun a3 h1 => onTup [Sh.one Kd.ref, Sh.one (Kd.int IntKind.i64)] a3 fun a4 n2 => Post (AV.tup [a4, AV.i IntKind.i64 n2]) h1) h0))
        h) := by kernel_rfl
/- (*arras/log.Log).scan -/
theorem vc36 (a : AV) (b : AV) (h : Hp) (Post : AV → Hp → Prop) : vcCall Try.prog [0] 36 [(SV.vv a), (SV.vv b)] h Post = (
  ∃ I0 : Nat → Int → AV → Hp → Prop,
  (∃ p0, I0 p0 0 AV.ns h) ∧
    ∀ (p1 : Nat) (h0 : Hp) (n0 : Int) (a0 : AV),
      a0.sc = true →
        I0 p1 n0 a0 h0 →
          Dup
            (onO (lenV b) fun p2 =>
              onO (ptrV a) fun r0 =>
                onO (rdH h0 r0.fst (r0.snd + 4) 1) fun l0 =>
                  onL [Kd.int IntKind.i64] l0 fun n1 =>
                    onO (intO BinOp.sub IntKind.i64 (↑p2) n1) fun n2 =>
                      onB (decide (n2 < 8)) (Post (AV.tup []) h0)
                        (onO (ptrV a) fun r1 =>
                          onO (rdH h0 r1.fst (r1.snd + 4) 1) fun l1 =>
                            onL [Kd.int IntKind.i64] l1 fun n3 =>
                              onO (slV b (some n3) none none 1) fun a1 =>
                                wpC Try.prog 54 [a1]
                                  (fun a2 h1 =>
                                    onRet [Sh.one (Kd.int IntKind.i64)] a2 fun n4 =>
                                      onB (decide (4096 < n4)) (Post (AV.tup []) h1)
                                        (onO (lenV b) fun p3 =>
                                          onO (ptrV a) fun r2 =>
                                            onO (rdH h1 r2.fst (r2.snd + 4) 1) fun l2 =>
                                              onL [Kd.int IntKind.i64] l2 fun n5 =>
                                                onO (intO BinOp.sub IntKind.i64 (↑p3) n5) fun n6 =>
                                                  onO (intO BinOp.sub IntKind.i64 n6 8) fun n7 =>
                                                    onB (decide (n7 < n4)) (Post (AV.tup []) h1)
                                                      (onO (ptrV a) fun r3 =>
                                                        onO (rdH h1 r3.fst (r3.snd + 4) 1) fun l3 =>
                                                          onL [Kd.int IntKind.i64] l3 fun n8 =>
                                                            onO (intO BinOp.add IntKind.i64 n8 8) fun n9 =>
                                                              onO (ptrV a) fun r4 =>
                                                                onO (rdH h1 r4.fst (r4.snd + 4) 1) fun l4 =>
                                                                  onL [Kd.int IntKind.i64] l4 fun n10 =>
                                                                    onO (intO BinOp.add IntKind.i64 n10 8) fun n11 =>
                                                                      onO (intO BinOp.add IntKind.i64 n11 n4) fun n12 =>
                                                                        onO (slV b (some n9) (some n12) none 1) fun a3 =>
                                                                          onO (ptrV a) fun r5 =>
                                                                            onO (rdH h1 r5.fst (r5.snd + 4) 1) fun l5 =>
                                                                              onL [Kd.int IntKind.i64] l5 fun n13 =>
                                                                                onO (intO BinOp.add IntKind.i64 n13 4) fun n14 =>
                                                                                  onO (slV b (some n14) none none 1) fun a4 =>
                                                                                    wpC Try.prog 54 [a4]
                                                                                      (fun a5 h2 =>
                                                                                        onRet [Sh.one (Kd.int IntKind.i64)] a5 fun n15 =>
                                                                                          onO (wrO IntKind.u32 n15) fun n16 =>
                                                                                            wpC Try.prog 40 [AV.i IntKind.u32 0, a3]
                                                                                              (fun a6 h3 =>
                                                                                                onRet [Sh.one (Kd.int IntKind.u32)] a6 fun n17 =>
                                                                                                  onB (!decide (n16 = n17)) (Post (AV.tup []) h3)
                                                                                                    (onO (ptrV a) fun r6 =>
                                                                                                      onO (rdH h3 r6.fst (r6.snd + 1) 1) fun l6 =>
                                                                                                        onL [Kd.ref] l6 fun a7 =>
                                                                                                          onO (strAt h3 a3) fun r7 =>
                                                                                                            ∀ (p4 : Nat),
                                                                                                              wpE (Eff.app a7 1 (Src.lit [AV.s r7.fst]) 1)
                                                                                                                (fun x0 h4 =>
                                                                                                                  onO x0 fun a8 =>
                                                                                                                    onO (ptrV a) fun r8 =>
                                                                                                                      onO (rdH h4 r8.fst (r8.snd + 2) 1) fun l7 =>
                                                                                                                        onL [Kd.int IntKind.i64] l7 fun n18 =>
                                                                                                                          sameH h3 h4 r8.fst (r8.snd + 2) 1 ∧
                                                                                                                            onO (intO BinOp.add IntKind.i64 n18 n4) fun n19 =>
                                                                                                                              onO (intO BinOp.add IntKind.i64 n19 16) fun n20 =>
                                                                                                                                onO (ptrV a) fun r9 =>
                                                                                                                                  onO (rdH h4 r9.fst (r9.snd + 4) 1) fun l8 =>
                                                                                                                                    onL [Kd.int IntKind.i64] l8 fun n21 =>
                                                                                                                                      sameH h3 h4 r9.fst (r9.snd + 4) 1 ∧
                                                                                                                                        onO (intO BinOp.add IntKind.i64 n21 8) fun n22 =>
                                                                                                                                          onO (intO BinOp.add IntKind.i64 n22 n4) fun n23 =>
                                                                                                                                            onO (ptrV a) fun r10 =>
                                                                                                                                              wpE (Eff.w r10.fst (r10.snd + 1) (Src.lit [a8]) none)
                                                                                                                                                (fun x1 h5 =>
                                                                                                                                                  onO (ptrV a) fun r11 =>
                                                                                                                                                    wpE
                                                                                                                                                      (Eff.w r11.fst (r11.snd + 2)
                                                                                                                                                        (Src.lit [AV.i IntKind.i64 n20]) none)
                                                                                                                                                      (fun x2 h6 =>
                                                                                                                                                        onO (ptrV a) fun r12 =>
                                                                                                                                                          wpE
                                                                                                                                                            (Eff.w r12.fst (r12.snd + 4)
                                                                                                                                                              (Src.lit [AV.i IntKind.i64 n23]) none)
                                                                                                                                                            (fun x3 h7 =>
                                                                                                                                                              ∃ p5, ltN p5 p1 ∧ I0 p5 n4 a3 h7)
                                                                                                                                                            h6)
                                                                                                                                                      h5)
                                                                                                                                                h4)
                                                                                                                h3))
                                                                                              h2)
                                                                                      h1)))
                                  h0))) := by kernel_rfl
/- arras/log.four -/
theorem vc39 (a : AV) (b : Int) (h : Hp) (Post : AV → Hp → Prop) : vcCall Try.prog [] 39 [(SV.vv a), (SV.ii .u32 b)] h Post = (
  onO (shO BinOp.shr IntKind.u32 b 24) fun n0 =>
  onO (wrO IntKind.u8 n0) fun n1 =>
    onO (shO BinOp.shr IntKind.u32 b 16) fun n2 =>
      onO (wrO IntKind.u8 n2) fun n3 =>
        onO (shO BinOp.shr IntKind.u32 b 8) fun n4 =>
          onO (wrO IntKind.u8 n4) fun n5 =>
            onO (wrO IntKind.u8 b) fun n6 =>
              ∀ (p0 : Nat), wpE (Eff.app a 4 (Src.lit [AV.i IntKind.u8 n1, AV.i IntKind.u8 n3, AV.i IntKind.u8 n5, AV.i IntKind.u8 n6]) 1) (fun x0 h0 => onO x0 fun a0 => Post a0 h0) h) := by kernel_rfl
/- (*arras/log.Log).renew$1 -/
theorem vc43 (x : Nat) (y : Nat) (h : Hp) (Post : AV → Hp → Prop) : vcCall Try.prog [] 43 [.vv (.p x 0), .vv (.p y 0)] h Post = (
  onO (ptrV (AV.p x 0)) fun r0 =>
  onO (rdH h r0.fst r0.snd 1) fun l0 =>
    onL [Kd.ref] l0 fun a0 =>
      onO (ptrV a0) fun r1 =>
        onO (rdH h r1.fst (r1.snd + 0) 1) fun l1 =>
          onL [Kd.ref] l1 fun a1 =>
            onO (ptrV (AV.p y 0)) fun r2 =>
              onO (rdH h r2.fst r2.snd 1) fun l2 =>
                onL [Kd.int IntKind.i64] l2 fun n0 =>
                  wpC Try.prog 37 [a1, AV.i IntKind.i64 n0, AV.i IntKind.i64 0] (fun a2 h0 => onRet [Sh.one (Kd.int IntKind.i64)] a2 fun n1 => Post (AV.i IntKind.i64 n1) h0) h) := by kernel_rfl
/- (*arras/log.Log).renew$2 -/
theorem vc44 (x : Nat) (y : Nat) (z : Nat) (h : Hp) (Post : AV → Hp → Prop) : vcCall Try.prog [] 44 [.vv (.p x 0), .vv (.p y 0), .vv (.p z 0)] h Post = (
  onO (ptrV (AV.p x 0)) fun r0 =>
  onO (rdH h r0.fst r0.snd 1) fun l0 =>
    onL [Kd.ref] l0 fun a0 =>
      onO (ptrV a0) fun r1 =>
        onO (rdH h r1.fst (r1.snd + 0) 1) fun l1 =>
          onL [Kd.ref] l1 fun a1 =>
            onO (ptrV (AV.p y 0)) fun r2 =>
              onO (rdH h r2.fst r2.snd 1) fun l2 =>
                onL [Kd.int IntKind.i64] l2 fun n0 =>
                  onO (ptrV (AV.p z 0)) fun r3 =>
                    onO (rdH h r3.fst r3.snd 1) fun l3 =>
                      onL [Kd.ref] l3 fun a2 =>
                        wpC Try.prog 26 [a1, AV.i IntKind.i64 n0, AV.i IntKind.i64 0, a2] (fun a3 h0 => onRet [Sh.one (Kd.int IntKind.i64)] a3 fun n1 => Post (AV.i IntKind.i64 n1) h0) h) := by kernel_rfl
/- (*arras/log.Log).renew$3 -/
theorem vc45 (x : Nat) (y : Nat) (h : Hp) (Post : AV → Hp → Prop) : vcCall Try.prog [] 45 [.vv (.p x 0), .vv (.p y 0)] h Post = (
  onO (ptrV (AV.p x 0)) fun r0 =>
  onO (rdH h r0.fst r0.snd 1) fun l0 =>
    onL [Kd.ref] l0 fun a0 =>
      onO (ptrV a0) fun r1 =>
        onO (rdH h r1.fst (r1.snd + 0) 1) fun l1 =>
          onL [Kd.ref] l1 fun a1 =>
            onO (ptrV (AV.p y 0)) fun r2 =>
              onO (rdH h r2.fst r2.snd 1) fun l2 =>
                onL [Kd.int IntKind.i64] l2 fun n0 => wpC Try.prog 34 [a1, AV.i IntKind.i64 n0] (fun a2 h0 => onRet [Sh.one (Kd.int IntKind.i64)] a2 fun n1 => Post (AV.i IntKind.i64 n1) h0) h) := by kernel_rfl
/- (*arras/log.Log).renew$4 -/
theorem vc46 (x : Nat) (y : Nat) (h : Hp) (Post : AV → Hp → Prop) : vcCall Try.prog [] 46 [.vv (.p x 0), .vv (.p y 0)] h Post = (
  onO (ptrV (AV.p x 0)) fun r0 =>
  onO (rdH h r0.fst r0.snd 1) fun l0 =>
    onL [Kd.ref] l0 fun a0 =>
      onO (ptrV a0) fun r1 =>
        onO (rdH h r1.fst (r1.snd + 0) 1) fun l1 =>
          onL [Kd.ref] l1 fun a1 =>
            wpC Try.prog 47 [a1, AV.i IntKind.i64 2]
              (fun a2 h0 =>
                onTup [Sh.one (Kd.int IntKind.i64), Sh.one (Kd.int IntKind.i64)] a2 fun n0 n1 =>
                  onB (!decide (n1 = 0)) (Post (AV.i IntKind.i64 n1) h0)
                    (onO (ptrV (AV.p x 0)) fun r2 =>
                      onO (rdH h0 r2.fst r2.snd 1) fun l2 =>
                        onL [Kd.ref] l2 fun a3 =>
                          onO (ptrV a3) fun r3 =>
                            onO (rdH h0 r3.fst (r3.snd + 0) 1) fun l3 =>
                              onL [Kd.ref] l3 fun a4 =>
                                onO (ptrV (AV.p y 0)) fun r4 =>
                                  onO (rdH h0 r4.fst r4.snd 1) fun l4 =>
                                    onL [Kd.int IntKind.i64] l4 fun n2 =>
                                      onO (wrO IntKind.u8 n2) fun n3 =>
                                        ∀ (p0 : Nat),
                                          h0.g p0 = none →
                                            h0.lo.le p0 →
                                              wpC Try.prog 26 [a4, AV.i IntKind.i64 2, AV.i IntKind.i64 n0, AV.sl p0 0 1 1 true 1]
                                                (fun a5 h1 => onRet [Sh.one (Kd.int IntKind.i64)] a5 fun n4 => Post (AV.i IntKind.i64 n4) h1) (h0.put p0 [AV.i IntKind.u8 n3])))
              h) := by kernel_rfl
/- (*arras/log.Log).renew$5 -/
theorem vc48 (x : Nat) (h : Hp) (Post : AV → Hp → Prop) : vcCall Try.prog [] 48 [.vv (.p x 0)] h Post = (
  onO (ptrV (AV.p x 0)) fun r0 =>
  onO (rdH h r0.fst r0.snd 1) fun l0 =>
    onL [Kd.ref] l0 fun a0 =>
      onO (ptrV a0) fun r1 =>
        onO (rdH h r1.fst (r1.snd + 0) 1) fun l1 =>
          onL [Kd.ref] l1 fun a1 => wpC Try.prog 34 [a1, AV.i IntKind.i64 2] (fun a2 h0 => onRet [Sh.one (Kd.int IntKind.i64)] a2 fun n0 => Post (AV.i IntKind.i64 n0) h0) h) := by kernel_rfl
/- arras/log.number -/
theorem vc54 (a : AV) (h : Hp) (Post : AV → Hp → Prop) : vcCall Try.prog [] 54 [(SV.vv a)] h Post = (
  onO (idxV a 0 1) fun r0 =>
  onO (rdH h r0.fst r0.snd 1) fun l0 =>
    onL [Kd.int IntKind.u8] l0 fun n0 =>
      onO (wrO IntKind.i64 n0) fun n1 =>
        onO (shO BinOp.shl IntKind.i64 n1 24) fun n2 =>
          onO (idxV a 1 1) fun r1 =>
            onO (rdH h r1.fst r1.snd 1) fun l1 =>
              onL [Kd.int IntKind.u8] l1 fun n3 =>
                onO (wrO IntKind.i64 n3) fun n4 =>
                  onO (shO BinOp.shl IntKind.i64 n4 16) fun n5 =>
                    onO (intO BinOp.or IntKind.i64 n2 n5) fun n6 =>
                      onO (idxV a 2 1) fun r2 =>
                        onO (rdH h r2.fst r2.snd 1) fun l2 =>
                          onL [Kd.int IntKind.u8] l2 fun n7 =>
                            onO (wrO IntKind.i64 n7) fun n8 =>
                              onO (shO BinOp.shl IntKind.i64 n8 8) fun n9 =>
                                onO (intO BinOp.or IntKind.i64 n6 n9) fun n10 =>
                                  onO (idxV a 3 1) fun r3 =>
                                    onO (rdH h r3.fst r3.snd 1) fun l3 =>
                                      onL [Kd.int IntKind.u8] l3 fun n11 => onO (wrO IntKind.i64 n11) fun n12 => onO (intO BinOp.or IntKind.i64 n10 n12) fun n13 => Post (AV.i IntKind.i64 n13) h) := by kernel_rfl
/-! ### plain -/
def num4 (l : List Nat) : Nat := l.getD 0 0 * 16777216 + l.getD 1 0 * 65536 + l.getD 2 0 * 256 + l.getD 3 0
theorem num4_four {c : Nat} (h : c < 4294967296) (rest : List Nat) : num4 (four c ++ rest) = c := by
  show c / 16777216 % 256 * 16777216 + c / 65536 % 256 * 65536 + c / 256 % 256 * 256 + c % 256 = c
  omega
def lay1 (s : List Nat) : List Nat := four s.length ++ (four (crc 0 s) ++ s)
def layR (l : List (List Nat)) : List Nat := (l.map lay1).flatten
theorem drop_four {c : Nat} (rest : List Nat) : (four c ++ rest).drop 4 = rest := rfl
theorem four_len' {c : Nat} : (four c).length = 4 := rfl
theorem lay1_len {s : List Nat} : (lay1 s).length = 8 + s.length := by unfold lay1; simp only [List.length_append, four_len']; omega
theorem layR_app {a b : List (List Nat)} : layR (a ++ b) = layR a ++ layR b := by unfold layR; simp
theorem layR_cons {s : List Nat} {l : List (List Nat)} : layR (s :: l) = lay1 s ++ layR l := rfl
theorem layR_one {s : List Nat} : layR [s] = lay1 s := by simp [layR]
def sizeL (l : List (List Nat)) : Nat := (l.map fun s => s.length + 16).sum
theorem sizeL_app {a b : List (List Nat)} : sizeL (a ++ b) = sizeL a + sizeL b := by unfold sizeL; simp
theorem sizeL_cons {s : List Nat} {l : List (List Nat)} : sizeL (s :: l) = s.length + 16 + sizeL l := by unfold sizeL; simp
theorem layR_le : ∀ {l : List (List Nat)}, (layR l).length ≤ sizeL l
  | [] => Nat.le_refl _
  | s :: l => by rw [layR_cons, sizeL_cons, List.length_append, lay1_len]; have := layR_le (l := l); omega
def rec1 (b : List Nat) : Option (List Nat) :=
  if b.length < 8 then none else if 4096 < num4 b then none else if b.length - 8 < num4 b then none else
  if num4 (b.drop 4) = crc 0 ((b.drop 8).take (num4 b)) then some ((b.drop 8).take (num4 b)) else none
def scanF : Nat → List Nat → List (List Nat) × Nat
  | 0, _ => ([], 0)
  | n + 1, b => match rec1 b with
    | none => ([], 0)
    | some s => (s :: (scanF n (b.drop (8 + s.length))).1, 8 + s.length + (scanF n (b.drop (8 + s.length))).2)
def scanL (b : List Nat) : List (List Nat) × Nat := scanF b.length b
theorem rec1_some {b s : List Nat} (h : rec1 b = some s) : 8 + s.length ≤ b.length ∧ s.length = num4 b ∧ s.length ≤ 4096 ∧ s = (b.drop 8).take s.length ∧ num4 (b.drop 4) = crc 0 s := by
  unfold rec1 at h
  split at h
  · cases h
  · split at h
    · cases h
    · split at h
      · cases h
      · split at h
        · rename_i h1 h2 h3 h4
          injection h with h
          have hl : s.length = num4 b := by rw [← h, List.length_take, List.length_drop]; omega
          exact ⟨by omega, hl, by omega, by rw [hl]; exact h.symm, by rw [← h]; exact h4⟩
        · cases h
theorem scanF_more : ∀ {n m : Nat} {b : List Nat}, b.length ≤ n → b.length ≤ m → scanF n b = scanF m b
  | 0, 0, _, _, _ => rfl
  | 0, m + 1, b, h, _ => by
    have : rec1 b = none := by unfold rec1; rw [if_pos (by omega)]
    unfold scanF; rw [this]
  | n + 1, 0, b, _, h => by
    have : rec1 b = none := by unfold rec1; rw [if_pos (by omega)]
    unfold scanF; rw [this]
  | n + 1, m + 1, b, h1, h2 => by
    show (match rec1 b with | none => _ | some s => _) = (match rec1 b with | none => _ | some s => _)
    cases e : rec1 b with
    | none => rfl
    | some s =>
      have := (rec1_some e).1
      have : scanF n (b.drop (8 + s.length)) = scanF m (b.drop (8 + s.length)) := scanF_more (by simp; omega) (by simp; omega)
      simp only [this]
theorem scan_none {b : List Nat} (h : rec1 b = none) : scanL b = ([], 0) := by
  unfold scanL
  cases hl : b.length with
  | zero => rfl
  | succ n => show (match rec1 b with | none => _ | some s => _) = _; rw [h]
theorem scan_some {b s : List Nat} (h : rec1 b = some s) : scanL b = (s :: (scanL (b.drop (8 + s.length))).1, 8 + s.length + (scanL (b.drop (8 + s.length))).2) := by
  have h0 := (rec1_some h).1
  unfold scanL
  cases hl : b.length with
  | zero => omega
  | succ n =>
    show (match rec1 b with | none => _ | some s => _) = _
    rw [h]
    have : scanF n (b.drop (8 + s.length)) = scanF (b.drop (8 + s.length)).length (b.drop (8 + s.length)) := scanF_more (by simp; omega) (Nat.le_refl _)
    simp only [this]
theorem scan_ind {P : List Nat → Prop} (h1 : ∀ b, rec1 b = none → P b) (h2 : ∀ b s, rec1 b = some s → P (b.drop (8 + s.length)) → P b) : ∀ b, P b := by
  have : ∀ n (b : List Nat), b.length = n → P b := by
    intro n
    induction n using Nat.strongRecOn with
    | _ n ih =>
      intro b hb
      cases e : rec1 b with
      | none => exact h1 b e
      | some s =>
        have := (rec1_some e).1
        exact h2 b s e (ih _ (by simp; omega) _ rfl)
  exact fun b => this _ b rfl
theorem scan_len : ∀ b : List Nat, (scanL b).2 ≤ b.length ∧ (∀ s ∈ (scanL b).1, s.length ≤ 4096) ∧ (layR (scanL b).1).length = (scanL b).2 := by
  refine scan_ind (fun b e => ?_) fun b s e ih => ?_
  · rw [scan_none e]; exact ⟨Nat.zero_le _, fun s hs => (by cases hs), rfl⟩
  · rw [scan_some e]
    obtain ⟨r1, r2, r3, r4, r5⟩ := rec1_some e
    obtain ⟨i1, i2, i3⟩ := ih
    rw [List.length_drop] at i1
    refine ⟨by show 8 + s.length + _ ≤ _; omega, fun x hx => ?_, ?_⟩
    · rcases List.mem_cons.1 hx with rfl | hx
      · exact r3
      · exact i2 x hx
    · show (layR (s :: _)).length = 8 + s.length + _
      rw [layR_cons, List.length_append, lay1_len, i3]
/-- a record, whatever stands behind it -/
theorem rec1_lay {s : List Nat} (h : s.length ≤ 4096) (hb : Bytes8 s) (rest : List Nat) : rec1 (lay1 s ++ rest) = some s := by
  have hl : (lay1 s ++ rest).length = 8 + s.length + rest.length := by rw [List.length_append, lay1_len]
  have hn : num4 (lay1 s ++ rest) = s.length := by unfold lay1; rw [List.append_assoc]; exact num4_four (by omega) _
  have hd4 : (lay1 s ++ rest).drop 4 = four (crc 0 s) ++ (s ++ rest) := by
    unfold lay1; rw [List.append_assoc, List.append_assoc]; exact drop_four _
  have hd8 : (lay1 s ++ rest).drop 8 = s ++ rest := by
    rw [show 8 = 4 + 4 from rfl, ← List.drop_drop, hd4]; exact drop_four _
  unfold rec1
  rw [if_neg (by omega), hn, if_neg (by omega), if_neg (by omega), hd4, hd8, num4_four (crc_lt hb (by omega)), List.take_left, if_pos rfl]
/-- a record cut off is none -/
theorem rec1_cut {s : List Nat} (h : s.length ≤ 4096) {m : Nat} (hm : m < (lay1 s).length) : rec1 ((lay1 s).take m) = none := by
  rw [lay1_len] at hm
  unfold rec1
  have hl : ((lay1 s).take m).length = m := by rw [List.length_take, lay1_len]; omega
  rw [hl]
  split
  · rfl
  · rename_i h1
    have hn : num4 ((lay1 s).take m) = s.length := by
      unfold lay1
      rw [List.take_append, List.take_of_length_le (by rw [four_len']; omega)]
      exact num4_four (by omega) _
    rw [hn, if_neg (by omega), if_pos (by omega)]
theorem scan_lay : ∀ {l : List (List Nat)} {rest : List Nat}, (∀ s ∈ l, s.length ≤ 4096 ∧ Bytes8 s) → scanL (layR l ++ rest) = (l ++ (scanL rest).1, (layR l).length + (scanL rest).2)
  | [], rest, _ => by
    rw [show layR [] = [] from rfl, List.nil_append, List.nil_append]
    show _ = (_, 0 + _)
    rw [Nat.zero_add]
  | s :: l, rest, h => by
    obtain ⟨h1, h2⟩ := h s (by simp)
    have e : layR (s :: l) ++ rest = lay1 s ++ (layR l ++ rest) := by rw [layR_cons, List.append_assoc]
    rw [e, scan_some (rec1_lay h1 h2 _), ← lay1_len, List.drop_left, scan_lay fun x hx => h x (by simp [hx])]
    show (s :: (l ++ _), _) = (s :: l ++ _, _)
    rw [layR_cons, List.length_append]
    congr 1
    omega
theorem scan_all {l : List (List Nat)} (h : ∀ s ∈ l, s.length ≤ 4096 ∧ Bytes8 s) : scanL (layR l) = (l, (layR l).length) := by
  have := scan_lay (rest := []) h
  rw [List.append_nil, scan_none (b := []) rfl, List.append_nil] at this
  exact this
theorem scan_torn {l : List (List Nat)} {s : List Nat} (h : ∀ s ∈ l, s.length ≤ 4096 ∧ Bytes8 s) (hs : s.length ≤ 4096) {m : Nat} (hm : m < (lay1 s).length) : scanL (layR l ++ (lay1 s).take m) = (l, (layR l).length) := by
  rw [scan_lay h, scan_none (rec1_cut hs hm), List.append_nil]; rfl
/-- what is scanned, cut off behind it, is scanned alike -/
theorem scan_take : ∀ b : List Nat, scanL (b.take (scanL b).2) = scanL b := by
  refine scan_ind (fun b e => ?_) fun b s e ih => ?_
  · rw [scan_none e]; rfl
  · obtain ⟨r1, r2, r3, r4, r5⟩ := rec1_some e
    have hle := (scan_len (b.drop (8 + s.length))).1
    rw [scan_some e]
    show scanL (b.take (8 + s.length + _)) = _
    generalize hg : (scanL (b.drop (8 + s.length))).2 = n at *
    rw [List.length_drop] at hle
    have hl : (b.take (8 + s.length + n)).length = 8 + s.length + n := by rw [List.length_take]; omega
    have g : ∀ i, i < 8 + s.length → (b.take (8 + s.length + n)).getD i 0 = b.getD i 0 := fun i hi => by
      rw [List.getD_eq_getElem?_getD, List.getD_eq_getElem?_getD, List.getElem?_take_of_lt (by omega)]
    have gd : ∀ i, i < 4 → ((b.take (8 + s.length + n)).drop 4).getD i 0 = (b.drop 4).getD i 0 := fun i hi => by
      rw [List.getD_eq_getElem?_getD, List.getD_eq_getElem?_getD, List.getElem?_drop, List.getElem?_drop, List.getElem?_take_of_lt (by omega)]
    have hn : num4 (b.take (8 + s.length + n)) = num4 b := by unfold num4; rw [g 0 (by omega), g 1 (by omega), g 2 (by omega), g 3 (by omega)]
    have hn4 : num4 ((b.take (8 + s.length + n)).drop 4) = num4 (b.drop 4) := by unfold num4; rw [gd 0 (by omega), gd 1 (by omega), gd 2 (by omega), gd 3 (by omega)]
    have hd : ((b.take (8 + s.length + n)).drop 8).take s.length = s := by
      rw [List.drop_take, List.take_take, Nat.min_eq_left (by omega)]
      exact r4.symm
    have e2 : rec1 (b.take (8 + s.length + n)) = some s := by
      unfold rec1
      rw [hl, hn, hn4, ← r2, if_neg (by omega), if_neg (by omega), if_neg (by omega), hd, if_pos r5]
    rw [scan_some e2]
    have : (b.take (8 + s.length + n)).drop (8 + s.length) = (b.drop (8 + s.length)).take n := by
      rw [List.drop_take]; congr 1; omega
    rw [this, ih, hg]
abbrev SR := Kn.str.Row
theorem str_flat : Kn.str.Flat := fun _ _ _ _ k => k
def withinI (a b : Int) : Int := (a % 18446744073709551616) % b
theorem within_lt {a b : Int} (h : 0 < b) : 0 ≤ withinI a b ∧ withinI a b < b := ⟨Int.emod_nonneg _ (by omega), Int.emod_lt_of_pos _ h⟩
theorem shl64 {c k : Nat} (hc : c < 256) (hk : k ≤ 24) : shO .shl .i64 (c : Int) (k : Int) = some ((c * 2 ^ k : Nat) : Int) := by
  unfold shO
  have hb : Nat.ble k 64 = true := Nat.ble_eq_true_of_le (by omega)
  have e : shiftA .shl .i64 (c : Int) (k : Int) = some (.i .i64 (wrapA .i64 (Int.mul (c : Int) (.ofNat (Nat.pow 2 (cond (Nat.ble k 64) k 64)))))) := rfl
  rw [e, hb, cond_true]
  have hp : (2 : Nat) ^ k ≤ 16777216 := Nat.le_trans (Nat.pow_le_pow_right (by omega) hk) (by decide)
  have h1 : c * 2 ^ k ≤ 255 * 16777216 := Nat.mul_le_mul (by omega) hp
  have h2 : Int.mul (c : Int) (.ofNat (Nat.pow 2 k)) = ((c * 2 ^ k : Nat) : Int) := by
    rw [Int.natCast_mul]; rfl
  rw [h2, wrap64 (by omega) (by omega)]
theorem or64g {a b k : Nat} (hb : b < 2 ^ k) (h : a * 2 ^ k + b < 4611686018427387904) : intO .or .i64 ((a * 2 ^ k : Nat) : Int) (b : Int) = some ((a * 2 ^ k + b : Nat) : Int) := by
  unfold intO
  have e : intA .or .i64 ((a * 2 ^ k : Nat) : Int) (b : Int) = some (.i .i64 (wrapA .i64 (.ofNat (Nat.lor (a * 2 ^ k) b)))) := by
    show (cond (Nat.blt (a * 2 ^ k) 18446744073709551616 && Nat.blt b 18446744073709551616) _ none : Option AV) = _
    rw [blt_of (by omega), blt_of (by omega)]; rfl
  rw [e]
  have h2 : Nat.lor (a * 2 ^ k) b = a * 2 ^ k + b := by
    have := Nat.two_pow_add_eq_or_of_lt hb a
    show (a * 2 ^ k) ||| b = _
    rw [Nat.mul_comm a, ← this]
  rw [h2]
  show some (wrapA .i64 ((a * 2 ^ k + b : Nat) : Int)) = _
  rw [wrap64 (by omega) (by omega)]
theorem or64h {A a b k C : Nat} (hA : A = a * 2 ^ k) (hb : b < 2 ^ k) (hC : C = A + b) (h : C < 4611686018427387904) : intO .or .i64 (A : Int) (b : Int) = some (C : Int) := by subst hA; subst hC; exact or64g hb h
theorem shl64h {c k A : Nat} (hc : c < 256) (hk : k ≤ 24) (hA : A = c * 2 ^ k) : shO .shl .i64 (c : Int) (k : Int) = some (A : Int) := by subst hA; exact shl64 hc hk
theorem wr32h {n : Nat} (h : n < 4294967296) : wrO .u32 (n : Int) = some (n : Int) := by rw [wr32]; congr 1; omega
section
variable {g h : Hp} {a b : AV} {f : List Nat} {l m : List (List Nat)} {Post : AV → Hp → Prop}
theorem c51w {a b : Int} (h0 : 0 < b) (h1 : b < 9223372036854775808) (k : Post (.i .i64 (withinI a b)) h) : wpC Try.prog 18 [.i .i64 a, .i .i64 b] Post h := by
  refine call_sound (args := [.ii .i64 a, .ii .i64 b]) (cuts := []) ⟨trivial, trivial, trivial⟩ ?_
  rw [vc18]
  have e : b % 18446744073709551616 = b := by omega
  have h2 := Int.emod_nonneg a (show (18446744073709551616 : Int) ≠ 0 by omega)
  refine onO.mk (wru64 _) (onO.mk (wru64 _) ?_)
  rw [e]
  have h3 : (a % 18446744073709551616).tmod b = (a % 18446744073709551616) % b := Int.tmod_eq_emod_of_nonneg h2
  obtain ⟨h4, h5⟩ := within_lt (a := a) h0
  refine onO.mk (rem64 (by omega)) ?_
  rw [h3]
  exact onO.mk (wr64 (by unfold withinI at h4; omega) (by unfold withinI at h5; omega)) k
/-- four bytes behind -/
theorem c39 {n : Nat} (o : Kn.byte.Own g h a f) (hn : n < 4294967296) (hb : f.length + 4 < 32000000) (k : ∀ r h', Kn.byte.Own g h' r (f ++ four n) → Post r h') : wpC Try.prog 39 [a, .i .u32 (n : Nat)] Post h := by
  refine call_sound (args := [.vv a, .ii .u32 (n : Nat)]) (cuts := []) ⟨o.sc, trivial, trivial⟩ ?_
  rw [vc39]
  have e1 : shO .shr .u32 (n : Int) 24 = some ((n / 16777216 : Nat) : Int) := shr32 (a := n) 24 (by omega)
  have e2 : shO .shr .u32 (n : Int) 16 = some ((n / 65536 : Nat) : Int) := shr32 (a := n) 16 (by omega)
  have e3 : shO .shr .u32 (n : Int) 8 = some ((n / 256 : Nat) : Int) := shr32 (a := n) 8 (by omega)
  have w : ∀ m : Nat, wrO .u8 (m : Int) = some ((m % 256 : Nat) : Int) := fun m => by rw [wr8]; rfl
  have hf : four n = [n / 16777216 % 256, n / 65536 % 256, n / 256 % 256, n % 256] := rfl
  have g1 : n / 16777216 % 256 < 256 := Nat.mod_lt _ (by omega)
  have g2 : n / 65536 % 256 < 256 := Nat.mod_lt _ (by omega)
  have g3 : n / 256 % 256 < 256 := Nat.mod_lt _ (by omega)
  have g4 : n % 256 < 256 := Nat.mod_lt _ (by omega)
  refine onO.mk e1 (onO.mk (w _) (onO.mk e2 (onO.mk (w _) (onO.mk e3 (onO.mk (w _) (onO.mk (w _) fun _ => ?_))))))
  rw [hf] at k
  generalize n / 16777216 % 256 = n1 at *
  generalize n / 65536 % 256 = n2 at *
  generalize n / 256 % 256 = n3 at *
  generalize n % 256 = n4 at *
  exact o.app (n := 4) (l2 := [n1, n2, n3, n4]) (css2 := [[.i .u8 (n1 : Int)], [.i .u8 (n2 : Int)], [.i .u8 (n3 : Int)], [.i .u8 (n4 : Int)]]) rfl byte_flat (.cons ⟨rfl, g1⟩ (.cons ⟨rfl, g2⟩ (.cons ⟨rfl, g3⟩ (.cons ⟨rfl, g4⟩ .nil)))) rfl rfl (by omega) fun r h' o' => onO.mk rfl (k _ _ o')
theorem four_of {f : List Nat} (hl : 4 ≤ f.length) : ∃ w x y z t, f = w :: x :: y :: z :: t := by
  match f, hl with
  | w :: x :: y :: z :: t, _ => exact ⟨w, x, y, z, t, rfl⟩
theorem c270a {w x y z A1 A2 A3 N2 N3 N : Nat} {t : List Nat} (r : Kn.byte.Row h a (w :: x :: y :: z :: t)) (s1 : shO .shl .i64 (w : Int) 24 = some (A1 : Int)) (s2 : shO .shl .i64 (x : Int) 16 = some (A2 : Int)) (s3 : shO .shl .i64 (y : Int) 8 = some (A3 : Int))
    (o1 : intO .or .i64 (A1 : Int) (A2 : Int) = some (N2 : Int)) (o2 : intO .or .i64 (N2 : Int) (A3 : Int) = some (N3 : Int)) (o3 : intO .or .i64 (N3 : Int) (z : Int) = some (N : Int)) (k : Post (.i .i64 (N : Nat)) h) : wpC Try.prog 54 [a] Post h := by
  refine call_sound (args := [.vv a]) (cuts := []) ⟨r.sc, trivial⟩ ?_
  rw [vc54]
  have hw := byte_lt r (x := w) (by simp)
  have hx := byte_lt r (x := x) (by simp)
  have hy := byte_lt r (x := y) (by simp)
  have hz := byte_lt r (x := z) (by simp)
  have w8 : ∀ m : Nat, m < 256 → wrO .i64 (m : Int) = some (m : Int) := fun m hm => wr64 (by omega) (by omega)
  refine byte0 (k := 0) r rfl (onO.mk (w8 _ hw) (onO.mk s1 ?_))
  refine byte0 (k := 1) r rfl (onO.mk (w8 _ hx) (onO.mk s2 (onO.mk o1 ?_)))
  refine byte0 (k := 2) r rfl (onO.mk (w8 _ hy) (onO.mk s3 (onO.mk o2 ?_)))
  exact byte0 (k := 3) r rfl (onO.mk (w8 _ hz) (onO.mk o3 k))
/-- a number of four bytes -/
theorem c54 (r : Kn.byte.Row h a f) (hl : 4 ≤ f.length) (k : Post (.i .i64 (num4 f : Nat)) h) : wpC Try.prog 54 [a] Post h := by
  obtain ⟨w, x, y, z, t, rfl⟩ := four_of hl
  have hw := byte_lt r (x := w) (by simp)
  have hx := byte_lt r (x := x) (by simp)
  have hy := byte_lt r (x := y) (by simp)
  have hz := byte_lt r (x := z) (by simp)
  have hnum : num4 (w :: x :: y :: z :: t) = w * 16777216 + x * 65536 + y * 256 + z := rfl
  rw [hnum] at k
  have p24 : (2 : Nat) ^ 24 = 16777216 := by decide
  have p16 : (2 : Nat) ^ 16 = 65536 := by decide
  have p8 : (2 : Nat) ^ 8 = 256 := by decide
  exact c270a r (shl64h (c := w) (k := 24) (A := w * 16777216) hw (by omega) (by rw [p24])) (shl64h (c := x) (k := 16) (A := x * 65536) hx (by omega) (by rw [p16])) (shl64h (c := y) (k := 8) (A := y * 256) hy (by omega) (by rw [p8]))
    (or64h (a := w) (k := 24) (C := w * 16777216 + x * 65536) (by rw [p24]) (by rw [p24]; omega) rfl (by omega)) (or64h (a := w * 256 + x) (k := 16) (C := w * 16777216 + x * 65536 + y * 256) (by rw [p16]; omega) (by rw [p16]; omega) rfl (by omega))
    (or64h (a := w * 65536 + x * 256 + y) (k := 8) (C := w * 16777216 + x * 65536 + y * 256 + z) (by rw [p8]; omega) (by rw [p8]; omega) rfl (by omega)) k
/-! ### texts -/
theorem str0 (r : SR h a l) {j : Nat} {x : List Nat} (hx : l[j]? = some x) {K : List Nat → Prop} (k : x.length ≤ 140737488351232 → (∀ y ∈ x, y < 256) → K x) : onO (idxV a (j : Int) 1) fun r0 => onO (rdH h r0.1 r0.2 1) fun l0 => onL [Kd.str] l0 K := by
  obtain ⟨bb, oo, cc, e1, e2, rfl, e3, e4⟩ := r.idx (i := (j : Int)) (x := x) (Int.natCast_nonneg j) (by simpa using hx)
  exact onO.mk e1 (onO.mk e2 (onL.s1 (k e3 e4)))
theorem str_in (r : SR h a l) {x : List Nat} (hx : x ∈ l) : x.length ≤ 140737488351232 ∧ Bytes8 x := by
  obtain ⟨j, hj⟩ := List.getElem?_of_mem hx
  obtain ⟨bb, oo, cc, e1, e2, rfl, e3, e4⟩ := r.idx (i := (j : Int)) (x := x) (Int.natCast_nonneg j) (by simpa using hj)
  exact ⟨e3, e4⟩
theorem c24 (ra : SR h a l) (hl : ∀ s ∈ l, s.length ≤ 4096) (hs : (layR l).length < 31000000) (hn : l.length < 31000000) (k : ∀ r h', Kn.byte.Own h h' r (layR l) → Post r h') : wpC Try.prog 24 [a] Post h := by
  refine call_sound (args := [.vv a]) (cuts := []) ⟨ra.sc, trivial⟩ ?_
  rw [vc24]
  refine onO.mk ra.len ⟨fun m r i h' => ∃ j : Nat, i = j ∧ j ≤ l.length ∧ m = l.length - j ∧ Kn.byte.Own h h' r (layR (l.take j)), ⟨_, 0, rfl, by omega, rfl, Kn.Own.nil _ _⟩, ?_⟩
  rintro m h0 r _ _ ⟨j, rfl, hj, rfl, o⟩
  refine onB.dec (fun e => ?_) fun e => ?_
  · obtain ⟨x, hx⟩ := get_lt (l := l) (k := j) (by omega)
    have hxl := hl x (List.mem_of_getElem? hx)
    have hstep : layR (l.take (j + 1)) = layR (l.take j) ++ (four x.length ++ (four (crc 0 x) ++ x)) := by rw [take_succ' hx, layR_app, layR_one]; rfl
    have hsum : (layR (l.take (j + 1))).length ≤ (layR l).length := by
      conv => rhs; rw [← List.take_append_drop (j + 1) l, layR_app]
      simp
    rw [hstep] at hsum
    simp only [List.length_append, four_len'] at hsum
    refine str0 (ra.mono o.le) hx fun q1 q2 => onO.mk (wr32h (by omega)) (c39 o (by omega) (by omega) fun r2 h2 o2 => onRet.r o2.sc fun p3 hp hlo => ?_)
    have o3 := o2.moren hp (bytesV x)
    have ob : Kn.byte.Own h2 (h2.put p3 (bytesV x)) (.sl p3 0 x.length x.length false 1) x :=
      ⟨h2, x.map fun y => [.i .u8 (.ofNat y)], Hp.le_refl _, rfl, Fresh.put (Hp.le_refl _) rfl hp hlo (css := x.map fun y => [.i .u8 (.ofNat y)]) (sz := 1) (len := x.length) false (fun c hc => by
        obtain ⟨y, _, rfl⟩ := List.mem_map.1 hc; rfl) (by simp) (ofU8_flat x), bytes_all q2⟩
    have br := ob.row
    have hc := crc_lt (l := x) (s := 0) q2 (by omega)
    refine c40 (s := 0) br (by omega) (by omega) (onRet.u32 (c39 o3 hc (by simp only [List.length_append, four_len']; omega) fun r4 h4 o4 => onRet.r o4.sc ?_))
    refine onO.mk (a := (x.length, .lit (ofU8 x))) rfl (onC.mk (Nat.ble_eq_true_of_le (by show (4 * x.length + 4000) * 1 ≤ 17179869184; omega)) ?_)
    refine o4.app (sz := 1) rfl byte_flat (bytes_all q2) (by simp [srcH, ofU8_flat]) rfl (by simp only [List.length_append, four_len']; omega) fun r5 h5 o5 => onO.mk rfl (onO.mk (inc64 (by omega)) ⟨_, by show l.length - (j + 1) < l.length - j; omega, j + 1, rfl, by omega, rfl, ?_⟩)
    rw [hstep]
    simpa [List.append_assoc] using o5
  · have : j = l.length := by omega
    subst this
    rw [List.take_length] at o
    exact k _ _ o
theorem c27 (ra : SR h a l) (hn : l.length < 31000000) (k : ∀ r h', Kn.str.Own h h' r l → Post r h') : wpC Try.prog 27 [a] Post h := by
  refine call_sound (args := [.vv a]) (cuts := []) ⟨ra.sc, trivial⟩ ?_
  rw [vc27]
  exact clone_body ra rfl str_flat (by omega) (Nat.ble_eq_true_of_le (by omega)) k
theorem c32 (ra : SR h a l) (hn : l.length < 31000000) (k : ∀ r h', Kn.str.Own h h' r l → Post r h') : wpC Try.prog 32 [a] Post h := by
  refine call_sound (args := [.vv a]) (cuts := []) ⟨ra.sc, trivial⟩ ?_
  rw [vc32]
  refine ⟨fun m r i h' => ∃ j : Nat, i = j ∧ j ≤ l.length ∧ m = l.length - j ∧ Kn.str.Own h h' r (l.take j), ⟨_, 0, rfl, by omega, rfl, Kn.Own.nil _ _⟩, ?_⟩
  rintro m h0 r _ _ ⟨j, rfl, hj, rfl, o⟩
  refine onO.mk (ra.mono o.le).len (onB.dec (fun e => ?_) fun e => ?_)
  · obtain ⟨x, hx⟩ := get_lt (l := l) (k := j) (by omega)
    refine str0 (ra.mono o.le) hx fun q1 q2 => fun _ => o.app1 (x := x) rfl str_flat ⟨rfl, q1, q2⟩ (by simp; omega) fun r2 h2 o2 => onO.mk rfl (onO.mk (inc64 (by omega)) ⟨_, by show l.length - (j + 1) < l.length - j; omega, j + 1, rfl, by omega, rfl, ?_⟩)
    rw [take_succ' hx]; exact o2
  · have : j = l.length := by omega
    subst this
    rw [List.take_length] at o
    exact k _ _ o
theorem c12 (ra : SR h a l) (rb : SR h b m) (hn : l.length < 31000000) (k : Post (.b (decide (l = m))) h) : wpC Try.prog 12 [a, b] Post h := by
  refine call_sound (args := [.vv a, .vv b]) (cuts := []) ⟨ra.sc, rb.sc, trivial⟩ ?_
  rw [vc12]
  refine onO.mk ra.len (onO.mk rb.len (onB.ndec (fun e => ?_) (fun e => ?_)))
  · rw [decide_eq_false (fun e2 => e (by rw [e2]))] at k; exact k
  have e : l.length = m.length := by omega
  refine ⟨fun q lc0 i h' => ∃ k : Nat, i = k ∧ k ≤ l.length ∧ q = l.length - k ∧ h' = h ∧ l.take k = m.take k, ⟨_, 0, rfl, by omega, rfl, rfl, rfl⟩, ?_⟩
  rintro q h0 _ _ ⟨j, rfl, hj, rfl, rfl, ht⟩
  refine onO.mk ra.len (onB.dec (fun e => ?_) (fun e => ?_))
  · obtain ⟨x, hx⟩ := get_lt (l := l) (k := j) (by omega)
    obtain ⟨y, hy⟩ := get_lt (l := m) (k := j) (by omega)
    refine str0 ra hx fun _ _ => str0 rb hy fun _ _ => onB.ndec (fun e => ?_) fun e => ?_
    · have : ¬ l = m := fun e2 => e (by rw [e2, hy] at hx; injection hx with hx; exact hx.symm)
      rw [decide_eq_false this] at k; exact k
    · exact onO.mk (inc64 (by omega)) ⟨_, by show l.length - (j + 1) < l.length - j; omega, j + 1, rfl, by omega, rfl, rfl, by rw [take_succ' hx, take_succ' hy, ht, e]⟩
  · have : l = m := by
      rw [List.take_of_length_le (by omega), List.take_of_length_le (by omega)] at ht; exact ht
    rw [decide_eq_true this] at k; exact k
theorem sizeL_take {j : Nat} : sizeL (l.take j) ≤ sizeL l := by
  conv => rhs; rw [← List.take_append_drop j l, sizeL_app]
  omega
theorem c31 (ra : SR h a l) (hn : l.length < 31000000) (hs : sizeL l < 4611686018427387904) (k : Post (.i .i64 (sizeL l : Nat)) h) : wpC Try.prog 31 [a] Post h := by
  refine call_sound (args := [.vv a]) (cuts := []) ⟨ra.sc, trivial⟩ ?_
  rw [vc31]
  refine ⟨fun q n0 i h' => ∃ k : Nat, i = k ∧ k ≤ l.length ∧ q = l.length - k ∧ h' = h ∧ n0 = (sizeL (l.take k) : Nat), ⟨_, 0, rfl, by omega, rfl, rfl, rfl⟩, ?_⟩
  rintro q h0 _ _ ⟨j, rfl, hj, rfl, rfl, rfl⟩
  refine onO.mk ra.len (onB.dec (fun e => ?_) (fun e => ?_))
  · obtain ⟨x, hx⟩ := get_lt (l := l) (k := j) (by omega)
    have h1 : sizeL (l.take (j + 1)) = sizeL (l.take j) + (x.length + 16) := by rw [take_succ' hx, sizeL_app]; simp [sizeL]
    have h2 := sizeL_take (l := l) (j := j + 1)
    refine str0 ra hx fun _ _ => onO.mk (add64 (by omega) (by omega)) (onO.mk (add64 (by omega) (by omega)) (onO.mk (inc64 (by omega)) ⟨_, by show l.length - (j + 1) < l.length - j; omega, j + 1, rfl, by omega, rfl, rfl, by rw [h1]; omega⟩))
  · have : j = l.length := by omega
    subst this
    rw [List.take_length]; exact k
/-- how much records are, or why they may not be -/
def cntR (l : List (List Nat)) : Int × Int := if l.all (fun s => decide (s.length ≤ 4096)) = true then (if sizeL l ≤ 2097152 then ((sizeL l : Nat), 0) else (0, 5)) else (0, 1)
theorem c28 (ra : SR h a l) (hn : l.length < 31000000) (k : Post (.tup [.i .i64 (cntR l).1, .i .i64 (cntR l).2]) h) : wpC Try.prog 28 [a] Post h := by
  refine call_sound (args := [.vv a]) (cuts := []) ⟨ra.sc, trivial⟩ ?_
  rw [vc28]
  refine onO.mk ra.len ⟨fun q n0 c n1 i h' => ∃ k : Nat, i = k ∧ k ≤ l.length ∧ q = l.length - k ∧ h' = h ∧ n1 ≤ 2097152 ∧ 0 ≤ n1 ∧ (l.take k).all (fun s => decide (s.length ≤ 4096)) = true ∧ (c = false → n1 = (sizeL (l.take k) : Nat)) ∧ (c = true → 2097152 < sizeL (l.take k)), ⟨_, 0, rfl, by omega, rfl, rfl, by omega, by omega, rfl, fun _ => rfl, fun e => by cases e⟩, ?_⟩
  rintro q h0 n0 c n1 _ ⟨j, rfl, hj, rfl, rfl, b1, b0, b2, b3, b4⟩
  refine onB.dec (fun e => ?_) (fun e => ?_)
  · obtain ⟨x, hx⟩ := get_lt (l := l) (k := j) (by omega)
    have h1 : sizeL (l.take (j + 1)) = sizeL (l.take j) + (x.length + 16) := by rw [take_succ' hx, sizeL_app]; simp [sizeL]
    refine str0 ra hx fun q1 _ => onB.dec (fun e2 => ?_) fun e2 => ?_
    · have : l.all (fun s => decide (s.length ≤ 4096)) = false := by
        rw [List.all_eq_false]
        exact ⟨x, List.mem_of_getElem? hx, by simp; omega⟩
      unfold cntR at k
      rw [this] at k; exact k
    · have all1 : (l.take (j + 1)).all (fun s => decide (s.length ≤ 4096)) = true := by rw [take_succ' hx, List.all_append, b2]; simp; omega
      refine onB.mk (fun ec => ?_) fun ec => ?_
      · exact onO.mk (inc64 (by omega)) ⟨_, by show l.length - (j + 1) < l.length - j; omega, j + 1, rfl, by omega, rfl, rfl, b1, b0, all1, fun e => (by cases e), fun _ => by rw [h1]; have := b4 ec; omega⟩
      · have e3 := b3 ec
        refine onO.mk (add64 (by omega) (by omega)) (onO.mk (sub64 (by omega) (by omega)) (onB.ndec (fun e4 => ?_) fun e4 => ?_))
        · refine onO.mk (add64 (by omega) (by omega)) (onO.mk (add64 (by omega) (by omega)) (onO.mk (inc64 (by omega)) ⟨_, by show l.length - (j + 1) < l.length - j; omega, j + 1, rfl, by omega, rfl, rfl, by omega, by omega, all1, fun _ => by rw [h1]; omega, fun e5 => absurd (of_decide_eq_true e5) e4⟩))
        · exact onO.mk (inc64 (by omega)) ⟨_, by show l.length - (j + 1) < l.length - j; omega, j + 1, rfl, by omega, rfl, rfl, b1, b0, all1, fun e5 => absurd e4 (of_decide_eq_false e5), fun _ => by rw [h1]; omega⟩
  · have : j = l.length := by omega
    subst this
    rw [List.take_length] at b2 b3 b4
    unfold cntR at k
    rw [if_pos b2] at k
    refine onB.mk (fun ec => ?_) fun ec => ?_
    · rw [if_neg (by have := b4 ec; omega)] at k; exact k
    · have e3 := b3 ec
      rw [if_pos (by omega)] at k
      rw [e3]; exact k
end
structure Lg where
  l : List (List Nat)
  size : Nat
  file : Nat
  pos : Nat
  dead : Bool
def lgC (dp : Nat) (r : AV) (L : Lg) : List AV := [.p dp 0, r, .i .i64 (L.size : Nat), .i .i64 (L.file : Nat), .i .i64 (L.pos : Nat), .b L.dead]
structure LgM (lo : Nat) (F : Hp) (Q : Nat → Hp) (q dp : Nat) (r : AV) (a : Nat → AV) (D : Dk) (L : Lg) : Prop where
  box : Q 10 = Hp.one q (lgC dp r L) lo
  qlo : lo ≤ q
  row : PK Kn.str lo (Q 11) r L.l
  dk : DkA lo F Q 0 dp a D
  file : L.file < 2
section
variable {lo q dp : Nat} {F F' h h' : Hp} {Q Q' : Nat → Hp} {a a' : Nat → AV} {r r' b : AV} {D D' : Dk} {L L' : Lg} {Post : AV → Hp → Prop} {n : Int}
theorem lg_word (s : Sep lo F Q h) (e : Q 10 = Hp.one q (lgC dp r L) lo) : rdH h q (0 + 0) 1 = some [.p dp 0] ∧ rdH h q (0 + 1) 1 = some [r] ∧ rdH h q (0 + 2) 1 = some [.i .i64 (L.size : Nat)] ∧ rdH h q (0 + 3) 1 = some [.i .i64 (L.file : Nat)] ∧ rdH h q (0 + 4) 1 = some [.i .i64 (L.pos : Nat)] ∧ rdH h q (0 + 5) 1 = some [.b L.dead] :=
  ⟨rdBox (s.box e) rfl, rdBox (s.box e) rfl, rdBox (s.box e) rfl, rdBox (s.box e) rfl, rdBox (s.box e) rfl, rdBox (s.box e) rfl⟩
/-- one of its words written -/
theorem lg_put (s : Sep lo F Q h) (e : Q 10 = Hp.one q (lgC dp r L) lo) (qlo : lo ≤ q) {i : Nat} {v : AV} (hv : v.sc = true) {c : List AV} (hc : splice (lgC dp r L) (0 + i) [v] = c) (hi : i < 6) {Post : Option AV → Hp → Prop}
    (k : ∀ h', Sep lo F (updQ Q 10 (Hp.one q c lo)) h' → Post none h') : wpE (.w q (0 + i) (.lit [v]) none) Post h := by
  refine wpE.w (s.box e) (by rw [s.hlo]; exact qlo) (new := [v]) rfl (by show _ + 1 ≤ 6; omega) (by simp [hv]) (k _ ?_)
  rw [hc]; exact s.put e _
theorem LgM.fmono (m : LgM lo F Q q dp r a D L) (l : F.le F') : LgM lo F' Q q dp r a D L := ⟨m.box, m.qlo, m.row, m.dk.fmono l, m.file⟩
theorem LgM.disk (m : LgM lo F Q q dp r a D L) (d : DkA lo F' Q' 0 dp a' D') (u : Upd 0 10 Q Q') : LgM lo F' Q' q dp r a' D' L := ⟨by rw [u 10 (by omega)]; exact m.box, m.qlo, by rw [u 11 (by omega)]; exact m.row, d, m.file⟩
theorem LgM.chg (m : LgM lo F Q q dp r a D L) (e1 : Q' 10 = Hp.one q (lgC dp r' L') lo) (e2 : PK Kn.str lo (Q' 11) r' L'.l) (e3 : ∀ j, j ≠ 10 → j ≠ 11 → Q' j = Q j) (hf : L'.file < 2) : LgM lo F Q' q dp r' a D L' :=
  ⟨e1, m.qlo, e2, m.dk.same fun j _ _ => e3 j (by omega) (by omega), hf⟩
theorem Upd.more {Q Q1 : Nat → Hp} (u : Upd 0 10 Q Q1) : Upd 0 12 Q Q1 := fun j hj => u j (by omega)
def readAll (D : Dk) (n : Int) : List Nat × Int := if askR D n = 0 then ((fileD D n).seen, 0) else ([], askR D n)
theorem c35 (s : Sep lo F Q h) (m : LgM lo F Q q dp r a D L) (k : ∀ r' h', Kn.byte.Own h h' r' (readAll D n).1 → Post (.tup [r', .i .i64 (readAll D n).2]) h') : wpC Try.prog 35 [.p q 0, .i .i64 n] Post h := by
  refine call_sound (args := [.vv (.p q 0), .ii .i64 n]) (cuts := []) ⟨rfl, trivial, trivial⟩ ?_
  rw [vc35]
  obtain ⟨w0, _⟩ := lg_word s m.box
  refine onO.mk rfl (onO.mk w0 (onL.r1 rfl (c47 s m.dk (onTup.ii ?_))))
  unfold sizeR
  unfold readAll at k
  by_cases e : askR D n = 0
  · rw [if_pos e] at k ⊢
    refine onB.neg rfl (onO.mk rfl (onO.mk w0 (onL.r1 rfl ?_)))
    refine c53 s m.dk fun r2 h2 o2 => onTup.ri o2.sc ?_
    have er : readR' D n 0 (((fileD D n).seen.length : Nat) : Int) = ((fileD D n).seen, 0) := by
      unfold readR'
      rw [if_pos e, if_neg (by omega), if_neg (by omega)]
      rw [Int.toNat_natCast, show (0 : Int).toNat = 0 from rfl, List.drop_zero, List.take_of_length_le (Nat.le_refl _)]
    rw [er] at o2 ⊢
    exact k _ _ o2
  · rw [if_neg e] at k ⊢
    exact onB.pos (by simp [e]) (k _ _ (Kn.Own.nil _ _))
def scanLg (L : Lg) (B : List Nat) : Lg := { L with l := L.l ++ (scanL (B.drop L.pos)).1, size := L.size + sizeL (scanL (B.drop L.pos)).1, pos := L.pos + (scanL (B.drop L.pos)).2 }
theorem num4_lt {l : List Nat} (h : ∀ x ∈ l, x < 256) : num4 l < 4294967296 := by
  have g : ∀ i, l.getD i 0 < 256 := fun i => by
    rw [List.getD_eq_getElem?_getD]
    cases e : l[i]? with
    | none => show (0 : Nat) < 256; omega
    | some x => exact h x (List.mem_of_getElem? e)
  have := g 0; have := g 1; have := g 2; have := g 3
  unfold num4; omega
theorem scanLg_none {B : List Nat} (e : rec1 (B.drop L.pos) = none) : scanLg L B = L := by
  unfold scanLg
  rw [scan_none e]
  show { L with l := L.l ++ [], size := L.size + 0, pos := L.pos + 0 } = L
  rw [List.append_nil]; rfl
theorem scanLg_some {B s : List Nat} (e : rec1 (B.drop L.pos) = some s) : scanLg { L with l := L.l ++ [s], size := L.size + s.length + 16, pos := L.pos + 8 + s.length } B = scanLg L B := by
  unfold scanLg
  rw [scan_some e, List.drop_drop]
  show Lg.mk (L.l ++ [s] ++ (scanL (B.drop (L.pos + 8 + s.length))).1) _ _ _ _ = Lg.mk (L.l ++ (s :: (scanL (B.drop (L.pos + (8 + s.length)))).1)) _ _ _ _
  rw [show L.pos + (8 + s.length) = L.pos + 8 + s.length by omega, List.append_assoc]
  simp only [sizeL_cons, List.singleton_append]
  congr 1 <;> omega
theorem c36 {B : List Nat} (s : Sep lo F Q h) (m : LgM lo F Q q dp r a D L) (rb : Kn.byte.Row F b B) (hb : B.length ≤ 4194304) (hp : L.pos ≤ B.length) (hs : L.size ≤ 2 * L.pos) (hl : L.l.length ≤ L.pos)
    (k : ∀ r' Q' h', Sep lo F Q' h' → LgM lo F Q' q dp r' a D (scanLg L B) → (∀ j, j ≠ 10 → j ≠ 11 → Q' j = Q j) → Post (.tup []) h') : wpC Try.prog 36 [.p q 0, b] Post h := by
  refine call_sound (args := [.vv (.p q 0), .vv b]) (cuts := [0]) ⟨rfl, rb.sc, trivial⟩ ?_
  rw [vc36]
  refine ⟨fun m n0 a0 h' => ∃ (r' : AV) (Q' : Nat → Hp) (L' : Lg), m = B.length - L'.pos ∧ Sep lo F Q' h' ∧ LgM lo F Q' q dp r' a D L' ∧ (∀ j, j ≠ 10 → j ≠ 11 → Q' j = Q j) ∧ L'.pos ≤ B.length ∧ L'.size ≤ 2 * L'.pos ∧ L'.l.length ≤ L'.pos ∧ scanLg L' B = scanLg L B,
    ⟨_, r, Q, L, rfl, s, m, fun _ _ _ => rfl, hp, hs, hl, rfl⟩, ?_⟩
  clear m s hp hs hl
  rintro _ h0 n0 a0 _ ⟨r1, Q1, L1, rfl, s, m, u, hp, hs, hl, he⟩
  obtain ⟨w0, w1, w2, w3, w4, w5⟩ := lg_word s m.box
  have rb0 := rb.mono s.fle
  have bl : (B.drop L1.pos).length = B.length - L1.pos := List.length_drop
  have done : rec1 (B.drop L1.pos) = none → Post (.tup []) h0 := fun e => k r1 Q1 h0 s (by rw [← he, scanLg_none e]; exact m) u
  have hby : ∀ x ∈ B.drop L1.pos, x < 256 := fun x hx => byte_lt rb (List.mem_of_mem_drop hx)
  refine Dup.mk (onO.mk rb0.len (onO.mk rfl (onO.mk w4 (onL.i1 (onO.mk (sub64 (by omega) (by omega)) (onB.dec (fun c => ?_) fun c => ?_))))))
  · exact done (by unfold rec1; rw [if_pos (by omega)])
  obtain ⟨a1, f1, f2⟩ := rb0.sl rfl (sz := 1) (i := L1.pos) (j := B.length) (lo := some ((L1.pos : Nat) : Int)) (hi := none) hp (Nat.le_refl _) rfl rfl
  rw [List.take_of_length_le (by omega)] at f2
  refine onO.mk rfl (onO.mk w4 (onL.i1 (onO.mk f1 (c54 f2 (by omega) (onRet.i (onB.dec (fun lc2 => ?_) fun lc2 => ?_))))))
  · exact done (by unfold rec1; rw [if_neg (by omega), if_pos (by omega)])
  refine onO.mk rb0.len (onO.mk rfl (onO.mk w4 (onL.i1 (onO.mk (sub64 (by omega) (by omega)) (onO.mk (sub64 (by omega) (by omega)) (onB.dec (fun lc3 => ?_) fun lc3 => ?_))))))
  · exact done (by unfold rec1; rw [if_neg (by omega), if_neg (by omega), if_pos (by omega)])
  generalize hn : num4 (B.drop L1.pos) = N at *
  obtain ⟨a3, g1, g2⟩ := rb.sl rfl (sz := 1) (i := L1.pos + 8) (j := L1.pos + 8 + N) (lo := some ((L1.pos + 8 : Nat) : Int)) (hi := some ((L1.pos + 8 + N : Nat) : Int)) (by omega) (by omega) rfl rfl
  obtain ⟨a4, j1, j2⟩ := rb0.sl rfl (sz := 1) (i := L1.pos + 4) (j := B.length) (lo := some ((L1.pos + 4 : Nat) : Int)) (hi := none) (by omega) (Nat.le_refl _) rfl rfl
  rw [List.take_of_length_le (by simp)] at j2
  rw [show L1.pos + 8 + N - (L1.pos + 8) = N by omega] at g2
  have d8 : B.drop (L1.pos + 8) = (B.drop L1.pos).drop 8 := by rw [List.drop_drop]
  have d4 : B.drop (L1.pos + 4) = (B.drop L1.pos).drop 4 := by rw [List.drop_drop]
  rw [d8] at g2
  rw [d4] at j2
  generalize hS : ((B.drop L1.pos).drop 8).take N = S at *
  have hSl : S.length = N := by rw [← hS, List.length_take, List.length_drop, bl]; omega
  have n4 := num4_lt (l := (B.drop L1.pos).drop 4) fun x hx => hby x (List.mem_of_mem_drop hx)
  refine onO.mk rfl (onO.mk w4 (onL.i1 (onO.mk (a := ((L1.pos + 8 : Nat) : Int)) (add64 (by omega) (by omega)) ?_)))
  refine onO.mk rfl (onO.mk w4 (onL.i1 (onO.mk (a := ((L1.pos + 8 : Nat) : Int)) (add64 (by omega) (by omega)) (onO.mk (a := ((L1.pos + 8 + N : Nat) : Int)) (add64 (by omega) (by omega)) (onO.mk g1 ?_)))))
  refine onO.mk rfl (onO.mk w4 (onL.i1 (onO.mk (a := ((L1.pos + 4 : Nat) : Int)) (add64 (by omega) (by omega)) (onO.mk j1 (c54 j2 (by simp; omega) (onRet.i (onO.mk (wr32h n4) ?_)))))))
  refine c40 (s := 0) (g2.mono s.fle) (by omega) (by omega) (onRet.u32 (onB.ndec (fun lc4 => ?_) fun lc4 => ?_))
  · refine done ?_
    unfold rec1
    rw [if_neg (by omega), hn, if_neg (by omega), if_neg (by omega), hS, if_neg (by omega)]
  have hr : rec1 (B.drop L1.pos) = some S := by
    unfold rec1
    rw [if_neg (by omega), hn, if_neg (by omega), if_neg (by omega), hS, if_pos (by omega)]
  obtain ⟨x2, x3, x4, x5⟩ := strAt_row (g2.mono s.fle)
  have hS8 : ∀ x ∈ S, x < 256 := fun x hx => byte_lt g2 hx
  refine onO.mk rfl (onO.mk w1 (onL.r1 m.row.sc (onO.mk x5 fun _ => ?_)))
  refine (s.own str_flat m.row).app1 (x := S) (sz := 1) rfl str_flat ⟨rfl, by omega, hS8⟩ (by omega) fun a8 h4 o4 => onO.mk rfl ?_
  obtain ⟨q11, s4, p4⟩ := s.back str_flat o4
  have e10 : updQ Q1 11 q11 10 = Hp.one q (lgC dp r1 L1) lo := by rw [updQ_ne (by omega)]; exact m.box
  obtain ⟨v0, v1, v2, v3, v4, v5⟩ := lg_word s4 e10
  refine onO.mk rfl (onO.mk v2 (onL.i1 ⟨onO.mk w2 v2, ?_⟩))
  refine onO.mk (a := ((L1.size + N : Nat) : Int)) (add64 (by omega) (by omega)) (onO.mk (a := ((L1.size + N + 16 : Nat) : Int)) (add64 (by omega) (by omega)) ?_)
  refine onO.mk rfl (onO.mk v4 (onL.i1 ⟨onO.mk w4 v4, ?_⟩))
  refine onO.mk (a := ((L1.pos + 8 : Nat) : Int)) (add64 (by omega) (by omega)) (onO.mk (a := ((L1.pos + 8 + N : Nat) : Int)) (add64 (by omega) (by omega)) ?_)
  refine onO.mk rfl (lg_put s4 e10 m.qlo (i := 1) p4.sc rfl (by omega) fun h5 s5 => ?_)
  refine onO.mk rfl (lg_put (L := L1) (r := a8) (dp := dp) s5 updQ_same m.qlo (i := 2) rfl rfl (by omega) fun h6 s6 => ?_)
  refine onO.mk rfl (lg_put (L := { L1 with size := L1.size + N + 16 }) (r := a8) (dp := dp) s6 updQ_same m.qlo (i := 4) rfl rfl (by omega) fun h7 s7 => ?_)
  refine ⟨B.length - (L1.pos + 8 + N), by show B.length - _ < B.length - L1.pos; omega, a8, _, { L1 with l := L1.l ++ [S], size := L1.size + S.length + 16, pos := L1.pos + 8 + S.length }, by rw [hSl], s7, ?_, fun j j1 j2 => by rw [updQ_ne j1, updQ_ne j1, updQ_ne j1, updQ_ne j2]; exact u j j1 j2, by show L1.pos + 8 + S.length ≤ _; omega, by show L1.size + S.length + 16 ≤ 2 * (L1.pos + 8 + S.length); omega, by show (L1.l ++ [S]).length ≤ L1.pos + 8 + S.length; simp; omega, by rw [scanLg_some hr]; exact he⟩
  refine m.chg ?_ (by rw [updQ_ne (by omega), updQ_ne (by omega), updQ_ne (by omega), updQ_same]; exact p4) (fun j j1 j2 => by rw [updQ_ne j1, updQ_ne j1, updQ_ne j1, updQ_ne j2]) m.file
  rw [updQ_same, hSl]; rfl
theorem c25 {e : Int} (s : Sep lo F Q h) (m : LgM lo F Q q dp r a D L) (k : ∀ h', Sep lo F (updQ Q 10 (Hp.one q (lgC dp r { L with dead := !decide (e = 0) }) lo)) h' → LgM lo F (updQ Q 10 (Hp.one q (lgC dp r { L with dead := !decide (e = 0) }) lo)) q dp r a D { L with dead := !decide (e = 0) } → Post (.i .i64 e) h') :
    wpC Try.prog 25 [.p q 0, .i .i64 e] Post h := by
  refine call_sound (args := [.vv (.p q 0), .ii .i64 e]) (cuts := []) ⟨rfl, trivial, trivial⟩ ?_
  rw [vc25]
  exact onO.mk rfl (lg_put s m.box m.qlo (i := 5) rfl rfl (by omega) fun h5 s5 => k h5 s5 (m.chg updQ_same (by rw [updQ_ne (by omega)]; exact m.row) (fun j j1 _ => updQ_ne j1) m.file))
/-- Sync of a log -/
def syncL (D : Dk) (L : Lg) : Int × Dk × Lg := if L.dead = true then (10, D, L) else ((syncR D L.file).1, (syncR D L.file).2, { L with dead := !decide ((syncR D L.file).1 = 0) })
theorem c21 (s : Sep lo F Q h) (m : LgM lo F Q q dp r a D L) (hb : Few D 31000000)
    (k : ∀ a' Q' h', Sep lo F Q' h' → LgM lo F Q' q dp r a' (syncL D L).2.1 (syncL D L).2.2 → Upd 0 12 Q Q' → Post (.i .i64 (syncL D L).1) h') : wpC Try.prog 21 [.p q 0] Post h := by
  refine call_sound (args := [.vv (.p q 0)]) (cuts := []) ⟨rfl, trivial⟩ ?_
  rw [vc21]
  unfold syncL at k
  obtain ⟨w0, w1, w2, w3, w4, w5⟩ := lg_word s m.box
  refine onO.mk rfl (onO.mk w5 (onL.b1 (onB.mk (fun e => by rw [if_pos e] at k; exact k a Q h s m Upd.refl) fun e => ?_)))
  rw [if_neg (by rw [e]; simp)] at k
  refine onO.mk rfl (onO.mk w0 (onL.r1 rfl (onO.mk rfl (onO.mk w3 (onL.i1 ?_)))))
  refine c34 s m.dk hb fun a1 Q1 h1 s1 d1 u1 => onRet.i (c25 s1 (m.disk d1 u1) fun h2 s2 m2 => onRet.i (k a1 _ h2 s2 m2 (u1.more.put (i := 10) (by omega))))
theorem c10 (s : Sep lo F Q h) (m : LgM lo F Q q dp r a D L) (hn : L.l.length < 31000000) (k : ∀ r' h', Kn.str.Own h h' r' L.l → Post r' h') : wpC Try.prog 10 [.p q 0] Post h := by
  refine call_sound (args := [.vv (.p q 0)]) (cuts := []) ⟨rfl, trivial⟩ ?_
  rw [vc10]
  obtain ⟨w0, w1, w2, w3, w4, w5⟩ := lg_word s m.box
  exact onO.mk rfl (onO.mk w1 (onL.r1 m.row.sc (c27 (s.row m.row) hn fun r2 h2 o2 => onRet.r o2.sc (k _ _ o2))))
/-- Append to a log -/
def appL (D : Dk) (L : Lg) (x : List Nat) : Int × Dk × Lg :=
  if L.dead = true then (10, D, L) else if 4096 < x.length then (1, D, L) else if 2097152 < L.size + x.length + 16 then (5, D, L) else
  if (writeR D L.file L.pos (lay1 x)).1 = 0 then (0, (writeR D L.file L.pos (lay1 x)).2, ⟨L.l ++ [x], L.size + x.length + 16, L.file, L.pos + 8 + x.length, false⟩)
  else ((writeR D L.file L.pos (lay1 x)).1, (writeR D L.file L.pos (lay1 x)).2, { L with dead := true })
theorem c9 {x : List Nat} (s : Sep lo F Q h) (m : LgM lo F Q q dp r a D L) (hb : Few D 31000000) (hx : Bytes8 x) (hxl : x.length ≤ 140737488351232) (hs : L.size ≤ 2097152) (hp : L.pos ≤ 4194304) (hl : L.l.length < 31000000)
    (k : ∀ F' r' a' Q' h', F.le F' → Sep lo F' Q' h' → LgM lo F' Q' q dp r' a' (appL D L x).2.1 (appL D L x).2.2 → Upd 0 12 Q Q' → Post (.i .i64 (appL D L x).1) h') : wpC Try.prog 9 [.p q 0, .s x] Post h := by
  refine call_sound (args := [.vv (.p q 0), .ss x]) (cuts := []) ⟨rfl, trivial, trivial⟩ ?_
  rw [vc9]
  unfold appL at k
  obtain ⟨w0, w1, w2, w3, w4, w5⟩ := lg_word s m.box
  refine onO.mk rfl (onO.mk w5 (onL.b1 (onB.mk (fun e => by rw [if_pos e] at k; exact k F r a Q h (Hp.le_refl _) s m Upd.refl) fun e => ?_)))
  rw [if_neg (by rw [e]; simp)] at k
  refine onB.dec (fun c => by rw [if_pos (by omega)] at k; exact k F r a Q h (Hp.le_refl _) s m Upd.refl) fun c => ?_
  rw [if_neg (by omega)] at k
  refine onO.mk (add64 (by omega) (by omega)) (onO.mk rfl (onO.mk w2 (onL.i1 (onO.mk (sub64 (by omega) (by omega)) ?_))))
  refine onB.dec (fun lc2 => by rw [if_pos (by omega)] at k; exact k F r a Q h (Hp.le_refl _) s m Upd.refl) fun lc2 => fun p0 hp0 hlo0 => ?_
  rw [if_neg (by omega)] at k
  have s1 := s.grow (Hp.le_put (cs := [.s x]) hp0) rfl
  have ob : Kn.str.Own h (h.put p0 [.s x]) (.sl p0 0 1 1 true 1) [x] :=
    ⟨h, [[.s x]], Hp.le_refl _, rfl, Fresh.put (Hp.le_refl _) rfl hp0 hlo0 (css := [[.s x]]) (sz := 1) (len := 1) true (fun c hc => by simp at hc; subst hc; rfl) rfl (cs := [.s x]) rfl, .cons ⟨rfl, hxl, hx⟩ .nil⟩
  have row1 := ob.row
  refine c24 row1 (fun y hy => by simp at hy; subst hy; omega) (by rw [layR_one, lay1_len]; omega) (by simp) fun a1 h1 o1 => onRet.r o1.sc ?_
  rw [layR_one] at o1
  have s2 := s1.frz o1.le o1.lo
  have f2 := s1.fgrow o1.le
  have m2 := m.fmono f2
  obtain ⟨v0, v1, v2, v3, v4, v5⟩ := lg_word s2 m2.box
  refine onO.mk rfl (onO.mk v0 (onL.r1 rfl (onO.mk rfl (onO.mk v3 (onL.i1 (onO.mk rfl (onO.mk v4 (onL.i1 ?_))))))))
  refine c26 s2 m2.dk Vw.frz (o1.frozen byte_flat) hb (by omega) (by omega) fun F3 a3 Q3 h3 f3 s3 d3 u3 => onRet.i ?_
  refine c25 s3 (m2.disk d3 u3) fun h4 s4 m4 => onRet.i ?_
  have f23 := Hp.le_trans f2 f3
  by_cases e0 : (writeR D L.file L.pos (lay1 x)).1 = 0
  · rw [if_pos e0] at k
    rw [e0] at s4 m4 ⊢
    refine onB.neg rfl ?_
    obtain ⟨y0, y1, y2, y3, y4, y5⟩ := lg_word s4 m4.box
    refine onO.mk rfl (onO.mk y1 (onL.r1 m4.row.sc fun _ => ?_))
    refine (s4.own str_flat m4.row).app1 (x := x) (sz := 1) rfl str_flat ⟨rfl, hxl, hx⟩ (by show L.l.length + 1 < _; omega) fun a6 h5 o5 => onO.mk rfl ?_
    obtain ⟨q11, s5, p5⟩ := s4.back str_flat o5
    have e10 : updQ (updQ Q3 10 (Hp.one q (lgC dp r { L with dead := !decide ((0 : Int) = 0) }) lo)) 11 q11 10 = Hp.one q (lgC dp r { L with dead := !decide ((0 : Int) = 0) }) lo := by rw [updQ_ne (by omega)]; exact m4.box
    obtain ⟨z0, z1, z2, z3, z4, z5⟩ := lg_word s5 e10
    refine onO.mk rfl (onO.mk z2 (onL.i1 ⟨onO.mk y2 z2, ?_⟩))
    refine onO.mk (a := ((L.size + x.length : Nat) : Int)) (add64 (by show -9223372036854775808 ≤ ((L.size : Nat) : Int) + _; omega) (by show ((L.size : Nat) : Int) + _ < _; omega)) (onO.mk (a := ((L.size + x.length + 16 : Nat) : Int)) (add64 (by omega) (by omega)) ?_)
    refine onO.mk rfl (onO.mk z4 (onL.i1 ⟨onO.mk y4 z4, ?_⟩))
    have la : lenV a1 = some (8 + x.length) := by have := o1.row.len; rw [lay1_len] at this; exact this
    refine onO.mk la (onO.mk (a := ((L.pos + 8 + x.length : Nat) : Int)) ?_ ?_)
    · have : ((L.pos + 8 + x.length : Nat) : Int) = (L.pos : Int) + ((8 + x.length : Nat) : Int) := by omega
      rw [this]
      exact add64 (by show -9223372036854775808 ≤ ((L.pos : Nat) : Int) + _; omega) (by show ((L.pos : Nat) : Int) + _ < _; omega)
    refine onO.mk rfl (lg_put s5 e10 m.qlo (i := 1) p5.sc rfl (by omega) fun h6 s6 => ?_)
    refine onO.mk rfl (lg_put (L := { L with dead := false }) (r := a6) (dp := dp) s6 updQ_same m.qlo (i := 2) rfl rfl (by omega) fun h7 s7 => ?_)
    refine onO.mk rfl (lg_put (L := { L with dead := false, size := L.size + x.length + 16 }) (r := a6) (dp := dp) s7 updQ_same m.qlo (i := 4) rfl rfl (by omega) fun h8 s8 => ?_)
    refine k F3 a6 a3 _ h8 f23 s8 (m4.chg (by rw [updQ_same]; rfl) (by rw [updQ_ne (by omega), updQ_ne (by omega), updQ_ne (by omega), updQ_same]; exact p5) (fun j j1 j2 => by rw [updQ_ne j1, updQ_ne j1, updQ_ne j1, updQ_ne j2]) m.file) ?_
    exact ((((u3.more.put (i := 10) (by omega)).put (i := 11) (by omega)).put (i := 10) (by omega)).put (i := 10) (by omega)).put (i := 10) (by omega)
  · rw [if_neg e0] at k
    refine onB.pos (by simp [e0]) ?_
    have ed : (!decide ((writeR D L.file L.pos (lay1 x)).1 = 0)) = true := by simp [e0]
    rw [ed] at s4 m4
    exact k F3 r a3 _ h4 f23 s4 m4 (u3.more.put (i := 10) (by omega))
end
/-! ### plain: opened -/
def mkOf (x : List Nat) : Nat := x.getD (x.length - 1) 0 % 2
theorem mkOf_lt {x : List Nat} : mkOf x < 2 := Nat.mod_lt _ (by omega)
def fileOf (D : Dk) : Nat := mkOf (fileD D 2).seen
def bytesOf (D : Dk) : List Nat := (fileD D (fileOf D : Nat)).seen
def logOf (D : Dk) : Lg := scanLg ⟨[], 0, fileOf D, 0, false⟩ (bytesOf D)
def cutOf (D : Dk) : Int × Dk := if (logOf D).pos < (bytesOf D).length then cutR D (fileOf D : Nat) ((logOf D).pos : Nat) else (0, D)
def sync1 (D : Dk) : Int × Dk := if (cutOf D).1 = 0 then syncR (cutOf D).2 (fileOf D : Nat) else cutOf D
def sync2 (D : Dk) : Int × Dk := if (sync1 D).1 = 0 then syncR (sync1 D).2 2 else sync1 D
def loadR (D : Dk) : Int × Dk × Lg := if askR D 2 = 0 then ((sync2 D).1, (sync2 D).2, logOf D) else (askR D 2, D, ⟨[], 0, 0, 0, false⟩)
theorem askR_any {D : Dk} {m n : Nat} (hm : m < 3) (hn : n < 3) (h : askR D (m : Nat) = 0) : askR D (n : Nat) = 0 := by
  obtain ⟨h1, _⟩ := askR_ok h
  unfold askR
  rw [h1]
  simp only [Bool.false_eq_true, if_false]
  rw [if_neg (by omega), if_neg (by omega)]
theorem and1l {y : Nat} (h : y < 256) : intO .and .u8 (y : Int) 1 = some ((y % 2 : Nat) : Int) := by
  unfold intO
  have e : intA .and .u8 (y : Int) 1 = some (.i .u8 (wrapA .u8 (.ofNat (Nat.land y 1)))) := by
    show (cond (Nat.blt y 256 && Nat.blt 1 256) _ none : Option AV) = _
    rw [blt_of h]; rfl
  rw [e]
  have h2 : Nat.land y 1 = y % 2 := Nat.and_two_pow_sub_one_eq_mod y 1
  rw [h2]
  show some (wrapA .u8 ((y % 2 : Nat) : Int)) = _
  rw [wrap_mod rfl]
  congr 1
  show ((y % 2 : Nat) : Int) % 256 = _
  omega
theorem cutOf_few {D : Dk} {N : Nat} (w : Few D N) : Few (cutOf D).2 (N + 1) := by
  unfold cutOf
  split
  · exact cutR_few w
  · exact w.mono (by omega)
theorem sync1_few {D : Dk} {N : Nat} (w : Few D N) : Few (sync1 D).2 (N + 1) := by
  unfold sync1
  split
  · exact syncR_few (cutOf_few w)
  · exact cutOf_few w
theorem sync2_few {D : Dk} {N : Nat} (w : Few D N) : Few (sync2 D).2 (N + 1) := by
  unfold sync2
  split
  · exact syncR_few (sync1_few w)
  · exact sync1_few w
section
variable {lo q dp : Nat} {F F' h h' : Hp} {Q Q' : Nat → Hp} {a a' : Nat → AV} {r r' b : AV} {D D' : Dk} {L L' : Lg} {Post : AV → Hp → Prop} {n : Int}
theorem c22 (s : Sep lo F Q h) (m : LgM lo F Q q dp r a D ⟨[], 0, 0, 0, false⟩) (hb : Few D 30000000)
    (k : ∀ F' r' a' Q' h', F.le F' → Sep lo F' Q' h' → LgM lo F' Q' q dp r' a' (loadR D).2.1 (loadR D).2.2 → Upd 0 12 Q Q' → Post (.i .i64 (loadR D).1) h') : wpC Try.prog 22 [.p q 0] Post h := by
  refine call_sound (args := [.vv (.p q 0)]) (cuts := [12999999, 24000004]) ⟨rfl, trivial⟩ ?_
  rw [vc22]
  unfold loadR at k
  refine c35 s m fun r1 h1 o1 => onTup.ri o1.sc ?_
  unfold readAll at o1 ⊢
  by_cases e0 : ¬ askR D 2 = 0
  · rw [if_neg e0] at k o1 ⊢
    exact onB.pos (by simp [e0]) (k F r a Q h1 (Hp.le_refl _) (s.grow o1.le o1.lo) m Upd.refl)
  have e0 := Decidable.not_not.1 e0
  rw [if_pos e0] at k o1 ⊢
  have o1 : Kn.byte.Own h h1 r1 (fileD D 2).seen := o1
  have s1 := s.grow o1.le o1.lo
  have hseen := fileD_len (E := D) (n := 2) m.dk.ok
  refine onB.neg rfl (onO.mk o1.row.len ⟨fun h' => ∃ Q', Sep lo F Q' h' ∧ LgM lo F Q' q dp r a D ⟨[], 0, fileOf D, 0, false⟩ ∧ ∀ j, j ≠ 10 → Q' j = Q j, onB.dec (fun e => ?_) (fun e => ?_), ?_⟩)
  · obtain ⟨y, hy⟩ := get_lt (l := (fileD D 2).seen) (k := (fileD D 2).seen.length - 1) (by omega)
    have hy8 := byte_lt o1.row (List.mem_of_getElem? hy)
    have hm : fileOf D = y % 2 := by
      show (fileD D 2).seen.getD ((fileD D 2).seen.length - 1) 0 % 2 = _
      rw [List.getD_eq_getElem?_getD, hy]; rfl
    refine onO.mk o1.row.len (onO.mk (a := (((fileD D 2).seen.length - 1 : Nat) : Int)) ?_ ?_)
    · rw [show (((fileD D 2).seen.length - 1 : Nat) : Int) = ((fileD D 2).seen.length : Int) - 1 by omega]
      exact sub64 (by omega) (by omega)
    refine byte0 o1.row hy (onO.mk (and1l hy8) (onO.mk (wr64 (by omega) (by omega)) (onO.mk rfl (lg_put s1 m.box m.qlo (i := 3) rfl rfl (by omega) fun h2 s2 => ⟨_, s2, ?_, fun j hj => updQ_ne hj⟩))))
    refine m.chg ?_ (by rw [updQ_ne (by omega)]; exact m.row) (fun j j1 j2 => updQ_ne j1) mkOf_lt
    rw [updQ_same, hm]; rfl
  · have hm : fileOf D = 0 := by
      have : (fileD D 2).seen = [] := List.length_eq_zero_iff.1 (by omega)
      unfold fileOf
      rw [this]; rfl
    rw [hm]
    exact ⟨Q, s1, m, fun _ _ => rfl⟩
  clear s1 o1 s
  rintro h2 ⟨Q2, s2, m2, u2⟩
  obtain ⟨w0, w1, w2, w3, w4, w5⟩ := lg_word s2 m2.box
  have hlt : fileOf D < 2 := mkOf_lt
  have ef : askR D (fileOf D : Nat) = 0 := askR_any (m := 2) (by omega) (by omega) e0
  refine onO.mk rfl (onO.mk w3 (onL.i1 (c35 s2 m2 fun r3 h3 o3 => onTup.ri o3.sc ?_)))
  unfold readAll at o3 ⊢
  rw [if_pos ef] at o3 ⊢
  have o3 : Kn.byte.Own h2 h3 r3 (fileD D (fileOf D : Nat)).seen := o3
  have s3 := s2.frz o3.le o3.lo
  have f3 := s2.fgrow o3.le
  have rb := o3.frozen byte_flat (F := F)
  have hbl : (bytesOf D).length ≤ 4194304 := fileD_len m.dk.ok
  refine onB.neg rfl (c36 (B := bytesOf D) s3 (m2.fmono f3) rb hbl (Nat.zero_le _) (Nat.le_refl _) (Nat.le_refl _) fun r4 Q4 h4 s4 m4 u4 => onTup.z ?_)
  obtain ⟨v0, v1, v2, v3, v4, v5⟩ := lg_word s4 m4.box
  have m4 : LgM lo (moreH h2 h3 F) Q4 q dp r4 a D (logOf D) := m4
  have hpos : (logOf D).pos ≤ (bytesOf D).length := by
    show 0 + (scanL ((bytesOf D).drop 0)).2 ≤ _
    have := (scan_len ((bytesOf D).drop 0)).1
    simp at this ⊢; omega
  have u04 : Upd 0 12 Q Q4 := fun j hj => by rw [u4 j (by omega) (by omega), u2 j (by omega)]
  refine onO.mk rfl (onO.mk v4 (onL.i1 (onO.mk (rb.mono s4.fle).len ⟨fun n h' => ∃ a' Q', Sep lo (moreH h2 h3 F) Q' h' ∧ LgM lo (moreH h2 h3 F) Q' q dp r4 a' (cutOf D).2 (logOf D) ∧ Upd 0 12 Q Q' ∧ n = (cutOf D).1, onB.mk (fun e => ?_) (fun e => ?_), ?_⟩)))
  · have e : (logOf D).pos < (bytesOf D).length := by
      have := of_decide_eq_true e
      exact Int.ofNat_lt.1 this
    have hc : cutOf D = cutR D (fileOf D : Nat) ((logOf D).pos : Nat) := if_pos e
    refine onO.mk rfl (onO.mk v0 (onL.r1 rfl (onO.mk rfl (onO.mk v3 (onL.i1 (onO.mk rfl (onO.mk v4 (onL.i1 ?_))))))))
    refine c37 s4 m4.dk (hb.mono (by omega)) fun a5 Q5 h5 s5 d5 u5 => onRet.i ⟨a5, Q5, s5, ?_, u04.trans u5.more, ?_⟩
    · rw [hc]; exact m4.disk d5 u5
    · rw [hc]; rfl
  · have e : ¬ (logOf D).pos < (bytesOf D).length := fun e2 => (of_decide_eq_false e) (Int.ofNat_lt.2 e2)
    have hc : cutOf D = (0, D) := if_neg e
    rw [hc]
    exact ⟨a, Q4, s4, m4, u04, rfl⟩
  rintro h6 _ ⟨a6, Q6, s6, m6, u6, rfl⟩
  obtain ⟨x0, x1, x2, x3, x4, x5⟩ := lg_word s6 m6.box
  refine onO.mk rfl (onO.mk x3 (onL.i1 ⟨fun m n13 n14 h' => ∃ (j : Nat) (a' : Nat → AV) (Q' : Nat → Hp) (D' : Dk), n14 = j ∧ j ≤ 2 ∧ m = 2 - j ∧ Sep lo (moreH h2 h3 F) Q' h' ∧ LgM lo (moreH h2 h3 F) Q' q dp r4 a' D' (logOf D) ∧ Upd 0 12 Q Q' ∧ (n13, D') = (match j with | 0 => cutOf D | 1 => sync1 D | _ => sync2 D),
    ⟨2, 0, a6, Q6, (cutOf D).2, rfl, by omega, rfl, s6, m6, u6, rfl⟩, ?_⟩))
  rintro m h7 n13 _ ⟨j, a7, Q7, D7, rfl, hj, rfl, s7, m7, u7, he⟩
  obtain ⟨y0, y1, y2, y3, y4, y5⟩ := lg_word s7 m7.box
  refine onB.dec (fun e => onO.mk (natLt_nat (n := j) (m := 2) (by omega)) ⟨⟨trivial, fun e0 => ?_⟩, fun e0 => ?_⟩) fun e => ?_
  · subst e0
    have hn : n13 = (cutOf D).1 := congrArg Prod.fst he
    have hD : D7 = (cutOf D).2 := congrArg Prod.snd he
    subst hD
    refine onB.dec (fun c => ?_) fun c => ?_
    · have hs : sync1 D = syncR (cutOf D).2 (fileOf D : Nat) := if_pos (by rw [← hn]; exact c)
      refine onO.mk rfl (onO.mk y0 (onL.r1 rfl (c34 s7 m7.dk ((cutOf_few hb).mono (by omega)) fun a8 Q8 h8 s8 d8 u8 => onRet.i (onO.mk rfl ⟨1, by show (1 : Nat) < 2 - 0; omega, 1, a8, Q8, _, rfl, by omega, rfl, s8, m7.disk d8 u8, u7.trans u8.more, ?_⟩))))
      show _ = sync1 D
      rw [hs]; rfl
    · have hs : sync1 D = cutOf D := if_neg (by rw [← hn]; exact c)
      refine onO.mk rfl ⟨1, by show (1 : Nat) < 2 - 0; omega, 1, a7, Q7, _, rfl, by omega, rfl, s7, m7, u7, ?_⟩
      show _ = sync1 D
      rw [hs]; exact he
  · subst e0
    have hn : n13 = (sync1 D).1 := congrArg Prod.fst he
    have hD : D7 = (sync1 D).2 := congrArg Prod.snd he
    subst hD
    refine onB.dec (fun c => ?_) fun c => ?_
    · have hs : sync2 D = syncR (sync1 D).2 2 := if_pos (by rw [← hn]; exact c)
      refine onO.mk rfl (onO.mk y0 (onL.r1 rfl (c34 s7 m7.dk ((sync1_few hb).mono (by omega)) fun a8 Q8 h8 s8 d8 u8 => onRet.i (onO.mk rfl ⟨0, by show (0 : Nat) < 2 - 1; omega, 2, a8, Q8, _, rfl, by omega, rfl, s8, m7.disk d8 u8, u7.trans u8.more, ?_⟩))))
      show _ = sync2 D
      rw [hs]
    · have hs : sync2 D = sync1 D := if_neg (by rw [← hn]; exact c)
      refine onO.mk rfl ⟨0, by show (0 : Nat) < 2 - 1; omega, 2, a7, Q7, _, rfl, by omega, rfl, s7, m7, u7, ?_⟩
      show _ = sync2 D
      rw [hs]; exact he
  · have hj2 : j = 2 := by omega
    subst hj2
    have hn : n13 = (sync2 D).1 := congrArg Prod.fst he
    have hD : D7 = (sync2 D).2 := congrArg Prod.snd he
    subst hD; subst hn
    exact k _ r4 a7 Q7 h7 f3 s7 m7 u7
theorem c6 (s : Sep lo F Q h) (d : DkA lo F Q 0 dp a D) (hb : Few D 30000000)
    (k1 : (loadR D).1 ≠ 0 → ∀ F' a' Q' h', F.le F' → Sep lo F' Q' h' → DkA lo F' Q' 0 dp a' (loadR D).2.1 → Upd 0 12 Q Q' → Post (.tup [.np, .i .i64 (loadR D).1]) h')
    (k2 : (loadR D).1 = 0 → ∀ q F' r' a' Q' h', F.le F' → Sep lo F' Q' h' → LgM lo F' Q' q dp r' a' (loadR D).2.1 (loadR D).2.2 → Upd 0 12 Q Q' → Post (.tup [.p q 0, .i .i64 0]) h') : wpC Try.prog 6 [.p dp 0] Post h := by
  refine call_sound (args := [.vv (.p dp 0)]) (cuts := []) ⟨rfl, trivial⟩ ?_
  rw [vc6]
  refine onO.mk rfl (onB.neg rfl fun q hq hlo => ?_)
  have s1 := (s.drop 11).alloc 10 hq [.p dp 0, .ns, .i .i64 0, .i .i64 0, .i .i64 0, .b false]
  have u1 : Upd 0 12 Q (updQ (updQ Q 11 (Hp.none lo)) 10 (Hp.one q [.p dp 0, .ns, .i .i64 0, .i .i64 0, .i .i64 0, .b false] lo)) := fun j hj => by rw [updQ_ne (by omega), updQ_ne (by omega)]
  refine c22 s1 ⟨updQ_same, by rw [← s.hlo]; exact hlo, by rw [updQ_ne (by omega), updQ_same]; exact PK.nil _ _, d.same fun j _ _ => by rw [updQ_ne (by omega), updQ_ne (by omega)], by show (0 : Nat) < 2; omega⟩ hb fun F2 r2 a2 Q2 h2 f2 s2 m2 u2 => onRet.i (onB.ndec (fun e => ?_) fun e => ?_)
  · exact k1 e F2 a2 Q2 h2 f2 s2 m2.dk (u1.trans u2)
  · exact k2 e q F2 r2 a2 Q2 h2 f2 s2 m2 (u1.trans u2)
theorem c8 {x : Int} (k : Post (.i .i64 x) h) : wpC Try.prog 8 [.i .i64 x] Post h := by
  refine call_sound (args := [.ii .i64 x]) (cuts := []) ⟨trivial, trivial⟩ ?_
  rw [vc8]; exact k
theorem c7 (s : Sep lo F Q h) (k : ∀ dp a Q' h', Sep lo F Q' h' → DkA lo F Q' 0 dp a (dkOf []) → Upd 0 10 Q Q' → Post (.p dp 0) h') : wpC Try.prog 7 [] Post h := by
  refine call_sound (args := []) (cuts := []) trivial ?_
  rw [vc7]
  exact c23 (B := 0) s Vw.frz ns_rows (by simp) (fun e => by cases e) fun _ p a Q1 h1 s1 d1 u1 => onTup.ri rfl (c8 (onRet.i (onB.neg rfl (k p a Q1 h1 s1 d1 u1))))
def Aside (Q Q' : Nat → Hp) : Prop := ∀ j, 10 ≤ j → j < 20 ∨ 23 ≤ j → Q' j = Q j
theorem c19 {ps : List Int} (s : Sep lo F Q h) (d : DkA lo F Q 0 dp a D) (row : Kn.int.Row F b ps) (hb : Few D 31000000)
    (k : ∀ dp' a' Q' h', Sep lo F Q' h' → DkA lo F Q' 0 dp' a' (dkOf (crashL D.f ps)) → Aside Q Q' → Post (.p dp' 0) h') : wpC Try.prog 19 [.p dp 0, b] Post h := by
  refine call_sound (args := [.vv (.p dp 0), .vv b]) (cuts := []) ⟨rfl, row.sc, trivial⟩ ?_
  rw [vc19]
  refine c33 (C := 20) s d (by omega) row hb fun r3 Q3 h3 s3 d3 cl3 u3 => onRet.r cl3.sc ?_
  have okc := newOk_crash (E := D) (ps := ps) d.len d.ok
  refine c23 (B := 0) s3 (V := Q3 21) (Vw.part (by omega)) (cl3.view (Hp.le_refl _)) (by rw [crashL_len, d.len]; omega) (fun e => by rw [okc] at e; cases e) fun _ p5 a5 Q5 h5 s5 d5 u5 => onTup.ri rfl (c8 (onRet.i (onB.neg rfl (k p5 a5 Q5 h5 s5 d5 fun j h1 h2 => ?_))))
  rw [u5 j (by omega), u3 j (by omega) (by omega)]
end
/-! ### plain -/
def rnStep (o : Nat) (B : List Nat) (D : Dk) : Nat → Int × Dk
  | 0 => cutR D (o : Nat) 0
  | 1 => writeR D (o : Nat) 0 B
  | 2 => syncR D (o : Nat)
  | 3 => if askR D 2 = 0 then writeR D 2 (((fileD D 2).seen.length : Nat) : Int) [o] else (askR D 2, D)
  | _ => syncR D 2
def rnR (o : Nat) (B : List Nat) (D : Dk) : Nat → Int × Dk
  | 0 => (0, D)
  | j + 1 => if (rnR o B D j).1 = 0 then rnStep o B (rnR o B D j).2 j else rnR o B D j
theorem rn_stop {o : Nat} {B : List Nat} {D : Dk} {j : Nat} (h : (rnR o B D j).1 ≠ 0) : ∀ d, rnR o B D (j + d) = rnR o B D j
  | 0 => rfl
  | d + 1 => by
    have := rn_stop h d
    show (if (rnR o B D (j + d)).1 = 0 then _ else rnR o B D (j + d)) = _
    rw [this, if_neg h]
theorem rnStep_few {o : Nat} {B : List Nat} {D : Dk} {N : Nat} (w : Few D N) (j : Nat) : Few (rnStep o B D j).2 (N + 1) := by
  match j with
  | 0 => exact cutR_few w
  | 1 => exact writeR_few w
  | 2 => exact (syncR_few w).mono (by omega)
  | 3 =>
    show Few (if askR D 2 = 0 then writeR D 2 _ [o] else (askR D 2, D)).2 _
    split
    · exact writeR_few w
    · exact w.mono (by omega)
  | j + 4 => exact (syncR_few w).mono (by omega)
theorem rnR_few {o : Nat} {B : List Nat} {D : Dk} {N : Nat} (w : Few D N) : ∀ j, Few (rnR o B D j).2 (N + j)
  | 0 => w
  | j + 1 => by
    show Few (if (rnR o B D j).1 = 0 then _ else rnR o B D j).2 _
    split
    · exact rnStep_few (rnR_few w j) j
    · exact (rnR_few w j).mono (by omega)
def rstL (D : Dk) (L : Lg) (l : List (List Nat)) : Int × Dk × Lg :=
  if L.dead = true then (10, D, L) else if (cntR l).2 = 0 then
    (if (rnR (1 - L.file) (layR l) D 5).1 = 0 then (0, (rnR (1 - L.file) (layR l) D 5).2, ⟨l, sizeL l, 1 - L.file, (layR l).length, false⟩)
     else ((rnR (1 - L.file) (layR l) D 5).1, (rnR (1 - L.file) (layR l) D 5).2, { L with dead := true }))
  else ((cntR l).2, D, L)
def Rest (n : Nat) (Q Q' : Nat → Hp) : Prop := ∀ j, n ≤ j → Q' j = Q j
section
variable {lo q dp : Nat} {F F' h h' : Hp} {Q Q' : Nat → Hp} {a a' : Nat → AV} {r r' b : AV} {D D' : Dk} {L L' : Lg} {Post : AV → Hp → Prop} {n : Int}
theorem c29 {B : List Nat} (s : Sep lo F Q h) (m : LgM lo F Q q dp r a D L) (rb : Kn.byte.Row F b B) (hb : Few D 30000000)
    (k : ∀ F' a' Q' h', F.le F' → Sep lo F' Q' h' → LgM lo F' Q' q dp r a' (rnR (1 - L.file) B D 5).2 L → Rest 15 Q Q' → Post (.i .i64 (rnR (1 - L.file) B D 5).1) h') : wpC Try.prog 29 [.p q 0, b] Post h := by
  refine call_sound (args := [.vv (.p q 0), .vv b]) (cuts := [999999]) ⟨rfl, rb.sc, trivial⟩ ?_
  rw [vc29]
  intro p0 p1
  obtain ⟨w0, w1, w2, w3, w4, w5⟩ := lg_word s m.box
  have hfl := m.file
  have hsub : intO .sub .i64 1 (L.file : Int) = some ((1 - L.file : Nat) : Int) := by
    rw [sub64 (by omega) (by omega)]
    congr 1; omega
  refine onO.mk rfl (onO.mk w3 (onL.i1 (onO.mk hsub fun p2 e0 l0 e1 l1 e2 l2 => ?_)))
  generalize ho : 1 - L.file = o at *
  have ho2 : o < 2 := by omega
  have s1 := s.alloc 12 e0 [.p q 0]
  have s2 := s1.alloc 13 (p := p1) e1 [b]
  have s3 := s2.alloc 14 (p := p2) e2 [.i .i64 (o : Int)]
  have hq0 : lo ≤ p0 := by rw [← s.hlo]; exact l0
  have hq1 : lo ≤ p1 := by rw [← s.hlo]; exact l1
  have hq2 : lo ≤ p2 := by rw [← s.hlo]; exact l2
  refine ⟨fun mm n2 n3 h' => ∃ (j : Nat) (F' : Hp) (a' : Nat → AV) (Q' : Nat → Hp), n3 = j ∧ j ≤ 5 ∧ mm = 5 - j ∧ F.le F' ∧ Sep lo F' Q' h' ∧ LgM lo F' Q' q dp r a' (rnR o B D j).2 L ∧ Rest 15 Q Q' ∧ (rnR o B D j).1 = 0 ∧ Q' 12 = Hp.one p0 [.p q 0] lo ∧ Q' 13 = Hp.one p1 [b] lo ∧ Q' 14 = Hp.one p2 [.i .i64 (o : Int)] lo,
    ⟨5, 0, F, a, _, rfl, by omega, rfl, Hp.le_refl _, s3, ?_, fun j hj => by rw [updQ_ne (by omega), updQ_ne (by omega), updQ_ne (by omega)], rfl, by rw [updQ_ne (by omega), updQ_ne (by omega), updQ_same], by rw [updQ_ne (by omega), updQ_same], updQ_same⟩, ?_⟩
  · exact ⟨by rw [updQ_ne (by omega), updQ_ne (by omega), updQ_ne (by omega)]; exact m.box, m.qlo, by rw [updQ_ne (by omega), updQ_ne (by omega), updQ_ne (by omega)]; exact m.row, m.dk.same fun j _ _ => by rw [updQ_ne (by omega), updQ_ne (by omega), updQ_ne (by omega)], m.file⟩
  rintro mm h4 n2 _ ⟨j, F4, a4, Q4, rfl, hj, rfl, f4, s4, m4, u4, hz, b0, b1, b2⟩
  have few := (rnR_few (o := o) (B := B) hb j).mono (M := 30000005) (by omega)
  have hnext : rnR o B D (j + 1) = rnStep o B (rnR o B D j).2 j := if_pos hz
  have r0 : rdH h4 p0 0 1 = some [.p q 0] := rdBox (s4.box b0) rfl
  have r1 : rdH h4 p1 0 1 = some [b] := rdBox (s4.box b1) rfl
  have r2 : rdH h4 p2 0 1 = some [.i .i64 (o : Int)] := rdBox (s4.box b2) rfl
  obtain ⟨w0, _⟩ := lg_word s4 m4.box
  -- behind a step
  have done : ∀ {F5 : Hp} {a5 : Nat → AV} {Q5 : Nat → Hp} {h5 : Hp} {D5 : Dk} {e : Int}, F4.le F5 → Sep lo F5 Q5 h5 → DkA lo F5 Q5 0 dp a5 D5 → Upd 0 10 Q4 Q5 → (e, D5) = rnStep o B (rnR o B D j).2 j → j < 5 →
      onB (!decide (e = 0)) (Post (AV.i IntKind.i64 e) h5) (onO (intO BinOp.add IntKind.i64 (j : Int) 1) fun n5 => ∃ p6, ltN p6 (5 - j) ∧ ∃ (j : Nat) (F' : Hp) (a' : Nat → AV) (Q' : Nat → Hp), n5 = j ∧ j ≤ 5 ∧ p6 = 5 - j ∧ F.le F' ∧ Sep lo F' Q' h5 ∧ LgM lo F' Q' q dp r a' (rnR o B D j).2 L ∧ Rest 15 Q Q' ∧ (rnR o B D j).1 = 0 ∧ Q' 12 = Hp.one p0 [.p q 0] lo ∧ Q' 13 = Hp.one p1 [b] lo ∧ Q' 14 = Hp.one p2 [.i .i64 (o : Int)] lo) := by
    intro F5 a5 Q5 h5 D5 e f5 s5 d5 u5 he hj5
    rw [← hnext] at he
    have he1 : e = (rnR o B D (j + 1)).1 := congrArg Prod.fst he
    have he2 : D5 = (rnR o B D (j + 1)).2 := congrArg Prod.snd he
    have m5 := (m4.fmono f5).disk d5 u5
    have u5' : Rest 15 Q Q5 := fun i hi => by rw [u5 i (by omega), u4 i hi]
    refine onB.ndec (fun ez => ?_) fun ez => ?_
    · have hs : rnR o B D 5 = rnR o B D (j + 1) := by
        have := rn_stop (o := o) (B := B) (D := D) (j := j + 1) (by rw [← he1]; exact ez) (5 - (j + 1))
        rw [show j + 1 + (5 - (j + 1)) = 5 by omega] at this
        exact this
      have := k F5 a5 Q5 h5 (Hp.le_trans f4 f5) s5
      rw [hs, ← he1, ← he2] at this
      exact this m5 u5'
    · refine onO.mk (inc64 (by omega)) ⟨_, by show 5 - (j + 1) < 5 - j; omega, j + 1, F5, a5, Q5, rfl, by omega, rfl, Hp.le_trans f4 f5, s5, ?_, u5', by rw [← he1]; exact ez, by rw [u5 _ (by omega)]; exact b0, by rw [u5 _ (by omega)]; exact b1, by rw [u5 _ (by omega)]; exact b2⟩
      rw [← he2]; exact m5
  refine onB.dec (fun e => onO.mk (natLt_nat (n := j) (m := 5) (by omega)) ⟨⟨⟨⟨⟨trivial, fun ej => ?_⟩, fun ej => ?_⟩, fun ej => ?_⟩, fun ej => ?_⟩, fun ej => ?_⟩) fun e => ?_
  · subst ej
    refine call_sound (args := [.vv (.p p0 0), .vv (.p p2 0)]) (cuts := []) ⟨rfl, rfl, trivial⟩ ?_
    rw [vc43]
    refine onO.mk rfl (onO.mk r0 (onL.r1 rfl (onO.mk rfl (onO.mk w0 (onL.r1 rfl (onO.mk rfl (onO.mk r2 (onL.i1 ?_))))))))
    exact c37 (n := (o : Int)) (k' := 0) s4 m4.dk (few.mono (by omega)) fun a5 Q5 h5 s5 d5 u5 => onRet.i (onRet.i (done (Hp.le_refl _) s5 d5 u5 rfl (by omega)))
  · subst ej
    refine call_sound (args := [.vv (.p p0 0), .vv (.p p2 0), .vv (.p p1 0)]) (cuts := []) ⟨rfl, rfl, rfl, trivial⟩ ?_
    rw [vc44]
    refine onO.mk rfl (onO.mk r0 (onL.r1 rfl (onO.mk rfl (onO.mk w0 (onL.r1 rfl (onO.mk rfl (onO.mk r2 (onL.i1 (onO.mk rfl (onO.mk r1 (onL.r1 rb.sc ?_)))))))))))
    exact c26 (n := (o : Int)) (at' := 0) (l := B) (V := F) s4 m4.dk (fun F5 Q5 h5 f5 s5 _ => Hp.le_trans (Hp.le_trans f4 f5) s5.fle) rb (few.mono (by omega)) (by omega) (by omega) fun F5 a5 Q5 h5 f5 s5 d5 u5 => onRet.i (onRet.i (done f5 s5 d5 u5 rfl (by omega)))
  · subst ej
    refine call_sound (args := [.vv (.p p0 0), .vv (.p p2 0)]) (cuts := []) ⟨rfl, rfl, trivial⟩ ?_
    rw [vc45]
    refine onO.mk rfl (onO.mk r0 (onL.r1 rfl (onO.mk rfl (onO.mk w0 (onL.r1 rfl (onO.mk rfl (onO.mk r2 (onL.i1 ?_))))))))
    exact c34 (n := (o : Int)) s4 m4.dk (few.mono (by omega)) fun a5 Q5 h5 s5 d5 u5 => onRet.i (onRet.i (done (Hp.le_refl _) s5 d5 u5 rfl (by omega)))
  · subst ej
    refine call_sound (args := [.vv (.p p0 0), .vv (.p p2 0)]) (cuts := []) ⟨rfl, rfl, trivial⟩ ?_
    rw [vc46]
    refine onO.mk rfl (onO.mk r0 (onL.r1 rfl (onO.mk rfl (onO.mk w0 (onL.r1 rfl (c47 (n := 2) s4 m4.dk (onTup.ii ?_)))))))
    generalize hD : (rnR o B D 3).2 = D4 at *
    unfold sizeR
    by_cases ea : askR D4 2 = 0
    · rw [if_pos ea]
      have hseen := fileD_len (E := D4) (n := 2) m4.dk.ok
      refine onB.neg rfl (onO.mk rfl (onO.mk r0 (onL.r1 rfl (onO.mk rfl (onO.mk w0 (onL.r1 rfl (onO.mk rfl (onO.mk r2 (onL.i1 ?_)))))))))
      have w8 : wrO .u8 (o : Int) = some (o : Int) := by rw [wr8]; congr 1; omega
      refine onO.mk w8 fun p3 e3 l3 => ?_
      have ob : Kn.byte.Own h4 (h4.put p3 [.i .u8 (o : Int)]) (.sl p3 0 1 1 true 1) [o] :=
        ⟨h4, [[.i .u8 (o : Int)]], Hp.le_refl _, rfl, Fresh.put (Hp.le_refl _) rfl e3 l3 (css := [[.i .u8 (o : Int)]]) (sz := 1) (len := 1) true (fun c hc => by simp at hc; subst hc; rfl) rfl (cs := [.i .u8 (o : Int)]) rfl, .cons ⟨rfl, by omega⟩ .nil⟩
      have s5 := s4.frz ob.le ob.lo
      have f5 := s4.fgrow ob.le
      exact c26 (n := 2) (l := [o]) s5 (m4.dk.fmono f5) Vw.frz (ob.frozen byte_flat) (few.mono (by omega)) (by omega) (by omega) fun F6 a6 Q6 h6 f6 s6 d6 u6 => onRet.i (onRet.i (done (Hp.le_trans f5 f6) s6 d6 u6 (by
        show _ = (if askR D4 2 = 0 then writeR D4 2 (((fileD D4 2).seen.length : Nat) : Int) [o] else (askR D4 2, D4))
        rw [if_pos ea]) (by omega)))
    · rw [if_neg ea]
      exact onB.pos (by simp [ea]) (onRet.i (done (Hp.le_refl _) s4 m4.dk Upd.refl (by
        show _ = (if askR D4 2 = 0 then writeR D4 2 (((fileD D4 2).seen.length : Nat) : Int) [o] else (askR D4 2, D4))
        rw [if_neg ea]) (by omega)))
  · subst ej
    refine call_sound (args := [.vv (.p p0 0)]) (cuts := []) ⟨rfl, trivial⟩ ?_
    rw [vc48]
    refine onO.mk rfl (onO.mk r0 (onL.r1 rfl (onO.mk rfl (onO.mk w0 (onL.r1 rfl ?_)))))
    exact c34 (n := 2) s4 m4.dk (few.mono (by omega)) fun a5 Q5 h5 s5 d5 u5 => onRet.i (onRet.i (done (Hp.le_refl _) s5 d5 u5 rfl (by omega)))
  · have hj5 : j = 5 := by omega
    subst hj5
    have := k F4 a4 Q4 h4 f4 s4 m4 u4
    rw [hz] at this; exact this
theorem c11 {l : List (List Nat)} {V : Hp} (s : Sep lo F Q h) (m : LgM lo F Q q dp r a D L) (hv : ∀ F' Q' h', F.le F' → Sep lo F' Q' h' → Rest 15 Q Q' → V.le h') (rb : SR V b l) (hb : Few D 30000000) (hn : l.length < 31000000)
    (k : ∀ F' r' a' Q' h', F.le F' → Sep lo F' Q' h' → LgM lo F' Q' q dp r' a' (rstL D L l).2.1 (rstL D L l).2.2 → Rest 15 Q Q' → Post (.i .i64 (rstL D L l).1) h') : wpC Try.prog 11 [.p q 0, b] Post h := by
  refine call_sound (args := [.vv (.p q 0), .vv b]) (cuts := []) ⟨rfl, rb.sc, trivial⟩ ?_
  rw [vc11]
  unfold rstL at k
  obtain ⟨w0, w1, w2, w3, w4, w5⟩ := lg_word s m.box
  have ue : Rest 15 Q Q := fun _ _ => rfl
  refine onO.mk rfl (onO.mk w5 (onL.b1 (onB.mk (fun e => by rw [if_pos e] at k; exact k F r a Q h (Hp.le_refl _) s m ue) fun e => ?_)))
  rw [if_neg (by rw [e]; simp)] at k
  have rb0 := rb.mono (hv F Q h (Hp.le_refl _) s ue)
  refine c28 rb0 hn (onTup.ii (onB.ndec (fun ec => by rw [if_neg ec] at k; exact k F r a Q h (Hp.le_refl _) s m ue) fun ec => ?_))
  rw [if_pos ec] at k
  have hall : (∀ x ∈ l, x.length ≤ 4096) ∧ sizeL l ≤ 2097152 ∧ (cntR l).1 = (sizeL l : Nat) := by
    unfold cntR at ec ⊢
    split at ec
    · rename_i h1
      split at ec
      · rename_i h2
        rw [if_pos h1, if_pos h2]
        exact ⟨fun x hx => of_decide_eq_true (List.all_eq_true.1 h1 x hx), h2, rfl⟩
      · simp at ec
    · simp at ec
  have hlay := layR_le (l := l)
  refine c24 rb0 hall.1 (by omega) hn fun a1 h1 o1 => onRet.r o1.sc ?_
  have s1 := s.frz o1.le o1.lo
  have f1 := s.fgrow o1.le
  refine c29 (B := layR l) s1 (m.fmono f1) (o1.frozen byte_flat) hb fun F2 a2 Q2 h2 f2 s2 m2 u2 => onRet.i (c25 s2 m2 fun h3 s3 m3 => onRet.i ?_)
  have f12 := Hp.le_trans f1 f2
  generalize hR : rnR (1 - L.file) (layR l) D 5 = R at *
  by_cases er : R.1 = 0
  · rw [if_pos er] at k
    rw [er] at s3 m3 ⊢
    have u3 : Rest 15 Q (updQ Q2 10 (Hp.one q (lgC dp r { L with dead := !decide ((0 : Int) = 0) }) lo)) := fun j hj => by rw [updQ_ne (by omega)]; exact u2 j hj
    refine onB.neg rfl (c27 (rb.mono (hv F2 _ h3 f12 s3 u3)) hn fun a6 h4 o4 => onRet.r o4.sc ?_)
    obtain ⟨q11, s4, p4⟩ := s3.fresh 11 str_flat o4
    obtain ⟨y0, y1, y2, y3, y4, y5⟩ := lg_word s3 m3.box
    have e10 : updQ (updQ Q2 10 (Hp.one q (lgC dp r { L with dead := !decide ((0 : Int) = 0) }) lo)) 11 q11 10 = Hp.one q (lgC dp r { L with dead := !decide ((0 : Int) = 0) }) lo := by rw [updQ_ne (by omega)]; exact m3.box
    obtain ⟨z0, z1, z2, z3, z4, z5⟩ := lg_word s4 e10
    have hfl := m.file
    have hsub : intO .sub .i64 1 (L.file : Int) = some ((1 - L.file : Nat) : Int) := by
      rw [sub64 (by omega) (by omega)]
      congr 1; omega
    refine onO.mk rfl (onO.mk z3 (onL.i1 ⟨onO.mk y3 z3, ?_⟩))
    refine onO.mk hsub (onO.mk (o1.row.len) ?_)
    rw [hall.2.2]
    refine onO.mk rfl (lg_put s4 e10 m.qlo (i := 1) p4.sc rfl (by omega) fun h6 s6 => ?_)
    refine onO.mk rfl (lg_put (L := { L with dead := false }) (r := a6) (dp := dp) s6 updQ_same m.qlo (i := 2) rfl rfl (by omega) fun h7 s7 => ?_)
    refine onO.mk rfl (lg_put (L := { L with dead := false, size := sizeL l }) (r := a6) (dp := dp) s7 updQ_same m.qlo (i := 3) rfl rfl (by omega) fun h8 s8 => ?_)
    refine onO.mk rfl (lg_put (L := { L with dead := false, size := sizeL l, file := 1 - L.file }) (r := a6) (dp := dp) s8 updQ_same m.qlo (i := 4) rfl rfl (by omega) fun h9 s9 => ?_)
    refine k F2 a6 a2 _ h9 f12 s9 (m3.chg (by rw [updQ_same]; rfl) (by rw [updQ_ne (by omega), updQ_ne (by omega), updQ_ne (by omega), updQ_ne (by omega), updQ_same]; exact p4) (fun j j1 j2 => by rw [updQ_ne j1, updQ_ne j1, updQ_ne j1, updQ_ne j1, updQ_ne j2]) (by show 1 - L.file < 2; omega)) fun j hj => ?_
    rw [updQ_ne (by omega), updQ_ne (by omega), updQ_ne (by omega), updQ_ne (by omega), updQ_ne (by omega), updQ_ne (by omega)]; exact u2 j hj
  · rw [if_neg er] at k
    have ed : (!decide (R.1 = 0)) = true := by simp [er]
    rw [ed] at s3 m3
    exact onB.pos ed (k F2 r a2 _ h3 f12 s3 m3 fun j hj => by rw [updQ_ne (by omega)]; exact u2 j hj)
end
def nextL (r : List (List Nat)) (act : Int) (x : List Nat) (l : List (List Nat)) : List (List Nat) × Int :=
  if withinI act 7 = 4 then (if (cntR l).2 = 0 then (l, 0) else (r, (cntR l).2)) else if withinI act 7 = 5 ∨ withinI act 7 = 6 then (r, 0)
  else if 4096 < x.length then (r, 1) else if 2097152 < sizeL r + x.length + 16 then (r, 5) else (r ++ [x], 0)
def doesL (D : Dk) (L : Lg) (act : Int) (x : List Nat) (l : List (List Nat)) : Int × Dk × Lg :=
  if withinI act 7 = 4 then rstL D L l else if withinI act 7 = 5 ∨ withinI act 7 = 6 then syncL D L else appL D L x
section
variable {lo q dp : Nat} {F F' g h h' : Hp} {Q Q' : Nat → Hp} {a a' : Nat → AV} {r r' b b2 b3 : AV} {L L' : Lg} {E : Dk} {Post : AV → Hp → Prop} {n : Int} {l m : List (List Nat)} {x : List Nat}
theorem c17 {css : List (List AV)} (f : Fresh g h b 1 css) (hb : css.length < 31000000) (k : ∀ h', g.le h' → h'.lo = g.lo → Post (.tup []) h') : wpC Try.prog 17 [b] Post h := by
  refine call_sound (args := [.vv b]) (cuts := []) ⟨f.row.sc, trivial⟩ ?_
  rw [vc17]
  refine ⟨fun m i h' => ∃ (k : Nat) (css' : List (List AV)), i = k ∧ k ≤ css.length ∧ m = css.length - k ∧ css'.length = css.length ∧ Fresh g h' b 1 css', ⟨_, 0, css, rfl, by omega, rfl, rfl, f⟩, ?_⟩
  rintro m h0 _ ⟨j, css', rfl, hj, rfl, hl, f'⟩
  refine onO.mk f'.row.len (onB.dec (fun e => ?_) (fun e => ?_))
  · obtain ⟨c, hc⟩ := get_lt (l := css') (k := j) (by omega)
    exact f'.set hc 0 (new := [.s [63]]) (by simp) rfl fun h2 f2 => onO.mk (inc64 (by omega)) ⟨_, by show css.length - (j + 1) < css.length - j; omega, j + 1, _, rfl, by omega, rfl, by rw [List.length_set, hl], f2⟩
  · exact fun _ => f'.app (n := 1) (css2 := [[.s [63]]]) (src := .lit [.s [63]]) (by simp [srcH]) (fun c hc => by simp at hc; subst hc; rfl) rfl rfl (by omega) fun r h2 f2 => onO.mk rfl (k _ f2.le f2.lo)
theorem c130p {i : Nat} (s : Sep lo F Q h) (e : PK Kn.str lo (Q i) b l) (hb : l.length < 31000000) (k : ∀ h', Sep lo F (updQ Q i (Hp.none lo)) h' → Post (.tup []) h') : wpC Try.prog 17 [b] Post h := by
  obtain ⟨p, css, p1, p2, f, p3⟩ := s.own str_flat e
  exact c17 f (by rw [← p3.length]; exact hb) fun h' l1 l2 => k h' (s.forget i (Hp.le_trans p1 l1) (l2.trans (p2.trans s.hlo)))
theorem c30 (ra : SR h b l) (hl : l.length ≤ 140737488351232) (k : ∀ n : Int, 0 ≤ n → n ≤ 281474978000000 → (n ≤ 40000 → l.length ≤ 40000 ∧ ∀ x ∈ l, x.length ≤ 40000) → Post (.i .i64 n) h) : wpC Try.prog 30 [b] Post h := by
  refine call_sound (args := [.vv b]) (cuts := []) ⟨ra.sc, trivial⟩ ?_
  rw [vc30]
  refine onO.mk ra.len ⟨fun m n0 n1 h' => ∃ j : Nat, n1 = j ∧ j ≤ l.length ∧ m = l.length - j ∧ h' = h ∧ (l.length : Int) ≤ n0 ∧ n0 ≤ 281474978000000 ∧ ∀ x ∈ l.take j, (x.length : Int) ≤ n0, ⟨_, 0, rfl, by omega, rfl, rfl, by omega, by omega, fun x hx => by simp at hx⟩, ?_⟩
  rintro m h0 n0 _ ⟨j, rfl, hj, rfl, rfl, hn, hn2, hx0⟩
  refine onO.mk ra.len (onB.dec (fun e => onB.dec (fun e2 => ?_) fun e2 => ?_) fun e => ?_)
  · obtain ⟨x, hx⟩ := get_lt (l := l) (k := j) (by omega)
    refine str0 ra hx fun w2 _ => onO.mk (add64 (by omega) (by omega)) (onO.mk (inc64b (by omega)) ⟨_, by show l.length - (j + 1) < l.length - j; omega, j + 1, rfl, by omega, rfl, rfl, by omega, by omega, fun y hy => ?_⟩)
    rw [take_succ' hx] at hy
    rcases List.mem_append.1 hy with hy | hy
    · have := hx0 y hy; omega
    · simp at hy; subst hy; omega
  · exact k n0 (by omega) hn2 fun h => absurd h (by omega)
  · refine k n0 (by omega) hn2 fun h => ⟨by omega, fun x hx => ?_⟩
    have : l.take j = l := List.take_of_length_le (by omega)
    have := hx0 x (by rw [this]; exact hx)
    omega
end
section
variable {lo q dp : Nat} {F F' g h h' : Hp} {Q Q' : Nat → Hp} {a a' : Nat → AV} {r r' b c b2 b3 : AV} {L L' : Lg} {E : Dk} {Post : AV → Hp → Prop} {n : Int} {l m : List (List Nat)} {x : List Nat}
theorem do_cells {acts : List D.LogDo} {z : D.LogDo} (ra : D.kLogDo.Row h b acts) {j : Nat} (hx : acts[j]? = some z) :
    ∃ bb oo r1 r2, idxV b (j : Int) 4 = some (bb, oo) ∧ rdH h bb oo 4 = some [.i .i64 z.act, .s z.s, r1, r2] ∧ SR h r1 z.l ∧ z.l.length ≤ 140737488351232 ∧ Kn.int.Row h r2 z.picks ∧ z.picks.length ≤ 140737488351232 ∧ In64 z.act ∧ z.s.length ≤ 140737488351232 ∧ Bytes8 z.s := by
  obtain ⟨bb, oo, cc, e1, e2, e3⟩ := ra.idx (i := (j : Int)) (x := z) (Int.natCast_nonneg j) (by simpa using hx)
  obtain ⟨a0, a1, rfl, f0, ⟨f1, f2⟩, ⟨f3, f4⟩, f5, f6⟩ := D.kLogDo_open e3
  exact ⟨bb, oo, a0, a1, e1, e2, f3, by omega, f5, by omega, f0, f1, f2⟩
theorem onL.ldo {m : Int} {x : List Nat} {r1 r2 : AV} (h1 : r1.sc = true) (h2 : r2.sc = true) {K : Int → List Nat → AV → AV → Prop} (k : K m x r1 r2) : onL [Kd.int .i64, Kd.str, Kd.ref, Kd.ref] [.i .i64 m, .s x, r1, r2] K :=
  onRef.mk (K := fun y => onL [Kd.ref] [r2] (K m x y)) h1 (onRef.mk (K := K m x r1) h2 k)
theorem c14 {acts : List D.LogDo} {offs : List Int} (ra : D.kLogDo.Row h b acts) (ha : acts.length ≤ 140737488351232) (rc : Kn.int.Row h c offs)
    (k1 : Post (.b true) h) (k2 : (∀ z ∈ acts, z.s.length ≤ 40000 ∧ z.l.length ≤ 40000 ∧ (∀ x ∈ z.l, x.length ≤ 40000) ∧ z.picks.length ≤ 40000) → offs.length ≤ 20 → acts.length ≤ 200 → Post (.b false) h) : wpC Try.prog 14 [.agg [b, c]] Post h := by
  refine call_sound (args := [.ag [.vv b, .vv c]]) (cuts := []) ⟨⟨ra.sc, rc.sc, trivial⟩, trivial⟩ ?_
  rw [vc14]
  intro _
  refine ⟨fun m n1 n2 h' => ∃ j : Nat, n2 = j ∧ j ≤ acts.length ∧ m = acts.length - j ∧ h' = h ∧ 0 ≤ n1 ∧ n1 ≤ 1125899906842624 ∧ ∀ z ∈ acts.take j, (z.s.length : Int) ≤ n1 ∧ (n1 ≤ 40000 → z.l.length ≤ 40000 ∧ ∀ x ∈ z.l, x.length ≤ 40000) ∧ (z.picks.length : Int) ≤ n1, ⟨_, 0, rfl, by omega, rfl, rfl, by omega, by omega, fun x hx => by simp at hx⟩, ?_⟩
  rintro m hh n1 _ ⟨j, rfl, hj, rfl, rfl, hn, hn2, hx0⟩
  have fin : ¬ ((j : Int) < (acts.length : Nat)) ∨ ¬ n1 < 1048576 → onB (decide (40000 < n1)) (Post (AV.b true) hh) (onO (lenV c) fun p6 => onB (decide ((20 : Int) < ↑p6)) (Post (AV.b true) hh) (onO (lenV b) fun p7 => Post (AV.b (decide ((200 : Int) < ↑p7))) hh)) := fun e => by
    refine onB.dec (fun _ => k1) fun e2 => onO.mk rc.len (onB.dec (fun _ => k1) fun e4 => onO.mk ra.len ?_)
    by_cases e3 : (200 : Int) < (acts.length : Nat)
    · rw [decide_eq_true e3]; exact k1
    · rw [decide_eq_false e3]
      refine k2 (fun z hz => ?_) (by omega) (by omega)
      have : acts.take j = acts := List.take_of_length_le (by omega)
      obtain ⟨q1, q2, q3⟩ := hx0 z (by rw [this]; exact hz)
      exact ⟨by omega, (q2 (by omega)).1, (q2 (by omega)).2, by omega⟩
  refine onO.mk ra.len (onB.dec (fun e => onB.dec (fun e2 => ?_) fun e2 => fin (.inr e2)) fun e => fin (.inl e))
  obtain ⟨z, hz⟩ := get_lt (l := acts) (k := j) (by omega)
  obtain ⟨bb, oo, r1, r2, e3, e4, w1, w2, w3, w4, _, w5, w6⟩ := do_cells ra hz
  refine onO.mk e3 (onO.mk (rdH_sub e4 (o' := 1) (n' := 1) rfl) (onL.s1 (onO.mk (add64 (by omega) (by omega)) ?_)))
  refine onO.mk e3 (onO.mk (rdH_sub e4 (o' := 2) (n' := 1) rfl) (onL.r1 w1.sc (c30 w1 w2 fun n3 g1 g2 g3 => onRet.i ⟨onO.mk (rdH_sub e4 (o' := 1) (n' := 1) rfl) (rdH_sub e4 (o' := 1) (n' := 1) rfl), ?_⟩)))
  refine onO.mk (add64 (by omega) (by omega)) (onO.mk e3 (onO.mk (rdH_sub e4 (o' := 3) (n' := 1) rfl) (onL.r1 w3.sc ⟨onO.mk (rdH_sub e4 (o' := 3) (n' := 1) rfl) (rdH_sub e4 (o' := 3) (n' := 1) rfl), ?_⟩)))
  refine onO.mk w3.len (onO.mk (add64 (by omega) (by omega)) (onO.mk (inc64b (by omega)) ⟨_, by show acts.length - (j + 1) < acts.length - j; omega, j + 1, rfl, by omega, rfl, rfl, by omega, by omega, fun y hy => ?_⟩))
  rw [take_succ' hz] at hy
  rcases List.mem_append.1 hy with hy | hy
  · obtain ⟨q1, q2, q3⟩ := hx0 y hy
    exact ⟨by omega, fun hq => q2 (by omega), by omega⟩
  · simp at hy; subst hy
    exact ⟨by omega, fun hq => g3 (by omega), by omega⟩
theorem sizeL_le {k : Nat} : ∀ {l : List (List Nat)}, (∀ x ∈ l, x.length ≤ k) → sizeL l ≤ l.length * (k + 16)
  | [], _ => Nat.zero_le _
  | x :: l, h => by
    have h1 := h x (by simp)
    have h2 := sizeL_le (l := l) fun y hy => h y (by simp [hy])
    rw [sizeL_cons, List.length_cons, Nat.succ_mul]; omega
/-- what records are behind an act -/
theorem c15 {act : Int} (s : Sep lo F Q h) (ra : SR F b l) (rl : SR F b2 m) (rp : b3.sc = true) (hl : sizeL l ≤ 2097152) (hl2 : l.length < 30000000) (hm : m.length ≤ 40000) (hm2 : ∀ y ∈ m, y.length ≤ 40000) (hx : x.length ≤ 40000) (hx8 : Bytes8 x)
    (k : ∀ r' F' h', F.le F' → Sep lo F' Q h' → SR F' r' (nextL l act x m).1 → Post (.tup [r', .i .i64 (nextL l act x m).2]) h') : wpC Try.prog 15 [b, .agg [.i .i64 act, .s x, b2, b3]] Post h := by
  refine call_sound (args := [.vv b, .ag [.ii .i64 act, .ss x, .vv b2, .vv b3]]) (cuts := []) ⟨ra.sc, ⟨trivial, trivial, rl.sc, rp, trivial⟩, trivial⟩ ?_
  rw [vc15]
  intro _
  unfold nextL at k
  have hsz := sizeL_le hm2
  have hsz2 : m.length * (40000 + 16) ≤ 40000 * 40016 := Nat.mul_le_mul hm (Nat.le_refl _)
  have app : ¬ (withinI act 7 = 4) → ¬ (withinI act 7 = 5 ∨ withinI act 7 = 6) → onB (decide ((4096 : Int) < ↑x.length)) (Post (AV.tup [b, AV.i IntKind.i64 1]) h)
      (wpC Try.prog 31 [b] (fun a5 h4 => onRet [Sh.one (Kd.int IntKind.i64)] a5 fun n5 => onO (intO BinOp.sub IntKind.i64 2097152 ↑x.length) fun n6 => onO (intO BinOp.sub IntKind.i64 n6 16) fun n7 => onB (decide (n7 < n5)) (Post (AV.tup [b, AV.i IntKind.i64 5]) h4)
        (wpC Try.prog 32 [b] (fun a6 h5 => onRet [Sh.one Kd.ref] a6 fun a7 => ∀ (p5 : Nat), wpE (Eff.app a7 1 (Src.lit [AV.s x]) 1) (fun x0 h6 => onO x0 fun a8 => Post (AV.tup [a8, AV.i IntKind.i64 0]) h6) h5) h4)) h) := by
    intro lc1 lc2
    rw [if_neg lc1, if_neg lc2] at k
    refine onB.dec (fun c => by rw [if_pos (by omega)] at k; exact k b F h (Hp.le_refl _) s ra) fun c => ?_
    rw [if_neg (by omega)] at k
    refine c31 (ra.mono s.fle) (by omega) (by omega) (onRet.i (onO.mk (sub64 (by omega) (by omega)) (onO.mk (sub64 (by omega) (by omega)) (onB.dec (fun c => ?_) fun c => ?_))))
    · rw [if_pos (by omega)] at k; exact k b F h (Hp.le_refl _) s ra
    rw [if_neg (by omega)] at k
    refine c32 (ra.mono s.fle) (by omega) fun r1 h1 o1 => onRet.r o1.sc fun _ => o1.app1 (x := x) rfl str_flat ⟨rfl, by omega, hx8⟩ (by omega) fun r2 h2 o2 => onO.mk rfl (k r2 _ h2 (s.fgrow o2.le) (s.frz o2.le o2.lo) (o2.frozen str_flat))
  refine c51w (by omega) (by omega) (onRet.i (onB.dec (fun c => ?_) fun c => ?_))
  · rw [if_pos c] at k
    have rl0 := rl.mono s.fle
    refine ⟨fun mm a1 n1 n2 h' => ∃ j : Nat, n2 = j ∧ j ≤ m.length ∧ mm = m.length - j ∧ h' = h ∧ (m.take j).all (fun s => decide (s.length ≤ 4096)) = true, ⟨_, 0, rfl, by omega, rfl, rfl, rfl⟩, ?_⟩
    rintro mm h1 a1 _ n1 _ ⟨j, rfl, hj, rfl, rfl, hall⟩
    refine onO.mk rl0.len (onB.dec (fun e => ?_) fun e => ?_)
    · obtain ⟨y, hy⟩ := get_lt (l := m) (k := j) (by omega)
      refine str0 rl0 hy fun _ _ => onB.dec (fun e2 => ?_) fun e2 => ?_
      · have : m.all (fun s => decide (s.length ≤ 4096)) = false := by
          rw [List.all_eq_false]
          exact ⟨y, List.mem_of_getElem? hy, by simp; omega⟩
        have hc : (cntR m).2 = 1 := by unfold cntR; rw [if_neg (by rw [this]; simp)]
        rw [if_neg (by rw [hc]; omega), hc] at k
        exact k b F h1 (Hp.le_refl _) s ra
      · exact onO.mk (inc64 (by omega)) ⟨_, by show m.length - (j + 1) < m.length - j; omega, j + 1, rfl, by omega, rfl, rfl, by rw [take_succ' hy, List.all_append, hall]; simp; omega⟩
    · rw [List.take_of_length_le (by omega)] at hall
      refine c31 rl0 (by omega) (by omega) (onRet.i (onB.dec (fun e2 => ?_) fun e2 => ?_))
      · have hc : (cntR m).2 = 5 := by unfold cntR; rw [if_pos hall, if_neg (by omega)]
        rw [if_neg (by rw [hc]; omega), hc] at k
        exact k b F h1 (Hp.le_refl _) s ra
      · have hc : (cntR m).2 = 0 := by unfold cntR; rw [if_pos hall, if_pos (by omega)]
        rw [if_pos hc] at k
        exact c32 rl0 (by omega) fun r1 h2 o1 => onRet.r o1.sc (k r1 _ h2 (s.fgrow o1.le) (s.frz o1.le o1.lo) (o1.frozen str_flat))
  · refine onB.dec (fun lc5 => onB.dec (fun _ => ?_) fun lc6 => absurd lc5 lc6) fun lc5 => onB.dec (fun lc6 => ?_) fun lc6 => app c (by omega)
    · rw [if_neg c, if_pos (.inl lc5)] at k; exact k b F h (Hp.le_refl _) s ra
    · rw [if_neg c, if_pos (.inr lc6)] at k; exact k b F h (Hp.le_refl _) s ra
theorem c16 {act : Int} (s : Sep lo F Q h) (mm : LgM lo F Q q dp r a E L) (rl : SR F b2 m) (rp : b3.sc = true) (hb : Few E 30000000) (hm : m.length ≤ 40000) (hx : x.length ≤ 40000) (hx8 : Bytes8 x) (hs : L.size ≤ 2097152) (hp : L.pos ≤ 4194304) (hl : L.l.length < 31000000)
    (k : ∀ F' r' a' Q' h', F.le F' → Sep lo F' Q' h' → LgM lo F' Q' q dp r' a' (doesL E L act x m).2.1 (doesL E L act x m).2.2 → Rest 16 Q Q' → Post (.i .i64 (doesL E L act x m).1) h') : wpC Try.prog 16 [.p q 0, .agg [.i .i64 act, .s x, b2, b3]] Post h := by
  refine call_sound (args := [.vv (.p q 0), .ag [.ii .i64 act, .ss x, .vv b2, .vv b3]]) (cuts := []) ⟨rfl, ⟨trivial, trivial, rl.sc, rp, trivial⟩, trivial⟩ ?_
  rw [vc16]
  intro _
  unfold doesL at k
  have up : ∀ {Q' : Nat → Hp}, Upd 0 12 Q Q' → Rest 16 Q Q' := fun u j hj => u j (by omega)
  refine c51w (by omega) (by omega) (onRet.i (onB.dec (fun c => ?_) fun c => ?_))
  · rw [if_pos c] at k
    refine c32 (rl.mono s.fle) (by omega) fun r1 h1 o1 => onRet.r o1.sc ?_
    obtain ⟨qi, s1, p1⟩ := s.fresh 15 str_flat o1
    have m1 : LgM lo F (updQ Q 15 qi) q dp r a E L := ⟨by rw [updQ_ne (by omega)]; exact mm.box, mm.qlo, by rw [updQ_ne (by omega)]; exact mm.row, mm.dk.same fun j _ _ => updQ_ne (by omega), mm.file⟩
    have p15 : PK Kn.str lo (updQ Q 15 qi 15) r1 m := by rw [updQ_same]; exact p1
    refine c11 (V := updQ Q 15 qi 15) s1 m1 (fun F' Q' h' _ s' u' => by rw [← u' 15 (by omega)]; exact s'.le 15) (p15.row (Hp.le_refl _)) hb (by omega) fun F2 r2 a2 Q2 h2 f2 s2 m2 u2 => onRet.i (c8 (onRet.i ?_))
    refine c130p (i := 15) s2 (by rw [u2 15 (by omega)]; exact p15) (by omega) fun h3 s3 => onTup.z (k F2 r2 a2 _ h3 f2 s3 ?_ fun j hj => by rw [updQ_ne (by omega), u2 j (by omega), updQ_ne (by omega)])
    exact ⟨by rw [updQ_ne (by omega)]; exact m2.box, m2.qlo, by rw [updQ_ne (by omega)]; exact m2.row, m2.dk.same fun j _ _ => updQ_ne (by omega), m2.file⟩
  · have sy : withinI act 7 = 5 ∨ withinI act 7 = 6 → wpC Try.prog 21 [.p q 0] (fun a6 h5 => onRet [Sh.one (Kd.int IntKind.i64)] a6 fun n3 => wpC Try.prog 8 [AV.i IntKind.i64 n3] (fun a7 h6 => onRet [Sh.one (Kd.int IntKind.i64)] a7 fun n4 => Post (AV.i IntKind.i64 n4) h6) h5) h := fun e => by
      rw [if_neg c, if_pos e] at k
      exact c21 s mm (hb.mono (by omega)) fun a2 Q2 h2 s2 m2 u2 => onRet.i (c8 (onRet.i (k F r a2 Q2 h2 (Hp.le_refl _) s2 m2 (up u2))))
    have ap : ¬ (withinI act 7 = 5 ∨ withinI act 7 = 6) → wpC Try.prog 9 [.p q 0, .s x] (fun a6 h5 => onRet [Sh.one (Kd.int IntKind.i64)] a6 fun n3 => wpC Try.prog 8 [AV.i IntKind.i64 n3] (fun a7 h6 => onRet [Sh.one (Kd.int IntKind.i64)] a7 fun n4 => Post (AV.i IntKind.i64 n4) h6) h5) h := fun e => by
      rw [if_neg c, if_neg e] at k
      exact c9 s mm (hb.mono (by omega)) hx8 (by omega) hs hp hl fun F2 r2 a2 Q2 h2 f2 s2 m2 u2 => onRet.i (c8 (onRet.i (k F2 r2 a2 Q2 h2 f2 s2 m2 (up u2))))
    exact onB.dec (fun lc5 => onB.dec (fun _ => sy (.inl lc5)) fun lc6 => absurd lc5 lc6) fun lc5 => onB.dec (fun lc6 => sy (.inr lc6)) fun lc6 => ap (by omega)
end
/-! ### files -/
theorem fileD_set {D : Dk} (hl : D.f.length = 3) {n m : Nat} (hm : m < 3) {g : DFile} : fileD { D with f := D.f.set n g } (m : Nat) = if m = n then g else fileD D (m : Nat) := by
  unfold fileD
  rw [Int.toNat_natCast]
  show (D.f.set n g)[m]?.getD _ = _
  by_cases e : m = n
  · subst e
    rw [if_pos rfl, List.getElem?_set_self (by omega)]; rfl
  · rw [if_neg e, List.getElem?_set_ne (Ne.symm e)]
theorem call_eq {D : Dk} : (callD D).f = D.f ∧ (callD D).armed = D.armed ∧ ((callD D).off = D.off ∨ D.armed = true) := by
  unfold callD
  split
  · rename_i h
    exact ⟨rfl, rfl, .inr h.1⟩
  · exact ⟨rfl, rfl, .inl rfl⟩
theorem ask_off {D : Dk} {n : Nat} (hn : n < 3) : askR D (n : Nat) = if D.off = true then 10 else 0 := by
  unfold askR
  split
  · rfl
  · rw [if_neg (by omega), if_neg (by omega)]
/-- a call that counts: done, or the power went -/
theorem call_cases {D : Dk} {n : Nat} (hn : n < 3) (ho : D.off = false) : (askR (callD D) (n : Nat) = 0 ∧ (callD D).off = false) ∨ (askR (callD D) (n : Nat) = 10 ∧ D.armed = true) := by
  obtain ⟨_, _, h3⟩ := call_eq (D := D)
  rw [ask_off hn]
  cases hc : (callD D).off with
  | true =>
    rcases h3 with h3 | h3
    · rw [hc, ho] at h3; cases h3
    · exact .inr ⟨rfl, h3⟩
  | false => exact .inl ⟨rfl, rfl⟩
/-- the outcomes of a file -/
def outs (f : DFile) (x : List Nat) : Prop := ∃ p ps, p ≤ f.ops.length ∧ x = (tornF f p ps).1
theorem crash_outs {f : DFile} {ps : List Int} : outs f (crashF f ps).1 := ⟨_, _, by have := nextP_lt (ps := ps) (n := f.ops.length + 1) (by omega); omega, rfl⟩
theorem outs_nil {k x : List Nat} (h : outs ⟨k, []⟩ x) : x = k := by
  obtain ⟨p, ps, h1, h2⟩ := h
  rw [h2]
  simp [tornF]
theorem outs_seen {f : DFile} : outs f f.seen := ⟨f.ops.length, [], Nat.le_refl _, by
  unfold tornF
  rw [List.getElem?_eq_none (Nat.le_refl _), List.take_length]; rfl⟩
theorem torn_none {f : DFile} {p : Nat} {ps : List Int} (h : f.ops[p]? = none) : (tornF f p ps).1 = (f.ops.take p).foldl doF f.kept := by unfold tornF; rw [h]
theorem torn_cut {f : DFile} {p : Nat} {ps : List Int} {o : DOp} (h : f.ops[p]? = some o) (c : o.cut = true) : (tornF f p ps).1 = (f.ops.take p).foldl doF f.kept := by unfold tornF; rw [h]; simp only [c, if_true]
theorem torn_put {f : DFile} {p : Nat} {ps : List Int} {o : DOp} (h : f.ops[p]? = some o) (c : o.cut = false) : (tornF f p ps).1 = doF ((f.ops.take p).foldl doF f.kept) ⟨false, o.pos, o.b.take (nextP ps (o.b.length + 1)).1⟩ := by unfold tornF; rw [h]; simp only [c, Bool.false_eq_true, if_false]
theorem outs_snoc {k : List Nat} {os : List DOp} {o : DOp} {x : List Nat} (h : outs ⟨k, os ++ [o]⟩ x) : outs ⟨k, os⟩ x ∨ x = doF (os.foldl doF k) o ∨ (o.cut = false ∧ ∃ m, m ≤ o.b.length ∧ x = doF (os.foldl doF k) ⟨false, o.pos, o.b.take m⟩) := by
  obtain ⟨p, ps, h1, h2⟩ := h
  have h1 : p ≤ os.length + 1 := by simpa using h1
  by_cases e : p < os.length
  · left
    refine ⟨p, ps, by show p ≤ os.length; omega, ?_⟩
    rw [h2]
    have ht : (os ++ [o]).take p = os.take p := List.take_append_of_le_length (by omega)
    obtain ⟨y, hy⟩ := get_lt (l := os) (k := p) e
    have hy2 : (os ++ [o])[p]? = some y := by rw [List.getElem?_append_left e]; exact hy
    cases hc : y.cut with
    | true =>
      rw [torn_cut (f := ⟨k, os ++ [o]⟩) hy2 hc, torn_cut (f := ⟨k, os⟩) hy hc]
      show ((os ++ [o]).take p).foldl doF k = (os.take p).foldl doF k
      rw [ht]
    | false =>
      rw [torn_put (f := ⟨k, os ++ [o]⟩) hy2 hc, torn_put (f := ⟨k, os⟩) hy hc]
      show doF (((os ++ [o]).take p).foldl doF k) _ = doF ((os.take p).foldl doF k) _
      rw [ht]
  · by_cases e2 : p = os.length
    · subst e2
      have hg : (os ++ [o])[os.length]? = some o := by simp
      have ht : (os ++ [o]).take os.length = os := by simp
      cases hc : o.cut with
      | true =>
        left
        rw [h2, torn_cut (f := ⟨k, os ++ [o]⟩) hg hc]
        show outs ⟨k, os⟩ (((os ++ [o]).take os.length).foldl doF k)
        rw [ht]; exact outs_seen (f := ⟨k, os⟩)
      | false =>
        right; right
        refine ⟨rfl, (nextP ps (o.b.length + 1)).1, by have := nextP_lt (ps := ps) (n := o.b.length + 1) (by omega); omega, ?_⟩
        rw [h2, torn_put (f := ⟨k, os ++ [o]⟩) hg hc]
        show doF (((os ++ [o]).take os.length).foldl doF k) _ = _
        rw [ht]
    · right; left
      have e3 : p = os.length + 1 := by omega
      subst e3
      rw [h2, torn_none (f := ⟨k, os ++ [o]⟩) (by show (os ++ [o])[os.length + 1]? = none; exact List.getElem?_eq_none (by simp))]
      show ((os ++ [o]).take (os.length + 1)).foldl doF k = _
      rw [List.take_of_length_le (by simp), List.foldl_append]; rfl
theorem three_of {α : Type} {l : List α} (h : l.length = 3) : ∃ a b c, l = [a, b, c] := by
  match l, h with
  | [a, b, c], _ => exact ⟨a, b, c, rfl⟩
theorem crash_three {D : Dk} (hl : D.f.length = 3) (ps : List Int) : ∃ x0 x1 x2, crashL D.f ps = [x0, x1, x2] ∧ outs (fileD D (0 : Nat)) x0 ∧ outs (fileD D (1 : Nat)) x1 ∧ outs (fileD D (2 : Nat)) x2 := by
  obtain ⟨a, b, c, e⟩ := three_of hl
  unfold fileD
  rw [e]
  exact ⟨_, _, _, rfl, crash_outs, crash_outs, crash_outs⟩
/-! ### what is opened -/
def recOf (x0 x1 x2 : List Nat) : List (List Nat) := (scanL (if mkOf x2 = 0 then x0 else x1)).1
abbrev Recs := List (List Nat)
def AllC (D : Dk) (C : Recs → Prop) : Prop := ∀ x0 x1 x2, outs (fileD D (0 : Nat)) x0 → outs (fileD D (1 : Nat)) x1 → outs (fileD D (2 : Nat)) x2 → C (recOf x0 x1 x2)
theorem AllC.mono {D : Dk} {C C' : Recs → Prop} (h : AllC D C) (i : ∀ r, C r → C' r) : AllC D C' := fun x0 x1 x2 h0 h1 h2 => i _ (h x0 x1 x2 h0 h1 h2)
theorem AllC.same {D D' : Dk} {C : Recs → Prop} (h : AllC D C) (e : D'.f = D.f) : AllC D' C := by
  have ef : ∀ n : Int, fileD D' n = fileD D n := fun n => by unfold fileD; rw [e]
  intro x0 x1 x2 h0 h1 h2
  rw [ef] at h0 h1 h2
  exact h x0 x1 x2 h0 h1 h2
/-- by the file that is said, if the mark is known -/
theorem allC_of {D : Dk} {C : Recs → Prop} {fl : Nat} (hf : fl < 2) (h : ∀ x2, outs (fileD D (2 : Nat)) x2 → mkOf x2 = fl) (g : ∀ x, outs (fileD D (fl : Nat)) x → C (scanL x).1) : AllC D C := by
  intro x0 x1 x2 h0 h1 h2
  have hm := h x2 h2
  unfold recOf
  rw [hm]
  match fl, hf with
  | 0, _ => exact g x0 h0
  | 1, _ => exact g x1 h1
def okRs (r : Recs) : Prop := (∀ s ∈ r, s.length ≤ 4096 ∧ Bytes8 s) ∧ sizeL r ≤ 2097152
structure InvC (D : Dk) (L : Lg) (r : Recs) (N : Nat) (C : Recs → Prop) : Prop where
  off : D.off = false
  len : D.f.length = 3
  lg : L = ⟨r, sizeL r, L.file, (layR r).length, false⟩
  file : L.file < 2
  seen : (fileD D (L.file : Nat)).seen = layR r
  ok : okRs r
  mark : ∃ mk, fileD D (2 : Nat) = ⟨mk, []⟩ ∧ mkOf mk = L.file ∧ mk.length ≤ N
  can : ∀ x, outs (fileD D (L.file : Nat)) x → C (scanL x).1
theorem InvC.all {D : Dk} {L : Lg} {r : Recs} {N : Nat} {C : Recs → Prop} (i : InvC D L r N C) : AllC D C := by
  obtain ⟨mk, m1, m2, _⟩ := i.mark
  refine allC_of i.file (fun x2 h => ?_) i.can
  rw [m1] at h
  rw [outs_nil h, m2]
theorem InvC.now {D : Dk} {L : Lg} {r : Recs} {N : Nat} {C : Recs → Prop} (i : InvC D L r N C) : C r := by
  have := i.can _ outs_seen
  rw [i.seen, scan_all i.ok.1] at this
  exact this
/-- the power went -/
structure DeadC (D : Dk) (L : Lg) (r : Recs) (C : Recs → Prop) : Prop where
  len : D.f.length = 3
  dead : L.dead = true
  l : L.l = r
  all : AllC D C
theorem layR_len8 {r : Recs} (h : okRs r) : (layR r).length ≤ 2097152 := Nat.le_trans layR_le h.2
section
variable {D : Dk} {L : Lg} {r : Recs} {N : Nat} {C C' : Recs → Prop} {x : List Nat}
theorem callD_fileD {n : Int} : fileD (callD D) n = fileD D n := callD_file
theorem appL_c (i : InvC D L r N C) (hx : x.length ≤ 4096) (hx8 : Bytes8 x) (hs : sizeL r + x.length + 16 ≤ 2097152) (hC : ∀ y, C y → C' y) (hn : C' (r ++ [x])) :
    ((appL D L x).1 = 0 ∧ InvC (appL D L x).2.1 (appL D L x).2.2 (r ++ [x]) N C' ∧ (appL D L x).2.1.armed = D.armed) ∨ ((appL D L x).1 = 10 ∧ D.armed = true ∧ DeadC (appL D L x).2.1 (appL D L x).2.2 r C) := by
  have hlg := i.lg
  have hfl := i.file
  have iseen := i.seen
  have ican := i.can
  have imark := i.mark
  generalize hfile : L.file = fl at *
  have hdead : L.dead = false := by rw [hlg]
  have hsize : L.size = sizeL r := by rw [hlg]
  have hpos : L.pos = (layR r).length := by rw [hlg]
  have hlay := layR_len8 i.ok
  have hll : (lay1 x).length = 8 + x.length := lay1_len
  unfold appL
  rw [if_neg (by rw [hdead]; simp), if_neg (by omega), if_neg (by rw [hsize]; omega), hpos, hfile]
  have hseen : (fileD (callD D) (fl : Nat)).seen = layR r := by rw [callD_fileD]; exact iseen
  have happ : doF (layR r) ⟨false, (layR r).length, lay1 x⟩ = layR (r ++ [x]) := by
    rw [doF_put rfl]
    show (layR r).take (layR r).length ++ (lay1 x ++ (layR r).drop ((layR r).length + (lay1 x).length)) = _
    rw [List.take_length, List.drop_of_length_le (by omega), List.append_nil, layR_app, layR_one]
  rcases call_cases (n := fl) (by omega) i.off with ⟨ha, ho⟩ | ⟨ha, har⟩
  · left
    have hw : writeR D (fl : Nat) ((layR r).length : Nat) (lay1 x) = (0, putD (callD D) (fl : Nat) ⟨false, (layR r).length, lay1 x⟩) := by
      unfold writeR
      rw [if_pos ha, if_neg (by rw [hseen]; omega)]
      rfl
    rw [hw, if_pos rfl]
    have hlen : (callD D).f.length = 3 := by rw [callD_f]; exact i.len
    have hfd : ∀ m : Nat, m < 3 → fileD (putD (callD D) (fl : Nat) ⟨false, (layR r).length, lay1 x⟩) (m : Nat) = if m = fl then ⟨(fileD D (fl : Nat)).kept, (fileD D (fl : Nat)).ops ++ [⟨false, (layR r).length, lay1 x⟩]⟩ else fileD D (m : Nat) := fun m hm => by
      unfold putD
      rw [Int.toNat_natCast, fileD_set hlen hm, callD_fileD, callD_fileD]
    obtain ⟨mk, m1, m2, m3⟩ := imark
    refine ⟨rfl, ⟨ho, by show ((callD D).f.set _ _).length = 3; rw [List.length_set]; exact hlen, ?_, hfl, ?_, ⟨fun s hs' => ?_, by rw [sizeL_app]; simp [sizeL] at hs ⊢; omega⟩, ⟨mk, ?_, m2, m3⟩, fun y hy => ?_⟩, (call_eq (D := D)).2.1⟩
    · show (⟨L.l ++ [x], L.size + x.length + 16, fl, (layR r).length + 8 + x.length, false⟩ : Lg) = ⟨r ++ [x], sizeL (r ++ [x]), fl, (layR (r ++ [x])).length, false⟩
      rw [hsize, show L.l = r by rw [hlg], sizeL_app, layR_app, layR_one, List.length_append, hll]
      simp only [sizeL, List.map_cons, List.map_nil, List.sum_cons, List.sum_nil]
      congr 1; omega
    · show (fileD (putD _ _ _) (fl : Nat)).seen = _
      rw [hfd fl (by omega), if_pos rfl, seen_snoc, iseen, happ]
    · rcases List.mem_append.1 hs' with h | h
      · exact i.ok.1 s h
      · simp at h; subst h; exact ⟨hx, hx8⟩
    · show fileD (putD _ _ _) (2 : Nat) = _
      rw [hfd 2 (by omega), if_neg (by omega)]; exact m1
    · have hy : outs (fileD (putD (callD D) (fl : Nat) ⟨false, (layR r).length, lay1 x⟩) (fl : Nat)) y := hy
      rw [hfd fl (by omega), if_pos rfl] at hy
      have hse : (fileD D (fl : Nat)).ops.foldl doF (fileD D (fl : Nat)).kept = layR r := iseen
      have hokx : ∀ s ∈ r ++ [x], s.length ≤ 4096 ∧ Bytes8 s := fun s hs' => by
        rcases List.mem_append.1 hs' with h | h
        · exact i.ok.1 s h
        · simp at h; subst h; exact ⟨hx, hx8⟩
      rcases outs_snoc hy with h | h | ⟨_, m, hm, h⟩
      · exact hC _ (ican y h)
      · rw [hse, happ] at h
        rw [h, scan_all hokx]; exact hn
      · rw [hse, doF_put rfl] at h
        have h : y = (layR r).take (layR r).length ++ ((lay1 x).take m ++ (layR r).drop ((layR r).length + ((lay1 x).take m).length)) := h
        rw [List.take_length, List.drop_of_length_le (by omega), List.append_nil] at h
        have hm : m ≤ (lay1 x).length := hm
        by_cases e : m < (lay1 x).length
        · rw [h, scan_torn i.ok.1 hx e]
          exact hC _ i.now
        · rw [List.take_of_length_le (by omega), ← layR_one, ← layR_app] at h
          rw [h, scan_all hokx]; exact hn
  · right
    have hw : writeR D (fl : Nat) ((layR r).length : Nat) (lay1 x) = (10, callD D) := by
      unfold writeR
      rw [if_neg (by rw [ha]; omega), ha]
    rw [hw, if_neg (by show ¬ (10 : Int) = 0; omega)]
    exact ⟨rfl, har, by show (callD D).f.length = 3; rw [callD_f]; exact i.len, rfl, by show L.l = r; rw [hlg], i.all.same callD_f⟩
theorem syncR_cases {n : Nat} (hn : n < 3) (ho : D.off = false) (hl : D.f.length = 3) :
    ((syncR D (n : Nat)).1 = 0 ∧ (syncR D (n : Nat)).2.off = false ∧ (syncR D (n : Nat)).2.f.length = 3 ∧ (syncR D (n : Nat)).2.armed = D.armed ∧ ∀ m : Nat, m < 3 → fileD (syncR D (n : Nat)).2 (m : Nat) = if m = n then ⟨(fileD D (n : Nat)).seen, []⟩ else fileD D (m : Nat)) ∨
    ((syncR D (n : Nat)).1 = 10 ∧ D.armed = true ∧ (syncR D (n : Nat)).2.f = D.f) := by
  rcases call_cases hn ho with ⟨ha, ho'⟩ | ⟨ha, har⟩
  · left
    have hw : syncR D (n : Nat) = (0, { callD D with f := D.f.set n ⟨(fileD D (n : Nat)).seen, []⟩ }) := by
      unfold syncR
      rw [if_pos ha]; rfl
    rw [hw]
    refine ⟨rfl, ho', by show (D.f.set _ _).length = 3; rw [List.length_set]; exact hl, (call_eq (D := D)).2.1, fun m hm => ?_⟩
    have := fileD_set hl (n := n) hm (g := ⟨(fileD D (n : Nat)).seen, []⟩)
    rw [← this]; rfl
  · right
    have hw : syncR D (n : Nat) = (10, callD D) := by
      unfold syncR
      rw [if_neg (by rw [ha]; omega), ha]
    rw [hw]
    exact ⟨rfl, har, callD_f⟩
theorem syncL_c (i : InvC D L r N C) (hn : C' r) : ((syncL D L).1 = 0 ∧ InvC (syncL D L).2.1 (syncL D L).2.2 r N C' ∧ (syncL D L).2.1.armed = D.armed) ∨ ((syncL D L).1 = 10 ∧ D.armed = true ∧ DeadC (syncL D L).2.1 (syncL D L).2.2 r C) := by
  have hlg := i.lg
  have hfl := i.file
  have hdead : L.dead = false := by rw [hlg]
  unfold syncL
  rw [if_neg (by rw [hdead]; simp)]
  rcases syncR_cases (n := L.file) (by omega) i.off i.len with ⟨h1, h2, h3, h4, h5⟩ | ⟨h1, h2, h3⟩
  · left
    obtain ⟨mk, m1, m2, m3⟩ := i.mark
    have hfd := h5 L.file (by omega)
    rw [if_pos rfl, i.seen] at hfd
    refine ⟨h1, ⟨h2, h3, ?_, hfl, ?_, i.ok, ⟨mk, ?_, m2, m3⟩, fun y hy => ?_⟩, h4⟩
    · show { L with dead := !decide ((syncR D (L.file : Nat)).1 = 0) } = _
      rw [h1]
      conv => lhs; rw [hlg]
      rfl
    · show (fileD (syncR D (L.file : Nat)).2 (L.file : Nat)).seen = _
      rw [hfd]; rfl
    · show fileD (syncR D (L.file : Nat)).2 (2 : Nat) = _
      rw [h5 2 (by omega), if_neg (by omega)]; exact m1
    · have hy : outs (fileD (syncR D (L.file : Nat)).2 (L.file : Nat)) y := hy
      rw [hfd] at hy
      rw [outs_nil hy, scan_all i.ok.1]; exact hn
  · right
    refine ⟨h1, h2, by show (syncR D (L.file : Nat)).2.f.length = 3; rw [h3]; exact i.len, by show (!decide ((syncR D (L.file : Nat)).1 = 0)) = true; rw [h1]; rfl, by show L.l = r; rw [hlg], i.all.same h3⟩
end
section
variable {D : Dk} {L : Lg} {r l : Recs} {N : Nat} {C C' : Recs → Prop} {x : List Nat}
theorem fileD_congr {D D' : Dk} {n : Int} (e : D'.f = D.f) : fileD D' n = fileD D n := by unfold fileD; rw [e]
theorem writeR_cases {n p : Nat} {b : List Nat} (hn : n < 3) (ho : D.off = false) (hl : D.f.length = 3) (hp : p ≤ (fileD D (n : Nat)).seen.length) (hb : p + b.length ≤ 4194304) :
    ((writeR D (n : Nat) (p : Nat) b).1 = 0 ∧ (writeR D (n : Nat) (p : Nat) b).2.off = false ∧ (writeR D (n : Nat) (p : Nat) b).2.f.length = 3 ∧ (writeR D (n : Nat) (p : Nat) b).2.armed = D.armed ∧
      ∀ m : Nat, m < 3 → fileD (writeR D (n : Nat) (p : Nat) b).2 (m : Nat) = if m = n then ⟨(fileD D (n : Nat)).kept, (fileD D (n : Nat)).ops ++ [⟨false, p, b⟩]⟩ else fileD D (m : Nat)) ∨
    ((writeR D (n : Nat) (p : Nat) b).1 = 10 ∧ D.armed = true ∧ (writeR D (n : Nat) (p : Nat) b).2.f = D.f) := by
  rcases call_cases hn ho with ⟨ha, ho'⟩ | ⟨ha, har⟩
  · left
    have hw : writeR D (n : Nat) (p : Nat) b = (0, putD (callD D) (n : Nat) ⟨false, p, b⟩) := by
      unfold writeR
      rw [if_pos ha, if_neg (by rw [callD_fileD]; omega)]; rfl
    have hlen : (callD D).f.length = 3 := by rw [callD_f]; exact hl
    rw [hw]
    refine ⟨rfl, ho', by show ((callD D).f.set _ _).length = 3; rw [List.length_set]; exact hlen, (call_eq (D := D)).2.1, fun m hm => ?_⟩
    show fileD (putD _ _ _) _ = _
    unfold putD
    rw [Int.toNat_natCast, fileD_set hlen hm, callD_fileD, callD_fileD]
  · right
    have hw : writeR D (n : Nat) (p : Nat) b = (10, callD D) := by
      unfold writeR
      rw [if_neg (by rw [ha]; omega), ha]
    rw [hw]
    exact ⟨rfl, har, callD_f⟩
theorem cutR_cases {n p : Nat} (hn : n < 3) (ho : D.off = false) (hl : D.f.length = 3) (hp : p ≤ (fileD D (n : Nat)).seen.length) :
    ((cutR D (n : Nat) (p : Nat)).1 = 0 ∧ (cutR D (n : Nat) (p : Nat)).2.off = false ∧ (cutR D (n : Nat) (p : Nat)).2.f.length = 3 ∧ (cutR D (n : Nat) (p : Nat)).2.armed = D.armed ∧
      ∀ m : Nat, m < 3 → fileD (cutR D (n : Nat) (p : Nat)).2 (m : Nat) = if m = n then ⟨(fileD D (n : Nat)).kept, (fileD D (n : Nat)).ops ++ [⟨true, p, []⟩]⟩ else fileD D (m : Nat)) ∨
    ((cutR D (n : Nat) (p : Nat)).1 = 10 ∧ D.armed = true ∧ (cutR D (n : Nat) (p : Nat)).2.f = D.f) := by
  rcases call_cases hn ho with ⟨ha, ho'⟩ | ⟨ha, har⟩
  · left
    have hw : cutR D (n : Nat) (p : Nat) = (0, putD (callD D) (n : Nat) ⟨true, p, []⟩) := by
      unfold cutR
      rw [if_pos ha, if_neg (by rw [callD_fileD]; omega)]; rfl
    have hlen : (callD D).f.length = 3 := by rw [callD_f]; exact hl
    rw [hw]
    refine ⟨rfl, ho', by show ((callD D).f.set _ _).length = 3; rw [List.length_set]; exact hlen, (call_eq (D := D)).2.1, fun m hm => ?_⟩
    show fileD (putD _ _ _) _ = _
    unfold putD
    rw [Int.toNat_natCast, fileD_set hlen hm, callD_fileD, callD_fileD]
  · right
    have hw : cutR D (n : Nat) (p : Nat) = (10, callD D) := by
      unfold cutR
      rw [if_neg (by rw [ha]; omega), ha]
    rw [hw]
    exact ⟨rfl, har, callD_f⟩
theorem InvC.keep {D' : Dk} (i : InvC D L r N C) (k : fileD D' (L.file : Nat) = fileD D (L.file : Nat)) (k2 : fileD D' (2 : Nat) = fileD D (2 : Nat)) : AllC D' C := by
  obtain ⟨mk, m1, m2, _⟩ := i.mark
  refine allC_of i.file (fun x2 h => ?_) fun x hx => ?_
  · rw [k2, m1] at h
    rw [outs_nil h, m2]
  · rw [k] at hx
    exact i.can x hx
theorem cnt_ok (h : (cntR l).2 = 0) : (∀ s ∈ l, s.length ≤ 4096) ∧ sizeL l ≤ 2097152 := by
  unfold cntR at h
  split at h
  · rename_i h1
    split at h
    · rename_i h2
      exact ⟨fun x hx => of_decide_eq_true (List.all_eq_true.1 h1 x hx), h2⟩
    · simp at h
  · simp at h
theorem rstL_c (i : InvC D L r N C) (hN : N + 1 ≤ 1000000) (hc : (cntR l).2 = 0) (h8 : ∀ s ∈ l, Bytes8 s) (hn : C' l) :
    ((rstL D L l).1 = 0 ∧ InvC (rstL D L l).2.1 (rstL D L l).2.2 l (N + 1) C' ∧ (rstL D L l).2.1.armed = D.armed) ∨ ((rstL D L l).1 = 10 ∧ D.armed = true ∧ DeadC (rstL D L l).2.1 (rstL D L l).2.2 r fun y => C y ∨ y = l) := by
  have hlg := i.lg
  have hfl := i.file
  obtain ⟨hl1, hl2⟩ := cnt_ok hc
  have hokl : okRs l := ⟨fun s hs => ⟨hl1 s hs, h8 s hs⟩, hl2⟩
  have hdead : L.dead = false := by rw [hlg]
  have hLl : L.l = r := by rw [hlg]
  have hlay := layR_len8 hokl
  obtain ⟨mk, m1, m2, m3⟩ := i.mark
  have ho2 : 1 - L.file < 2 := by omega
  have hne : 1 - L.file ≠ L.file := by omega
  generalize ho : 1 - L.file = o at *
  have stop : ∀ j, j < 5 → (rnR o (layR l) D (j + 1)).1 = 10 → D.armed = true → (rnR o (layR l) D (j + 1)).2.f.length = 3 → AllC (rnR o (layR l) D (j + 1)).2 (fun y => C y ∨ y = l) →
      ((rstL D L l).1 = 0 ∧ InvC (rstL D L l).2.1 (rstL D L l).2.2 l (N + 1) C' ∧ (rstL D L l).2.1.armed = D.armed) ∨ ((rstL D L l).1 = 10 ∧ D.armed = true ∧ DeadC (rstL D L l).2.1 (rstL D L l).2.2 r fun y => C y ∨ y = l) := by
    intro j hj e har hlen hall
    have hs : rnR o (layR l) D 5 = rnR o (layR l) D (j + 1) := by
      have := rn_stop (o := o) (B := layR l) (D := D) (j := j + 1) (by rw [e]; omega) (5 - (j + 1))
      rw [show j + 1 + (5 - (j + 1)) = 5 by omega] at this
      exact this
    right
    unfold rstL
    rw [if_neg (by rw [hdead]; simp), if_pos hc, ho, hs, if_neg (by rw [e]; omega)]
    exact ⟨e, har, hlen, rfl, hLl, hall⟩
  have nx : ∀ j, (rnR o (layR l) D j).1 = 0 → rnR o (layR l) D (j + 1) = rnStep o (layR l) (rnR o (layR l) D j).2 j := fun j h => if_pos h
  have imp : ∀ y, C y → C y ∨ y = l := fun y h => .inl h
  -- the other file cut
  have e1 : rnR o (layR l) D 1 = cutR D (o : Nat) (0 : Nat) := nx 0 rfl
  rcases cutR_cases (n := o) (p := 0) (by omega) i.off i.len (Nat.zero_le _) with ⟨a1, a2, a3, a4, a5⟩ | ⟨a1, a2, a3⟩
  rotate_left
  · exact stop 0 (by omega) (by rw [e1]; exact a1) a2 (by rw [e1, a3]; exact i.len) (by rw [e1]; exact (i.keep (fileD_congr a3) (fileD_congr a3)).mono imp)
  rw [← e1] at a1 a2 a3 a4 a5
  generalize hD1 : (rnR o (layR l) D 1).2 = D1 at *
  have f1 : fileD D1 (L.file : Nat) = fileD D (L.file : Nat) := by rw [a5 _ (by omega), if_neg (by omega)]
  have k1 : fileD D1 (2 : Nat) = fileD D (2 : Nat) := by rw [a5 _ (by omega), if_neg (by omega)]
  have o1 : (fileD D1 (o : Nat)).seen = [] := by
    rw [a5 _ (by omega), if_pos rfl, seen_snoc, doF_cut rfl]; exact List.take_zero
  -- written
  have e2 : rnR o (layR l) D 2 = writeR D1 (o : Nat) (0 : Nat) (layR l) := by rw [nx 1 a1, hD1]; rfl
  rcases writeR_cases (n := o) (p := 0) (b := layR l) (by omega) a2 a3 (Nat.zero_le _) (by omega) with ⟨b1, b2, b3, b4, b5⟩ | ⟨b1, b2, b3⟩
  rotate_left
  · exact stop 1 (by omega) (by rw [e2]; exact b1) (by rw [← a4]; exact b2) (by rw [e2, b3]; exact a3) (by rw [e2]; exact (i.keep ((fileD_congr b3).trans f1) ((fileD_congr b3).trans k1)).mono imp)
  rw [← e2] at b1 b2 b3 b4 b5
  generalize hD2 : (rnR o (layR l) D 2).2 = D2 at *
  have f2 : fileD D2 (L.file : Nat) = fileD D (L.file : Nat) := by rw [b5 _ (by omega), if_neg (by omega), f1]
  have k2 : fileD D2 (2 : Nat) = fileD D (2 : Nat) := by rw [b5 _ (by omega), if_neg (by omega), k1]
  have o2 : (fileD D2 (o : Nat)).seen = layR l := by
    rw [b5 _ (by omega), if_pos rfl, seen_snoc, o1, doF_put rfl]
    show ([] : List Nat).take 0 ++ (layR l ++ ([] : List Nat).drop (0 + (layR l).length)) = layR l
    simp
  -- synced
  have e3 : rnR o (layR l) D 3 = syncR D2 (o : Nat) := by rw [nx 2 b1, hD2]; rfl
  rcases syncR_cases (n := o) (by omega) b2 b3 with ⟨lc1, lc2, lc3, lc4, lc5⟩ | ⟨lc1, lc2, lc3⟩
  rotate_left
  · exact stop 2 (by omega) (by rw [e3]; exact lc1) (by rw [← a4, ← b4]; exact lc2) (by rw [e3, lc3]; exact b3) (by rw [e3]; exact (i.keep ((fileD_congr lc3).trans f2) ((fileD_congr lc3).trans k2)).mono imp)
  rw [← e3] at lc1 lc2 lc3 lc4 lc5
  generalize hD3 : (rnR o (layR l) D 3).2 = D3 at *
  have f3 : fileD D3 (L.file : Nat) = fileD D (L.file : Nat) := by rw [lc5 _ (by omega), if_neg (by omega), f2]
  have k3 : fileD D3 (2 : Nat) = fileD D (2 : Nat) := by rw [lc5 _ (by omega), if_neg (by omega), k2]
  have o3 : fileD D3 (o : Nat) = ⟨layR l, []⟩ := by rw [lc5 _ (by omega), if_pos rfl, o2]
  -- the mark
  have hask : askR D3 2 = 0 := by
    have := ask_off (D := D3) (n := 2) (by omega)
    rw [lc2] at this
    exact this
  have hseen3 : (fileD D3 (2 : Nat)).seen = mk := by rw [k3, m1]; rfl
  have hs3 : (fileD D3 2).seen = mk := hseen3
  have e4 : rnR o (layR l) D 4 = writeR D3 (2 : Nat) (mk.length : Nat) [o] := by
    rw [nx 3 lc1, hD3]
    show (if askR D3 2 = 0 then writeR D3 2 (((fileD D3 2).seen.length : Nat) : Int) [o] else (askR D3 2, D3)) = _
    rw [if_pos hask, hs3]; rfl
  rcases writeR_cases (n := 2) (p := mk.length) (b := [o]) (by omega) lc2 lc3 (by rw [hseen3]; exact Nat.le_refl _) (by simp; omega) with ⟨d1, d2, d3, d4, d5⟩ | ⟨d1, d2, d3⟩
  rotate_left
  · exact stop 3 (by omega) (by rw [e4]; exact d1) (by rw [← a4, ← b4, ← lc4]; exact d2) (by rw [e4, d3]; exact lc3) (by rw [e4]; exact (i.keep ((fileD_congr d3).trans f3) ((fileD_congr d3).trans k3)).mono imp)
  rw [← e4] at d1 d2 d3 d4 d5
  generalize hD4 : (rnR o (layR l) D 4).2 = D4 at *
  have f4 : fileD D4 (L.file : Nat) = fileD D (L.file : Nat) := by rw [d5 _ (by omega), if_neg (by omega), f3]
  have o4 : fileD D4 (o : Nat) = ⟨layR l, []⟩ := by rw [d5 _ (by omega), if_neg (by omega), o3]
  have k4 : fileD D4 (2 : Nat) = ⟨mk, [⟨false, mk.length, [o]⟩]⟩ := by rw [d5 _ (by omega), if_pos rfl, k3, m1]; rfl
  have happ : ∀ b : List Nat, doF mk ⟨false, mk.length, b⟩ = mk ++ b := fun b => by
    rw [doF_put rfl]
    show mk.take mk.length ++ (b ++ mk.drop (mk.length + b.length)) = _
    rw [List.take_length, List.drop_of_length_le (by omega), List.append_nil]
  have hmk : mkOf (mk ++ [o]) = o := by
    unfold mkOf
    rw [List.length_append, List.getD_eq_getElem?_getD]
    simp
    omega
  -- synced
  have e5 : rnR o (layR l) D 5 = syncR D4 (2 : Nat) := by rw [nx 4 d1, hD4]; rfl
  rcases syncR_cases (n := 2) (by omega) d2 d3 with ⟨g1, g2, g3, g4, g5⟩ | ⟨g1, g2, g3⟩
  rotate_left
  · refine stop 4 (by omega) (by rw [e5]; exact g1) (by rw [← a4, ← b4, ← lc4, ← d4]; exact g2) (by rw [e5, g3]; exact d3) ?_
    rw [e5]
    refine AllC.same (D := D4) ?_ g3
    intro x0 x1 x2 h0 h1 h2
    rw [k4] at h2
    have hx2 : x2 = mk ∨ x2 = mk ++ [o] := by
      rcases outs_snoc (os := []) h2 with h | h | ⟨_, m, hm, h⟩
      · exact .inl (outs_nil h)
      · exact .inr (by rw [h]; exact happ _)
      · have h : x2 = doF mk ⟨false, mk.length, [o].take m⟩ := h
        rw [happ] at h
        match m with
        | 0 => exact .inl (by rw [h]; simp)
        | m + 1 => exact .inr (by rw [h]; simp)
    rcases hx2 with rfl | rfl
    · left
      have := i.keep (D' := D3) f3 k3
      refine this x0 x1 x2 ?_ ?_ ?_
      · rw [d5 0 (by omega), if_neg (by omega)] at h0; exact h0
      · rw [d5 1 (by omega), if_neg (by omega)] at h1; exact h1
      · rw [k3, m1]; exact outs_seen (f := ⟨x2, []⟩)
    · right
      unfold recOf
      rw [hmk]
      have pick : (if o = 0 then x0 else x1) = layR l := by
        match o, ho2 with
        | 0, _ => rw [o4] at h0; rw [if_pos rfl]; exact outs_nil h0
        | 1, _ => rw [o4] at h1; rw [if_neg (by omega)]; exact outs_nil h1
      rw [pick, scan_all hokl.1]
  rw [← e5] at g1 g2 g3 g4 g5
  left
  have hm5 : fileD (rnR o (layR l) D 5).2 (2 : Nat) = ⟨mk ++ [o], []⟩ := by
    rw [g5 _ (by omega), if_pos rfl, k4]
    show (⟨doF mk ⟨false, mk.length, [o]⟩, []⟩ : DFile) = _
    rw [happ]
  have ho5 : fileD (rnR o (layR l) D 5).2 (o : Nat) = ⟨layR l, []⟩ := by rw [g5 _ (by omega), if_neg (by omega), o4]
  unfold rstL
  rw [if_neg (by rw [hdead]; simp), if_pos hc, ho, if_pos g1]
  refine ⟨rfl, ⟨g2, g3, rfl, ho2, ?_, hokl, ⟨mk ++ [o], hm5, hmk, by simp; omega⟩, fun y hy => ?_⟩, by show (rnR o (layR l) D 5).2.armed = _; rw [g4, d4, lc4, b4, a4]⟩
  · show (fileD (rnR o (layR l) D 5).2 (o : Nat)).seen = _
    rw [ho5]; rfl
  · have hy : outs (fileD (rnR o (layR l) D 5).2 (o : Nat)) y := hy
    rw [ho5] at hy
    rw [outs_nil hy, scan_all hokl.1]; exact hn
end
section
variable {D D' : Dk} {L : Lg} {r l : Recs} {N : Nat} {C C' : Recs → Prop} {x : List Nat}
/-- while it is opened: bytes b in file fl, mark x2, records r0 -/
structure Opg (D : Dk) (b x2 : List Nat) (fl : Nat) (r0 : Recs) : Prop where
  len : D.f.length = 3
  mark : fileD D (2 : Nat) = ⟨x2, []⟩
  can : ∀ x, outs (fileD D (fl : Nat)) x → (scanL x).1 = r0
theorem Opg.all {b x2 : List Nat} {fl : Nat} {r0 : Recs} (o : Opg D b x2 fl r0) (hf : fl < 2) (hm : mkOf x2 = fl) : AllC D (fun y => y = r0) :=
  allC_of hf (fun x h => by rw [o.mark] at h; rw [outs_nil h, hm]) o.can
theorem Opg.same {b x2 : List Nat} {fl : Nat} {r0 : Recs} (o : Opg D b x2 fl r0) (e : D'.f = D.f) : Opg D' b x2 fl r0 :=
  ⟨by rw [e]; exact o.len, by rw [fileD_congr e]; exact o.mark, fun x h => by rw [fileD_congr e] at h; exact o.can x h⟩
/-- a step of opening: done, or the power went -/
def StepO (D : Dk) (s : Int × Dk) (b x2 : List Nat) (fl : Nat) (r0 : Recs) : Prop :=
  (s.1 = 0 ∧ s.2.off = false ∧ s.2.armed = D.armed ∧ Opg s.2 b x2 fl r0) ∨ (s.1 = 10 ∧ D.armed = true ∧ Opg s.2 b x2 fl r0)
theorem loadR_c {x0 x1 x2 : List Nat} (ho : D.off = false) (hf : D.f = [⟨x0, []⟩, ⟨x1, []⟩, ⟨x2, []⟩]) :
    ((loadR D).1 = 0 ∧ (loadR D).2.2.l = recOf x0 x1 x2 ∧ (loadR D).2.1.f.length = 3 ∧ AllC (loadR D).2.1 (fun y => y = recOf x0 x1 x2) ∧ (loadR D).2.1.armed = D.armed ∧
      ((if mkOf x2 = 0 then x0 else x1) = layR (recOf x0 x1 x2) → okRs (recOf x0 x1 x2) → x2.length ≤ N → C (recOf x0 x1 x2) → InvC (loadR D).2.1 (loadR D).2.2 (recOf x0 x1 x2) N C)) ∨
    ((loadR D).1 = 10 ∧ D.armed = true ∧ (loadR D).2.1.f.length = 3 ∧ AllC (loadR D).2.1 (fun y => y = recOf x0 x1 x2)) := by
  have hlen : D.f.length = 3 := by rw [hf]; rfl
  have h2 : fileD D (2 : Nat) = ⟨x2, []⟩ := by unfold fileD; rw [hf]; rfl
  have hfl : mkOf x2 < 2 := mkOf_lt
  have hfo : fileOf D = mkOf x2 := by
    show mkOf (fileD D (2 : Nat)).seen = _
    rw [h2]; rfl
  have hrec : recOf x0 x1 x2 = (scanL (if mkOf x2 = 0 then x0 else x1)).1 := rfl
  generalize hb : (if mkOf x2 = 0 then x0 else x1) = b at *
  generalize hflg : mkOf x2 = fl at *
  have hF : fileD D (fl : Nat) = ⟨b, []⟩ := by
    unfold fileD
    rw [hf, ← hb]
    match fl, hfl with
    | 0, _ => rfl
    | 1, _ => rfl
  have hbo : bytesOf D = b := by
    show (fileD D (fileOf D : Nat)).seen = b
    rw [hfo, hF]; rfl
  have hlo : logOf D = ⟨(scanL b).1, sizeL (scanL b).1, fl, (scanL b).2, false⟩ := by
    unfold logOf scanLg
    rw [hbo, hfo]
    show (⟨[] ++ (scanL (b.drop 0)).1, 0 + sizeL (scanL (b.drop 0)).1, fl, 0 + (scanL (b.drop 0)).2, false⟩ : Lg) = _
    rw [List.drop_zero, List.nil_append, Nat.zero_add, Nat.zero_add]
  generalize hr0 : recOf x0 x1 x2 = r0 at *
  have hsl := scan_len b
  have hask : askR D 2 = 0 := by
    have := ask_off (D := D) (n := 2) (by omega)
    rw [ho] at this
    exact this
  have base : Opg D b x2 fl r0 := ⟨hlen, h2, fun x h => by rw [hF] at h; rw [outs_nil h, hrec]⟩
  -- cut
  have sc : StepO D (cutOf D) b x2 fl r0 ∧ ((scanL b).2 = b.length → (cutOf D) = (0, D)) := by
    unfold cutOf
    rw [hlo, hbo, hfo]
    show StepO D (if (scanL b).2 < b.length then cutR D (fl : Nat) ((scanL b).2 : Nat) else (0, D)) b x2 fl r0 ∧ ((scanL b).2 = b.length → (if (scanL b).2 < b.length then cutR D (fl : Nat) ((scanL b).2 : Nat) else (0, D)) = (0, D))
    refine ⟨?_, fun e => if_neg (by omega)⟩
    by_cases e : (scanL b).2 < b.length
    · rw [if_pos e]
      rcases cutR_cases (D := D) (n := fl) (p := (scanL b).2) (by omega) ho hlen (by rw [hF]; exact hsl.1) with ⟨a1, a2, a3, a4, a5⟩ | ⟨a1, a2, a3⟩
      · refine .inl ⟨a1, a2, a4, a3, by rw [a5 _ (by omega), if_neg (by omega)]; exact h2, fun x h => ?_⟩
        rw [a5 _ (by omega), if_pos rfl, hF] at h
        rcases outs_snoc (os := []) h with h | h | ⟨h, _⟩
        · rw [outs_nil h, hrec]
        · have h : x = doF b ⟨true, (scanL b).2, []⟩ := h
          rw [doF_cut rfl] at h
          have h : x = b.take (scanL b).2 := h
          rw [h, scan_take, hrec]
        · cases h
      · exact .inr ⟨a1, a2, base.same a3⟩
    · rw [if_neg e]
      exact .inl ⟨rfl, ho, rfl, base⟩
  -- synced
  have s1 : StepO D (sync1 D) b x2 fl r0 ∧ ((scanL b).2 = b.length → (sync1 D).1 = 0 → fileD (sync1 D).2 (fl : Nat) = ⟨b, []⟩) := by
    unfold sync1
    rw [hfo]
    rcases sc.1 with ⟨a1, a2, a3, a4⟩ | ⟨a1, a2, a3⟩
    · rw [if_pos a1]
      rcases syncR_cases (D := (cutOf D).2) (n := fl) (by omega) a2 a4.len with ⟨lc1, lc2, lc3, lc4, lc5⟩ | ⟨lc1, lc2, lc3⟩
      · refine ⟨.inl ⟨lc1, lc2, by rw [lc4, a3], lc3, by rw [lc5 _ (by omega), if_neg (by omega)]; exact a4.mark, fun x h => ?_⟩, fun e _ => ?_⟩
        · rw [lc5 _ (by omega), if_pos rfl] at h
          rw [outs_nil h]; exact a4.can _ outs_seen
        · rw [lc5 _ (by omega), if_pos rfl, sc.2 e, hF]; rfl
      · exact ⟨.inr ⟨lc1, by rw [← a3]; exact lc2, a4.same lc3⟩, fun _ e => by rw [lc1] at e; cases e⟩
    · rw [if_neg (by rw [a1]; omega)]
      exact ⟨.inr ⟨a1, a2, a3⟩, fun _ e => by rw [a1] at e; cases e⟩
  have s2 : StepO D (sync2 D) b x2 fl r0 ∧ ((scanL b).2 = b.length → (sync2 D).1 = 0 → fileD (sync2 D).2 (fl : Nat) = ⟨b, []⟩) := by
    unfold sync2
    rcases s1.1 with ⟨a1, a2, a3, a4⟩ | ⟨a1, a2, a3⟩
    · rw [if_pos a1]
      rcases syncR_cases (D := (sync1 D).2) (n := 2) (by omega) a2 a4.len with ⟨lc1, lc2, lc3, lc4, lc5⟩ | ⟨lc1, lc2, lc3⟩
      · have hk : fileD (syncR (sync1 D).2 2).2 (fl : Nat) = fileD (sync1 D).2 (fl : Nat) := by
          have := lc5 fl (by omega)
          rw [if_neg (by omega)] at this; exact this
        refine ⟨.inl ⟨lc1, lc2, by rw [show (syncR (sync1 D).2 2).2.armed = _ from lc4, a3], lc3, ?_, fun x h => ?_⟩, fun e _ => ?_⟩
        · have := lc5 2 (by omega)
          rw [if_pos rfl, a4.mark] at this; exact this
        · rw [hk] at h; exact a4.can x h
        · rw [hk]; exact s1.2 e a1
      · exact ⟨.inr ⟨lc1, by rw [← a3]; exact lc2, a4.same lc3⟩, fun _ e => by rw [show (syncR (sync1 D).2 2).1 = 10 from lc1] at e; cases e⟩
    · rw [if_neg (by rw [a1]; omega)]
      exact ⟨.inr ⟨a1, a2, a3⟩, fun _ e => by rw [a1] at e; cases e⟩
  have hL : loadR D = ((sync2 D).1, (sync2 D).2, logOf D) := if_pos hask
  rw [hL]
  rcases s2.1 with ⟨a1, a2, a3, a4⟩ | ⟨a1, a2, a3⟩
  · left
    refine ⟨a1, by show (logOf D).l = r0; rw [hlo, hrec], a4.len, a4.all hfl hflg, a3, fun e1 e2 e3 e4 => ?_⟩
    have hsc : scanL b = (r0, (layR r0).length) := by rw [e1]; exact scan_all e2.1
    have hlast := s2.2 (by rw [hsc, e1]) a1
    show InvC (sync2 D).2 (logOf D) r0 N C
    rw [hlo, hsc]
    exact ⟨a2, a4.len, rfl, hfl, by rw [hlast]; exact e1, e2, ⟨x2, a4.mark, hflg, e3⟩, fun x h => by rw [a4.can x h]; exact e4⟩
  · right
    exact ⟨a1, a2, a3.len, a3.all hfl hflg⟩
theorem InvC.weaken (i : InvC D L r N C) {N' : Nat} (h : N ≤ N') (hC : ∀ y, C y → C' y) : InvC D L r N' C' := by
  obtain ⟨mk, m1, m2, m3⟩ := i.mark
  exact ⟨i.off, i.len, i.lg, i.file, i.seen, i.ok, ⟨mk, m1, m2, by omega⟩, fun x h => hC _ (i.can x h)⟩
/-- an act: what the document says, or the power went -/
theorem does_c {act : Int} (i : InvC D L r N C) (hN : N + 1 ≤ 1000000) (hx8 : Bytes8 x) (h8 : ∀ s ∈ l, Bytes8 s) (hC : ¬ ((nextL r act x l).2 = 0 ∧ 4 ≤ withinI act 7) → ∀ y, C y → C' y) (hn : C' (nextL r act x l).1) :
    ((doesL D L act x l).1 = (nextL r act x l).2 ∧ InvC (doesL D L act x l).2.1 (doesL D L act x l).2.2 (nextL r act x l).1 (N + 1) C' ∧ (doesL D L act x l).2.1.armed = D.armed) ∨
    ((doesL D L act x l).1 = 10 ∧ (nextL r act x l).2 = 0 ∧ D.armed = true ∧ DeadC (doesL D L act x l).2.1 (doesL D L act x l).2.2 r fun y => C y ∨ y = (nextL r act x l).1) := by
  have hlg := i.lg
  have hdead : L.dead = false := by rw [hlg]
  have hsize : L.size = sizeL r := by rw [hlg]
  unfold doesL
  by_cases lc4 : withinI act 7 = 4
  · rw [if_pos lc4]
    by_cases cc : (cntR l).2 = 0
    · have hnx : nextL r act x l = (l, 0) := by unfold nextL; rw [if_pos lc4, if_pos cc]
      rw [hnx] at hn ⊢
      rcases rstL_c i hN cc h8 hn with h | ⟨h1, h2, h3⟩
      · exact .inl h
      · exact .inr ⟨h1, rfl, h2, h3⟩
    · have hnx : nextL r act x l = (r, (cntR l).2) := by unfold nextL; rw [if_pos lc4, if_neg cc]
      rw [hnx] at hn hC ⊢
      have hd : rstL D L l = ((cntR l).2, D, L) := by unfold rstL; rw [if_neg (by rw [hdead]; simp), if_neg cc]
      rw [hd]
      exact .inl ⟨rfl, i.weaken (by omega) (hC fun h => cc h.1), rfl⟩
  · rw [if_neg lc4]
    by_cases lc5 : withinI act 7 = 5 ∨ withinI act 7 = 6
    · rw [if_pos lc5]
      have hnx : nextL r act x l = (r, 0) := by unfold nextL; rw [if_neg lc4, if_pos lc5]
      rw [hnx] at hn ⊢
      rcases syncL_c i hn with ⟨h1, h2, h3⟩ | ⟨h1, h2, h3⟩
      · exact .inl ⟨h1, h2.weaken (by omega) fun _ h => h, h3⟩
      · exact .inr ⟨h1, rfl, h2, ⟨h3.len, h3.dead, h3.l, h3.all.mono fun _ h => .inl h⟩⟩
    · rw [if_neg lc5]
      have hw := within_lt (a := act) (b := 7) (by omega)
      have hC' : ∀ y, C y → C' y := hC fun h => by omega
      by_cases e1 : 4096 < x.length
      · have hnx : nextL r act x l = (r, 1) := by unfold nextL; rw [if_neg lc4, if_neg lc5, if_pos e1]
        have hd : appL D L x = (1, D, L) := by unfold appL; rw [if_neg (by rw [hdead]; simp), if_pos e1]
        rw [hnx, hd]
        exact .inl ⟨rfl, i.weaken (by omega) hC', rfl⟩
      · by_cases e2 : 2097152 < sizeL r + x.length + 16
        · have hnx : nextL r act x l = (r, 5) := by unfold nextL; rw [if_neg lc4, if_neg lc5, if_neg e1, if_pos e2]
          have hd : appL D L x = (5, D, L) := by unfold appL; rw [if_neg (by rw [hdead]; simp), if_neg e1, if_pos (by rw [hsize]; exact e2)]
          rw [hnx, hd]
          exact .inl ⟨rfl, i.weaken (by omega) hC', rfl⟩
        · have hnx : nextL r act x l = (r ++ [x], 0) := by unfold nextL; rw [if_neg lc4, if_neg lc5, if_neg e1, if_neg e2]
          rw [hnx] at hn ⊢
          rcases appL_c i (by omega) hx8 (by omega) hC' hn with ⟨h1, h2, h3⟩ | ⟨h1, h2, h3⟩
          · exact .inl ⟨h1, h2.weaken (by omega) fun _ h => h, h3⟩
          · exact .inr ⟨h1, rfl, h2, ⟨h3.len, h3.dead, h3.l, h3.all.mono fun _ h => .inl h⟩⟩
theorem dead_sync (h : L.dead = true) : syncL D L = (10, D, L) := if_pos h
theorem dead_app (h : L.dead = true) : appL D L x = (10, D, L) := if_pos h
/-- a new disk's log -/
theorem open_new (hC : C []) (ho : D.off = false) (hf : D.f = (dkOf []).f) : ((loadR D).1 = 0 ∧ InvC (loadR D).2.1 (loadR D).2.2 [] 0 C ∧ (loadR D).2.1.armed = D.armed) ∨ ((loadR D).1 = 10 ∧ D.armed = true ∧ (loadR D).2.1.f.length = 3 ∧ AllC (loadR D).2.1 C) := by
  have hr : recOf [] [] [] = [] := by decide
  rcases loadR_c (x0 := []) (x1 := []) (x2 := []) (N := 0) (C := C) ho hf with ⟨h1, h2, h3, h4, h5, h6⟩ | ⟨h1, h2, h3, h4⟩
  · left
    rw [hr] at h6
    exact ⟨h1, h6 (by decide) ⟨fun s hs => (by cases hs), by decide⟩ (Nat.le_refl _) hC, h5⟩
  · right
    rw [hr] at h4
    exact ⟨h1, h2, h3, h4.mono fun y e => by rw [e]; exact hC⟩
end
section
variable {h : Hp} {Post : AV → Hp → Prop}
theorem InvC.size {E : Dk} {L : Lg} {r : Recs} {N : Nat} {C : Recs → Prop} (i : InvC E L r N C) : L.size ≤ 2097152 ∧ L.pos ≤ 2097152 ∧ L.l.length ≤ 2097152 ∧ L.l = r := by
  have h1 := i.lg
  have h2 := i.ok.2
  have h3 := layR_len8 i.ok
  have h4 : ∀ l : Recs, l.length ≤ sizeL l := fun l => by
    induction l with
    | nil => exact Nat.le_refl _
    | cons s l ih => rw [sizeL_cons, List.length_cons]; omega
  have h5 := h4 r
  refine ⟨by rw [h1]; exact h2, by rw [h1]; exact h3, by rw [h1]; show r.length ≤ _; omega, by rw [h1]⟩
theorem syncL_few {E : Dk} {L : Lg} {N : Nat} (w : Few E N) : Few (syncL E L).2.1 N := by
  unfold syncL
  split
  · exact w
  · exact syncR_few w
theorem appL_few {E : Dk} {L : Lg} {x : List Nat} {N : Nat} (w : Few E N) : Few (appL E L x).2.1 (N + 1) := by
  unfold appL
  split
  · exact w.mono (by omega)
  · split
    · exact w.mono (by omega)
    · split
      · exact w.mono (by omega)
      · split
        · exact writeR_few w
        · exact writeR_few w
theorem rstL_few {E : Dk} {L : Lg} {l : Recs} {N : Nat} (w : Few E N) : Few (rstL E L l).2.1 (N + 5) := by
  unfold rstL
  split
  · exact w.mono (by omega)
  · split
    · split
      · exact rnR_few w 5
      · exact rnR_few w 5
    · exact w.mono (by omega)
theorem doesL_few {E : Dk} {L : Lg} {act : Int} {x : List Nat} {l : Recs} {N : Nat} (w : Few E N) : Few (doesL E L act x l).2.1 (N + 5) := by
  unfold doesL
  split
  · exact rstL_few w
  · split
    · exact (syncL_few w).mono (by omega)
    · exact (appL_few w).mono (by omega)
theorem loadR_few {E : Dk} {N : Nat} (w : Few E N) : Few (loadR E).2.1 (N + 1) := by
  unfold loadR
  split
  · exact sync2_few w
  · exact w.mono (by omega)
/-- a record appended to a new one, and told -/
theorem c13 (k : ∀ h', Post (.b true) h') : wpC Try.prog 13 [] Post h := by
  refine call_sound (args := []) (cuts := []) trivial ?_
  rw [vc13]
  have s := Sep.start h
  refine c7 s fun dp a Q1 h1 s1 d1 u1 => onRet.r rfl ?_
  rcases open_new (D := dkOf []) (C := fun _ => True) trivial rfl rfl with ⟨e1, i1, _⟩ | ⟨_, e2, _⟩
  rotate_left
  · cases e2
  have few1 : Few (loadR (dkOf [])).2.1 1 := loadR_few few0
  refine c6 s1 d1 few0 (fun e => absurd e1 e) fun _ q F2 r2 a2 Q2 h2 f2 s2 m2 u2 => onTup.ri rfl (c8 (onRet.i (onB.pos rfl (onO.mk rfl (onB.pos rfl ?_)))))
  generalize hE : (loadR (dkOf [])).2.1 = E2 at *
  generalize hL : (loadR (dkOf [])).2.2 = L2 at *
  obtain ⟨z1, z2, z3, z4⟩ := i1.size
  have ar : E2.armed = false := by rw [← hE]; decide
  refine c9 s2 m2 (few1.mono (by omega)) (fun y hy => by simp at hy; omega) (by simp) (by omega) (by omega) (by omega) fun F3 r3 a3 Q3 h3 f3 s3 m3 u3 => onRet.i (c8 (onRet.i ?_))
  rcases appL_c (x := [97]) (C' := fun _ => True) i1 (by simp) (fun y hy => by simp at hy; omega) (by decide) (fun _ _ => trivial) trivial with ⟨e3, i3, ar3⟩ | ⟨_, e3, _⟩
  rotate_left
  · rw [ar] at e3; cases e3
  rw [e3]
  have few3 := appL_few (L := L2) (x := [97]) few1
  generalize hE3 : (appL E2 L2 [97]).2.1 = E3 at *
  generalize hL3 : (appL E2 L2 [97]).2.2 = L3 at *
  refine onB.pos rfl (c21 s3 m3 (few3.mono (by omega)) fun a4 Q4 h4 s4 m4 u4 => onRet.i (c8 (onRet.i ?_)))
  rcases syncL_c (C' := fun _ => True) i3 trivial with ⟨e4, i4, ar4⟩ | ⟨_, e4, _⟩
  rotate_left
  · rw [ar3, ar] at e4; cases e4
  rw [e4]
  have z5 := i4.size
  refine onB.pos rfl (c10 s4 m4 (by omega) fun r5 h5 o5 => onRet.r o5.sc fun p0 hp hlo => ?_)
  have ob : Kn.str.Own h5 (h5.put p0 [.s [97]]) (.sl p0 0 1 1 true 1) [[97]] :=
    ⟨h5, [[.s [97]]], Hp.le_refl _, rfl, Fresh.put (Hp.le_refl _) rfl hp hlo (css := [[.s [97]]]) (sz := 1) (len := 1) true (fun c hc => by simp at hc; subst hc; rfl) rfl (cs := [.s [97]]) rfl, .cons ⟨rfl, by simp, fun y hy => by simp at hy; omega⟩ .nil⟩
  rw [z5.2.2.2] at o5
  refine c12 (o5.row.mono ob.le) ob.row (by simp) (onRet.b ?_)
  rw [decide_eq_true (by rfl)]
  exact k _
end
theorem next_few {r : Recs} {act : Int} {x : List Nat} {l : Recs} (i : okRs r) (hl : ∀ s ∈ l, Bytes8 s) (hx : Bytes8 x) : okRs (nextL r act x l).1 := by
  unfold nextL
  split
  · split
    · rename_i h
      obtain ⟨h1, h2⟩ := cnt_ok h
      exact ⟨fun s hs => ⟨h1 s hs, hl s hs⟩, h2⟩
    · exact i
  · split
    · exact i
    · split
      · exact i
      · split
        · exact i
        · refine ⟨fun s hs => ?_, ?_⟩
          · rcases List.mem_append.1 hs with h | h
            · exact i.1 s h
            · simp at h; subst h; exact ⟨by omega, hx⟩
          · rw [sizeL_app]; simp [sizeL] at *; omega
def kSs : Kn Recs := Kn.slice Kn.str 16
theorem len_sizeL : ∀ l : Recs, l.length ≤ sizeL l
  | [] => Nat.le_refl _
  | s :: l => by rw [sizeL_cons, List.length_cons]; have := len_sizeL l; omega
theorem offD_c {E : Dk} {n : Int} (h : 1 ≤ n) : (offD E n).off = E.off ∧ (offD E n).f = E.f := by
  unfold offD
  rw [if_neg (by omega)]
  exact ⟨rfl, rfl⟩
theorem doesL_dead {E : Dk} {L : Lg} {act : Int} {x : List Nat} {l : Recs} (h0 : L.dead = false) (h : (doesL E L act x l).2.2.dead = true) : (doesL E L act x l).2.2 = { L with dead := true } := by
  unfold doesL at h ⊢
  by_cases lc4 : withinI act 7 = 4
  · rw [if_pos lc4] at h ⊢
    unfold rstL at h ⊢
    rw [if_neg (by rw [h0]; simp)] at h ⊢
    by_cases lc1 : (cntR l).2 = 0
    · rw [if_pos lc1] at h ⊢
      by_cases lc2 : (rnR (1 - L.file) (layR l) E 5).1 = 0
      · rw [if_pos lc2] at h; cases h
      · rw [if_neg lc2]
    · rw [if_neg lc1] at h
      have h : L.dead = true := h
      rw [h0] at h; cases h
  · rw [if_neg lc4] at h ⊢
    by_cases lc5 : withinI act 7 = 5 ∨ withinI act 7 = 6
    · rw [if_pos lc5] at h ⊢
      unfold syncL at h ⊢
      rw [if_neg (by rw [h0]; simp)] at h ⊢
      have h : (!decide ((syncR E (L.file : Nat)).1 = 0)) = true := h
      show { L with dead := !decide ((syncR E (L.file : Nat)).1 = 0) } = _
      rw [h]
    · rw [if_neg lc5] at h ⊢
      unfold appL at h ⊢
      rw [if_neg (by rw [h0]; simp)] at h ⊢
      by_cases e1 : 4096 < x.length
      · rw [if_pos e1] at h
        have h : L.dead = true := h
        rw [h0] at h; cases h
      · rw [if_neg e1] at h ⊢
        by_cases e2 : 2097152 < L.size + x.length + 16
        · rw [if_pos e2] at h
          have h : L.dead = true := h
          rw [h0] at h; cases h
        · rw [if_neg e2] at h ⊢
          by_cases e3 : (writeR E (L.file : Nat) (L.pos : Nat) (lay1 x)).1 = 0
          · rw [if_pos e3] at h; cases h
          · rw [if_neg e3]
/-- opened, or the power went -/
def Opn (lo : Nat) (F0 : Hp) (dp : Nat) (x : AV) (e : Int) (h : Hp) (P : Hp → (Nat → Hp) → Prop) (A : Dk → Lg → Prop) (B : Dk → Prop) : Prop :=
  ∃ F Q, F0.le F ∧ Sep lo F Q h ∧ P F Q ∧ ((e = 0 ∧ ∃ q rr a E L, x = .p q 0 ∧ LgM lo F Q q dp rr a E L ∧ A E L) ∨ (e = 10 ∧ x = .np ∧ ∃ a E, DkA lo F Q 0 dp a E ∧ B E))
structure CrS (lo : Nat) (F0 F : Hp) (Q : Nat → Hp) (h : Hp) (dp : Nat) (x rv cv : AV) (bad : Int) (r : Recs) (cans : List Recs) (j : Nat) : Prop where
  fle : F0.le F
  s : Sep lo F Q h
  rvw : SR F rv r
  rl : r.length ≤ 3000000
  can : RowP kSs F lo (Q 16) cv cans
  cl : cans.length ≤ j + 1
  cb : ∀ y ∈ cans, y.length ≤ 3000000
  m : (bad = 0 ∧ ∃ q rr a E L, x = .p q 0 ∧ LgM lo F Q q dp rr a E L ∧ InvC E L r j (fun y => y ∈ cans) ∧ Few E (6 * j + 1)) ∨ (bad = 10 ∧ ∃ a E, DkA lo F Q 0 dp a E ∧ E.f.length = 3 ∧ AllC E (fun y => y ∈ cans) ∧ Few E (6 * j + 1))
structure CrT (lo : Nat) (F0 F : Hp) (Q : Nat → Hp) (h : Hp) (dv cv : AV) (cans : List Recs) : Prop where
  fle : F0.le F
  s : Sep lo F Q h
  can : RowP kSs F lo (Q 16) cv cans
  cl : cans.length ≤ 100
  cb : ∀ y ∈ cans, y.length ≤ 3000000
  m : ∃ dp a E, dv = .p dp 0 ∧ DkA lo F Q 0 dp a E ∧ E.f.length = 3 ∧ AllC E (fun y => y ∈ cans) ∧ Few E 1000
theorem one_row {F h : Hp} {lo p : Nat} {Q : Nat → Hp} {v : AV} {l : Recs} (s : Sep lo F Q h) (hp : h.g p = none) (hlo : h.lo ≤ p) (row : SR F v l) (hl : l.length ≤ 3000000) : ∃ q', Sep lo F (updQ Q 16 q') (h.put p [v]) ∧ RowP kSs F lo q' (.sl p 0 1 1 true 1) [l] :=
  s.rowNew (d := kSs) 16 (css := [[v]]) ⟨h, [[v]], Hp.le_refl _, rfl, Fresh.put (Hp.le_refl _) rfl hp hlo (css := [[v]]) (sz := 1) (len := 1) true (fun c hc => by simp at hc; subst hc; rfl) rfl (cs := [v]) rfl, .cons ⟨rfl, rfl, by simp [row.sc]⟩ .nil⟩ (.cons ⟨v, rfl, row, by omega⟩ .nil)
theorem D.lawLogCrashes {h : Hp} {X : D.LogA} {c : List AV} (kx : D.kLogA.K h X c) : wpC Try.prog 5 [.agg c] (fun v _ => v = .b true) h := by
  obtain ⟨a0, a1, rfl, ⟨rl, ll⟩, rf, lf⟩ := D.kLogA_open kx
  refine call_sound (args := [.ag [.vv a0, .vv a1]]) (cuts := [16999999, 19000057, 31000073, 45000101, 48000007, 53000126, 70000014, 77000160, 80999999, 83000186, 85000193]) ⟨⟨rl.sc, rf.sc, trivial⟩, trivial⟩ ?_
  rw [vc5]
  intro _
  refine c14 rl (by omega) rf (onRet.b (onB.pos rfl rfl)) fun w1 w2 w3 => onRet.b (onB.neg rfl ?_)
  have s0 := Sep.start h
  refine c7 s0 fun dp a Q1 h1 s1 d1 u1 => onRet.r rfl (onO.mk rfl (onB.neg rfl ?_))
  refine onO.mk (rf.mono s1.fle).len ⟨fun h' => ∃ Q' a E, Sep h.lo h Q' h' ∧ DkA h.lo h Q' 0 dp a E ∧ E.off = false ∧ E.f = (dkOf []).f ∧ Few E 0, onB.dec (fun e => ?_) (fun e => ⟨Q1, a, _, s1, d1, rfl, rfl, few0⟩), ?_⟩
  · obtain ⟨o, ho⟩ := get_lt (l := X.off) (k := 0) (by omega)
    refine int0 (k := 0) (rf.mono s1.fle) ho (c18 (by omega) (by omega) fun n g1 g2 => onRet.i (onO.mk (add64 (by omega) (by omega)) ?_))
    refine c20 s1 d1 (by omega) fun Q2 h2 s2 d2 u2 => onTup.z ⟨Q2, a, _, s2, d2, ?_, ?_, few0⟩
    · rw [(offD_c (by omega)).1]; rfl
    · rw [(offD_c (by omega)).2]
  clear s1 d1 u1
  rintro h4 ⟨Q4, a4, E4, s4, d4, ho4, hf4, few4⟩
  have len4 : E4.f.length = 3 := by rw [hf4]; rfl
  have fewL : Few (loadR E4).2.1 1 := loadR_few few4
  refine wpC.mono (Q := fun v h' => ∃ x e, v = .tup [x, .i .i64 e] ∧ x.sc = true ∧ Opn h.lo h dp x e h' (fun _ _ => True) (fun E L => InvC E L [] 0 (fun y => y ∈ [([] : Recs)]) ∧ Few E 1) (fun E => E.f.length = 3 ∧ AllC E (fun y => y ∈ [([] : Recs)]) ∧ Few E 1)) (c6 s4 d4 (few4.mono (by omega)) (fun e F2 a2 Q2 h2 f2 s2 d2 _ => ?_) fun e q F2 r2 a2 Q2 h2 f2 s2 m2 _ => ?_) ?_
  · rcases open_new (D := E4) (C := fun y => y ∈ [([] : Recs)]) (by simp) ho4 hf4 with ⟨e1, _⟩ | ⟨e1, _, e3, e4⟩
    · exact absurd e1 e
    · refine ⟨.np, _, rfl, rfl, F2, Q2, f2, s2, trivial, .inr ⟨e1, rfl, a2, _, d2, e3, e4, fewL⟩⟩
  · rcases open_new (D := E4) (C := fun y => y ∈ [([] : Recs)]) (by simp) ho4 hf4 with ⟨e1, i1, _⟩ | ⟨e1, _⟩
    · exact ⟨.p q 0, 0, rfl, rfl, F2, Q2, f2, s2, trivial, .inl ⟨rfl, q, r2, a2, _, _, rfl, m2, i1, fewL⟩⟩
    · rw [e] at e1; cases e1
  clear s4 d4
  rintro v h5 ⟨x, e, rfl, xsc, st⟩
  refine onTup.ri xsc ⟨fun c h' => c = false ∧ h' = h5, ?_, ?_⟩
  · obtain ⟨F, Q, f, s, _, ⟨rfl, q, rr, a, E, L, rfl, m, i⟩ | ⟨rfl, rfl, a, E, d, _⟩⟩ := st
    · exact c8 (onRet.i (onB.neg rfl (onO.mk rfl (c8 (onRet.i ⟨rfl, rfl⟩)))))
    · exact c8 (onRet.i (onB.pos rfl (c8 (onRet.i (onB.neg rfl (onO.mk rfl (c8 (onRet.i ⟨rfl, rfl⟩))))))))
  rintro h10 _ ⟨rfl, rfl⟩
  refine onB.neg rfl fun p2 => c8 (onRet.i fun hp2 hlo2 => ?_)
  have base : ∃ F Q, CrS h.lo h F Q (h10.put p2 [.ns]) dp x .ns (.sl p2 0 1 1 true 1) e [] [[]] 0 := by
    obtain ⟨F, Q, f, s, _, st⟩ := st
    obtain ⟨q', s', rp⟩ := one_row (v := .ns) (l := []) s hp2 hlo2 ⟨[], ⟨fun _ h => (by cases h), rfl⟩, .nil⟩ (by simp)
    refine ⟨F, _, f, s', ⟨[], ⟨fun _ h => (by cases h), rfl⟩, .nil⟩, by simp, by rw [updQ_same]; exact rp, by simp, by simp, ?_⟩
    rcases st with ⟨rfl, q, rr, a, E, L, rfl, m, i, fw⟩ | ⟨rfl, rfl, a, E, d, l3, al, fw⟩
    · exact .inl ⟨rfl, q, rr, a, E, L, rfl, ⟨by rw [updQ_ne (by omega)]; exact m.box, m.qlo, by rw [updQ_ne (by omega)]; exact m.row, m.dk.same fun j _ _ => updQ_ne (by omega), m.file⟩, i, fw⟩
    · exact .inr ⟨rfl, a, E, d.same fun j _ _ => updQ_ne (by omega), l3, al, fw⟩
  obtain ⟨Fb, Qb, base⟩ := base
  refine ⟨fun m rv bad c cv i h' => ∃ (j : Nat) (F : Hp) (Q : Nat → Hp) (r : Recs) (cans : List Recs), i = j ∧ j ≤ X.l.length ∧ m = X.l.length - j ∧ c = false ∧ j ≤ 20 ∧ CrS h.lo h F Q h' dp x rv cv bad r cans j,
    ⟨_, 0, Fb, Qb, [], [[]], rfl, by omega, rfl, rfl, by omega, base⟩, ?_⟩
  clear st base
  rintro m h12 rv hrv bad _ cv hcv _ ⟨j, F, Q, r, cans, rfl, hj, rfl, rfl, hj20, t⟩
  have s := t.s
  have rlF := rl.mono t.fle
  refine ⟨fun c h' => (c = true ↔ j < X.l.length ∧ j < 20 ∧ bad = 0) ∧ h' = h12, onO.mk (rlF.mono s.fle).len (onB.dec (fun e => onB.dec (fun e2 => ⟨by rw [decide_eq_true_iff]; omega, rfl⟩) fun e2 => ⟨by simp; omega, rfl⟩) fun e => ⟨by simp; omega, rfl⟩), ?_⟩
  rintro h13 lc6 ⟨hc, rfl⟩
  refine onB.mk (fun e => ?_) fun e => ?_
  · obtain ⟨e1, e2, eb⟩ := hc.1 e
    obtain ⟨q, rr, a, E, L, rfl, mm, inv, few⟩ : ∃ q rr a E L, x = .p q 0 ∧ LgM h.lo F Q q dp rr a E L ∧ InvC E L r j (fun y => y ∈ cans) ∧ Few E (6 * j + 1) := by
      rcases t.m with ⟨_, h⟩ | ⟨h, _⟩
      · exact h
      · rw [eb] at h; cases h
    obtain ⟨v, hv⟩ := get_lt (l := X.l) (k := j) e1
    obtain ⟨bb, oo, b1, b2, e3, e4, wl, wl2, wp, wp2, hact, hs1, hs8⟩ := do_cells rlF hv
    obtain ⟨y1, y2, y3, y4⟩ := w1 v (List.mem_of_getElem? hv)
    have z1 := inv.size
    have h8 : ∀ s ∈ v.l, Bytes8 s := fun s hs => (str_in wl hs).2
    have hok := next_few (act := v.act) inv.ok h8 hs8
    refine onO.mk e3 (onO.mk (rdH_le s.fle e4) (onL.ldo wl.sc wp.sc fun p4 => ?_))
    refine c15 s t.rvw wl wp.sc inv.ok.2 (by have := z1.2.2.1; rw [z1.2.2.2] at this; omega) (by omega) y3 (by omega) hs8 fun r' F' h7 f7 s7 row7 => onTup.ri row7.sc ?_
    refine c16 s7 (mm.fmono f7) (wl.mono f7) wp.sc (few.mono (by omega)) (by omega) (by omega) hs8 (by omega) (by omega) (by omega) fun F8 r8 a8 Q8 h8' f8 s8 m8 u8 => onRet.i ?_
    have few8 : Few (doesL E L v.act v.s v.l).2.1 (6 * j + 6) := doesL_few few
    have row8 := row7.mono f8
    have can8 : RowP kSs F8 h.lo (Q8 16) cv cans := by rw [u8 16 (by omega)]; exact (t.can.mono f7).mono f8
    have f08 := Hp.le_trans t.fle (Hp.le_trans f7 f8)
    have hnl : (nextL r v.act v.s v.l).1.length ≤ 3000000 := by have := len_sizeL (nextL r v.act v.s v.l).1; have := hok.2; omega
    have dc := does_c (act := v.act) (x := v.s) (l := v.l) (C' := fun y => y ∈ (if (nextL r v.act v.s v.l).2 = 0 ∧ 4 ≤ withinI v.act 7 then [(nextL r v.act v.s v.l).1] else cans ++ [(nextL r v.act v.s v.l).1])) inv (by omega) hs8 h8
      (fun hh y hy => by show y ∈ (if _ then _ else _); rw [if_neg hh]; exact List.mem_append.2 (.inl hy)) (by show _ ∈ (if _ then _ else _); split <;> simp)
    have hdead : L.dead = false := by rw [inv.lg]
    generalize hN : nextL r v.act v.s v.l = N at *
    generalize hR : doesL E L v.act v.s v.l = R at *
    refine onB.dec (fun ee => ?_) fun ee => ?_
    · have d2 : InvC R.2.1 R.2.2 N.1 (j + 1) (fun y => y ∈ (if N.2 = 0 ∧ 4 ≤ withinI v.act 7 then [N.1] else cans ++ [N.1])) := by
        rcases dc with ⟨_, d2, _⟩ | ⟨d1, d2, _⟩
        · exact d2
        · omega
      refine ⟨fun c h' => (c = true ↔ N.2 = 0 ∧ 4 ≤ withinI v.act 7) ∧ h' = h8', onB.dec (fun e0 => c51w (by omega) (by omega) (onRet.i ⟨by rw [decide_eq_true_iff]; omega, rfl⟩)) (fun e0 => ⟨by simp; omega, rfl⟩), ?_⟩
      rintro h17 lc7 ⟨hc7, rfl⟩
      refine ⟨fun a h' => h' = h17 ∧ ((lc7 = true ∧ a = .ns) ∨ (lc7 = false ∧ a = cv)), onB.mk (fun e => ⟨rfl, .inl ⟨e, rfl⟩⟩) (fun e => ⟨rfl, .inr ⟨e, rfl⟩⟩), ?_⟩
      rintro h18 cv2 hcv2 ⟨rfl, hcase⟩
      intro p7
      have next : ∀ (Q9 : Nat → Hp) (cv2 : AV) (cans2 : List Recs), Sep h.lo F8 Q9 h18 → (∀ i, i ≠ 16 → Q9 i = Q8 i) → RowP kSs F8 h.lo (Q9 16) cv2 cans2 → cans2.length ≤ j + 1 → (∀ y ∈ cans2, y.length ≤ 3000000) → (cans2 ++ [N.1] = (if N.2 = 0 ∧ 4 ≤ withinI v.act 7 then [N.1] else cans ++ [N.1])) →
          wpE (Eff.app cv2 1 (Src.lit [r']) 1) (fun x0 h19 => onO x0 fun a21 => onO (intO BinOp.add IntKind.i64 (j : Int) 1) fun n15 => ∃ p8, ltN p8 (X.l.length - j) ∧ ∃ (j : Nat) (F : Hp) (Q : Nat → Hp) (r : Recs) (cans : List Recs), n15 = j ∧ j ≤ X.l.length ∧ p8 = X.l.length - j ∧ false = false ∧ j ≤ 20 ∧ CrS h.lo h F Q h19 dp (.p q 0) r' a21 0 r cans j) h18 := by
        intro Q9 cv2 cans2 s9 u9 rp9 cl9 cb9 he
        refine s9.app1 rp9 (sz := 1) rfl (x := N.1) (c := [r']) ⟨r', rfl, row8, by omega⟩ (by omega) fun a21 h19 q19 s19 rp19 => onO.mk rfl (onO.mk (inc64 (by omega)) ⟨_, by show X.l.length - (j + 1) < X.l.length - j; omega, j + 1, F8, _, N.1, cans2 ++ [N.1], rfl, by omega, rfl, rfl, by omega, f08, s19, row8, hnl, by rw [updQ_same]; exact rp19, by simp; omega, fun y hy => ?_, .inl ⟨rfl, q, r8, a8, R.2.1, R.2.2, rfl, ?_, ?_, few8.mono (by omega)⟩⟩)
        · rcases List.mem_append.1 hy with h | h
          · exact cb9 y h
          · simp at h; subst h; exact hnl
        · have ee : ∀ i, i ≠ 16 → updQ Q9 16 q19 i = Q8 i := fun i hi => by rw [updQ_ne hi]; exact u9 i hi
          exact ⟨by rw [ee _ (by omega)]; exact m8.box, m8.qlo, by rw [ee _ (by omega)]; exact m8.row, m8.dk.same fun j _ _ => ee j (by omega), m8.file⟩
        · rw [he]; exact d2
      rcases hcase with ⟨e7, rfl⟩ | ⟨e7, rfl⟩
      · refine next _ .ns [] (s8.drop 16) (fun i hi => updQ_ne hi) (by rw [updQ_same]; exact RowP.nil) (by simp) (by simp) ?_
        rw [if_pos (hc7.1 e7)]; rfl
      · refine next Q8 cv2 cans s8 (fun _ _ => rfl) can8 t.cl t.cb ?_
        rw [if_neg fun h => by rw [hc7.2 h] at e7; cases e7]
    · obtain ⟨d1, d0, d3, d4⟩ : R.1 = 10 ∧ N.2 = 0 ∧ E.armed = true ∧ DeadC R.2.1 R.2.2 r (fun y => y ∈ cans ∨ y = N.1) := by
        rcases dc with ⟨d1, _⟩ | h
        · exact absurd d1 ee
        · exact h
      have hL2 : R.2.2 = { L with dead := true } := by
        have := doesL_dead (E := E) (act := v.act) (x := v.s) (l := v.l) hdead (by rw [hR]; exact d4.dead)
        rw [hR] at this; exact this
      have sz2 : R.2.2.size ≤ 2097152 ∧ R.2.2.pos ≤ 4194304 ∧ R.2.2.l.length ≤ 2097152 := by
        rw [hL2]; exact ⟨z1.1, by show L.pos ≤ _; omega, z1.2.2.1⟩
      rw [d1]
      refine ⟨fun c h' => c = false ∧ ∃ (F9 : Hp) (Q9 : Nat → Hp) (a9 : Nat → AV), F8.le F9 ∧ Sep h.lo F9 Q9 h' ∧ DkA h.lo F9 Q9 0 dp a9 R.2.1 ∧ RowP kSs F9 h.lo (Q9 16) cv cans, onB.neg rfl ?_, ?_⟩
      · refine c10 s8 m8 (by omega) fun r9 h9 o9 => onRet.r o9.sc ?_
        rw [d4.l] at o9
        have s9 := s8.grow o9.le o9.lo
        refine c12 o9.row (((t.rvw.mono f7).mono f8).mono s9.fle) (by have := t.rl; omega) (onRet.b (onB.neg (by simp) ?_))
        refine c21 s9 m8 (few8.mono (by omega)) fun a10 Q10 h10 s10 m10 u10 => onRet.i (c8 (onRet.i ?_))
        rw [dead_sync d4.dead] at m10 ⊢
        have m10 : LgM h.lo F8 Q10 q dp r8 a10 R.2.1 R.2.2 := m10
        refine onB.neg rfl (c9 (x := [120]) s10 m10 (few8.mono (by omega)) (fun y hy => by simp at hy; omega) (by simp) (by omega) (by omega) (by omega) fun F11 r11 a11 Q11 h11 f11 s11 m11 u11 => onRet.i (c8 (onRet.i ?_)))
        rw [dead_app d4.dead] at m11 ⊢
        have m11 : LgM h.lo F11 Q11 q dp r11 a11 R.2.1 R.2.2 := m11
        exact ⟨rfl, F11, Q11, a11, f11, s11, m11.dk, by rw [u11 16 (by omega), u10 16 (by omega)]; exact can8.mono f11⟩
      rintro h26 _ ⟨rfl, F9, Q9, a9, f9, s9, d9, rp9⟩
      refine onB.neg rfl fun p9 => s9.app1 rp9 (sz := 1) rfl (x := N.1) (c := [r']) ⟨r', rfl, row8.mono f9, by omega⟩ (by have := t.cl; omega) fun a21 h19 q19 s19 rp19 => onO.mk rfl (onO.mk (inc64 (by omega)) ⟨_, by show X.l.length - (j + 1) < X.l.length - j; omega, j + 1, F9, _, r, cans ++ [N.1], rfl, by omega, rfl, rfl, by omega, Hp.le_trans f08 f9, s19, (((t.rvw.mono f7).mono f8).mono f9), t.rl, by rw [updQ_same]; exact rp19, by have := t.cl; simp; omega, fun y hy => ?_, .inr ⟨rfl, a9, R.2.1, d9.same fun j _ _ => updQ_ne (by omega), d4.len, d4.all.mono fun y hy => ?_, few8.mono (by omega)⟩⟩)
      · rcases List.mem_append.1 hy with h | h
        · exact t.cb y h
        · simp at h; subst h; exact hnl
      · rcases hy with h | h
        · exact List.mem_append.2 (.inl h)
        · rw [h]; simp
  · -- opened again and again
    have base : CrT h.lo h F Q h13 (.p dp 0) cv cans := by
      refine ⟨t.fle, s, t.can, by have := t.cl; omega, t.cb, ?_⟩
      rcases t.m with ⟨_, q, rr, a, E, L, _, mm, inv, few⟩ | ⟨_, a, E, d, l3, al, few⟩
      · exact ⟨dp, a, E, rfl, mm.dk, inv.len, inv.all, few.mono (by omega)⟩
      · exact ⟨dp, a, E, rfl, d, l3, al, few.mono (by omega)⟩
    refine ⟨fun m dv c cv k h' => ∃ (j : Nat) (F : Hp) (Q : Nat → Hp) (cans : List Recs), k = j ∧ j ≤ 4 ∧ m = 4 - j ∧ c = false ∧ CrT h.lo h F Q h' dv cv cans, ⟨4, 0, F, Q, cans, rfl, by omega, rfl, rfl, base⟩, ?_⟩
    clear base t s rlF hc hcv hrv
    rintro m h28 dv hdv _ cv hcv _ ⟨j, F, Q, cans, rfl, hj, rfl, rfl, t⟩
    have s := t.s
    have rlF := rl.mono t.fle
    have rfF := rf.mono t.fle
    refine onB.dec (fun e => onO.mk (rlF.mono s.fle).len ⟨fun b h' => h' = h28 ∧ ∃ ps, Kn.int.Row F b ps, onB.dec (fun e2 => ?_) (fun _ => ⟨rfl, [], ns_ints⟩), ?_⟩) fun e => c13 fun h' => onRet.b rfl
    · obtain ⟨v, hv⟩ := get_lt (l := X.l) (k := j) (by omega)
      obtain ⟨bb, oo, b1, b2, e3, e4, wl, wl2, wp, wp2, hact, hs1, hs8⟩ := do_cells rlF hv
      exact onO.mk e3 (onO.mk (rdH_sub (rdH_le s.fle e4) (o' := 3) (n' := 1) rfl) (onL.r1 wp.sc ⟨rfl, _, wp⟩))
    rintro h29 b hb ⟨rfl, ps, row⟩
    obtain ⟨dp, a, E, rfl, d, l3, al, few⟩ := t.m
    refine c19 s d row (few.mono (by omega)) fun dp2 a2 Q2 h2 s2 d2 u2 => onRet.r rfl (onO.mk rfl (onB.neg rfl ?_))
    obtain ⟨x0, x1, x2, cr, t0, t1, t2⟩ := crash_three l3 ps
    rw [cr] at d2
    have hin := al x0 x1 x2 t0 t1 t2
    have hr0l := t.cb _ hin
    generalize hr0 : recOf x0 x1 x2 = r0 at *
    have can2 : RowP kSs F h.lo (Q2 16) cv cans := by rw [u2 16 (by omega) (by omega)]; exact t.can
    refine ⟨fun c h' => h' = h2 ∧ (c = true → j + 1 < X.off.length ∧ j < 2), onO.mk (inc64 (by omega)) (onO.mk (rfF.mono s2.fle).len (onB.dec (fun e2 => ⟨rfl, fun e3 => ⟨by omega, by have := of_decide_eq_true e3; omega⟩⟩) fun e2 => ⟨rfl, fun e3 => by cases e3⟩)), ?_⟩
    rintro h31 lc12 ⟨rfl, h12⟩
    refine ⟨fun h' => ∃ (Q' : Nat → Hp) (E' : Dk) (a' : Nat → AV), Sep h.lo F Q' h' ∧ DkA h.lo F Q' 0 dp2 a' E' ∧ E'.off = false ∧ E'.f = (dkOf [x0, x1, x2]).f ∧ (2 ≤ j → E'.armed = false) ∧ Few E' 0 ∧ RowP kSs F h.lo (Q' 16) cv cans, onB.mk (fun e2 => ?_) (fun e2 => ⟨Q2, _, a2, s2, d2, rfl, rfl, fun _ => rfl, few0, can2⟩), ?_⟩
    · obtain ⟨q1, q2⟩ := h12 e2
      obtain ⟨o, ho⟩ := get_lt (l := X.off) (k := j + 1) q1
      refine onO.mk (inc64 (by omega)) (int0 (k := j + 1) (rfF.mono s2.fle) ho (c18 (by omega) (by omega) fun n g1 g2 => onRet.i (onO.mk (add64 (by omega) (by omega)) ?_)))
      refine c20 s2 d2 (by omega) fun Q3 h3 s3 d3 u3 => onTup.z ⟨Q3, _, a2, s3, d3, ?_, ?_, fun h => absurd h (by omega), few0, by rw [u3 16 (by omega)]; exact can2⟩
      · rw [(offD_c (by omega)).1]; rfl
      · rw [(offD_c (by omega)).2]
    rintro h34 ⟨Q4, E4, a4, s4, d4, ho4, hf4, har4, few4, can4⟩
    have fewL : Few (loadR E4).2.1 1 := loadR_few few4
    have lc := loadR_c (x0 := x0) (x1 := x1) (x2 := x2) (N := 0) (C := fun _ => True) ho4 hf4
    rw [hr0] at lc
    refine wpC.mono (Q := fun v h' => ∃ x e, v = .tup [x, .i .i64 e] ∧ x.sc = true ∧ (e = 10 → j < 2) ∧ Opn h.lo F dp2 x e h' (fun F' Q' => RowP kSs F' h.lo (Q' 16) cv cans) (fun E L => L.l = r0 ∧ E.f.length = 3 ∧ AllC E (fun y => y = r0) ∧ Few E 1) (fun E => E.f.length = 3 ∧ AllC E (fun y => y = r0) ∧ Few E 1)) (c6 s4 d4 (few4.mono (by omega)) (fun e F5 a5 Q5 h5 f5 s5 d5 u5 => ?_) fun e q F5 r5 a5 Q5 h5 f5 s5 m5 u5 => ?_) ?_
    · rcases lc with ⟨e1, _⟩ | ⟨e1, e2, e3, e4⟩
      · exact absurd e1 e
      · refine ⟨.np, _, rfl, rfl, fun _ => ?_, F5, Q5, f5, s5, by show RowP kSs F5 h.lo (Q5 16) cv cans; rw [u5 16 (by omega)]; exact can4.mono f5, .inr ⟨e1, rfl, a5, _, d5, e3, e4, fewL⟩⟩
        rcases Nat.lt_or_ge j 2 with h | h
        · exact h
        · rw [har4 h] at e2; cases e2
    · rcases lc with ⟨e1, e2, e3, e4, _⟩ | ⟨e1, _⟩
      · exact ⟨.p q 0, 0, rfl, rfl, fun h => (by cases h), F5, Q5, f5, s5, by show RowP kSs F5 h.lo (Q5 16) cv cans; rw [u5 16 (by omega)]; exact can4.mono f5, .inl ⟨rfl, q, r5, a5, _, _, rfl, m5, e2, e3, e4, fewL⟩⟩
      · rw [e] at e1; cases e1
    clear s4 d4 lc
    rintro v h35 ⟨x, e27, rfl, xsc, hj2, F5, Q5, f5, s5, can5, st⟩
    refine onTup.ri xsc ⟨fun c h' => (c = true ↔ e27 = 10) ∧ h' = h35, ?_, ?_⟩
    · rcases st with ⟨rfl, q, rr, a, E, L, rfl, m, i⟩ | ⟨rfl, rfl, a, E, d, _⟩
      · exact c8 (onRet.i (onB.neg rfl ⟨by simp, rfl⟩))
      · exact c8 (onRet.i (onB.pos rfl (onB.pos (decide_eq_true (by have := hj2 rfl; omega)) (onO.mk rfl ⟨by simp, rfl⟩))))
    rintro h37 lc14 ⟨hc14, rfl⟩
    have f05 := Hp.le_trans t.fle f5
    refine onB.mk (fun e14 => ?_) fun e14 => ?_
    · have e10 := hc14.1 e14
      rcases st with ⟨e0, _⟩ | ⟨_, rfl, a6, E6, d6, l6, al6, few6⟩
      · omega
      · exact onO.mk (inc64 (by omega)) ⟨_, by show 4 - (j + 1) < 4 - j; omega, j + 1, F5, Q5, cans, rfl, by omega, rfl, rfl, f05, s5, can5, t.cl, t.cb, dp2, a6, E6, rfl, d6, l6, al6.mono fun y hy => by rw [hy]; exact hin, few6.mono (by omega)⟩
    · obtain ⟨rfl, q, rr, a6, E6, L6, rfl, m6, hl6, l6, al6, few6⟩ : e27 = 0 ∧ ∃ q rr a E L, x = .p q 0 ∧ LgM h.lo F5 Q5 q dp2 rr a E L ∧ L.l = r0 ∧ E.f.length = 3 ∧ AllC E (fun y => y = r0) ∧ Few E 1 := by
        rcases st with h | ⟨e0, _⟩
        · exact h
        · rw [hc14.2 e0] at e14; cases e14
      refine ⟨fun c h' => c = false ∧ h' = h37, c8 (onRet.i (onB.neg rfl (onO.mk rfl ⟨rfl, rfl⟩))), ?_⟩
      rintro h39 _ ⟨rfl, rfl⟩
      refine onB.neg rfl (c10 s5 m6 (by rw [hl6]; omega) fun r7 h40 o7 => onRet.r o7.sc ?_)
      rw [hl6] at o7
      have s7 := s5.frz o7.le o7.lo
      have f7 := s5.fgrow o7.le
      have row7 := o7.frozen str_flat (F := F5)
      have can7 := can5.mono f7
      refine ⟨fun m c n h' => ∃ i : Nat, n = i ∧ i ≤ cans.length ∧ m = cans.length - i ∧ h' = h40 ∧ (c = true ↔ ∃ k, k < i ∧ cans[k]? = some r0), ⟨_, 0, rfl, by omega, rfl, rfl, by simp⟩, ?_⟩
      rintro m13 h41 lc17 _ ⟨i, rfl, hi, rfl, rfl, hc17⟩
      refine onO.mk (s7.rows can7).len (onB.dec (fun e => onB.mk (fun ec => ?_) fun ec => ?_) fun e => ?_)
      · exact onO.mk (inc64 (by have := t.cl; omega)) ⟨_, by show cans.length - (i + 1) < cans.length - i; omega, i + 1, rfl, by omega, rfl, rfl, by
          obtain ⟨k, k1, k2⟩ := hc17.1 ec
          exact ⟨fun _ => ⟨k, by omega, k2⟩, fun _ => rfl⟩⟩
      · obtain ⟨y, hy⟩ := get_lt (l := cans) (k := i) (by omega)
        obtain ⟨bb, oo, cc, g1, g2, yv, rfl, yr, yl⟩ := s7.idx can7 (sz := 1) rfl hy
        have hyl := t.cb y (List.mem_of_getElem? hy)
        refine onO.mk g1 (onO.mk g2 (onL.r1 yr.sc (c12 (yr.mono s7.fle) (row7.mono s7.fle) (by omega) (onRet.b (onO.mk (inc64 (by have := t.cl; omega)) ⟨_, by show cans.length - (i + 1) < cans.length - i; omega, i + 1, rfl, by omega, rfl, rfl, ?_⟩)))))
        rw [decide_eq_true_iff]
        refine ⟨fun h => ⟨i, by omega, by rw [← h]; exact hy⟩, fun ⟨k, k1, k2⟩ => ?_⟩
        by_cases ek : k < i
        · rw [hc17.2 ⟨k, ek, k2⟩] at ec; cases ec
        · have : k = i := by omega
          subst this
          rw [hy] at k2
          injection k2
      · have hfound : lc17 = true := by
          obtain ⟨k, hk⟩ := List.getElem?_of_mem hin
          exact hc17.2 ⟨k, by have := (List.getElem?_eq_some_iff.1 hk).1; omega, hk⟩
        refine onB.neg (by rw [hfound]; rfl) fun p21 => onO.mk (inc64 (by omega)) fun hp21 hlo21 => ?_
        obtain ⟨q16, s8, rp8⟩ := one_row (v := r7) (l := r0) s7 hp21 hlo21 row7 hr0l
        refine ⟨_, by show 4 - (j + 1) < 4 - j; omega, j + 1, _, _, [r0], rfl, by omega, rfl, rfl, Hp.le_trans f05 f7, s8, by rw [updQ_same]; exact rp8, by simp, by simp; exact hr0l, dp2, a6, E6, rfl, (m6.dk.fmono f7).same fun j _ _ => updQ_ne (by omega), l6, al6.mono fun y hy => by rw [hy]; simp, few6.mono (by omega)⟩
end Go.Proofs.YtedhmpadkdmnhaaAn
