/- What the functions that the law reaches come to, down to the law itself. -/
import Derived.Test.YtiidgjdogekpfaaCnStoreCrashesp1
import Derived.Test.YtiidgjdogekpfaaProg
set_option linter.unusedVariables false
set_option linter.unusedSimpArgs false
set_option maxRecDepth 100000
namespace Go.Proofs.YtiidgjdogekpfaaAn
open Go
/- arras/log.lay -/
theorem vc71 (a : AV) (h : Hp) (Post : AV → Hp → Prop) : vcCall Try.prog [] 71 [(SV.vv a)] h Post = (
  onO (lenV a) fun p0 =>
  ∃ I0 : Nat → AV → Int → Hp → Prop,
    (∃ p1, I0 p1 AV.ns 0 h) ∧
      ∀ (p2 : Nat) (h0 : Hp) (a0 : AV),
        a0.sc = true →
          ∀ (n0 : Int),
            I0 p2 a0 n0 h0 →
              onB (decide (n0 < ↑p0))
                (onO (idxV a n0 1) fun r0 =>
                  onO (rdH h0 r0.fst r0.snd 1) fun l0 =>
                    onL [Kd.str] l0 fun l1 =>
                      onO (wrO IntKind.u32 ↑l1.length) fun n1 =>
                        wpC Try.prog 93 [a0, AV.i IntKind.u32 n1]
                          (fun a1 h1 =>
                            onRet [Sh.one Kd.ref] a1 fun a2 =>
                              ∀ (p3 : Nat),
                                h1.g p3 = none →
                                  h1.lo.le p3 →
                                    wpC Try.prog 77 [AV.i IntKind.u32 0, AV.sl p3 0 l1.length l1.length false 1]
                                      (fun a3 h2 =>
                                        onRet [Sh.one (Kd.int IntKind.u32)] a3 fun n2 =>
                                          wpC Try.prog 93 [a2, AV.i IntKind.u32 n2]
                                            (fun a4 h3 =>
                                              onRet [Sh.one Kd.ref] a4 fun a5 =>
                                                onO (srcV 1 (AV.s l1)) fun r1 =>
                                                  onC (((4 * r1.fst + 4000) * 1).ble (OfNat.ofNat 17179869184))
                                                    (wpE (Eff.app a5 r1.fst r1.snd 1) (fun x0 h4 => onO x0 fun a6 => onO (intO BinOp.add IntKind.i64 n0 1) fun n3 => ∃ p4, ltN p4 p2 ∧ I0 p4 a6 n3 h4)
                                                      h3))
                                            h2)
                                      (h1.put p3 (bytesV l1)))
                          h0)
                (Post a0 h0)) := by kernel_rfl
/- (*arras/log.Log).did -/
theorem vc72 (a : AV) (b : Int) (h : Hp) (Post : AV → Hp → Prop) : vcCall Try.prog [] 72 [(SV.vv a), (SV.ii .i64 b)] h Post = (
  onO (ptrV a) fun r0 => wpE (Eff.w r0.fst (r0.snd + 5) (Src.lit [AV.b !decide (b = 0)]) none) (fun x0 h0 => Post (AV.i IntKind.i64 b) h0) h) := by kernel_rfl
/- slices.Clone[[]string,string] -/
theorem vc45 (a : AV) (h : Hp) (Post : AV → Hp → Prop) : vcCall Try.prog [] 45 [(SV.vv a)] h Post = (
  onO (nilSl a) fun lc0 =>
  onB lc0 (Post AV.ns h)
    (∀ (p0 : Nat),
      h.g p0 = none →
        h.lo.le p0 →
          onO (srcV 1 a) fun r0 =>
            onC (((4 * r0.fst + 4000) * 16).ble (OfNat.ofNat 17179869184)) (wpE (Eff.app (AV.sl p0 0 0 0 true 1) r0.fst r0.snd 1) (fun x0 h0 => onO x0 fun a0 => Post a0 h0) (h.put p0 [])))) := by kernel_rfl
/- (*arras/store.Store).read -/
theorem vc28 (a : AV) (b : List Nat) (h : Hp) (Post : AV → Hp → Prop) : vcCall Try.prog [] 28 [(SV.vv a), (SV.ss b)] h Post = (
  ∀ (p0 : Nat),
  h.g p0 = none →
    h.lo.le p0 →
      wpC Try.prog 46 [AV.sl p0 0 b.length b.length false 1]
        (fun a0 h0 =>
          onTup
            [Sh.agg
                [Kd.int IntKind.i64, Kd.int IntKind.i64, Kd.int IntKind.i64, Kd.ref, Kd.int IntKind.i64, Kd.int IntKind.i64, Kd.int IntKind.i64, Kd.int IntKind.i64, Kd.int IntKind.i64, Kd.str,
                  Kd.int IntKind.i64, Kd.int IntKind.i64],
              Sh.one (Kd.int IntKind.i64), Sh.one (Kd.int IntKind.i64)]
            a0 fun n0 n1 n2 a1 n3 n4 n5 n6 n7 l0 n8 n9 n10 n11 =>
            ∀ (p1 : Nat),
              onB (!decide (n11 = 0)) (Post (AV.b false) h0)
                (onB (!decide (n10 = ↑b.length)) (Post (AV.b false) h0)
                  (onO (ptrV a) fun r0 =>
                    onO (rdH h0 r0.fst (r0.snd + 1) 1) fun l1 =>
                      onL [Kd.ref] l1 fun a2 =>
                        ∀ (p2 : Nat),
                          wpE
                            (Eff.app a2 1
                              (Src.lit
                                [AV.i IntKind.i64 n0, AV.i IntKind.i64 n1, AV.i IntKind.i64 n2, a1, AV.i IntKind.i64 n3, AV.i IntKind.i64 n4, AV.i IntKind.i64 n5, AV.i IntKind.i64 n6,
                                  AV.i IntKind.i64 n7, AV.s l0, AV.i IntKind.i64 n8, AV.i IntKind.i64 n9])
                              12)
                            (fun x0 h1 =>
                              onO x0 fun a3 =>
                                onO (ptrV a) fun r1 =>
                                  onO (rdH h1 r1.fst (r1.snd + 2) 1) fun l2 =>
                                    onL [Kd.int IntKind.i64] l2 fun n12 =>
                                      sameH h0 h1 r1.fst (r1.snd + 2) 1 ∧
                                        onO (intO BinOp.add IntKind.i64 n12 ↑b.length) fun n13 =>
                                          onO (intO BinOp.add IntKind.i64 n13 16) fun n14 =>
                                            onO (ptrV a) fun r2 =>
                                              wpE (Eff.w r2.fst (r2.snd + 1) (Src.lit [a3]) none)
                                                (fun x1 h2 => onO (ptrV a) fun r3 => wpE (Eff.w r3.fst (r3.snd + 2) (Src.lit [AV.i IntKind.i64 n14]) none) (fun x2 h3 => Post (AV.b true) h3) h2) h1)
                            h0)))
        (h.put p0 (bytesV b))) := by kernel_rfl
/- arras/store.fit -/
theorem vc40 (a : AV) (h : Hp) (Post : AV → Hp → Prop) : vcCall Try.prog [] 40 [(SV.vv a)] h Post = (
  onO (lenV a) fun p0 =>
  ∃ I0 : Nat → Int → AV → Int → Int → Hp → Prop,
    (∃ p1, I0 p1 0 AV.ns 0 0 h) ∧
      ∀ (p2 : Nat) (h0 : Hp) (n0 : Int) (a0 : AV),
        a0.sc = true →
          ∀ (n1 n2 : Int),
            I0 p2 n0 a0 n1 n2 h0 →
              onB (decide (n2 < ↑p0))
                (onO (idxV a n2 12) fun r0 =>
                  onO (rdH h0 r0.fst r0.snd 12) fun l0 =>
                    onL
                      [Kd.int IntKind.i64, Kd.int IntKind.i64, Kd.int IntKind.i64, Kd.ref, Kd.int IntKind.i64, Kd.int IntKind.i64, Kd.int IntKind.i64, Kd.int IntKind.i64, Kd.int IntKind.i64, Kd.str,
                        Kd.int IntKind.i64, Kd.int IntKind.i64]
                      l0 fun n3 n4 n5 a1 n6 n7 n8 n9 n10 l1 n11 n12 =>
                      ∀ (p3 : Nat),
                        wpC Try.prog 59
                          [AV.agg
                              [AV.i IntKind.i64 n3, AV.i IntKind.i64 n4, AV.i IntKind.i64 n5, a1, AV.i IntKind.i64 n6, AV.i IntKind.i64 n7, AV.i IntKind.i64 n8, AV.i IntKind.i64 n9,
                                AV.i IntKind.i64 n10, AV.s l1, AV.i IntKind.i64 n11, AV.i IntKind.i64 n12]]
                          (fun a2 h1 =>
                            onTup [Sh.one Kd.ref, Sh.one (Kd.int IntKind.i64)] a2 fun a3 n13 =>
                              onB (!decide (n13 = 0)) (Post (AV.tup [AV.ns, AV.i IntKind.i64 0, AV.i IntKind.i64 n13]) h1)
                                (onO (strAt h1 a3) fun r1 =>
                                  ∀ (p4 : Nat),
                                    wpE (Eff.app a0 1 (Src.lit [AV.s r1.fst]) 1)
                                      (fun x0 h2 =>
                                        onO x0 fun a4 =>
                                          onO (lenV a3) fun p5 =>
                                            onO (intO BinOp.add IntKind.i64 n1 ↑p5) fun n14 =>
                                              onO (intO BinOp.add IntKind.i64 n14 16) fun n15 => onO (intO BinOp.add IntKind.i64 n2 1) fun n16 => ∃ p6, ltN p6 p2 ∧ I0 p6 n0 a4 n15 n16 h2)
                                      h1))
                          h0)
                (Post (AV.tup [a0, AV.i IntKind.i64 n1, AV.i IntKind.i64 0]) h0)) := by kernel_rfl
/- (*arras/store.Store).write -/
theorem vc41 (a : AV) (b : AV) (h : Hp) (Post : AV → Hp → Prop) : vcCall Try.prog [] 41 [(SV.vv a), (SV.vv b)] h Post = (
  onO (lenV b) fun p0 =>
  ∃ I0 : Nat → Int → Int → Hp → Prop,
    (∃ p1, I0 p1 0 0 h) ∧
      ∀ (p2 : Nat) (h0 : Hp) (n0 n1 : Int),
        I0 p2 n0 n1 h0 →
          onB (decide (n1 < ↑p0))
            (onO (idxV b n1 1) fun r0 =>
              onO (rdH h0 r0.fst r0.snd 1) fun l0 =>
                onL [Kd.str] l0 fun l1 =>
                  onO (ptrV a) fun r1 =>
                    onO (rdH h0 r1.fst (r1.snd + 0) 1) fun l2 =>
                      onL [Kd.ref] l2 fun a0 =>
                        wpC Try.prog 60 [a0, AV.s l1]
                          (fun a1 h1 =>
                            onRet [Sh.one (Kd.int IntKind.i64)] a1 fun n2 =>
                              onB (!decide (n2 = 0)) (Post (AV.i IntKind.i64 n2) h1) (onO (intO BinOp.add IntKind.i64 n1 1) fun n3 => ∃ p3, ltN p3 p2 ∧ I0 p3 n0 n3 h1))
                          h0)
            (onO (ptrV a) fun r2 =>
              onO (rdH h0 r2.fst (r2.snd + 0) 1) fun l3 =>
                onL [Kd.ref] l3 fun a2 => wpC Try.prog 61 [a2] (fun a3 h2 => onRet [Sh.one (Kd.int IntKind.i64)] a3 fun n4 => Post (AV.i IntKind.i64 n4) h2) h0)) := by kernel_rfl
/- (*arras/log.Log).read -/
theorem vc63 (a : AV) (b : Int) (h : Hp) (Post : AV → Hp → Prop) : vcCall Try.prog [] 63 [(SV.vv a), (SV.ii .i64 b)] h Post = (
  onO (ptrV a) fun r0 =>
  onO (rdH h r0.fst (r0.snd + 0) 1) fun l0 =>
    onL [Kd.ref] l0 fun a0 =>
      wpC Try.prog 74 [a0, AV.i IntKind.i64 b]
        (fun a1 h0 =>
          onTup [Sh.one (Kd.int IntKind.i64), Sh.one (Kd.int IntKind.i64)] a1 fun n0 n1 =>
            onB (!decide (n1 = 0)) (Post (AV.tup [AV.ns, AV.i IntKind.i64 n1]) h0)
              (onO (ptrV a) fun r1 =>
                onO (rdH h0 r1.fst (r1.snd + 0) 1) fun l1 =>
                  onL [Kd.ref] l1 fun a2 =>
                    wpC Try.prog 75 [a2, AV.i IntKind.i64 b, AV.i IntKind.i64 0, AV.i IntKind.i64 n0]
                      (fun a3 h1 => onTup [Sh.one Kd.ref, Sh.one (Kd.int IntKind.i64)] a3 fun a4 n2 => Post (AV.tup [a4, AV.i IntKind.i64 n2]) h1) h0))
        h) := by kernel_rfl
/- (*arras/log.Log).scan -/
theorem vc64 (a : AV) (b : AV) (h : Hp) (Post : AV → Hp → Prop) : vcCall Try.prog [0] 64 [(SV.vv a), (SV.vv b)] h Post = (
  ∃ I0 : Nat → Int → AV → Hp → Prop,
  (∃ p0, I0 p0 0 AV.ns h) ∧
    ∀ (p1 : Nat) (h0 : Hp) (n0 : Int) (a0 : AV),
      a0.sc = true →
        I0 p1 n0 a0 h0 →
          Dup
            (onO (lenV b) fun p2 =>
              onO (ptrV a) fun r0 =>
                onO (rdH h0 r0.fst (r0.snd + 4) 1) fun l0 =>
                  onL [Kd.int IntKind.i64] l0 fun n1 =>
                    onO (intO BinOp.sub IntKind.i64 (↑p2) n1) fun n2 =>
                      onB (decide (n2 < 8)) (Post (AV.tup []) h0)
                        (onO (ptrV a) fun r1 =>
                          onO (rdH h0 r1.fst (r1.snd + 4) 1) fun l1 =>
                            onL [Kd.int IntKind.i64] l1 fun n3 =>
                              onO (slV b (some n3) none none 1) fun a1 =>
                                wpC Try.prog 76 [a1]
                                  (fun a2 h1 =>
                                    onRet [Sh.one (Kd.int IntKind.i64)] a2 fun n4 =>
                                      onB (decide (4096 < n4)) (Post (AV.tup []) h1)
                                        (onO (lenV b) fun p3 =>
                                          onO (ptrV a) fun r2 =>
                                            onO (rdH h1 r2.fst (r2.snd + 4) 1) fun l2 =>
                                              onL [Kd.int IntKind.i64] l2 fun n5 =>
                                                onO (intO BinOp.sub IntKind.i64 (↑p3) n5) fun n6 =>
                                                  onO (intO BinOp.sub IntKind.i64 n6 8) fun n7 =>
                                                    onB (decide (n7 < n4)) (Post (AV.tup []) h1)
                                                      (onO (ptrV a) fun r3 =>
                                                        onO (rdH h1 r3.fst (r3.snd + 4) 1) fun l3 =>
                                                          onL [Kd.int IntKind.i64] l3 fun n8 =>
                                                            onO (intO BinOp.add IntKind.i64 n8 8) fun n9 =>
                                                              onO (ptrV a) fun r4 =>
                                                                onO (rdH h1 r4.fst (r4.snd + 4) 1) fun l4 =>
                                                                  onL [Kd.int IntKind.i64] l4 fun n10 =>
                                                                    onO (intO BinOp.add IntKind.i64 n10 8) fun n11 =>
                                                                      onO (intO BinOp.add IntKind.i64 n11 n4) fun n12 =>
                                                                        onO (slV b (some n9) (some n12) none 1) fun a3 =>
                                                                          onO (ptrV a) fun r5 =>
                                                                            onO (rdH h1 r5.fst (r5.snd + 4) 1) fun l5 =>
                                                                              onL [Kd.int IntKind.i64] l5 fun n13 =>
                                                                                onO (intO BinOp.add IntKind.i64 n13 4) fun n14 =>
                                                                                  onO (slV b (some n14) none none 1) fun a4 =>
                                                                                    wpC Try.prog 76 [a4]
                                                                                      (fun a5 h2 =>
                                                                                        onRet [Sh.one (Kd.int IntKind.i64)] a5 fun n15 =>
                                                                                          onO (wrO IntKind.u32 n15) fun n16 =>
                                                                                            wpC Try.prog 77 [AV.i IntKind.u32 0, a3]
                                                                                              (fun a6 h3 =>
                                                                                                onRet [Sh.one (Kd.int IntKind.u32)] a6 fun n17 =>
                                                                                                  onB (!decide (n16 = n17)) (Post (AV.tup []) h3)
                                                                                                    (onO (ptrV a) fun r6 =>
                                                                                                      onO (rdH h3 r6.fst (r6.snd + 1) 1) fun l6 =>
                                                                                                        onL [Kd.ref] l6 fun a7 =>
                                                                                                          onO (strAt h3 a3) fun r7 =>
                                                                                                            ∀ (p4 : Nat),
                                                                                                              wpE (Eff.app a7 1 (Src.lit [AV.s r7.fst]) 1)
                                                                                                                (fun x0 h4 =>
                                                                                                                  onO x0 fun a8 =>
                                                                                                                    onO (ptrV a) fun r8 =>
                                                                                                                      onO (rdH h4 r8.fst (r8.snd + 2) 1) fun l7 =>
                                                                                                                        onL [Kd.int IntKind.i64] l7 fun n18 =>
                                                                                                                          sameH h3 h4 r8.fst (r8.snd + 2) 1 ∧
                                                                                                                            onO (intO BinOp.add IntKind.i64 n18 n4) fun n19 =>
                                                                                                                              onO (intO BinOp.add IntKind.i64 n19 16) fun n20 =>
                                                                                                                                onO (ptrV a) fun r9 =>
                                                                                                                                  onO (rdH h4 r9.fst (r9.snd + 4) 1) fun l8 =>
                                                                                                                                    onL [Kd.int IntKind.i64] l8 fun n21 =>
                                                                                                                                      sameH h3 h4 r9.fst (r9.snd + 4) 1 ∧
                                                                                                                                        onO (intO BinOp.add IntKind.i64 n21 8) fun n22 =>
                                                                                                                                          onO (intO BinOp.add IntKind.i64 n22 n4) fun n23 =>
                                                                                                                                            onO (ptrV a) fun r10 =>
                                                                                                                                              wpE (Eff.w r10.fst (r10.snd + 1) (Src.lit [a8]) none)
                                                                                                                                                (fun x1 h5 =>
                                                                                                                                                  onO (ptrV a) fun r11 =>
                                                                                                                                                    wpE
                                                                                                                                                      (Eff.w r11.fst (r11.snd + 2)
                                                                                                                                                        (Src.lit [AV.i IntKind.i64 n20]) none)
                                                                                                                                                      (fun x2 h6 =>
                                                                                                                                                        onO (ptrV a) fun r12 =>
                                                                                                                                                          wpE
                                                                                                                                                            (Eff.w r12.fst (r12.snd + 4)
                                                                                                                                                              (Src.lit [AV.i IntKind.i64 n23]) none)
                                                                                                                                                            (fun x3 h7 =>
                                                                                                                                                              ∃ p5, ltN p5 p1 ∧ I0 p5 n4 a3 h7)
                                                                                                                                                            h6)
                                                                                                                                                      h5)
                                                                                                                                                h4)
                                                                                                                h3))
                                                                                              h2)
                                                                                      h1)))
                                  h0))) := by kernel_rfl
/- arras/log.four -/
theorem vc93 (a : AV) (b : Int) (h : Hp) (Post : AV → Hp → Prop) : vcCall Try.prog [] 93 [(SV.vv a), (SV.ii .u32 b)] h Post = (
  onO (shO BinOp.shr IntKind.u32 b 24) fun n0 =>
  onO (wrO IntKind.u8 n0) fun n1 =>
    onO (shO BinOp.shr IntKind.u32 b 16) fun n2 =>
      onO (wrO IntKind.u8 n2) fun n3 =>
        onO (shO BinOp.shr IntKind.u32 b 8) fun n4 =>
          onO (wrO IntKind.u8 n4) fun n5 =>
            onO (wrO IntKind.u8 b) fun n6 =>
              ∀ (p0 : Nat), wpE (Eff.app a 4 (Src.lit [AV.i IntKind.u8 n1, AV.i IntKind.u8 n3, AV.i IntKind.u8 n5, AV.i IntKind.u8 n6]) 1) (fun x0 h0 => onO x0 fun a0 => Post a0 h0) h) := by kernel_rfl
/- arras/log.number -/
theorem vc76 (a : AV) (h : Hp) (Post : AV → Hp → Prop) : vcCall Try.prog [] 76 [(SV.vv a)] h Post = (
  onO (idxV a 0 1) fun r0 =>
  onO (rdH h r0.fst r0.snd 1) fun l0 =>
    onL [Kd.int IntKind.u8] l0 fun n0 =>
      onO (wrO IntKind.i64 n0) fun n1 =>
        onO (shO BinOp.shl IntKind.i64 n1 24) fun n2 =>
          onO (idxV a 1 1) fun r1 =>
            onO (rdH h r1.fst r1.snd 1) fun l1 =>
              onL [Kd.int IntKind.u8] l1 fun n3 =>
                onO (wrO IntKind.i64 n3) fun n4 =>
                  onO (shO BinOp.shl IntKind.i64 n4 16) fun n5 =>
                    onO (intO BinOp.or IntKind.i64 n2 n5) fun n6 =>
                      onO (idxV a 2 1) fun r2 =>
                        onO (rdH h r2.fst r2.snd 1) fun l2 =>
                          onL [Kd.int IntKind.u8] l2 fun n7 =>
                            onO (wrO IntKind.i64 n7) fun n8 =>
                              onO (shO BinOp.shl IntKind.i64 n8 8) fun n9 =>
                                onO (intO BinOp.or IntKind.i64 n6 n9) fun n10 =>
                                  onO (idxV a 3 1) fun r3 =>
                                    onO (rdH h r3.fst r3.snd 1) fun l3 =>
                                      onL [Kd.int IntKind.u8] l3 fun n11 => onO (wrO IntKind.i64 n11) fun n12 => onO (intO BinOp.or IntKind.i64 n10 n12) fun n13 => Post (AV.i IntKind.i64 n13) h) := by kernel_rfl
/-! ### plain -/
def num4 (l : List Nat) : Nat := l.getD 0 0 * 16777216 + l.getD 1 0 * 65536 + l.getD 2 0 * 256 + l.getD 3 0
theorem num4_four {c : Nat} (h : c < 4294967296) (rest : List Nat) : num4 (four c ++ rest) = c := by
  show c / 16777216 % 256 * 16777216 + c / 65536 % 256 * 65536 + c / 256 % 256 * 256 + c % 256 = c
  omega
def lay1 (s : List Nat) : List Nat := four s.length ++ (four (crc 0 s) ++ s)
def layR (l : List (List Nat)) : List Nat := (l.map lay1).flatten
theorem drop_four {c : Nat} (rest : List Nat) : (four c ++ rest).drop 4 = rest := rfl
theorem four_len' {c : Nat} : (four c).length = 4 := rfl
theorem lay1_len {s : List Nat} : (lay1 s).length = 8 + s.length := by unfold lay1; simp only [List.length_append, four_len']; omega
theorem layR_app {a b : List (List Nat)} : layR (a ++ b) = layR a ++ layR b := by unfold layR; simp
theorem layR_cons {s : List Nat} {l : List (List Nat)} : layR (s :: l) = lay1 s ++ layR l := rfl
theorem layR_one {s : List Nat} : layR [s] = lay1 s := by simp [layR]
def sizeL (l : List (List Nat)) : Nat := (l.map fun s => s.length + 16).sum
theorem sizeL_app {a b : List (List Nat)} : sizeL (a ++ b) = sizeL a + sizeL b := by unfold sizeL; simp
theorem sizeL_cons {s : List Nat} {l : List (List Nat)} : sizeL (s :: l) = s.length + 16 + sizeL l := by unfold sizeL; simp
theorem layR_le : ∀ {l : List (List Nat)}, (layR l).length ≤ sizeL l
  | [] => Nat.le_refl _
  | s :: l => by rw [layR_cons, sizeL_cons, List.length_append, lay1_len]; have := layR_le (l := l); omega
def rec1 (b : List Nat) : Option (List Nat) :=
  if b.length < 8 then none else if 4096 < num4 b then none else if b.length - 8 < num4 b then none else
  if num4 (b.drop 4) = crc 0 ((b.drop 8).take (num4 b)) then some ((b.drop 8).take (num4 b)) else none
def scanF : Nat → List Nat → List (List Nat) × Nat
  | 0, _ => ([], 0)
  | n + 1, b => match rec1 b with
    | none => ([], 0)
    | some s => (s :: (scanF n (b.drop (8 + s.length))).1, 8 + s.length + (scanF n (b.drop (8 + s.length))).2)
def scanL (b : List Nat) : List (List Nat) × Nat := scanF b.length b
theorem rec1_some {b s : List Nat} (h : rec1 b = some s) : 8 + s.length ≤ b.length ∧ s.length = num4 b ∧ s.length ≤ 4096 ∧ s = (b.drop 8).take s.length ∧ num4 (b.drop 4) = crc 0 s := by
  unfold rec1 at h
  split at h
  · cases h
  · split at h
    · cases h
    · split at h
      · cases h
      · split at h
        · rename_i h1 h2 h3 h4
          injection h with h
          have hl : s.length = num4 b := by rw [← h, List.length_take, List.length_drop]; omega
          exact ⟨by omega, hl, by omega, by rw [hl]; exact h.symm, by rw [← h]; exact h4⟩
        · cases h
theorem scanF_more : ∀ {n m : Nat} {b : List Nat}, b.length ≤ n → b.length ≤ m → scanF n b = scanF m b
  | 0, 0, _, _, _ => rfl
  | 0, m + 1, b, h, _ => by
    have : rec1 b = none := by unfold rec1; rw [if_pos (by omega)]
    unfold scanF; rw [this]
  | n + 1, 0, b, _, h => by
    have : rec1 b = none := by unfold rec1; rw [if_pos (by omega)]
    unfold scanF; rw [this]
  | n + 1, m + 1, b, h1, h2 => by
    show (match rec1 b with | none => _ | some s => _) = (match rec1 b with | none => _ | some s => _)
    cases e : rec1 b with
    | none => rfl
    | some s =>
      have := (rec1_some e).1
      have : scanF n (b.drop (8 + s.length)) = scanF m (b.drop (8 + s.length)) := scanF_more (by simp; omega) (by simp; omega)
      simp only [this]
theorem scan_none {b : List Nat} (h : rec1 b = none) : scanL b = ([], 0) := by
  unfold scanL
  cases hl : b.length with
  | zero => rfl
  | succ n => show (match rec1 b with | none => _ | some s => _) = _; rw [h]
theorem scan_some {b s : List Nat} (h : rec1 b = some s) : scanL b = (s :: (scanL (b.drop (8 + s.length))).1, 8 + s.length + (scanL (b.drop (8 + s.length))).2) := by
  have h0 := (rec1_some h).1
  unfold scanL
  cases hl : b.length with
  | zero => omega
  | succ n =>
    show (match rec1 b with | none => _ | some s => _) = _
    rw [h]
    have : scanF n (b.drop (8 + s.length)) = scanF (b.drop (8 + s.length)).length (b.drop (8 + s.length)) := scanF_more (by simp; omega) (Nat.le_refl _)
    simp only [this]
theorem scan_ind {P : List Nat → Prop} (h1 : ∀ b, rec1 b = none → P b) (h2 : ∀ b s, rec1 b = some s → P (b.drop (8 + s.length)) → P b) : ∀ b, P b := by
  have : ∀ n (b : List Nat), b.length = n → P b := by
    intro n
    induction n using Nat.strongRecOn with
    | _ n ih =>
      intro b hb
      cases e : rec1 b with
      | none => exact h1 b e
      | some s =>
        have := (rec1_some e).1
        exact h2 b s e (ih _ (by simp; omega) _ rfl)
  exact fun b => this _ b rfl
theorem scan_len : ∀ b : List Nat, (scanL b).2 ≤ b.length ∧ (∀ s ∈ (scanL b).1, s.length ≤ 4096) ∧ (layR (scanL b).1).length = (scanL b).2 := by
  refine scan_ind (fun b e => ?_) fun b s e ih => ?_
  · rw [scan_none e]; exact ⟨Nat.zero_le _, fun s hs => (by cases hs), rfl⟩
  · rw [scan_some e]
    obtain ⟨r1, r2, r3, r4, r5⟩ := rec1_some e
    obtain ⟨i1, i2, i3⟩ := ih
    rw [List.length_drop] at i1
    refine ⟨by show 8 + s.length + _ ≤ _; omega, fun x hx => ?_, ?_⟩
    · rcases List.mem_cons.1 hx with rfl | hx
      · exact r3
      · exact i2 x hx
    · show (layR (s :: _)).length = 8 + s.length + _
      rw [layR_cons, List.length_append, lay1_len, i3]
/-- a record, whatever stands behind it -/
theorem rec1_lay {s : List Nat} (h : s.length ≤ 4096) (hb : Bytes8 s) (rest : List Nat) : rec1 (lay1 s ++ rest) = some s := by
  have hl : (lay1 s ++ rest).length = 8 + s.length + rest.length := by rw [List.length_append, lay1_len]
  have hn : num4 (lay1 s ++ rest) = s.length := by unfold lay1; rw [List.append_assoc]; exact num4_four (by omega) _
  have hd4 : (lay1 s ++ rest).drop 4 = four (crc 0 s) ++ (s ++ rest) := by
    unfold lay1; rw [List.append_assoc, List.append_assoc]; exact drop_four _
  have hd8 : (lay1 s ++ rest).drop 8 = s ++ rest := by
    rw [show 8 = 4 + 4 from rfl, ← List.drop_drop, hd4]; exact drop_four _
  unfold rec1
  rw [if_neg (by omega), hn, if_neg (by omega), if_neg (by omega), hd4, hd8, num4_four (crc_lt hb (by omega)), List.take_left, if_pos rfl]
/-- a record cut off is none -/
theorem rec1_cut {s : List Nat} (h : s.length ≤ 4096) {m : Nat} (hm : m < (lay1 s).length) : rec1 ((lay1 s).take m) = none := by
  rw [lay1_len] at hm
  unfold rec1
  have hl : ((lay1 s).take m).length = m := by rw [List.length_take, lay1_len]; omega
  rw [hl]
  split
  · rfl
  · rename_i h1
    have hn : num4 ((lay1 s).take m) = s.length := by
      unfold lay1
      rw [List.take_append, List.take_of_length_le (by rw [four_len']; omega)]
      exact num4_four (by omega) _
    rw [hn, if_neg (by omega), if_pos (by omega)]
theorem scan_lay : ∀ {l : List (List Nat)} {rest : List Nat}, (∀ s ∈ l, s.length ≤ 4096 ∧ Bytes8 s) → scanL (layR l ++ rest) = (l ++ (scanL rest).1, (layR l).length + (scanL rest).2)
  | [], rest, _ => by
    rw [show layR [] = [] from rfl, List.nil_append, List.nil_append]
    show _ = (_, 0 + _)
    rw [Nat.zero_add]
  | s :: l, rest, h => by
    obtain ⟨h1, h2⟩ := h s (by simp)
    have e : layR (s :: l) ++ rest = lay1 s ++ (layR l ++ rest) := by rw [layR_cons, List.append_assoc]
    rw [e, scan_some (rec1_lay h1 h2 _), ← lay1_len, List.drop_left, scan_lay fun x hx => h x (by simp [hx])]
    show (s :: (l ++ _), _) = (s :: l ++ _, _)
    rw [layR_cons, List.length_append]
    congr 1
    omega
theorem scan_all {l : List (List Nat)} (h : ∀ s ∈ l, s.length ≤ 4096 ∧ Bytes8 s) : scanL (layR l) = (l, (layR l).length) := by
  have := scan_lay (rest := []) h
  rw [List.append_nil, scan_none (b := []) rfl, List.append_nil] at this
  exact this
theorem scan_torn {l : List (List Nat)} {s : List Nat} (h : ∀ s ∈ l, s.length ≤ 4096 ∧ Bytes8 s) (hs : s.length ≤ 4096) {m : Nat} (hm : m < (lay1 s).length) : scanL (layR l ++ (lay1 s).take m) = (l, (layR l).length) := by
  rw [scan_lay h, scan_none (rec1_cut hs hm), List.append_nil]; rfl
/-- what is scanned, cut off behind it, is scanned alike -/
theorem scan_take : ∀ b : List Nat, scanL (b.take (scanL b).2) = scanL b := by
  refine scan_ind (fun b e => ?_) fun b s e ih => ?_
  · rw [scan_none e]; rfl
  · obtain ⟨r1, r2, r3, r4, r5⟩ := rec1_some e
    have hle := (scan_len (b.drop (8 + s.length))).1
    rw [scan_some e]
    show scanL (b.take (8 + s.length + _)) = _
    generalize hg : (scanL (b.drop (8 + s.length))).2 = n at *
    rw [List.length_drop] at hle
    have hl : (b.take (8 + s.length + n)).length = 8 + s.length + n := by rw [List.length_take]; omega
    have g : ∀ i, i < 8 + s.length → (b.take (8 + s.length + n)).getD i 0 = b.getD i 0 := fun i hi => by
      rw [List.getD_eq_getElem?_getD, List.getD_eq_getElem?_getD, List.getElem?_take_of_lt (by omega)]
    have gd : ∀ i, i < 4 → ((b.take (8 + s.length + n)).drop 4).getD i 0 = (b.drop 4).getD i 0 := fun i hi => by
      rw [List.getD_eq_getElem?_getD, List.getD_eq_getElem?_getD, List.getElem?_drop, List.getElem?_drop, List.getElem?_take_of_lt (by omega)]
    have hn : num4 (b.take (8 + s.length + n)) = num4 b := by unfold num4; rw [g 0 (by omega), g 1 (by omega), g 2 (by omega), g 3 (by omega)]
    have hn4 : num4 ((b.take (8 + s.length + n)).drop 4) = num4 (b.drop 4) := by unfold num4; rw [gd 0 (by omega), gd 1 (by omega), gd 2 (by omega), gd 3 (by omega)]
    have hd : ((b.take (8 + s.length + n)).drop 8).take s.length = s := by
      rw [List.drop_take, List.take_take, Nat.min_eq_left (by omega)]
      exact r4.symm
    have e2 : rec1 (b.take (8 + s.length + n)) = some s := by
      unfold rec1
      rw [hl, hn, hn4, ← r2, if_neg (by omega), if_neg (by omega), if_neg (by omega), hd, if_pos r5]
    rw [scan_some e2]
    have : (b.take (8 + s.length + n)).drop (8 + s.length) = (b.drop (8 + s.length)).take n := by
      rw [List.drop_take]; congr 1; omega
    rw [this, ih, hg]
abbrev SR := Kn.str.Row
theorem str_flat : Kn.str.Flat := fun _ _ _ _ k => k
theorem shl64 {c k : Nat} (hc : c < 256) (hk : k ≤ 24) : shO .shl .i64 (c : Int) (k : Int) = some ((c * 2 ^ k : Nat) : Int) := by
  unfold shO
  have hb : Nat.ble k 64 = true := Nat.ble_eq_true_of_le (by omega)
  have e : shiftA .shl .i64 (c : Int) (k : Int) = some (.i .i64 (wrapA .i64 (Int.mul (c : Int) (.ofNat (Nat.pow 2 (cond (Nat.ble k 64) k 64)))))) := rfl
  rw [e, hb, cond_true]
  have hp : (2 : Nat) ^ k ≤ 16777216 := Nat.le_trans (Nat.pow_le_pow_right (by omega) hk) (by decide)
  have h1 : c * 2 ^ k ≤ 255 * 16777216 := Nat.mul_le_mul (by omega) hp
  have h2 : Int.mul (c : Int) (.ofNat (Nat.pow 2 k)) = ((c * 2 ^ k : Nat) : Int) := by
    rw [Int.natCast_mul]; rfl
  rw [h2, wrap64 (by omega) (by omega)]
theorem or64g {a b k : Nat} (hb : b < 2 ^ k) (h : a * 2 ^ k + b < 4611686018427387904) : intO .or .i64 ((a * 2 ^ k : Nat) : Int) (b : Int) = some ((a * 2 ^ k + b : Nat) : Int) := by
  unfold intO
  have e : intA .or .i64 ((a * 2 ^ k : Nat) : Int) (b : Int) = some (.i .i64 (wrapA .i64 (.ofNat (Nat.lor (a * 2 ^ k) b)))) := by
    show (cond (Nat.blt (a * 2 ^ k) 18446744073709551616 && Nat.blt b 18446744073709551616) _ none : Option AV) = _
    rw [blt_of (by omega), blt_of (by omega)]; rfl
  rw [e]
  have h2 : Nat.lor (a * 2 ^ k) b = a * 2 ^ k + b := by
    have := Nat.two_pow_add_eq_or_of_lt hb a
    show (a * 2 ^ k) ||| b = _
    rw [Nat.mul_comm a, ← this]
  rw [h2]
  show some (wrapA .i64 ((a * 2 ^ k + b : Nat) : Int)) = _
  rw [wrap64 (by omega) (by omega)]
theorem or64h {A a b k C : Nat} (hA : A = a * 2 ^ k) (hb : b < 2 ^ k) (hC : C = A + b) (h : C < 4611686018427387904) : intO .or .i64 (A : Int) (b : Int) = some (C : Int) := by subst hA; subst hC; exact or64g hb h
theorem shl64h {c k A : Nat} (hc : c < 256) (hk : k ≤ 24) (hA : A = c * 2 ^ k) : shO .shl .i64 (c : Int) (k : Int) = some (A : Int) := by subst hA; exact shl64 hc hk
theorem wr32h {n : Nat} (h : n < 4294967296) : wrO .u32 (n : Int) = some (n : Int) := by rw [wr32]; congr 1; omega
section
variable {g h : Hp} {a b : AV} {f : List Nat} {l m : List (List Nat)} {Post : AV → Hp → Prop}
/-- four bytes behind -/
theorem c93 {n : Nat} (o : Kn.byte.Own g h a f) (hn : n < 4294967296) (hb : f.length + 4 < 32000000) (k : ∀ r h', Kn.byte.Own g h' r (f ++ four n) → Post r h') : wpC Try.prog 93 [a, .i .u32 (n : Nat)] Post h := by
  refine call_sound (args := [.vv a, .ii .u32 (n : Nat)]) (cuts := []) ⟨o.sc, trivial, trivial⟩ ?_
  rw [vc93]
  have e1 : shO .shr .u32 (n : Int) 24 = some ((n / 16777216 : Nat) : Int) := shr32 (a := n) 24 (by omega)
  have e2 : shO .shr .u32 (n : Int) 16 = some ((n / 65536 : Nat) : Int) := shr32 (a := n) 16 (by omega)
  have e3 : shO .shr .u32 (n : Int) 8 = some ((n / 256 : Nat) : Int) := shr32 (a := n) 8 (by omega)
  have w : ∀ m : Nat, wrO .u8 (m : Int) = some ((m % 256 : Nat) : Int) := fun m => by rw [wr8]; rfl
  have hf : four n = [n / 16777216 % 256, n / 65536 % 256, n / 256 % 256, n % 256] := rfl
  have g1 : n / 16777216 % 256 < 256 := Nat.mod_lt _ (by omega)
  have g2 : n / 65536 % 256 < 256 := Nat.mod_lt _ (by omega)
  have g3 : n / 256 % 256 < 256 := Nat.mod_lt _ (by omega)
  have g4 : n % 256 < 256 := Nat.mod_lt _ (by omega)
  refine onO.mk e1 (onO.mk (w _) (onO.mk e2 (onO.mk (w _) (onO.mk e3 (onO.mk (w _) (onO.mk (w _) fun _ => ?_))))))
  rw [hf] at k
  generalize n / 16777216 % 256 = n1 at *
  generalize n / 65536 % 256 = n2 at *
  generalize n / 256 % 256 = n3 at *
  generalize n % 256 = n4 at *
  exact o.app (n := 4) (l2 := [n1, n2, n3, n4]) (css2 := [[.i .u8 (n1 : Int)], [.i .u8 (n2 : Int)], [.i .u8 (n3 : Int)], [.i .u8 (n4 : Int)]]) rfl byte_flat (.cons ⟨rfl, g1⟩ (.cons ⟨rfl, g2⟩ (.cons ⟨rfl, g3⟩ (.cons ⟨rfl, g4⟩ .nil)))) rfl rfl (by omega) fun r h' o' => onO.mk rfl (k _ _ o')
theorem four_of {f : List Nat} (hl : 4 ≤ f.length) : ∃ w x y z t, f = w :: x :: y :: z :: t := by
  match f, hl with
  | w :: x :: y :: z :: t, _ => exact ⟨w, x, y, z, t, rfl⟩
theorem c270a {w x y z A1 A2 A3 N2 N3 N : Nat} {t : List Nat} (r : Kn.byte.Row h a (w :: x :: y :: z :: t)) (s1 : shO .shl .i64 (w : Int) 24 = some (A1 : Int)) (s2 : shO .shl .i64 (x : Int) 16 = some (A2 : Int)) (s3 : shO .shl .i64 (y : Int) 8 = some (A3 : Int))
    (o1 : intO .or .i64 (A1 : Int) (A2 : Int) = some (N2 : Int)) (o2 : intO .or .i64 (N2 : Int) (A3 : Int) = some (N3 : Int)) (o3 : intO .or .i64 (N3 : Int) (z : Int) = some (N : Int)) (k : Post (.i .i64 (N : Nat)) h) : wpC Try.prog 76 [a] Post h := by
  refine call_sound (args := [.vv a]) (cuts := []) ⟨r.sc, trivial⟩ ?_
  rw [vc76]
  have hw := byte_lt r (x := w) (by simp)
  have hx := byte_lt r (x := x) (by simp)
  have hy := byte_lt r (x := y) (by simp)
  have hz := byte_lt r (x := z) (by simp)
  have w8 : ∀ m : Nat, m < 256 → wrO .i64 (m : Int) = some (m : Int) := fun m hm => wr64 (by omega) (by omega)
  refine byte0 (k := 0) r rfl (onO.mk (w8 _ hw) (onO.mk s1 ?_))
  refine byte0 (k := 1) r rfl (onO.mk (w8 _ hx) (onO.mk s2 (onO.mk o1 ?_)))
  refine byte0 (k := 2) r rfl (onO.mk (w8 _ hy) (onO.mk s3 (onO.mk o2 ?_)))
  exact byte0 (k := 3) r rfl (onO.mk (w8 _ hz) (onO.mk o3 k))
/-- a number of four bytes -/
theorem c76 (r : Kn.byte.Row h a f) (hl : 4 ≤ f.length) (k : Post (.i .i64 (num4 f : Nat)) h) : wpC Try.prog 76 [a] Post h := by
  obtain ⟨w, x, y, z, t, rfl⟩ := four_of hl
  have hw := byte_lt r (x := w) (by simp)
  have hx := byte_lt r (x := x) (by simp)
  have hy := byte_lt r (x := y) (by simp)
  have hz := byte_lt r (x := z) (by simp)
  have hnum : num4 (w :: x :: y :: z :: t) = w * 16777216 + x * 65536 + y * 256 + z := rfl
  rw [hnum] at k
  have p24 : (2 : Nat) ^ 24 = 16777216 := by decide
  have p16 : (2 : Nat) ^ 16 = 65536 := by decide
  have p8 : (2 : Nat) ^ 8 = 256 := by decide
  exact c270a r (shl64h (c := w) (k := 24) (A := w * 16777216) hw (by omega) (by rw [p24])) (shl64h (c := x) (k := 16) (A := x * 65536) hx (by omega) (by rw [p16])) (shl64h (c := y) (k := 8) (A := y * 256) hy (by omega) (by rw [p8]))
    (or64h (a := w) (k := 24) (C := w * 16777216 + x * 65536) (by rw [p24]) (by rw [p24]; omega) rfl (by omega)) (or64h (a := w * 256 + x) (k := 16) (C := w * 16777216 + x * 65536 + y * 256) (by rw [p16]; omega) (by rw [p16]; omega) rfl (by omega))
    (or64h (a := w * 65536 + x * 256 + y) (k := 8) (C := w * 16777216 + x * 65536 + y * 256 + z) (by rw [p8]; omega) (by rw [p8]; omega) rfl (by omega)) k
/-! ### texts -/
theorem str0 (r : SR h a l) {j : Nat} {x : List Nat} (hx : l[j]? = some x) {K : List Nat → Prop} (k : x.length ≤ 140737488351232 → (∀ y ∈ x, y < 256) → K x) : onO (idxV a (j : Int) 1) fun r0 => onO (rdH h r0.1 r0.2 1) fun l0 => onL [Kd.str] l0 K := by
  obtain ⟨bb, oo, cc, e1, e2, rfl, e3, e4⟩ := r.idx (i := (j : Int)) (x := x) (Int.natCast_nonneg j) (by simpa using hx)
  exact onO.mk e1 (onO.mk e2 (onL.s1 (k e3 e4)))
theorem c71 (ra : SR h a l) (hl : ∀ s ∈ l, s.length ≤ 4096) (hs : (layR l).length < 31000000) (hn : l.length < 31000000) (k : ∀ r h', Kn.byte.Own h h' r (layR l) → Post r h') : wpC Try.prog 71 [a] Post h := by
  refine call_sound (args := [.vv a]) (cuts := []) ⟨ra.sc, trivial⟩ ?_
  rw [vc71]
  refine onO.mk ra.len ⟨fun m r i h' => ∃ j : Nat, i = j ∧ j ≤ l.length ∧ m = l.length - j ∧ Kn.byte.Own h h' r (layR (l.take j)), ⟨_, 0, rfl, by omega, rfl, Kn.Own.nil _ _⟩, ?_⟩
  rintro m h0 r _ _ ⟨j, rfl, hj, rfl, o⟩
  refine onB.dec (fun e => ?_) fun e => ?_
  · obtain ⟨x, hx⟩ := get_lt (l := l) (k := j) (by omega)
    have hxl := hl x (List.mem_of_getElem? hx)
    have hstep : layR (l.take (j + 1)) = layR (l.take j) ++ (four x.length ++ (four (crc 0 x) ++ x)) := by rw [take_succ' hx, layR_app, layR_one]; rfl
    have hsum : (layR (l.take (j + 1))).length ≤ (layR l).length := by
      conv => rhs; rw [← List.take_append_drop (j + 1) l, layR_app]
      simp
    rw [hstep] at hsum
    simp only [List.length_append, four_len'] at hsum
    refine str0 (ra.mono o.le) hx fun q1 q2 => onO.mk (wr32h (by omega)) (c93 o (by omega) (by omega) fun r2 h2 o2 => onRet.r o2.sc fun p3 hp hlo => ?_)
    have o3 := o2.moren hp (bytesV x)
    have ob : Kn.byte.Own h2 (h2.put p3 (bytesV x)) (.sl p3 0 x.length x.length false 1) x :=
      ⟨h2, x.map fun y => [.i .u8 (.ofNat y)], Hp.le_refl _, rfl, Fresh.put (Hp.le_refl _) rfl hp hlo (css := x.map fun y => [.i .u8 (.ofNat y)]) (sz := 1) (len := x.length) false (fun c hc => by
        obtain ⟨y, _, rfl⟩ := List.mem_map.1 hc; rfl) (by simp) (ofU8_flat x), bytes_all q2⟩
    have br := ob.row
    have hc := crc_lt (l := x) (s := 0) q2 (by omega)
    refine c77 (s := 0) br (by omega) (by omega) (onRet.u32 (c93 o3 hc (by simp only [List.length_append, four_len']; omega) fun r4 h4 o4 => onRet.r o4.sc ?_))
    refine onO.mk (a := (x.length, .lit (ofU8 x))) rfl (onC.mk (Nat.ble_eq_true_of_le (by show (4 * x.length + 4000) * 1 ≤ 17179869184; omega)) ?_)
    refine o4.app (sz := 1) rfl byte_flat (bytes_all q2) (by simp [srcH, ofU8_flat]) rfl (by simp only [List.length_append, four_len']; omega) fun r5 h5 o5 => onO.mk rfl (onO.mk (inc64 (by omega)) ⟨_, by show l.length - (j + 1) < l.length - j; omega, j + 1, rfl, by omega, rfl, ?_⟩)
    rw [hstep]
    simpa [List.append_assoc] using o5
  · have : j = l.length := by omega
    subst this
    rw [List.take_length] at o
    exact k _ _ o
theorem c45 (ra : SR h a l) (hn : l.length < 31000000) (k : ∀ r h', Kn.str.Own h h' r l → Post r h') : wpC Try.prog 45 [a] Post h := by
  refine call_sound (args := [.vv a]) (cuts := []) ⟨ra.sc, trivial⟩ ?_
  rw [vc45]
  exact clone_body ra rfl str_flat (by omega) (Nat.ble_eq_true_of_le (by omega)) k
theorem sizeL_take {j : Nat} : sizeL (l.take j) ≤ sizeL l := by
  conv => rhs; rw [← List.take_append_drop j l, sizeL_app]
  omega
end
structure Lg where
  l : List (List Nat)
  size : Nat
  file : Nat
  pos : Nat
  dead : Bool
def lgC (dp : Nat) (r : AV) (L : Lg) : List AV := [.p dp 0, r, .i .i64 (L.size : Nat), .i .i64 (L.file : Nat), .i .i64 (L.pos : Nat), .b L.dead]
structure LgM (lo : Nat) (F : Hp) (Q : Nat → Hp) (q dp : Nat) (r : AV) (a : Nat → AV) (D : Dk) (L : Lg) : Prop where
  box : Q 10 = Hp.one q (lgC dp r L) lo
  qlo : lo ≤ q
  row : PK Kn.str lo (Q 11) r L.l
  dk : DkA lo F Q 0 dp a D
  file : L.file < 2
section
variable {lo q dp : Nat} {F F' h h' : Hp} {Q Q' : Nat → Hp} {a a' : Nat → AV} {r r' b : AV} {D D' : Dk} {L L' : Lg} {Post : AV → Hp → Prop} {n : Int}
theorem lg_word (s : Sep lo F Q h) (e : Q 10 = Hp.one q (lgC dp r L) lo) : rdH h q (0 + 0) 1 = some [.p dp 0] ∧ rdH h q (0 + 1) 1 = some [r] ∧ rdH h q (0 + 2) 1 = some [.i .i64 (L.size : Nat)] ∧ rdH h q (0 + 3) 1 = some [.i .i64 (L.file : Nat)] ∧ rdH h q (0 + 4) 1 = some [.i .i64 (L.pos : Nat)] ∧ rdH h q (0 + 5) 1 = some [.b L.dead] :=
  ⟨rdBox (s.box e) rfl, rdBox (s.box e) rfl, rdBox (s.box e) rfl, rdBox (s.box e) rfl, rdBox (s.box e) rfl, rdBox (s.box e) rfl⟩
/-- one of its words written -/
theorem lg_put (s : Sep lo F Q h) (e : Q 10 = Hp.one q (lgC dp r L) lo) (qlo : lo ≤ q) {i : Nat} {v : AV} (hv : v.sc = true) {c : List AV} (hc : splice (lgC dp r L) (0 + i) [v] = c) (hi : i < 6) {Post : Option AV → Hp → Prop}
    (k : ∀ h', Sep lo F (updQ Q 10 (Hp.one q c lo)) h' → Post none h') : wpE (.w q (0 + i) (.lit [v]) none) Post h := by
  refine wpE.w (s.box e) (by rw [s.hlo]; exact qlo) (new := [v]) rfl (by show _ + 1 ≤ 6; omega) (by simp [hv]) (k _ ?_)
  rw [hc]; exact s.put e _
theorem LgM.fmono (m : LgM lo F Q q dp r a D L) (l : F.le F') : LgM lo F' Q q dp r a D L := ⟨m.box, m.qlo, m.row, m.dk.fmono l, m.file⟩
theorem LgM.disk (m : LgM lo F Q q dp r a D L) (d : DkA lo F' Q' 0 dp a' D') (u : Upd 0 10 Q Q') : LgM lo F' Q' q dp r a' D' L := ⟨by rw [u 10 (by omega)]; exact m.box, m.qlo, by rw [u 11 (by omega)]; exact m.row, d, m.file⟩
theorem LgM.chg (m : LgM lo F Q q dp r a D L) (e1 : Q' 10 = Hp.one q (lgC dp r' L') lo) (e2 : PK Kn.str lo (Q' 11) r' L'.l) (e3 : ∀ j, j ≠ 10 → j ≠ 11 → Q' j = Q j) (hf : L'.file < 2) : LgM lo F Q' q dp r' a D L' :=
  ⟨e1, m.qlo, e2, m.dk.same fun j _ _ => e3 j (by omega) (by omega), hf⟩
theorem Upd.more {Q Q1 : Nat → Hp} (u : Upd 0 10 Q Q1) : Upd 0 12 Q Q1 := fun j hj => u j (by omega)
def readAll (D : Dk) (n : Int) : List Nat × Int := if askR D n = 0 then ((fileD D n).seen, 0) else ([], askR D n)
theorem c63 (s : Sep lo F Q h) (m : LgM lo F Q q dp r a D L) (k : ∀ r' h', Kn.byte.Own h h' r' (readAll D n).1 → Post (.tup [r', .i .i64 (readAll D n).2]) h') : wpC Try.prog 63 [.p q 0, .i .i64 n] Post h := by
  refine call_sound (args := [.vv (.p q 0), .ii .i64 n]) (cuts := []) ⟨rfl, trivial, trivial⟩ ?_
  rw [vc63]
  obtain ⟨w0, _⟩ := lg_word s m.box
  refine onO.mk rfl (onO.mk w0 (onL.r1 rfl (c74 s m.dk (onTup.ii ?_))))
  unfold sizeR
  unfold readAll at k
  by_cases e : askR D n = 0
  · rw [if_pos e] at k ⊢
    refine onB.neg rfl (onO.mk rfl (onO.mk w0 (onL.r1 rfl ?_)))
    refine c75 s m.dk fun r2 h2 o2 => onTup.ri o2.sc ?_
    have er : readR' D n 0 (((fileD D n).seen.length : Nat) : Int) = ((fileD D n).seen, 0) := by
      unfold readR'
      rw [if_pos e, if_neg (by omega), if_neg (by omega)]
      rw [Int.toNat_natCast, show (0 : Int).toNat = 0 from rfl, List.drop_zero, List.take_of_length_le (Nat.le_refl _)]
    rw [er] at o2 ⊢
    exact k _ _ o2
  · rw [if_neg e] at k ⊢
    exact onB.pos (by simp [e]) (k _ _ (Kn.Own.nil _ _))
def scanLg (L : Lg) (B : List Nat) : Lg := { L with l := L.l ++ (scanL (B.drop L.pos)).1, size := L.size + sizeL (scanL (B.drop L.pos)).1, pos := L.pos + (scanL (B.drop L.pos)).2 }
theorem num4_lt {l : List Nat} (h : ∀ x ∈ l, x < 256) : num4 l < 4294967296 := by
  have g : ∀ i, l.getD i 0 < 256 := fun i => by
    rw [List.getD_eq_getElem?_getD]
    cases e : l[i]? with
    | none => show (0 : Nat) < 256; omega
    | some x => exact h x (List.mem_of_getElem? e)
  have := g 0; have := g 1; have := g 2; have := g 3
  unfold num4; omega
theorem scanLg_none {B : List Nat} (e : rec1 (B.drop L.pos) = none) : scanLg L B = L := by
  unfold scanLg
  rw [scan_none e]
  show { L with l := L.l ++ [], size := L.size + 0, pos := L.pos + 0 } = L
  rw [List.append_nil]; rfl
theorem scanLg_some {B s : List Nat} (e : rec1 (B.drop L.pos) = some s) : scanLg { L with l := L.l ++ [s], size := L.size + s.length + 16, pos := L.pos + 8 + s.length } B = scanLg L B := by
  unfold scanLg
  rw [scan_some e, List.drop_drop]
  show Lg.mk (L.l ++ [s] ++ (scanL (B.drop (L.pos + 8 + s.length))).1) _ _ _ _ = Lg.mk (L.l ++ (s :: (scanL (B.drop (L.pos + (8 + s.length)))).1)) _ _ _ _
  rw [show L.pos + (8 + s.length) = L.pos + 8 + s.length by omega, List.append_assoc]
  simp only [sizeL_cons, List.singleton_append]
  congr 1 <;> omega
theorem c64 {B : List Nat} (s : Sep lo F Q h) (m : LgM lo F Q q dp r a D L) (rb : Kn.byte.Row F b B) (hb : B.length ≤ 4194304) (hp : L.pos ≤ B.length) (hs : L.size ≤ 2 * L.pos) (hl : L.l.length ≤ L.pos)
    (k : ∀ r' Q' h', Sep lo F Q' h' → LgM lo F Q' q dp r' a D (scanLg L B) → (∀ j, j ≠ 10 → j ≠ 11 → Q' j = Q j) → Post (.tup []) h') : wpC Try.prog 64 [.p q 0, b] Post h := by
  refine call_sound (args := [.vv (.p q 0), .vv b]) (cuts := [0]) ⟨rfl, rb.sc, trivial⟩ ?_
  rw [vc64]
  refine ⟨fun m n0 a0 h' => ∃ (r' : AV) (Q' : Nat → Hp) (L' : Lg), m = B.length - L'.pos ∧ Sep lo F Q' h' ∧ LgM lo F Q' q dp r' a D L' ∧ (∀ j, j ≠ 10 → j ≠ 11 → Q' j = Q j) ∧ L'.pos ≤ B.length ∧ L'.size ≤ 2 * L'.pos ∧ L'.l.length ≤ L'.pos ∧ scanLg L' B = scanLg L B,
    ⟨_, r, Q, L, rfl, s, m, fun _ _ _ => rfl, hp, hs, hl, rfl⟩, ?_⟩
  clear m s hp hs hl
  rintro _ h0 n0 a0 _ ⟨r1, Q1, L1, rfl, s, m, u, hp, hs, hl, he⟩
  obtain ⟨w0, w1, w2, w3, w4, w5⟩ := lg_word s m.box
  have rb0 := rb.mono s.fle
  have bl : (B.drop L1.pos).length = B.length - L1.pos := List.length_drop
  have done : rec1 (B.drop L1.pos) = none → Post (.tup []) h0 := fun e => k r1 Q1 h0 s (by rw [← he, scanLg_none e]; exact m) u
  have hby : ∀ x ∈ B.drop L1.pos, x < 256 := fun x hx => byte_lt rb (List.mem_of_mem_drop hx)
  refine Dup.mk (onO.mk rb0.len (onO.mk rfl (onO.mk w4 (onL.i1 (onO.mk (sub64 (by omega) (by omega)) (onB.dec (fun c => ?_) fun c => ?_))))))
  · exact done (by unfold rec1; rw [if_pos (by omega)])
  obtain ⟨a1, f1, f2⟩ := rb0.sl rfl (sz := 1) (i := L1.pos) (j := B.length) (lo := some ((L1.pos : Nat) : Int)) (hi := none) hp (Nat.le_refl _) rfl rfl
  rw [List.take_of_length_le (by omega)] at f2
  refine onO.mk rfl (onO.mk w4 (onL.i1 (onO.mk f1 (c76 f2 (by omega) (onRet.i (onB.dec (fun lc2 => ?_) fun lc2 => ?_))))))
  · exact done (by unfold rec1; rw [if_neg (by omega), if_pos (by omega)])
  refine onO.mk rb0.len (onO.mk rfl (onO.mk w4 (onL.i1 (onO.mk (sub64 (by omega) (by omega)) (onO.mk (sub64 (by omega) (by omega)) (onB.dec (fun lc3 => ?_) fun lc3 => ?_))))))
  · exact done (by unfold rec1; rw [if_neg (by omega), if_neg (by omega), if_pos (by omega)])
  generalize hn : num4 (B.drop L1.pos) = N at *
  obtain ⟨a3, g1, g2⟩ := rb.sl rfl (sz := 1) (i := L1.pos + 8) (j := L1.pos + 8 + N) (lo := some ((L1.pos + 8 : Nat) : Int)) (hi := some ((L1.pos + 8 + N : Nat) : Int)) (by omega) (by omega) rfl rfl
  obtain ⟨a4, j1, j2⟩ := rb0.sl rfl (sz := 1) (i := L1.pos + 4) (j := B.length) (lo := some ((L1.pos + 4 : Nat) : Int)) (hi := none) (by omega) (Nat.le_refl _) rfl rfl
  rw [List.take_of_length_le (by simp)] at j2
  rw [show L1.pos + 8 + N - (L1.pos + 8) = N by omega] at g2
  have d8 : B.drop (L1.pos + 8) = (B.drop L1.pos).drop 8 := by rw [List.drop_drop]
  have d4 : B.drop (L1.pos + 4) = (B.drop L1.pos).drop 4 := by rw [List.drop_drop]
  rw [d8] at g2
  rw [d4] at j2
  generalize hS : ((B.drop L1.pos).drop 8).take N = S at *
  have hSl : S.length = N := by rw [← hS, List.length_take, List.length_drop, bl]; omega
  have n4 := num4_lt (l := (B.drop L1.pos).drop 4) fun x hx => hby x (List.mem_of_mem_drop hx)
  refine onO.mk rfl (onO.mk w4 (onL.i1 (onO.mk (a := ((L1.pos + 8 : Nat) : Int)) (add64 (by omega) (by omega)) ?_)))
  refine onO.mk rfl (onO.mk w4 (onL.i1 (onO.mk (a := ((L1.pos + 8 : Nat) : Int)) (add64 (by omega) (by omega)) (onO.mk (a := ((L1.pos + 8 + N : Nat) : Int)) (add64 (by omega) (by omega)) (onO.mk g1 ?_)))))
  refine onO.mk rfl (onO.mk w4 (onL.i1 (onO.mk (a := ((L1.pos + 4 : Nat) : Int)) (add64 (by omega) (by omega)) (onO.mk j1 (c76 j2 (by simp; omega) (onRet.i (onO.mk (wr32h n4) ?_)))))))
  refine c77 (s := 0) (g2.mono s.fle) (by omega) (by omega) (onRet.u32 (onB.ndec (fun lc4 => ?_) fun lc4 => ?_))
  · refine done ?_
    unfold rec1
    rw [if_neg (by omega), hn, if_neg (by omega), if_neg (by omega), hS, if_neg (by omega)]
  have hr : rec1 (B.drop L1.pos) = some S := by
    unfold rec1
    rw [if_neg (by omega), hn, if_neg (by omega), if_neg (by omega), hS, if_pos (by omega)]
  obtain ⟨x2, x3, x4, x5⟩ := strAt_row (g2.mono s.fle)
  have hS8 : ∀ x ∈ S, x < 256 := fun x hx => byte_lt g2 hx
  refine onO.mk rfl (onO.mk w1 (onL.r1 m.row.sc (onO.mk x5 fun _ => ?_)))
  refine (s.own str_flat m.row).app1 (x := S) (sz := 1) rfl str_flat ⟨rfl, by omega, hS8⟩ (by omega) fun a8 h4 o4 => onO.mk rfl ?_
  obtain ⟨q11, s4, p4⟩ := s.back str_flat o4
  have e10 : updQ Q1 11 q11 10 = Hp.one q (lgC dp r1 L1) lo := by rw [updQ_ne (by omega)]; exact m.box
  obtain ⟨v0, v1, v2, v3, v4, v5⟩ := lg_word s4 e10
  refine onO.mk rfl (onO.mk v2 (onL.i1 ⟨onO.mk w2 v2, ?_⟩))
  refine onO.mk (a := ((L1.size + N : Nat) : Int)) (add64 (by omega) (by omega)) (onO.mk (a := ((L1.size + N + 16 : Nat) : Int)) (add64 (by omega) (by omega)) ?_)
  refine onO.mk rfl (onO.mk v4 (onL.i1 ⟨onO.mk w4 v4, ?_⟩))
  refine onO.mk (a := ((L1.pos + 8 : Nat) : Int)) (add64 (by omega) (by omega)) (onO.mk (a := ((L1.pos + 8 + N : Nat) : Int)) (add64 (by omega) (by omega)) ?_)
  refine onO.mk rfl (lg_put s4 e10 m.qlo (i := 1) p4.sc rfl (by omega) fun h5 s5 => ?_)
  refine onO.mk rfl (lg_put (L := L1) (r := a8) (dp := dp) s5 updQ_same m.qlo (i := 2) rfl rfl (by omega) fun h6 s6 => ?_)
  refine onO.mk rfl (lg_put (L := { L1 with size := L1.size + N + 16 }) (r := a8) (dp := dp) s6 updQ_same m.qlo (i := 4) rfl rfl (by omega) fun h7 s7 => ?_)
  refine ⟨B.length - (L1.pos + 8 + N), by show B.length - _ < B.length - L1.pos; omega, a8, _, { L1 with l := L1.l ++ [S], size := L1.size + S.length + 16, pos := L1.pos + 8 + S.length }, by rw [hSl], s7, ?_, fun j j1 j2 => by rw [updQ_ne j1, updQ_ne j1, updQ_ne j1, updQ_ne j2]; exact u j j1 j2, by show L1.pos + 8 + S.length ≤ _; omega, by show L1.size + S.length + 16 ≤ 2 * (L1.pos + 8 + S.length); omega, by show (L1.l ++ [S]).length ≤ L1.pos + 8 + S.length; simp; omega, by rw [scanLg_some hr]; exact he⟩
  refine m.chg ?_ (by rw [updQ_ne (by omega), updQ_ne (by omega), updQ_ne (by omega), updQ_same]; exact p4) (fun j j1 j2 => by rw [updQ_ne j1, updQ_ne j1, updQ_ne j1, updQ_ne j2]) m.file
  rw [updQ_same, hSl]; rfl
theorem c72 {e : Int} (s : Sep lo F Q h) (m : LgM lo F Q q dp r a D L) (k : ∀ h', Sep lo F (updQ Q 10 (Hp.one q (lgC dp r { L with dead := !decide (e = 0) }) lo)) h' → LgM lo F (updQ Q 10 (Hp.one q (lgC dp r { L with dead := !decide (e = 0) }) lo)) q dp r a D { L with dead := !decide (e = 0) } → Post (.i .i64 e) h') :
    wpC Try.prog 72 [.p q 0, .i .i64 e] Post h := by
  refine call_sound (args := [.vv (.p q 0), .ii .i64 e]) (cuts := []) ⟨rfl, trivial, trivial⟩ ?_
  rw [vc72]
  exact onO.mk rfl (lg_put s m.box m.qlo (i := 5) rfl rfl (by omega) fun h5 s5 => k h5 s5 (m.chg updQ_same (by rw [updQ_ne (by omega)]; exact m.row) (fun j j1 _ => updQ_ne j1) m.file))
/-- Sync of a log -/
def syncL (D : Dk) (L : Lg) : Int × Dk × Lg := if L.dead = true then (10, D, L) else ((syncR D L.file).1, (syncR D L.file).2, { L with dead := !decide ((syncR D L.file).1 = 0) })
theorem c61 (s : Sep lo F Q h) (m : LgM lo F Q q dp r a D L) (hb : Few D 31000000)
    (k : ∀ a' Q' h', Sep lo F Q' h' → LgM lo F Q' q dp r a' (syncL D L).2.1 (syncL D L).2.2 → Upd 0 12 Q Q' → Post (.i .i64 (syncL D L).1) h') : wpC Try.prog 61 [.p q 0] Post h := by
  refine call_sound (args := [.vv (.p q 0)]) (cuts := []) ⟨rfl, trivial⟩ ?_
  rw [vc61]
  unfold syncL at k
  obtain ⟨w0, w1, w2, w3, w4, w5⟩ := lg_word s m.box
  refine onO.mk rfl (onO.mk w5 (onL.b1 (onB.mk (fun e => by rw [if_pos e] at k; exact k a Q h s m Upd.refl) fun e => ?_)))
  rw [if_neg (by rw [e]; simp)] at k
  refine onO.mk rfl (onO.mk w0 (onL.r1 rfl (onO.mk rfl (onO.mk w3 (onL.i1 ?_)))))
  refine c66 s m.dk hb fun a1 Q1 h1 s1 d1 u1 => onRet.i (c72 s1 (m.disk d1 u1) fun h2 s2 m2 => onRet.i (k a1 _ h2 s2 m2 (u1.more.put (i := 10) (by omega))))
theorem c27 (s : Sep lo F Q h) (m : LgM lo F Q q dp r a D L) (hn : L.l.length < 31000000) (k : ∀ r' h', Kn.str.Own h h' r' L.l → Post r' h') : wpC Try.prog 27 [.p q 0] Post h := by
  refine call_sound (args := [.vv (.p q 0)]) (cuts := []) ⟨rfl, trivial⟩ ?_
  rw [vc27]
  obtain ⟨w0, w1, w2, w3, w4, w5⟩ := lg_word s m.box
  exact onO.mk rfl (onO.mk w1 (onL.r1 m.row.sc (c45 (s.row m.row) hn fun r2 h2 o2 => onRet.r o2.sc (k _ _ o2))))
/-- Append to a log -/
def appL (D : Dk) (L : Lg) (x : List Nat) : Int × Dk × Lg :=
  if L.dead = true then (10, D, L) else if 4096 < x.length then (1, D, L) else if 2097152 < L.size + x.length + 16 then (5, D, L) else
  if (writeR D L.file L.pos (lay1 x)).1 = 0 then (0, (writeR D L.file L.pos (lay1 x)).2, ⟨L.l ++ [x], L.size + x.length + 16, L.file, L.pos + 8 + x.length, false⟩)
  else ((writeR D L.file L.pos (lay1 x)).1, (writeR D L.file L.pos (lay1 x)).2, { L with dead := true })
theorem c60 {x : List Nat} (s : Sep lo F Q h) (m : LgM lo F Q q dp r a D L) (hb : Few D 31000000) (hx : Bytes8 x) (hxl : x.length ≤ 140737488351232) (hs : L.size ≤ 2097152) (hp : L.pos ≤ 4194304) (hl : L.l.length < 31000000)
    (k : ∀ F' r' a' Q' h', F.le F' → Sep lo F' Q' h' → LgM lo F' Q' q dp r' a' (appL D L x).2.1 (appL D L x).2.2 → Upd 0 12 Q Q' → Post (.i .i64 (appL D L x).1) h') : wpC Try.prog 60 [.p q 0, .s x] Post h := by
  refine call_sound (args := [.vv (.p q 0), .ss x]) (cuts := []) ⟨rfl, trivial, trivial⟩ ?_
  rw [vc60]
  unfold appL at k
  obtain ⟨w0, w1, w2, w3, w4, w5⟩ := lg_word s m.box
  refine onO.mk rfl (onO.mk w5 (onL.b1 (onB.mk (fun e => by rw [if_pos e] at k; exact k F r a Q h (Hp.le_refl _) s m Upd.refl) fun e => ?_)))
  rw [if_neg (by rw [e]; simp)] at k
  refine onB.dec (fun c => by rw [if_pos (by omega)] at k; exact k F r a Q h (Hp.le_refl _) s m Upd.refl) fun c => ?_
  rw [if_neg (by omega)] at k
  refine onO.mk (add64 (by omega) (by omega)) (onO.mk rfl (onO.mk w2 (onL.i1 (onO.mk (sub64 (by omega) (by omega)) ?_))))
  refine onB.dec (fun lc2 => by rw [if_pos (by omega)] at k; exact k F r a Q h (Hp.le_refl _) s m Upd.refl) fun lc2 => fun p0 hp0 hlo0 => ?_
  rw [if_neg (by omega)] at k
  have s1 := s.grow (Hp.le_put (cs := [.s x]) hp0) rfl
  have ob : Kn.str.Own h (h.put p0 [.s x]) (.sl p0 0 1 1 true 1) [x] :=
    ⟨h, [[.s x]], Hp.le_refl _, rfl, Fresh.put (Hp.le_refl _) rfl hp0 hlo0 (css := [[.s x]]) (sz := 1) (len := 1) true (fun c hc => by simp at hc; subst hc; rfl) rfl (cs := [.s x]) rfl, .cons ⟨rfl, hxl, hx⟩ .nil⟩
  have row1 := ob.row
  refine c71 row1 (fun y hy => by simp at hy; subst hy; omega) (by rw [layR_one, lay1_len]; omega) (by simp) fun a1 h1 o1 => onRet.r o1.sc ?_
  rw [layR_one] at o1
  have s2 := s1.frz o1.le o1.lo
  have f2 := s1.fgrow o1.le
  have m2 := m.fmono f2
  obtain ⟨v0, v1, v2, v3, v4, v5⟩ := lg_word s2 m2.box
  refine onO.mk rfl (onO.mk v0 (onL.r1 rfl (onO.mk rfl (onO.mk v3 (onL.i1 (onO.mk rfl (onO.mk v4 (onL.i1 ?_))))))))
  refine c73 s2 m2.dk Vw.frz (o1.frozen byte_flat) hb (by omega) (by omega) fun F3 a3 Q3 h3 f3 s3 d3 u3 => onRet.i ?_
  refine c72 s3 (m2.disk d3 u3) fun h4 s4 m4 => onRet.i ?_
  have f23 := Hp.le_trans f2 f3
  by_cases e0 : (writeR D L.file L.pos (lay1 x)).1 = 0
  · rw [if_pos e0] at k
    rw [e0] at s4 m4 ⊢
    refine onB.neg rfl ?_
    obtain ⟨y0, y1, y2, y3, y4, y5⟩ := lg_word s4 m4.box
    refine onO.mk rfl (onO.mk y1 (onL.r1 m4.row.sc fun _ => ?_))
    refine (s4.own str_flat m4.row).app1 (x := x) (sz := 1) rfl str_flat ⟨rfl, hxl, hx⟩ (by show L.l.length + 1 < _; omega) fun a6 h5 o5 => onO.mk rfl ?_
    obtain ⟨q11, s5, p5⟩ := s4.back str_flat o5
    have e10 : updQ (updQ Q3 10 (Hp.one q (lgC dp r { L with dead := !decide ((0 : Int) = 0) }) lo)) 11 q11 10 = Hp.one q (lgC dp r { L with dead := !decide ((0 : Int) = 0) }) lo := by rw [updQ_ne (by omega)]; exact m4.box
    obtain ⟨z0, z1, z2, z3, z4, z5⟩ := lg_word s5 e10
    refine onO.mk rfl (onO.mk z2 (onL.i1 ⟨onO.mk y2 z2, ?_⟩))
    refine onO.mk (a := ((L.size + x.length : Nat) : Int)) (add64 (by show -9223372036854775808 ≤ ((L.size : Nat) : Int) + _; omega) (by show ((L.size : Nat) : Int) + _ < _; omega)) (onO.mk (a := ((L.size + x.length + 16 : Nat) : Int)) (add64 (by omega) (by omega)) ?_)
    refine onO.mk rfl (onO.mk z4 (onL.i1 ⟨onO.mk y4 z4, ?_⟩))
    have la : lenV a1 = some (8 + x.length) := by have := o1.row.len; rw [lay1_len] at this; exact this
    refine onO.mk la (onO.mk (a := ((L.pos + 8 + x.length : Nat) : Int)) ?_ ?_)
    · have : ((L.pos + 8 + x.length : Nat) : Int) = (L.pos : Int) + ((8 + x.length : Nat) : Int) := by omega
      rw [this]
      exact add64 (by show -9223372036854775808 ≤ ((L.pos : Nat) : Int) + _; omega) (by show ((L.pos : Nat) : Int) + _ < _; omega)
    refine onO.mk rfl (lg_put s5 e10 m.qlo (i := 1) p5.sc rfl (by omega) fun h6 s6 => ?_)
    refine onO.mk rfl (lg_put (L := { L with dead := false }) (r := a6) (dp := dp) s6 updQ_same m.qlo (i := 2) rfl rfl (by omega) fun h7 s7 => ?_)
    refine onO.mk rfl (lg_put (L := { L with dead := false, size := L.size + x.length + 16 }) (r := a6) (dp := dp) s7 updQ_same m.qlo (i := 4) rfl rfl (by omega) fun h8 s8 => ?_)
    refine k F3 a6 a3 _ h8 f23 s8 (m4.chg (by rw [updQ_same]; rfl) (by rw [updQ_ne (by omega), updQ_ne (by omega), updQ_ne (by omega), updQ_same]; exact p5) (fun j j1 j2 => by rw [updQ_ne j1, updQ_ne j1, updQ_ne j1, updQ_ne j2]) m.file) ?_
    exact ((((u3.more.put (i := 10) (by omega)).put (i := 11) (by omega)).put (i := 10) (by omega)).put (i := 10) (by omega)).put (i := 10) (by omega)
  · rw [if_neg e0] at k
    refine onB.pos (by simp [e0]) ?_
    have ed : (!decide ((writeR D L.file L.pos (lay1 x)).1 = 0)) = true := by simp [e0]
    rw [ed] at s4 m4
    exact k F3 r a3 _ h4 f23 s4 m4 (u3.more.put (i := 10) (by omega))
end
/-! ### plain: opened -/
def mkOf (x : List Nat) : Nat := x.getD (x.length - 1) 0 % 2
theorem mkOf_lt {x : List Nat} : mkOf x < 2 := Nat.mod_lt _ (by omega)
def fileOf (D : Dk) : Nat := mkOf (fileD D 2).seen
def bytesOf (D : Dk) : List Nat := (fileD D (fileOf D : Nat)).seen
def logOf (D : Dk) : Lg := scanLg ⟨[], 0, fileOf D, 0, false⟩ (bytesOf D)
def cutOf (D : Dk) : Int × Dk := if (logOf D).pos < (bytesOf D).length then cutR D (fileOf D : Nat) ((logOf D).pos : Nat) else (0, D)
def sync1 (D : Dk) : Int × Dk := if (cutOf D).1 = 0 then syncR (cutOf D).2 (fileOf D : Nat) else cutOf D
def sync2 (D : Dk) : Int × Dk := if (sync1 D).1 = 0 then syncR (sync1 D).2 2 else sync1 D
def loadR (D : Dk) : Int × Dk × Lg := if askR D 2 = 0 then ((sync2 D).1, (sync2 D).2, logOf D) else (askR D 2, D, ⟨[], 0, 0, 0, false⟩)
theorem askR_any {D : Dk} {m n : Nat} (hm : m < 3) (hn : n < 3) (h : askR D (m : Nat) = 0) : askR D (n : Nat) = 0 := by
  obtain ⟨h1, _⟩ := askR_ok h
  unfold askR
  rw [h1]
  simp only [Bool.false_eq_true, if_false]
  rw [if_neg (by omega), if_neg (by omega)]
theorem and1l {y : Nat} (h : y < 256) : intO .and .u8 (y : Int) 1 = some ((y % 2 : Nat) : Int) := by
  unfold intO
  have e : intA .and .u8 (y : Int) 1 = some (.i .u8 (wrapA .u8 (.ofNat (Nat.land y 1)))) := by
    show (cond (Nat.blt y 256 && Nat.blt 1 256) _ none : Option AV) = _
    rw [blt_of h]; rfl
  rw [e]
  have h2 : Nat.land y 1 = y % 2 := Nat.and_two_pow_sub_one_eq_mod y 1
  rw [h2]
  show some (wrapA .u8 ((y % 2 : Nat) : Int)) = _
  rw [wrap_mod rfl]
  congr 1
  show ((y % 2 : Nat) : Int) % 256 = _
  omega
theorem cutOf_few {D : Dk} {N : Nat} (w : Few D N) : Few (cutOf D).2 (N + 1) := by
  unfold cutOf
  split
  · exact cutR_few w
  · exact w.mono (by omega)
theorem sync1_few {D : Dk} {N : Nat} (w : Few D N) : Few (sync1 D).2 (N + 1) := by
  unfold sync1
  split
  · exact syncR_few (cutOf_few w)
  · exact cutOf_few w
theorem sync2_few {D : Dk} {N : Nat} (w : Few D N) : Few (sync2 D).2 (N + 1) := by
  unfold sync2
  split
  · exact syncR_few (sync1_few w)
  · exact sync1_few w
section
variable {lo q dp : Nat} {F F' h h' : Hp} {Q Q' : Nat → Hp} {a a' : Nat → AV} {r r' b : AV} {D D' : Dk} {L L' : Lg} {Post : AV → Hp → Prop} {n : Int}
theorem c44 (s : Sep lo F Q h) (m : LgM lo F Q q dp r a D ⟨[], 0, 0, 0, false⟩) (hb : Few D 30000000)
    (k : ∀ F' r' a' Q' h', F.le F' → Sep lo F' Q' h' → LgM lo F' Q' q dp r' a' (loadR D).2.1 (loadR D).2.2 → Upd 0 12 Q Q' → Post (.i .i64 (loadR D).1) h') : wpC Try.prog 44 [.p q 0] Post h := by
  refine call_sound (args := [.vv (.p q 0)]) (cuts := [12999999, 24000004]) ⟨rfl, trivial⟩ ?_
  rw [vc44]
  unfold loadR at k
  refine c63 s m fun r1 h1 o1 => onTup.ri o1.sc ?_
  unfold readAll at o1 ⊢
  by_cases e0 : ¬ askR D 2 = 0
  · rw [if_neg e0] at k o1 ⊢
    exact onB.pos (by simp [e0]) (k F r a Q h1 (Hp.le_refl _) (s.grow o1.le o1.lo) m Upd.refl)
  have e0 := Decidable.not_not.1 e0
  rw [if_pos e0] at k o1 ⊢
  have o1 : Kn.byte.Own h h1 r1 (fileD D 2).seen := o1
  have s1 := s.grow o1.le o1.lo
  have hseen := fileD_len (E := D) (n := 2) m.dk.ok
  refine onB.neg rfl (onO.mk o1.row.len ⟨fun h' => ∃ Q', Sep lo F Q' h' ∧ LgM lo F Q' q dp r a D ⟨[], 0, fileOf D, 0, false⟩ ∧ ∀ j, j ≠ 10 → Q' j = Q j, onB.dec (fun e => ?_) (fun e => ?_), ?_⟩)
  · obtain ⟨y, hy⟩ := get_lt (l := (fileD D 2).seen) (k := (fileD D 2).seen.length - 1) (by omega)
    have hy8 := byte_lt o1.row (List.mem_of_getElem? hy)
    have hm : fileOf D = y % 2 := by
      show (fileD D 2).seen.getD ((fileD D 2).seen.length - 1) 0 % 2 = _
      rw [List.getD_eq_getElem?_getD, hy]; rfl
    refine onO.mk o1.row.len (onO.mk (a := (((fileD D 2).seen.length - 1 : Nat) : Int)) ?_ ?_)
    · rw [show (((fileD D 2).seen.length - 1 : Nat) : Int) = ((fileD D 2).seen.length : Int) - 1 by omega]
      exact sub64 (by omega) (by omega)
    refine byte0 o1.row hy (onO.mk (and1l hy8) (onO.mk (wr64 (by omega) (by omega)) (onO.mk rfl (lg_put s1 m.box m.qlo (i := 3) rfl rfl (by omega) fun h2 s2 => ⟨_, s2, ?_, fun j hj => updQ_ne hj⟩))))
    refine m.chg ?_ (by rw [updQ_ne (by omega)]; exact m.row) (fun j j1 j2 => updQ_ne j1) mkOf_lt
    rw [updQ_same, hm]; rfl
  · have hm : fileOf D = 0 := by
      have : (fileD D 2).seen = [] := List.length_eq_zero_iff.1 (by omega)
      unfold fileOf
      rw [this]; rfl
    rw [hm]
    exact ⟨Q, s1, m, fun _ _ => rfl⟩
  clear s1 o1 s
  rintro h2 ⟨Q2, s2, m2, u2⟩
  obtain ⟨w0, w1, w2, w3, w4, w5⟩ := lg_word s2 m2.box
  have hlt : fileOf D < 2 := mkOf_lt
  have ef : askR D (fileOf D : Nat) = 0 := askR_any (m := 2) (by omega) (by omega) e0
  refine onO.mk rfl (onO.mk w3 (onL.i1 (c63 s2 m2 fun r3 h3 o3 => onTup.ri o3.sc ?_)))
  unfold readAll at o3 ⊢
  rw [if_pos ef] at o3 ⊢
  have o3 : Kn.byte.Own h2 h3 r3 (fileD D (fileOf D : Nat)).seen := o3
  have s3 := s2.frz o3.le o3.lo
  have f3 := s2.fgrow o3.le
  have rb := o3.frozen byte_flat (F := F)
  have hbl : (bytesOf D).length ≤ 4194304 := fileD_len m.dk.ok
  refine onB.neg rfl (c64 (B := bytesOf D) s3 (m2.fmono f3) rb hbl (Nat.zero_le _) (Nat.le_refl _) (Nat.le_refl _) fun r4 Q4 h4 s4 m4 u4 => onTup.z ?_)
  obtain ⟨v0, v1, v2, v3, v4, v5⟩ := lg_word s4 m4.box
  have m4 : LgM lo (moreH h2 h3 F) Q4 q dp r4 a D (logOf D) := m4
  have hpos : (logOf D).pos ≤ (bytesOf D).length := by
    show 0 + (scanL ((bytesOf D).drop 0)).2 ≤ _
    have := (scan_len ((bytesOf D).drop 0)).1
    simp at this ⊢; omega
  have u04 : Upd 0 12 Q Q4 := fun j hj => by rw [u4 j (by omega) (by omega), u2 j (by omega)]
  refine onO.mk rfl (onO.mk v4 (onL.i1 (onO.mk (rb.mono s4.fle).len ⟨fun n h' => ∃ a' Q', Sep lo (moreH h2 h3 F) Q' h' ∧ LgM lo (moreH h2 h3 F) Q' q dp r4 a' (cutOf D).2 (logOf D) ∧ Upd 0 12 Q Q' ∧ n = (cutOf D).1, onB.mk (fun e => ?_) (fun e => ?_), ?_⟩)))
  · have e : (logOf D).pos < (bytesOf D).length := by
      have := of_decide_eq_true e
      exact Int.ofNat_lt.1 this
    have hc : cutOf D = cutR D (fileOf D : Nat) ((logOf D).pos : Nat) := if_pos e
    refine onO.mk rfl (onO.mk v0 (onL.r1 rfl (onO.mk rfl (onO.mk v3 (onL.i1 (onO.mk rfl (onO.mk v4 (onL.i1 ?_))))))))
    refine c65 s4 m4.dk (hb.mono (by omega)) fun a5 Q5 h5 s5 d5 u5 => onRet.i ⟨a5, Q5, s5, ?_, u04.trans u5.more, ?_⟩
    · rw [hc]; exact m4.disk d5 u5
    · rw [hc]; rfl
  · have e : ¬ (logOf D).pos < (bytesOf D).length := fun e2 => (of_decide_eq_false e) (Int.ofNat_lt.2 e2)
    have hc : cutOf D = (0, D) := if_neg e
    rw [hc]
    exact ⟨a, Q4, s4, m4, u04, rfl⟩
  rintro h6 _ ⟨a6, Q6, s6, m6, u6, rfl⟩
  obtain ⟨x0, x1, x2, x3, x4, x5⟩ := lg_word s6 m6.box
  refine onO.mk rfl (onO.mk x3 (onL.i1 ⟨fun m n13 n14 h' => ∃ (j : Nat) (a' : Nat → AV) (Q' : Nat → Hp) (D' : Dk), n14 = j ∧ j ≤ 2 ∧ m = 2 - j ∧ Sep lo (moreH h2 h3 F) Q' h' ∧ LgM lo (moreH h2 h3 F) Q' q dp r4 a' D' (logOf D) ∧ Upd 0 12 Q Q' ∧ (n13, D') = (match j with | 0 => cutOf D | 1 => sync1 D | _ => sync2 D),
    ⟨2, 0, a6, Q6, (cutOf D).2, rfl, by omega, rfl, s6, m6, u6, rfl⟩, ?_⟩))
  rintro m h7 n13 _ ⟨j, a7, Q7, D7, rfl, hj, rfl, s7, m7, u7, he⟩
  obtain ⟨y0, y1, y2, y3, y4, y5⟩ := lg_word s7 m7.box
  refine onB.dec (fun e => onO.mk (natLt_nat (n := j) (m := 2) (by omega)) ⟨⟨trivial, fun e0 => ?_⟩, fun e0 => ?_⟩) fun e => ?_
  · subst e0
    have hn : n13 = (cutOf D).1 := congrArg Prod.fst he
    have hD : D7 = (cutOf D).2 := congrArg Prod.snd he
    subst hD
    refine onB.dec (fun c => ?_) fun c => ?_
    · have hs : sync1 D = syncR (cutOf D).2 (fileOf D : Nat) := if_pos (by rw [← hn]; exact c)
      refine onO.mk rfl (onO.mk y0 (onL.r1 rfl (c66 s7 m7.dk ((cutOf_few hb).mono (by omega)) fun a8 Q8 h8 s8 d8 u8 => onRet.i (onO.mk rfl ⟨1, by show (1 : Nat) < 2 - 0; omega, 1, a8, Q8, _, rfl, by omega, rfl, s8, m7.disk d8 u8, u7.trans u8.more, ?_⟩))))
      show _ = sync1 D
      rw [hs]; rfl
    · have hs : sync1 D = cutOf D := if_neg (by rw [← hn]; exact c)
      refine onO.mk rfl ⟨1, by show (1 : Nat) < 2 - 0; omega, 1, a7, Q7, _, rfl, by omega, rfl, s7, m7, u7, ?_⟩
      show _ = sync1 D
      rw [hs]; exact he
  · subst e0
    have hn : n13 = (sync1 D).1 := congrArg Prod.fst he
    have hD : D7 = (sync1 D).2 := congrArg Prod.snd he
    subst hD
    refine onB.dec (fun c => ?_) fun c => ?_
    · have hs : sync2 D = syncR (sync1 D).2 2 := if_pos (by rw [← hn]; exact c)
      refine onO.mk rfl (onO.mk y0 (onL.r1 rfl (c66 s7 m7.dk ((sync1_few hb).mono (by omega)) fun a8 Q8 h8 s8 d8 u8 => onRet.i (onO.mk rfl ⟨0, by show (0 : Nat) < 2 - 1; omega, 2, a8, Q8, _, rfl, by omega, rfl, s8, m7.disk d8 u8, u7.trans u8.more, ?_⟩))))
      show _ = sync2 D
      rw [hs]
    · have hs : sync2 D = sync1 D := if_neg (by rw [← hn]; exact c)
      refine onO.mk rfl ⟨0, by show (0 : Nat) < 2 - 1; omega, 2, a7, Q7, _, rfl, by omega, rfl, s7, m7, u7, ?_⟩
      show _ = sync2 D
      rw [hs]; exact he
  · have hj2 : j = 2 := by omega
    subst hj2
    have hn : n13 = (sync2 D).1 := congrArg Prod.fst he
    have hD : D7 = (sync2 D).2 := congrArg Prod.snd he
    subst hD; subst hn
    exact k _ r4 a7 Q7 h7 f3 s7 m7 u7
theorem c26 (s : Sep lo F Q h) (d : DkA lo F Q 0 dp a D) (hb : Few D 30000000)
    (k1 : (loadR D).1 ≠ 0 → ∀ F' a' Q' h', F.le F' → Sep lo F' Q' h' → DkA lo F' Q' 0 dp a' (loadR D).2.1 → Upd 0 12 Q Q' → Post (.tup [.np, .i .i64 (loadR D).1]) h')
    (k2 : (loadR D).1 = 0 → ∀ q F' r' a' Q' h', F.le F' → Sep lo F' Q' h' → LgM lo F' Q' q dp r' a' (loadR D).2.1 (loadR D).2.2 → Upd 0 12 Q Q' → Post (.tup [.p q 0, .i .i64 0]) h') : wpC Try.prog 26 [.p dp 0] Post h := by
  refine call_sound (args := [.vv (.p dp 0)]) (cuts := []) ⟨rfl, trivial⟩ ?_
  rw [vc26]
  refine onO.mk rfl (onB.neg rfl fun q hq hlo => ?_)
  have s1 := (s.drop 11).alloc 10 hq [.p dp 0, .ns, .i .i64 0, .i .i64 0, .i .i64 0, .b false]
  have u1 : Upd 0 12 Q (updQ (updQ Q 11 (Hp.none lo)) 10 (Hp.one q [.p dp 0, .ns, .i .i64 0, .i .i64 0, .i .i64 0, .b false] lo)) := fun j hj => by rw [updQ_ne (by omega), updQ_ne (by omega)]
  refine c44 s1 ⟨updQ_same, by rw [← s.hlo]; exact hlo, by rw [updQ_ne (by omega), updQ_same]; exact PK.nil _ _, d.same fun j _ _ => by rw [updQ_ne (by omega), updQ_ne (by omega)], by show (0 : Nat) < 2; omega⟩ hb fun F2 r2 a2 Q2 h2 f2 s2 m2 u2 => onRet.i (onB.ndec (fun e => ?_) fun e => ?_)
  · exact k1 e F2 a2 Q2 h2 f2 s2 m2.dk (u1.trans u2)
  · exact k2 e q F2 r2 a2 Q2 h2 f2 s2 m2 (u1.trans u2)
theorem c25 {x : Int} (k : Post (.i .i64 x) h) : wpC Try.prog 25 [.i .i64 x] Post h := by
  refine call_sound (args := [.ii .i64 x]) (cuts := []) ⟨trivial, trivial⟩ ?_
  rw [vc25]; exact k
theorem c15 (s : Sep lo F Q h) (k : ∀ dp a Q' h', Sep lo F Q' h' → DkA lo F Q' 0 dp a (dkOf []) → Upd 0 10 Q Q' → Post (.p dp 0) h') : wpC Try.prog 15 [] Post h := by
  refine call_sound (args := []) (cuts := []) trivial ?_
  rw [vc15]
  exact c24 (B := 0) s Vw.frz ns_rows (by simp) (fun e => by cases e) fun _ p a Q1 h1 s1 d1 u1 => onTup.ri rfl (c25 (onRet.i (onB.neg rfl (k p a Q1 h1 s1 d1 u1))))
def Aside (Q Q' : Nat → Hp) : Prop := ∀ j, 10 ≤ j → j < 20 ∨ 23 ≤ j → Q' j = Q j
theorem c17 {ps : List Int} (s : Sep lo F Q h) (d : DkA lo F Q 0 dp a D) (row : Kn.int.Row F b ps) (hb : Few D 31000000)
    (k : ∀ dp' a' Q' h', Sep lo F Q' h' → DkA lo F Q' 0 dp' a' (dkOf (crashL D.f ps)) → Aside Q Q' → Post (.p dp' 0) h') : wpC Try.prog 17 [.p dp 0, b] Post h := by
  refine call_sound (args := [.vv (.p dp 0), .vv b]) (cuts := []) ⟨rfl, row.sc, trivial⟩ ?_
  rw [vc17]
  refine c38 (C := 20) s d (by omega) row hb fun r3 Q3 h3 s3 d3 cl3 u3 => onRet.r cl3.sc ?_
  have okc := newOk_crash (E := D) (ps := ps) d.len d.ok
  refine c24 (B := 0) s3 (V := Q3 21) (Vw.part (by omega)) (cl3.view (Hp.le_refl _)) (by rw [crashL_len, d.len]; omega) (fun e => by rw [okc] at e; cases e) fun _ p5 a5 Q5 h5 s5 d5 u5 => onTup.ri rfl (c25 (onRet.i (onB.neg rfl (k p5 a5 Q5 h5 s5 d5 fun j h1 h2 => ?_))))
  rw [u5 j (by omega), u3 j (by omega) (by omega)]
end
section
variable {lo q dp : Nat} {F F' g h h' : Hp} {Q Q' : Nat → Hp} {a a' : Nat → AV} {r r' b c b2 b3 : AV} {L L' : Lg} {E : Dk} {Post : AV → Hp → Prop} {n : Int} {l m : List (List Nat)} {x : List Nat}
theorem sizeL_le {k : Nat} : ∀ {l : List (List Nat)}, (∀ x ∈ l, x.length ≤ k) → sizeL l ≤ l.length * (k + 16)
  | [], _ => Nat.zero_le _
  | x :: l, h => by
    have h1 := h x (by simp)
    have h2 := sizeL_le (l := l) fun y hy => h y (by simp [hy])
    rw [sizeL_cons, List.length_cons, Nat.succ_mul]; omega
end
/-! ### files -/
theorem fileD_set {D : Dk} (hl : D.f.length = 3) {n m : Nat} (hm : m < 3) {g : DFile} : fileD { D with f := D.f.set n g } (m : Nat) = if m = n then g else fileD D (m : Nat) := by
  unfold fileD
  rw [Int.toNat_natCast]
  show (D.f.set n g)[m]?.getD _ = _
  by_cases e : m = n
  · subst e
    rw [if_pos rfl, List.getElem?_set_self (by omega)]; rfl
  · rw [if_neg e, List.getElem?_set_ne (Ne.symm e)]
theorem call_eq {D : Dk} : (callD D).f = D.f ∧ (callD D).armed = D.armed ∧ ((callD D).off = D.off ∨ D.armed = true) := by
  unfold callD
  split
  · rename_i h
    exact ⟨rfl, rfl, .inr h.1⟩
  · exact ⟨rfl, rfl, .inl rfl⟩
theorem ask_off {D : Dk} {n : Nat} (hn : n < 3) : askR D (n : Nat) = if D.off = true then 10 else 0 := by
  unfold askR
  split
  · rfl
  · rw [if_neg (by omega), if_neg (by omega)]
/-- a call that counts: done, or the power went -/
theorem call_cases {D : Dk} {n : Nat} (hn : n < 3) (ho : D.off = false) : (askR (callD D) (n : Nat) = 0 ∧ (callD D).off = false) ∨ (askR (callD D) (n : Nat) = 10 ∧ D.armed = true) := by
  obtain ⟨_, _, h3⟩ := call_eq (D := D)
  rw [ask_off hn]
  cases hc : (callD D).off with
  | true =>
    rcases h3 with h3 | h3
    · rw [hc, ho] at h3; cases h3
    · exact .inr ⟨rfl, h3⟩
  | false => exact .inl ⟨rfl, rfl⟩
/-- the outcomes of a file -/
def outs (f : DFile) (x : List Nat) : Prop := ∃ p ps, p ≤ f.ops.length ∧ x = (tornF f p ps).1
theorem crash_outs {f : DFile} {ps : List Int} : outs f (crashF f ps).1 := ⟨_, _, by have := nextP_lt (ps := ps) (n := f.ops.length + 1) (by omega); omega, rfl⟩
theorem outs_nil {k x : List Nat} (h : outs ⟨k, []⟩ x) : x = k := by
  obtain ⟨p, ps, h1, h2⟩ := h
  rw [h2]
  simp [tornF]
theorem outs_seen {f : DFile} : outs f f.seen := ⟨f.ops.length, [], Nat.le_refl _, by
  unfold tornF
  rw [List.getElem?_eq_none (Nat.le_refl _), List.take_length]; rfl⟩
theorem torn_none {f : DFile} {p : Nat} {ps : List Int} (h : f.ops[p]? = none) : (tornF f p ps).1 = (f.ops.take p).foldl doF f.kept := by unfold tornF; rw [h]
theorem torn_cut {f : DFile} {p : Nat} {ps : List Int} {o : DOp} (h : f.ops[p]? = some o) (c : o.cut = true) : (tornF f p ps).1 = (f.ops.take p).foldl doF f.kept := by unfold tornF; rw [h]; simp only [c, if_true]
theorem torn_put {f : DFile} {p : Nat} {ps : List Int} {o : DOp} (h : f.ops[p]? = some o) (c : o.cut = false) : (tornF f p ps).1 = doF ((f.ops.take p).foldl doF f.kept) ⟨false, o.pos, o.b.take (nextP ps (o.b.length + 1)).1⟩ := by unfold tornF; rw [h]; simp only [c, Bool.false_eq_true, if_false]
theorem outs_snoc {k : List Nat} {os : List DOp} {o : DOp} {x : List Nat} (h : outs ⟨k, os ++ [o]⟩ x) : outs ⟨k, os⟩ x ∨ x = doF (os.foldl doF k) o ∨ (o.cut = false ∧ ∃ m, m ≤ o.b.length ∧ x = doF (os.foldl doF k) ⟨false, o.pos, o.b.take m⟩) := by
  obtain ⟨p, ps, h1, h2⟩ := h
  have h1 : p ≤ os.length + 1 := by simpa using h1
  by_cases e : p < os.length
  · left
    refine ⟨p, ps, by show p ≤ os.length; omega, ?_⟩
    rw [h2]
    have ht : (os ++ [o]).take p = os.take p := List.take_append_of_le_length (by omega)
    obtain ⟨y, hy⟩ := get_lt (l := os) (k := p) e
    have hy2 : (os ++ [o])[p]? = some y := by rw [List.getElem?_append_left e]; exact hy
    cases hc : y.cut with
    | true =>
      rw [torn_cut (f := ⟨k, os ++ [o]⟩) hy2 hc, torn_cut (f := ⟨k, os⟩) hy hc]
      show ((os ++ [o]).take p).foldl doF k = (os.take p).foldl doF k
      rw [ht]
    | false =>
      rw [torn_put (f := ⟨k, os ++ [o]⟩) hy2 hc, torn_put (f := ⟨k, os⟩) hy hc]
      show doF (((os ++ [o]).take p).foldl doF k) _ = doF ((os.take p).foldl doF k) _
      rw [ht]
  · by_cases e2 : p = os.length
    · subst e2
      have hg : (os ++ [o])[os.length]? = some o := by simp
      have ht : (os ++ [o]).take os.length = os := by simp
      cases hc : o.cut with
      | true =>
        left
        rw [h2, torn_cut (f := ⟨k, os ++ [o]⟩) hg hc]
        show outs ⟨k, os⟩ (((os ++ [o]).take os.length).foldl doF k)
        rw [ht]; exact outs_seen (f := ⟨k, os⟩)
      | false =>
        right; right
        refine ⟨rfl, (nextP ps (o.b.length + 1)).1, by have := nextP_lt (ps := ps) (n := o.b.length + 1) (by omega); omega, ?_⟩
        rw [h2, torn_put (f := ⟨k, os ++ [o]⟩) hg hc]
        show doF (((os ++ [o]).take os.length).foldl doF k) _ = _
        rw [ht]
    · right; left
      have e3 : p = os.length + 1 := by omega
      subst e3
      rw [h2, torn_none (f := ⟨k, os ++ [o]⟩) (by show (os ++ [o])[os.length + 1]? = none; exact List.getElem?_eq_none (by simp))]
      show ((os ++ [o]).take (os.length + 1)).foldl doF k = _
      rw [List.take_of_length_le (by simp), List.foldl_append]; rfl
theorem three_of {α : Type} {l : List α} (h : l.length = 3) : ∃ a b c, l = [a, b, c] := by
  match l, h with
  | [a, b, c], _ => exact ⟨a, b, c, rfl⟩
theorem crash_three {D : Dk} (hl : D.f.length = 3) (ps : List Int) : ∃ x0 x1 x2, crashL D.f ps = [x0, x1, x2] ∧ outs (fileD D (0 : Nat)) x0 ∧ outs (fileD D (1 : Nat)) x1 ∧ outs (fileD D (2 : Nat)) x2 := by
  obtain ⟨a, b, c, e⟩ := three_of hl
  unfold fileD
  rw [e]
  exact ⟨_, _, _, rfl, crash_outs, crash_outs, crash_outs⟩
/-! ### what is opened -/
def recOf (x0 x1 x2 : List Nat) : List (List Nat) := (scanL (if mkOf x2 = 0 then x0 else x1)).1
abbrev Recs := List (List Nat)
def AllC (D : Dk) (C : Recs → Prop) : Prop := ∀ x0 x1 x2, outs (fileD D (0 : Nat)) x0 → outs (fileD D (1 : Nat)) x1 → outs (fileD D (2 : Nat)) x2 → C (recOf x0 x1 x2)
theorem AllC.mono {D : Dk} {C C' : Recs → Prop} (h : AllC D C) (i : ∀ r, C r → C' r) : AllC D C' := fun x0 x1 x2 h0 h1 h2 => i _ (h x0 x1 x2 h0 h1 h2)
theorem AllC.same {D D' : Dk} {C : Recs → Prop} (h : AllC D C) (e : D'.f = D.f) : AllC D' C := by
  have ef : ∀ n : Int, fileD D' n = fileD D n := fun n => by unfold fileD; rw [e]
  intro x0 x1 x2 h0 h1 h2
  rw [ef] at h0 h1 h2
  exact h x0 x1 x2 h0 h1 h2
/-- by the file that is said, if the mark is known -/
theorem allC_of {D : Dk} {C : Recs → Prop} {fl : Nat} (hf : fl < 2) (h : ∀ x2, outs (fileD D (2 : Nat)) x2 → mkOf x2 = fl) (g : ∀ x, outs (fileD D (fl : Nat)) x → C (scanL x).1) : AllC D C := by
  intro x0 x1 x2 h0 h1 h2
  have hm := h x2 h2
  unfold recOf
  rw [hm]
  match fl, hf with
  | 0, _ => exact g x0 h0
  | 1, _ => exact g x1 h1
def okRs (r : Recs) : Prop := (∀ s ∈ r, s.length ≤ 4096 ∧ Bytes8 s) ∧ sizeL r ≤ 2097152
structure InvC (D : Dk) (L : Lg) (r : Recs) (N : Nat) (C : Recs → Prop) : Prop where
  off : D.off = false
  len : D.f.length = 3
  lg : L = ⟨r, sizeL r, L.file, (layR r).length, false⟩
  file : L.file < 2
  seen : (fileD D (L.file : Nat)).seen = layR r
  ok : okRs r
  mark : ∃ mk, fileD D (2 : Nat) = ⟨mk, []⟩ ∧ mkOf mk = L.file ∧ mk.length ≤ N
  can : ∀ x, outs (fileD D (L.file : Nat)) x → C (scanL x).1
theorem InvC.all {D : Dk} {L : Lg} {r : Recs} {N : Nat} {C : Recs → Prop} (i : InvC D L r N C) : AllC D C := by
  obtain ⟨mk, m1, m2, _⟩ := i.mark
  refine allC_of i.file (fun x2 h => ?_) i.can
  rw [m1] at h
  rw [outs_nil h, m2]
theorem InvC.now {D : Dk} {L : Lg} {r : Recs} {N : Nat} {C : Recs → Prop} (i : InvC D L r N C) : C r := by
  have := i.can _ outs_seen
  rw [i.seen, scan_all i.ok.1] at this
  exact this
/-- the power went -/
structure DeadC (D : Dk) (L : Lg) (r : Recs) (C : Recs → Prop) : Prop where
  len : D.f.length = 3
  dead : L.dead = true
  l : L.l = r
  all : AllC D C
theorem layR_len8 {r : Recs} (h : okRs r) : (layR r).length ≤ 2097152 := Nat.le_trans layR_le h.2
section
variable {D : Dk} {L : Lg} {r : Recs} {N : Nat} {C C' : Recs → Prop} {x : List Nat}
theorem callD_fileD {n : Int} : fileD (callD D) n = fileD D n := callD_file
theorem appL_c (i : InvC D L r N C) (hx : x.length ≤ 4096) (hx8 : Bytes8 x) (hs : sizeL r + x.length + 16 ≤ 2097152) (hC : ∀ y, C y → C' y) (hn : C' (r ++ [x])) :
    ((appL D L x).1 = 0 ∧ InvC (appL D L x).2.1 (appL D L x).2.2 (r ++ [x]) N C' ∧ (appL D L x).2.1.armed = D.armed) ∨ ((appL D L x).1 = 10 ∧ D.armed = true ∧ DeadC (appL D L x).2.1 (appL D L x).2.2 r C) := by
  have hlg := i.lg
  have hfl := i.file
  have iseen := i.seen
  have ican := i.can
  have imark := i.mark
  generalize hfile : L.file = fl at *
  have hdead : L.dead = false := by rw [hlg]
  have hsize : L.size = sizeL r := by rw [hlg]
  have hpos : L.pos = (layR r).length := by rw [hlg]
  have hlay := layR_len8 i.ok
  have hll : (lay1 x).length = 8 + x.length := lay1_len
  unfold appL
  rw [if_neg (by rw [hdead]; simp), if_neg (by omega), if_neg (by rw [hsize]; omega), hpos, hfile]
  have hseen : (fileD (callD D) (fl : Nat)).seen = layR r := by rw [callD_fileD]; exact iseen
  have happ : doF (layR r) ⟨false, (layR r).length, lay1 x⟩ = layR (r ++ [x]) := by
    rw [doF_put rfl]
    show (layR r).take (layR r).length ++ (lay1 x ++ (layR r).drop ((layR r).length + (lay1 x).length)) = _
    rw [List.take_length, List.drop_of_length_le (by omega), List.append_nil, layR_app, layR_one]
  rcases call_cases (n := fl) (by omega) i.off with ⟨ha, ho⟩ | ⟨ha, har⟩
  · left
    have hw : writeR D (fl : Nat) ((layR r).length : Nat) (lay1 x) = (0, putD (callD D) (fl : Nat) ⟨false, (layR r).length, lay1 x⟩) := by
      unfold writeR
      rw [if_pos ha, if_neg (by rw [hseen]; omega)]
      rfl
    rw [hw, if_pos rfl]
    have hlen : (callD D).f.length = 3 := by rw [callD_f]; exact i.len
    have hfd : ∀ m : Nat, m < 3 → fileD (putD (callD D) (fl : Nat) ⟨false, (layR r).length, lay1 x⟩) (m : Nat) = if m = fl then ⟨(fileD D (fl : Nat)).kept, (fileD D (fl : Nat)).ops ++ [⟨false, (layR r).length, lay1 x⟩]⟩ else fileD D (m : Nat) := fun m hm => by
      unfold putD
      rw [Int.toNat_natCast, fileD_set hlen hm, callD_fileD, callD_fileD]
    obtain ⟨mk, m1, m2, m3⟩ := imark
    refine ⟨rfl, ⟨ho, by show ((callD D).f.set _ _).length = 3; rw [List.length_set]; exact hlen, ?_, hfl, ?_, ⟨fun s hs' => ?_, by rw [sizeL_app]; simp [sizeL] at hs ⊢; omega⟩, ⟨mk, ?_, m2, m3⟩, fun y hy => ?_⟩, (call_eq (D := D)).2.1⟩
    · show (⟨L.l ++ [x], L.size + x.length + 16, fl, (layR r).length + 8 + x.length, false⟩ : Lg) = ⟨r ++ [x], sizeL (r ++ [x]), fl, (layR (r ++ [x])).length, false⟩
      rw [hsize, show L.l = r by rw [hlg], sizeL_app, layR_app, layR_one, List.length_append, hll]
      simp only [sizeL, List.map_cons, List.map_nil, List.sum_cons, List.sum_nil]
      congr 1; omega
    · show (fileD (putD _ _ _) (fl : Nat)).seen = _
      rw [hfd fl (by omega), if_pos rfl, seen_snoc, iseen, happ]
    · rcases List.mem_append.1 hs' with h | h
      · exact i.ok.1 s h
      · simp at h; subst h; exact ⟨hx, hx8⟩
    · show fileD (putD _ _ _) (2 : Nat) = _
      rw [hfd 2 (by omega), if_neg (by omega)]; exact m1
    · have hy : outs (fileD (putD (callD D) (fl : Nat) ⟨false, (layR r).length, lay1 x⟩) (fl : Nat)) y := hy
      rw [hfd fl (by omega), if_pos rfl] at hy
      have hse : (fileD D (fl : Nat)).ops.foldl doF (fileD D (fl : Nat)).kept = layR r := iseen
      have hokx : ∀ s ∈ r ++ [x], s.length ≤ 4096 ∧ Bytes8 s := fun s hs' => by
        rcases List.mem_append.1 hs' with h | h
        · exact i.ok.1 s h
        · simp at h; subst h; exact ⟨hx, hx8⟩
      rcases outs_snoc hy with h | h | ⟨_, m, hm, h⟩
      · exact hC _ (ican y h)
      · rw [hse, happ] at h
        rw [h, scan_all hokx]; exact hn
      · rw [hse, doF_put rfl] at h
        have h : y = (layR r).take (layR r).length ++ ((lay1 x).take m ++ (layR r).drop ((layR r).length + ((lay1 x).take m).length)) := h
        rw [List.take_length, List.drop_of_length_le (by omega), List.append_nil] at h
        have hm : m ≤ (lay1 x).length := hm
        by_cases e : m < (lay1 x).length
        · rw [h, scan_torn i.ok.1 hx e]
          exact hC _ i.now
        · rw [List.take_of_length_le (by omega), ← layR_one, ← layR_app] at h
          rw [h, scan_all hokx]; exact hn
  · right
    have hw : writeR D (fl : Nat) ((layR r).length : Nat) (lay1 x) = (10, callD D) := by
      unfold writeR
      rw [if_neg (by rw [ha]; omega), ha]
    rw [hw, if_neg (by show ¬ (10 : Int) = 0; omega)]
    exact ⟨rfl, har, by show (callD D).f.length = 3; rw [callD_f]; exact i.len, rfl, by show L.l = r; rw [hlg], i.all.same callD_f⟩
theorem syncR_cases {n : Nat} (hn : n < 3) (ho : D.off = false) (hl : D.f.length = 3) :
    ((syncR D (n : Nat)).1 = 0 ∧ (syncR D (n : Nat)).2.off = false ∧ (syncR D (n : Nat)).2.f.length = 3 ∧ (syncR D (n : Nat)).2.armed = D.armed ∧ ∀ m : Nat, m < 3 → fileD (syncR D (n : Nat)).2 (m : Nat) = if m = n then ⟨(fileD D (n : Nat)).seen, []⟩ else fileD D (m : Nat)) ∨
    ((syncR D (n : Nat)).1 = 10 ∧ D.armed = true ∧ (syncR D (n : Nat)).2.f = D.f) := by
  rcases call_cases hn ho with ⟨ha, ho'⟩ | ⟨ha, har⟩
  · left
    have hw : syncR D (n : Nat) = (0, { callD D with f := D.f.set n ⟨(fileD D (n : Nat)).seen, []⟩ }) := by
      unfold syncR
      rw [if_pos ha]; rfl
    rw [hw]
    refine ⟨rfl, ho', by show (D.f.set _ _).length = 3; rw [List.length_set]; exact hl, (call_eq (D := D)).2.1, fun m hm => ?_⟩
    have := fileD_set hl (n := n) hm (g := ⟨(fileD D (n : Nat)).seen, []⟩)
    rw [← this]; rfl
  · right
    have hw : syncR D (n : Nat) = (10, callD D) := by
      unfold syncR
      rw [if_neg (by rw [ha]; omega), ha]
    rw [hw]
    exact ⟨rfl, har, callD_f⟩
theorem syncL_c (i : InvC D L r N C) (hn : C' r) : ((syncL D L).1 = 0 ∧ InvC (syncL D L).2.1 (syncL D L).2.2 r N C' ∧ (syncL D L).2.1.armed = D.armed) ∨ ((syncL D L).1 = 10 ∧ D.armed = true ∧ DeadC (syncL D L).2.1 (syncL D L).2.2 r C) := by
  have hlg := i.lg
  have hfl := i.file
  have hdead : L.dead = false := by rw [hlg]
  unfold syncL
  rw [if_neg (by rw [hdead]; simp)]
  rcases syncR_cases (n := L.file) (by omega) i.off i.len with ⟨h1, h2, h3, h4, h5⟩ | ⟨h1, h2, h3⟩
  · left
    obtain ⟨mk, m1, m2, m3⟩ := i.mark
    have hfd := h5 L.file (by omega)
    rw [if_pos rfl, i.seen] at hfd
    refine ⟨h1, ⟨h2, h3, ?_, hfl, ?_, i.ok, ⟨mk, ?_, m2, m3⟩, fun y hy => ?_⟩, h4⟩
    · show { L with dead := !decide ((syncR D (L.file : Nat)).1 = 0) } = _
      rw [h1]
      conv => lhs; rw [hlg]
      rfl
    · show (fileD (syncR D (L.file : Nat)).2 (L.file : Nat)).seen = _
      rw [hfd]; rfl
    · show fileD (syncR D (L.file : Nat)).2 (2 : Nat) = _
      rw [h5 2 (by omega), if_neg (by omega)]; exact m1
    · have hy : outs (fileD (syncR D (L.file : Nat)).2 (L.file : Nat)) y := hy
      rw [hfd] at hy
      rw [outs_nil hy, scan_all i.ok.1]; exact hn
  · right
    refine ⟨h1, h2, by show (syncR D (L.file : Nat)).2.f.length = 3; rw [h3]; exact i.len, by show (!decide ((syncR D (L.file : Nat)).1 = 0)) = true; rw [h1]; rfl, by show L.l = r; rw [hlg], i.all.same h3⟩
end
section
variable {D : Dk} {L : Lg} {r l : Recs} {N : Nat} {C C' : Recs → Prop} {x : List Nat}
theorem fileD_congr {D D' : Dk} {n : Int} (e : D'.f = D.f) : fileD D' n = fileD D n := by unfold fileD; rw [e]
theorem cutR_cases {n p : Nat} (hn : n < 3) (ho : D.off = false) (hl : D.f.length = 3) (hp : p ≤ (fileD D (n : Nat)).seen.length) :
    ((cutR D (n : Nat) (p : Nat)).1 = 0 ∧ (cutR D (n : Nat) (p : Nat)).2.off = false ∧ (cutR D (n : Nat) (p : Nat)).2.f.length = 3 ∧ (cutR D (n : Nat) (p : Nat)).2.armed = D.armed ∧
      ∀ m : Nat, m < 3 → fileD (cutR D (n : Nat) (p : Nat)).2 (m : Nat) = if m = n then ⟨(fileD D (n : Nat)).kept, (fileD D (n : Nat)).ops ++ [⟨true, p, []⟩]⟩ else fileD D (m : Nat)) ∨
    ((cutR D (n : Nat) (p : Nat)).1 = 10 ∧ D.armed = true ∧ (cutR D (n : Nat) (p : Nat)).2.f = D.f) := by
  rcases call_cases hn ho with ⟨ha, ho'⟩ | ⟨ha, har⟩
  · left
    have hw : cutR D (n : Nat) (p : Nat) = (0, putD (callD D) (n : Nat) ⟨true, p, []⟩) := by
      unfold cutR
      rw [if_pos ha, if_neg (by rw [callD_fileD]; omega)]; rfl
    have hlen : (callD D).f.length = 3 := by rw [callD_f]; exact hl
    rw [hw]
    refine ⟨rfl, ho', by show ((callD D).f.set _ _).length = 3; rw [List.length_set]; exact hlen, (call_eq (D := D)).2.1, fun m hm => ?_⟩
    show fileD (putD _ _ _) _ = _
    unfold putD
    rw [Int.toNat_natCast, fileD_set hlen hm, callD_fileD, callD_fileD]
  · right
    have hw : cutR D (n : Nat) (p : Nat) = (10, callD D) := by
      unfold cutR
      rw [if_neg (by rw [ha]; omega), ha]
    rw [hw]
    exact ⟨rfl, har, callD_f⟩
theorem InvC.keep {D' : Dk} (i : InvC D L r N C) (k : fileD D' (L.file : Nat) = fileD D (L.file : Nat)) (k2 : fileD D' (2 : Nat) = fileD D (2 : Nat)) : AllC D' C := by
  obtain ⟨mk, m1, m2, _⟩ := i.mark
  refine allC_of i.file (fun x2 h => ?_) fun x hx => ?_
  · rw [k2, m1] at h
    rw [outs_nil h, m2]
  · rw [k] at hx
    exact i.can x hx
end
section
variable {D D' : Dk} {L : Lg} {r l : Recs} {N : Nat} {C C' : Recs → Prop} {x : List Nat}
/-- while it is opened: bytes b in file fl, mark x2, records r0 -/
structure Opg (D : Dk) (b x2 : List Nat) (fl : Nat) (r0 : Recs) : Prop where
  len : D.f.length = 3
  mark : fileD D (2 : Nat) = ⟨x2, []⟩
  can : ∀ x, outs (fileD D (fl : Nat)) x → (scanL x).1 = r0
theorem Opg.all {b x2 : List Nat} {fl : Nat} {r0 : Recs} (o : Opg D b x2 fl r0) (hf : fl < 2) (hm : mkOf x2 = fl) : AllC D (fun y => y = r0) :=
  allC_of hf (fun x h => by rw [o.mark] at h; rw [outs_nil h, hm]) o.can
theorem Opg.same {b x2 : List Nat} {fl : Nat} {r0 : Recs} (o : Opg D b x2 fl r0) (e : D'.f = D.f) : Opg D' b x2 fl r0 :=
  ⟨by rw [e]; exact o.len, by rw [fileD_congr e]; exact o.mark, fun x h => by rw [fileD_congr e] at h; exact o.can x h⟩
/-- a step of opening: done, or the power went -/
def StepO (D : Dk) (s : Int × Dk) (b x2 : List Nat) (fl : Nat) (r0 : Recs) : Prop :=
  (s.1 = 0 ∧ s.2.off = false ∧ s.2.armed = D.armed ∧ Opg s.2 b x2 fl r0) ∨ (s.1 = 10 ∧ D.armed = true ∧ Opg s.2 b x2 fl r0)
theorem loadR_cc {x0 x1 x2 : List Nat} (ho : D.off = false) (hf : D.f = [⟨x0, []⟩, ⟨x1, []⟩, ⟨x2, []⟩]) :
    ((loadR D).1 = 0 ∧ (loadR D).2.2.l = recOf x0 x1 x2 ∧ (loadR D).2.1.f.length = 3 ∧ AllC (loadR D).2.1 (fun y => y = recOf x0 x1 x2) ∧ (loadR D).2.1.armed = D.armed ∧
      ((if mkOf x2 = 0 then x0 else x1) = layR (recOf x0 x1 x2) → okRs (recOf x0 x1 x2) → x2.length ≤ N → C (recOf x0 x1 x2) → InvC (loadR D).2.1 (loadR D).2.2 (recOf x0 x1 x2) N C ∧ fileD (loadR D).2.1 ((loadR D).2.2.file : Nat) = ⟨layR (recOf x0 x1 x2), []⟩)) ∨
    ((loadR D).1 = 10 ∧ D.armed = true ∧ (loadR D).2.1.f.length = 3 ∧ AllC (loadR D).2.1 (fun y => y = recOf x0 x1 x2)) := by
  have hlen : D.f.length = 3 := by rw [hf]; rfl
  have h2 : fileD D (2 : Nat) = ⟨x2, []⟩ := by unfold fileD; rw [hf]; rfl
  have hfl : mkOf x2 < 2 := mkOf_lt
  have hfo : fileOf D = mkOf x2 := by
    show mkOf (fileD D (2 : Nat)).seen = _
    rw [h2]; rfl
  have hrec : recOf x0 x1 x2 = (scanL (if mkOf x2 = 0 then x0 else x1)).1 := rfl
  generalize hb : (if mkOf x2 = 0 then x0 else x1) = b at *
  generalize hflg : mkOf x2 = fl at *
  have hF : fileD D (fl : Nat) = ⟨b, []⟩ := by
    unfold fileD
    rw [hf, ← hb]
    match fl, hfl with
    | 0, _ => rfl
    | 1, _ => rfl
  have hbo : bytesOf D = b := by
    show (fileD D (fileOf D : Nat)).seen = b
    rw [hfo, hF]; rfl
  have hlo : logOf D = ⟨(scanL b).1, sizeL (scanL b).1, fl, (scanL b).2, false⟩ := by
    unfold logOf scanLg
    rw [hbo, hfo]
    show (⟨[] ++ (scanL (b.drop 0)).1, 0 + sizeL (scanL (b.drop 0)).1, fl, 0 + (scanL (b.drop 0)).2, false⟩ : Lg) = _
    rw [List.drop_zero, List.nil_append, Nat.zero_add, Nat.zero_add]
  generalize hr0 : recOf x0 x1 x2 = r0 at *
  have hsl := scan_len b
  have hask : askR D 2 = 0 := by
    have := ask_off (D := D) (n := 2) (by omega)
    rw [ho] at this
    exact this
  have base : Opg D b x2 fl r0 := ⟨hlen, h2, fun x h => by rw [hF] at h; rw [outs_nil h, hrec]⟩
  -- cut
  have sc : StepO D (cutOf D) b x2 fl r0 ∧ ((scanL b).2 = b.length → (cutOf D) = (0, D)) := by
    unfold cutOf
    rw [hlo, hbo, hfo]
    show StepO D (if (scanL b).2 < b.length then cutR D (fl : Nat) ((scanL b).2 : Nat) else (0, D)) b x2 fl r0 ∧ ((scanL b).2 = b.length → (if (scanL b).2 < b.length then cutR D (fl : Nat) ((scanL b).2 : Nat) else (0, D)) = (0, D))
    refine ⟨?_, fun e => if_neg (by omega)⟩
    by_cases e : (scanL b).2 < b.length
    · rw [if_pos e]
      rcases cutR_cases (D := D) (n := fl) (p := (scanL b).2) (by omega) ho hlen (by rw [hF]; exact hsl.1) with ⟨a1, a2, a3, a4, a5⟩ | ⟨a1, a2, a3⟩
      · refine .inl ⟨a1, a2, a4, a3, by rw [a5 _ (by omega), if_neg (by omega)]; exact h2, fun x h => ?_⟩
        rw [a5 _ (by omega), if_pos rfl, hF] at h
        rcases outs_snoc (os := []) h with h | h | ⟨h, _⟩
        · rw [outs_nil h, hrec]
        · have h : x = doF b ⟨true, (scanL b).2, []⟩ := h
          rw [doF_cut rfl] at h
          have h : x = b.take (scanL b).2 := h
          rw [h, scan_take, hrec]
        · cases h
      · exact .inr ⟨a1, a2, base.same a3⟩
    · rw [if_neg e]
      exact .inl ⟨rfl, ho, rfl, base⟩
  -- synced
  have s1 : StepO D (sync1 D) b x2 fl r0 ∧ ((scanL b).2 = b.length → (sync1 D).1 = 0 → fileD (sync1 D).2 (fl : Nat) = ⟨b, []⟩) := by
    unfold sync1
    rw [hfo]
    rcases sc.1 with ⟨a1, a2, a3, a4⟩ | ⟨a1, a2, a3⟩
    · rw [if_pos a1]
      rcases syncR_cases (D := (cutOf D).2) (n := fl) (by omega) a2 a4.len with ⟨lc1, lc2, lc3, lc4, lc5⟩ | ⟨lc1, lc2, lc3⟩
      · refine ⟨.inl ⟨lc1, lc2, by rw [lc4, a3], lc3, by rw [lc5 _ (by omega), if_neg (by omega)]; exact a4.mark, fun x h => ?_⟩, fun e _ => ?_⟩
        · rw [lc5 _ (by omega), if_pos rfl] at h
          rw [outs_nil h]; exact a4.can _ outs_seen
        · rw [lc5 _ (by omega), if_pos rfl, sc.2 e, hF]; rfl
      · exact ⟨.inr ⟨lc1, by rw [← a3]; exact lc2, a4.same lc3⟩, fun _ e => by rw [lc1] at e; cases e⟩
    · rw [if_neg (by rw [a1]; omega)]
      exact ⟨.inr ⟨a1, a2, a3⟩, fun _ e => by rw [a1] at e; cases e⟩
  have s2 : StepO D (sync2 D) b x2 fl r0 ∧ ((scanL b).2 = b.length → (sync2 D).1 = 0 → fileD (sync2 D).2 (fl : Nat) = ⟨b, []⟩) := by
    unfold sync2
    rcases s1.1 with ⟨a1, a2, a3, a4⟩ | ⟨a1, a2, a3⟩
    · rw [if_pos a1]
      rcases syncR_cases (D := (sync1 D).2) (n := 2) (by omega) a2 a4.len with ⟨lc1, lc2, lc3, lc4, lc5⟩ | ⟨lc1, lc2, lc3⟩
      · have hk : fileD (syncR (sync1 D).2 2).2 (fl : Nat) = fileD (sync1 D).2 (fl : Nat) := by
          have := lc5 fl (by omega)
          rw [if_neg (by omega)] at this; exact this
        refine ⟨.inl ⟨lc1, lc2, by rw [show (syncR (sync1 D).2 2).2.armed = _ from lc4, a3], lc3, ?_, fun x h => ?_⟩, fun e _ => ?_⟩
        · have := lc5 2 (by omega)
          rw [if_pos rfl, a4.mark] at this; exact this
        · rw [hk] at h; exact a4.can x h
        · rw [hk]; exact s1.2 e a1
      · exact ⟨.inr ⟨lc1, by rw [← a3]; exact lc2, a4.same lc3⟩, fun _ e => by rw [show (syncR (sync1 D).2 2).1 = 10 from lc1] at e; cases e⟩
    · rw [if_neg (by rw [a1]; omega)]
      exact ⟨.inr ⟨a1, a2, a3⟩, fun _ e => by rw [a1] at e; cases e⟩
  have hL : loadR D = ((sync2 D).1, (sync2 D).2, logOf D) := if_pos hask
  rw [hL]
  rcases s2.1 with ⟨a1, a2, a3, a4⟩ | ⟨a1, a2, a3⟩
  · left
    refine ⟨a1, by show (logOf D).l = r0; rw [hlo, hrec], a4.len, a4.all hfl hflg, a3, fun e1 e2 e3 e4 => ?_⟩
    have hsc : scanL b = (r0, (layR r0).length) := by rw [e1]; exact scan_all e2.1
    have hlast := s2.2 (by rw [hsc, e1]) a1
    show InvC (sync2 D).2 (logOf D) r0 N C ∧ fileD (sync2 D).2 ((logOf D).file : Nat) = _
    rw [hlo, hsc]
    refine ⟨?_, by show fileD (sync2 D).2 (fl : Nat) = _; rw [hlast, e1]⟩
    exact ⟨a2, a4.len, rfl, hfl, by rw [hlast]; exact e1, e2, ⟨x2, a4.mark, hflg, e3⟩, fun x h => by rw [a4.can x h]; exact e4⟩
  · right
    exact ⟨a1, a2, a3.len, a3.all hfl hflg⟩
theorem loadR_c {x0 x1 x2 : List Nat} (ho : D.off = false) (hf : D.f = [⟨x0, []⟩, ⟨x1, []⟩, ⟨x2, []⟩]) :
    ((loadR D).1 = 0 ∧ (loadR D).2.2.l = recOf x0 x1 x2 ∧ (loadR D).2.1.f.length = 3 ∧ AllC (loadR D).2.1 (fun y => y = recOf x0 x1 x2) ∧ (loadR D).2.1.armed = D.armed ∧
      ((if mkOf x2 = 0 then x0 else x1) = layR (recOf x0 x1 x2) → okRs (recOf x0 x1 x2) → x2.length ≤ N → C (recOf x0 x1 x2) → InvC (loadR D).2.1 (loadR D).2.2 (recOf x0 x1 x2) N C)) ∨
    ((loadR D).1 = 10 ∧ D.armed = true ∧ (loadR D).2.1.f.length = 3 ∧ AllC (loadR D).2.1 (fun y => y = recOf x0 x1 x2)) := by
  rcases loadR_cc (N := N) (C := C) ho hf with ⟨h1, h2, h3, h4, h5, h6⟩ | h
  · exact .inl ⟨h1, h2, h3, h4, h5, fun e1 e2 e3 e4 => (h6 e1 e2 e3 e4).1⟩
  · exact .inr h
end
section
variable {h : Hp} {Post : AV → Hp → Prop}
theorem InvC.size {E : Dk} {L : Lg} {r : Recs} {N : Nat} {C : Recs → Prop} (i : InvC E L r N C) : L.size ≤ 2097152 ∧ L.pos ≤ 2097152 ∧ L.l.length ≤ 2097152 ∧ L.l = r := by
  have h1 := i.lg
  have h2 := i.ok.2
  have h3 := layR_len8 i.ok
  have h4 : ∀ l : Recs, l.length ≤ sizeL l := fun l => by
    induction l with
    | nil => exact Nat.le_refl _
    | cons s l ih => rw [sizeL_cons, List.length_cons]; omega
  have h5 := h4 r
  refine ⟨by rw [h1]; exact h2, by rw [h1]; exact h3, by rw [h1]; show r.length ≤ _; omega, by rw [h1]⟩
theorem syncL_few {E : Dk} {L : Lg} {N : Nat} (w : Few E N) : Few (syncL E L).2.1 N := by
  unfold syncL
  split
  · exact w
  · exact syncR_few w
theorem appL_few {E : Dk} {L : Lg} {x : List Nat} {N : Nat} (w : Few E N) : Few (appL E L x).2.1 (N + 1) := by
  unfold appL
  split
  · exact w.mono (by omega)
  · split
    · exact w.mono (by omega)
    · split
      · exact w.mono (by omega)
      · split
        · exact writeR_few w
        · exact writeR_few w
theorem loadR_few {E : Dk} {N : Nat} (w : Few E N) : Few (loadR E).2.1 (N + 1) := by
  unfold loadR
  split
  · exact sync2_few w
  · exact w.mono (by omega)
end
theorem len_sizeL : ∀ l : Recs, l.length ≤ sizeL l
  | [] => Nat.le_refl _
  | s :: l => by rw [sizeL_cons, List.length_cons]; have := len_sizeL l; omega
theorem offD_c {E : Dk} {n : Int} (h : 1 ≤ n) : (offD E n).off = E.off ∧ (offD E n).f = E.f := by
  unfold offD
  rw [if_neg (by omega)]
  exact ⟨rfl, rfl⟩
theorem few_off {E : Dk} {n : Int} {N : Nat} (w : Few E N) : Few (offD E n) N := w
section
variable {g h : Hp} {a b : AV} {l m : List Nat} {Post : AV → Hp → Prop}
theorem nums_in {o : D.Op} (h : mayO o = true) (hk : Bytes8 o.key) {d : AV} {h0 : Hp} (r : IR h0 d o.deps) : D.kOp.K h0 o (opC o d) := by
  obtain ⟨s1, s2, s3, s4, s5⟩ := mayO_nums h
  obtain ⟨x, hx, hs⟩ := (op_parts h hk).seq
  have hx2 := s2 x (List.mem_of_getElem? hx)
  have i : ∀ n : Int, -1 ≤ n → n ≤ 1099511627777 → In64 n := fun n h1 h2 => ⟨by omega, by omega⟩
  rcases s5 with ⟨k1, k2, k3, k4, k5, k6⟩ | ⟨k1, k2, k3, k4⟩
  · exact op_mk (i _ (by omega) (by omega)) (i _ (by omega) (by omega)) (i _ (by omega) (by omega)) r (by omega) (i _ (by omega) (by omega)) (i _ (by omega) (by omega)) (i _ (by omega) (by omega)) (i _ (by omega) (by omega)) (i _ (by omega) (by omega)) (by omega) hk (i _ (by omega) (by omega)) (i _ (by omega) (by omega))
  · have hp : o.parent.time = 0 ∧ o.parent.rep = 0 := by rw [k3]; exact ⟨rfl, rfl⟩
    exact op_mk (i _ (by omega) (by omega)) (i _ (by omega) (by omega)) (i _ (by omega) (by omega)) r (by omega) (i _ (by omega) (by omega)) (i _ (by omega) (by omega)) (i _ (by omega) (by omega)) (i _ (by omega) (by omega)) (i _ (by omega) (by omega)) (by rw [k4]; simp) hk (i _ (by omega) (by omega)) (i _ (by omega) (by omega))
end
/-- what reading leaves: a frame of its own, or none -/
structure FrmOwn (g h : Hp) (a b : AV) (v : List Int) (l : List D.Op) : Prop where
  le : g.le h
  lo : h.lo = g.lo
  vec : (Kn.int.Own g h a v ∧ b = .ns ∧ l = []) ∨ (a = .ns ∧ v = [] ∧ OpOwn g h b l)
theorem FrmOwn.ra {g h : Hp} {a b : AV} {v : List Int} {l : List D.Op} (o : FrmOwn g h a b v l) : IR h a v := by
  rcases o.vec with ⟨h1, _, _⟩ | ⟨h1, h2, _⟩
  · exact h1.row
  · rw [h1, h2]; exact nsI
theorem FrmOwn.nil {g h : Hp} (le : g.le h) (lo : h.lo = g.lo) : FrmOwn g h .ns .ns [] [] := ⟨le, lo, .inl ⟨(Kn.Own.nil _ h).mono le lo, rfl, rfl⟩⟩
theorem OpOwn.take {g h : Hp} {a : AV} {l : List D.Op} (o : OpOwn g h a l) {q : List Nat} {r : AV} (br : BR g r q) (hb : q.length < 31000000) (hq : Bytes8 q) (hl : l.length < 100) {Post : AV → Hp → Prop}
    (k1 : (takeO q).2.2 ≠ 0 → ∀ d h', d.sc = true → OpOwn g h' a l → Post (.tup [.agg (opC (takeO q).1 d), .i .i64 ((takeO q).2.1 : Nat), .i .i64 (takeO q).2.2]) h')
    (k2 : (takeO q).2.2 = 0 → ∀ d h', d.sc = true → (∀ (Q : Option AV → Hp → Prop), (∀ r' h2, OpOwn g h2 r' (l ++ [(takeO q).1]) → Q (some r') h2) → wpE (.app a 1 (.lit (opC (takeO q).1 d)) 12) Q h') → Post (.tup [.agg (opC (takeO q).1 d), .i .i64 ((takeO q).2.1 : Nat), .i .i64 (takeO q).2.2]) h') : wpC Try.prog 46 [r] Post h := by
  obtain ⟨p, css, qs, oe⟩ := o
  refine (oe.fr.call (Q := fun w p' => ∃ d, w = .tup [.agg (opC (takeO q).1 d), .i .i64 ((takeO q).2.1 : Nat), .i .i64 (takeO q).2.2] ∧ Kn.int.Own p p' d (takeO q).1.deps) (c29o (br.mono oe.le) hb fun d h' o => ⟨d, rfl, o⟩)).mono ?_
  rintro w h1 ⟨p', fr, hlo, d, rfl, ow⟩
  by_cases e : (takeO q).2.2 = 0
  · obtain ⟨w1, w2, w3, w4⟩ := takeO_was hq e
    exact k2 e _ _ ow.sc fun Q kq => OpOwn.snoc oe fr hlo (nums_in w1 w4 ow.row) ow (by omega) kq
  · refine k1 e _ _ ow.sc ⟨p', css, qs, Hp.le_trans oe.le ow.le, hlo.trans oe.lo, fr, oe.len, fun i => Hp.le_trans (oe.sub i) ow.le, oe.dj, oe.dd, oe.qlo, oe.own, oe.el⟩
/- slices.Clone[[]arras/api.Op,arras/api.Op] -/
theorem vc47 (a : AV) (h : Hp) (Post : AV → Hp → Prop) : vcCall Try.prog [] 47 [(SV.vv a)] h Post = (
  onO (nilSl a) fun cc0 =>
  onB cc0 (Post AV.ns h)
    (∀ (p0 : Nat),
      h.g p0 = none →
        h.lo.le p0 →
          onO (srcV 12 a) fun r0 =>
            onC (((4 * r0.fst + 4000) * 120).ble (OfNat.ofNat 17179869184)) (wpE (Eff.app (AV.sl p0 0 0 0 true 12) r0.fst r0.snd 12) (fun x0 h0 => onO x0 fun a0 => Post a0 h0) (h.put p0 [])))) := by kernel_rfl
/-- what is behind the appending: opened again and again -/
def StTail (a0 a1 a2 : AV) (cc4 : Bool) (n24 : Int) (a43 : AV) (h40 : Hp) (Post : AV → Hp → Prop) : Prop :=
  ∃ I14 : Nat → AV → Bool → Int → AV → Int → Hp → Prop, (∃ p19, I14 p19 a2 cc4 n24 a43 0 h40) ∧ ∀ (p20 : Nat) (h41 : Hp) (a44 : AV), a44.sc = true → ∀ (cc18 : Bool) (n25 : Int) (a45 : AV), a45.sc = true → ∀ (n26 : Int), I14 p20 a44 cc18 n25 a45 n26 h41 → onB (decide (n26 < 4)) (onO (lenV a0) fun p21 => ∃ I15 : AV → Hp → Prop, onB (decide (n26 < ↑p21)) (onO (idxV a0 n26 3) fun r7 => onO (rdH h41 r7.fst (r7.snd + 2) 1) fun l4 => onL [Kd.ref] l4 fun a46 => I15 a46 h41) (I15 AV.ns h41) ∧ ∀ (h42 : Hp) (a47 : AV), a47.sc = true → I15 a47 h42 → wpC Try.prog 17 [a44, a47] (fun a48 h43 => onRet [Sh.one Kd.ref] a48 fun a49 => onO (nilP a49) fun cc19 => onB cc19 (Post (AV.b false) h43) (∃ I16 : Bool → Hp → Prop, (onO (intO BinOp.add IntKind.i64 n26 1) fun n27 => onO (lenV a1) fun p22 => onB (decide (n27 < ↑p22)) (I16 (decide (n26 < 2)) h43) (I16 false h43)) ∧ ∀ (h44 : Hp) (cc20 : Bool), I16 cc20 h44 → ∃ I17 : Hp → Prop, onB cc20 (onO (intO BinOp.add IntKind.i64 n26 1) fun n28 => onO (idxV a1 n28 1) fun r8 => onO (rdH h44 r8.fst r8.snd 1) fun l5 => onL [Kd.int IntKind.i64] l5 fun n29 => wpC Try.prog 16 [AV.i IntKind.i64 n29, AV.i IntKind.i64 10] (fun a50 h45 => onRet [Sh.one (Kd.int IntKind.i64)] a50 fun n30 => onO (intO BinOp.add IntKind.i64 1 n30) fun n31 => wpC Try.prog 23 [a49, AV.i IntKind.i64 n31] (fun a51 h46 => onTup [] a51 (I17 h46)) h45) h44) (I17 h44) ∧ ∀ (h47 : Hp), I17 h47 → wpC Try.prog 9 [a49] (fun a52 h48 => onTup [Sh.one Kd.ref, Sh.one (Kd.int IntKind.i64)] a52 fun a53 n32 => ∃ I18 : Bool → Hp → Prop, wpC Try.prog 10 [AV.i IntKind.i64 n32] (fun a54 h49 => onRet [Sh.one (Kd.int IntKind.i64)] a54 fun n33 => onB (decide (n33 = 10)) (onB (decide (n26 < 2)) (onO (nilP a53) fun cc21 => I18 cc21 h49) (I18 false h49)) (I18 false h49)) h48 ∧ ∀ (h50 : Hp) (cc22 : Bool), I18 cc22 h50 → onB cc22 (onO (intO BinOp.add IntKind.i64 n26 1) fun n34 => ∃ p23, ltN p23 p20 ∧ I14 p23 a49 cc18 n25 a45 n34 h50) (∃ I19 : Bool → Hp → Prop, wpC Try.prog 10 [AV.i IntKind.i64 n32] (fun a55 h51 => onRet [Sh.one (Kd.int IntKind.i64)] a55 fun n35 => onB (!decide (n35 = 0)) (I19 true h51) (onO (nilP a53) fun cc23 => I19 cc23 h51)) h50 ∧ ∀ (h52 : Hp) (cc24 : Bool), I19 cc24 h52 → onB cc24 (Post (AV.b false) h52) (wpC Try.prog 11 [a53] (fun a56 h53 => onRet [Sh.one Kd.ref] a56 fun a57 => ∃ I20 : Bool → Hp → Prop, (onO (lenV a57) fun p24 => onB (decide ((↑p24 : Int) < n25)) (I20 true h53) (onO (lenV a57) fun p25 => onO (lenV a45) fun p26 => onB (decide ((↑p26 : Int) < ↑p25)) (I20 true h53) (onO (lenV a57) fun p27 => onO (slV a45 none (some ↑p27) none 12) fun a58 => wpC Try.prog 21 [a57, a58] (fun a59 h54 => onRet [Sh.one Kd.bool] a59 fun cc25 => I20 (!cc25) h54) h53))) ∧ ∀ (h55 : Hp) (cc26 : Bool), I20 cc26 h55 → onB cc26 (Post (AV.b false) h55) (onO (lenV a57) fun p28 => onO (intO BinOp.add IntKind.i64 n26 1) fun n36 => ∃ p29, ltN p29 p20 ∧ I14 p29 a49 cc18 (↑p28) a57 n36 h55)) h52))) h47)) h42) (wpC Try.prog 13 [] (fun a60 h56 => onRet [Sh.one Kd.bool] a60 fun cc27 => Post (AV.b cc27) h56) h41)
/- arras/arraslaw24.StoreCrashes -/
theorem vc5 (a0 : AV) (a1 : AV) (h : Hp) (Post : AV → Hp → Prop) : vcCall Try.prog [18999999, 11000036, 23000057, 35000090, 41000006, 41000007, 41000011, 56000014, 63000127, 66999999, 69000153, 71000160, 77000182] 5 [(SV.ag [(SV.vv a0), (SV.vv a1)])] h Post = ( ∀ (p0 : Nat), wpC Try.prog 14 [AV.agg [a0, a1]] (fun a0_1 h0 => onRet [Sh.one Kd.bool] a0_1 fun cc0 => onB cc0 (Post (AV.b true) h0) (wpC Try.prog 15 [] (fun a1_1 h1 => onRet [Sh.one Kd.ref] a1_1 fun a2 => wpC Try.prog 9 [a2] (fun a3 h2 => onTup [Sh.one Kd.ref, Sh.one (Kd.int IntKind.i64)] a3 fun a4 n0 => ∃ I0 : Bool → Hp → Prop, (onO (nilP a2) fun cc1 => onB cc1 (I0 true h2) (wpC Try.prog 10 [AV.i IntKind.i64 n0] (fun a5 h3 => onRet [Sh.one (Kd.int IntKind.i64)] a5 fun n1 => onB (!decide (n1 = 0)) (I0 true h3) (onO (nilP a4) fun cc2 => I0 cc2 h3)) h2)) ∧ ∀ (h4 : Hp) (cc3 : Bool), I0 cc3 h4 → onB cc3 (Post (AV.b false) h4) (onO (lenV a1) fun p1 => ∃ I1 : Hp → Prop, onB (decide ((0 : Int) < ↑p1)) (onO (idxV a1 0 1) fun r0 => onO (rdH h4 r0.fst r0.snd 1) fun l0 => onL [Kd.int IntKind.i64] l0 fun n2 => wpC Try.prog 16 [AV.i IntKind.i64 n2, AV.i IntKind.i64 40] (fun a6 h5 => onRet [Sh.one (Kd.int IntKind.i64)] a6 fun n3 => onO (intO BinOp.add IntKind.i64 1 n3) fun n4 => wpC Try.prog 23 [a2, AV.i IntKind.i64 n4] (fun a7 h6 => onTup [] a7 (I1 h6)) h5) h4) (I1 h4) ∧ ∀ (h7 : Hp), I1 h7 → ∃ I2 : Nat → AV → Bool → AV → Int → Hp → Prop, (∃ p2, I2 p2 AV.ns false AV.ns 0 h7) ∧ ∀ (p3 : Nat) (h8 : Hp) (a8 : AV), a8.sc = true → ∀ (cc4 : Bool) (a9 : AV), a9.sc = true → ∀ (n5 : Int), I2 p3 a8 cc4 a9 n5 h8 → ∃ I3 : Bool → Hp → Prop, (onO (lenV a0) fun p4 => onB (decide (n5 < ↑p4)) (I3 (decide (n5 < 12)) h8) (I3 false h8)) ∧ ∀ (h9 : Hp) (cc5 : Bool), I3 cc5 h9 → onB cc5 (onO (idxV a0 n5 3) fun r1 => onO (rdH h9 r1.fst (r1.snd + 1) 1) fun l1 => onL [Kd.ref] l1 fun a10 => wpC Try.prog 18 [a10] (fun a11 h10 => onRet [Sh.one Kd.ref] a11 fun a12 => wpC Try.prog 20 [a4, a12] (fun a13 h11 => onRet [Sh.one (Kd.int IntKind.i64)] a13 fun n6 => wpC Try.prog 10 [AV.i IntKind.i64 n6] (fun a14 h12 => onRet [Sh.one (Kd.int IntKind.i64)] a14 fun n7 => onB (decide (n7 = 0)) (onO (srcV 12 a12) fun r2 => onC (((4 * r2.fst + 4000) * 120).ble (OfNat.ofNat 17179869184)) (wpE (Eff.app a8 r2.fst r2.snd 12) (fun x0 h13 => onO x0 fun a15 => onO (intO BinOp.add IntKind.i64 n5 1) fun n8 => ∃ p5, ltN p5 p3 ∧ I2 p5 a15 cc4 a9 n8 h13) h12)) (∃ I4 : Bool → Hp → Prop, onB (!decide (n7 = 10)) (I4 true h12) (wpC Try.prog 11 [a4] (fun a16 h14 => onRet [Sh.one Kd.ref] a16 fun a17 => wpC Try.prog 21 [a17, a8] (fun a18 h15 => onRet [Sh.one Kd.bool] a18 fun cc6 => onB (!cc6) (I4 true h15) (wpC Try.prog 20 [a4, AV.ns] (fun a19 h16 => onRet [Sh.one (Kd.int IntKind.i64)] a19 fun n9 => wpC Try.prog 10 [AV.i IntKind.i64 n9] (fun a20 h17 => onRet [Sh.one (Kd.int IntKind.i64)] a20 fun n10 => I4 (!decide (n10 = 10)) h17) h16) h15)) h14) h12) ∧ ∀ (h18 : Hp) (cc7 : Bool), I4 cc7 h18 → onB cc7 (Post (AV.b false) h18) (∃ I5 : Int → Hp → Prop, (onO (lenV a8) fun p6 => I5 (↑p6) h18) ∧ ∀ (h19 : Hp) (n11 : Int), I5 n11 h19 → wpC Try.prog 19 [a8] (fun a21 h20 => onRet [Sh.one Kd.ref] a21 fun a22 => onO (srcV 12 a12) fun r3 => onC (((4 * r3.fst + 4000) * 120).ble (OfNat.ofNat 17179869184)) (wpE (Eff.app a22 r3.fst r3.snd 12) (fun x1 h21 => onO x1 fun a23 => StTail a0 a1 a2 cc4 n11 a23 h21 Post) h20)) h19))) h11) h10) h9) (∃ I13 : Int → Hp → Prop, (onO (lenV a8) fun p18 => I13 (↑p18) h9) ∧ ∀ (h38 : Hp) (n24 : Int), I13 n24 h38 → wpC Try.prog 19 [a8] (fun a41 h39 => onRet [Sh.one Kd.ref] a41 fun a42 => onO (srcV 12 a9) fun r6 => onC (((4 * r6.fst + 4000) * 120).ble (OfNat.ofNat 17179869184)) (wpE (Eff.app a42 r6.fst r6.snd 12) (fun x2 h40 => onO x2 fun a43 => StTail a0 a1 a2 cc4 n24 a43 h40 Post) h39)) h38))) h1) h0)) h) := by kernel_rfl
theorem addH_none {p g : Hp} {k : Nat} (h1 : p.g k = none) (h2 : g.g k = none) : (p.add g).g k = none := by
  show (match p.g k with | some c => some c | none => g.g k) = none
  rw [h1]; exact h2
/-- operations in a part of their own -/
def OpsP (lo : Nat) (q : Hp) (a : AV) (l : List D.Op) : Prop := q.lo = lo ∧ OpOwn (Hp.none lo) q a l
theorem OpsP.row {lo : Nat} {q H : Hp} {a : AV} {v : List D.Op} (p : OpsP lo q a v) (l : q.le H) : OpRow H a v := by
  have r : OpRow q a v := OpOwn.kn p.2 |>.row
  exact r.mono l
theorem OpsP.of {g H : Hp} {a : AV} {l : List D.Op} (o : OpOwn g H a l) : ∃ q, q.le H ∧ Disj q g ∧ OpsP g.lo q a l := by
  obtain ⟨q, q1, q2, q3, q4⟩ := o.part
  exact ⟨q, q1, q2, q3, q4⟩
/-- operations that are new -/
def NewOps (h h' : Hp) (r : AV) (l : List D.Op) : Prop := h.le h' ∧ h'.lo = h.lo ∧ ∃ q, q.le h' ∧ Disj q h ∧ OpsP h.lo q r l
theorem NewOps.of {h h' : Hp} {r : AV} {l : List D.Op} (o : OpOwn h h' r l) : NewOps h h' r l := ⟨o.kn.le, o.kn.lo, OpsP.of o⟩
theorem NewOps.row {h h' : Hp} {r : AV} {l : List D.Op} (o : NewOps h h' r l) : OpRow h' r l := by
  obtain ⟨_, _, q, q1, _, q3⟩ := o
  exact q3.row q1
theorem NewOps.sc {h h' : Hp} {r : AV} {l : List D.Op} (o : NewOps h h' r l) : r.sc = true := o.row.sc
theorem NewOps.frozen {h h' F : Hp} {r : AV} {l : List D.Op} (o : NewOps h h' r l) : OpRow (moreH h h' F) r l := by
  obtain ⟨_, _, q, q1, q2, q3⟩ := o
  exact q3.row (more_new q1 q2)
theorem op_key {h : Hp} {o : D.Op} {c : List AV} (k : D.kOp.K h o c) : Bytes8 o.key := by
  obtain ⟨d0, e, f1, f2, f3, f4, f5, f6, f7, f8, f9, f10, f11, f12⟩ := D.kOp_open k
  exact f10.2
theorem op_keys {h : Hp} {a : AV} {l : List D.Op} (r : OpRow h a l) : ∀ o ∈ l, Bytes8 o.key := fun o ho => by
  obtain ⟨j, hj⟩ := List.getElem?_of_mem ho
  obtain ⟨b, p, c, e1, e2, e3⟩ := r.idx (i := (j : Int)) (x := o) (Int.natCast_nonneg j) (by simpa using hj)
  exact op_key e3
theorem may_opk {o : D.Op} (h : mayO o = true) : opOk o := by
  have := (mayO_nums h).len
  show o.deps.length < 32000000; omega
theorem takeO_in' {l : List Nat} (hl : Bytes8 l) (h : (takeO l).2.2 = 0) {d : AV} {h0 : Hp} (r : IR h0 d (takeO l).1.deps) : D.kOp.K h0 (takeO l).1 (opC (takeO l).1 d) := by
  obtain ⟨w1, w2, w3, w4⟩ := takeO_was hl h
  exact nums_in w1 w4 r
section
variable {h : Hp} {a b : AV} {l : List D.Op} {o : D.Op} {Post : AV → Hp → Prop}
theorem c63o (r : OpRow h a l) (hb : l.length < 31000000) (ho : ∀ o ∈ l, opOk o) (k : ∀ r' h', OpOwn h h' r' l → Post r' h') : wpC Try.prog 19 [a] Post h := by
  refine call_sound (args := [.vv a]) (cuts := []) ⟨r.sc, trivial⟩ ?_
  rw [vc19]
  refine ⟨fun m b i h' => ∃ k : Nat, i = k ∧ k ≤ l.length ∧ m = l.length - k ∧ OpOwn h h' b (l.take k), ⟨l.length, 0, rfl, by omega, rfl, OwnD.nil _⟩, ?_⟩
  rintro m h0 b _ _ ⟨j, rfl, hj, rfl, ow⟩
  refine onO.mk r.len (onB.dec (fun e => ?_) (fun e => ?_))
  · obtain ⟨x, hx⟩ := get_lt (l := l) (k := j) (by omega)
    refine opW r ow.kn.le hx fun d rd kx => ?_
    obtain ⟨p, css, qs, oe⟩ := ow
    refine (oe.fr.call (Q := fun w p' => ∃ r', w = .agg (opC x r') ∧ Kn.int.Own p p' r' x.deps) (c39 (o := x) (rd.mono oe.le) (ho x (List.mem_of_getElem? hx)) fun r' h' ow' => ⟨r', rfl, ow'⟩)).mono ?_
    rintro w h1 ⟨p', fr', hlo, r', rfl, ow'⟩
    refine onRet.op ow'.sc fun _ => OpOwn.snoc oe fr' hlo kx ow' (by simp; omega) fun r2 h2 o2 => onO.mk rfl (onO.mk (inc64 (by omega)) ⟨_, by show l.length - (j + 1) < l.length - j; omega, j + 1, rfl, by omega, rfl, ?_⟩)
    rw [take_succ' hx]; exact o2
  · have : j = l.length := by omega
    subst this
    rw [List.take_length] at ow
    exact k _ _ ow
/-- the operations that may be, of the first six -/
def goodL (l : List D.Op) : List D.Op := (l.take 6).filter mayO
theorem good_take {l : List D.Op} {j : Nat} {x : D.Op} (hx : l[j]? = some x) (hj : j < 6) : goodL (l.take (j + 1)) = goodL (l.take j) ++ [x].filter mayO := by
  unfold goodL
  rw [List.take_take, List.take_take, Nat.min_eq_right (by omega), Nat.min_eq_right (by omega), take_succ' hx, List.filter_append]
theorem good_len : (goodL l).length ≤ 6 := by
  have := List.length_filter_le mayO (l.take 6)
  rw [List.length_take] at this
  unfold goodL; omega
theorem good_may : ∀ o ∈ goodL l, mayO o = true := fun o ho => (List.mem_filter.1 ho).2
theorem c18 (r : OpRow h a l) (hb : l.length < 140737488351232) (ho : ∀ o ∈ l, opOk o) (k : ∀ r' h', NewOps h h' r' (goodL l) → Post r' h') : wpC Try.prog 18 [a] Post h := by
  refine call_sound (args := [.vv a]) (cuts := []) ⟨r.sc, trivial⟩ ?_
  rw [vc18]
  refine ⟨fun m b i h' => ∃ k : Nat, i = k ∧ k ≤ l.length ∧ k ≤ 6 ∧ m = l.length - k ∧ OpOwn h h' b (goodL (l.take k)), ⟨l.length, 0, rfl, by omega, by omega, rfl, OwnD.nil _⟩, ?_⟩
  rintro m h0 b _ _ ⟨j, rfl, hj, h6, rfl, ow⟩
  have fin : goodL (l.take j) = goodL l → Post b h0 := fun e => k _ _ (.of (by rw [← e]; exact ow))
  refine onO.mk r.len (onB.dec (fun e => onB.dec (fun e6 => ?_) fun e6 => fin ?_) (fun e => fin ?_))
  · obtain ⟨x, hx⟩ := get_lt (l := l) (k := j) (by omega)
    have hg := good_take hx (by omega)
    have ok := ho x (List.mem_of_getElem? hx)
    refine opW r ow.kn.le hx fun d rd kx => c12 (rd.mono ow.kn.le) ok (onRet.b (onB.mk (fun em => ?_) fun em => ?_))
    · refine opW r ow.kn.le hx fun d rd kx => ?_
      obtain ⟨p, css, qs, oe⟩ := ow
      refine (oe.fr.call (Q := fun w p' => ∃ r', w = .agg (opC x r') ∧ Kn.int.Own p p' r' x.deps) (c39 (o := x) (rd.mono oe.le) ok fun r' h' ow' => ⟨r', rfl, ow'⟩)).mono ?_
      rintro w h1 ⟨p', fr', hlo, r', rfl, ow'⟩
      refine onRet.op ow'.sc fun _ => OpOwn.snoc oe fr' hlo kx ow' (by have := good_len (l := l.take j); omega) fun r2 h2 o2 => onO.mk rfl (onO.mk (inc64 (by omega)) ⟨_, by show l.length - (j + 1) < l.length - j; omega, j + 1, rfl, by omega, by omega, rfl, ?_⟩)
      rw [hg, show [x].filter mayO = [x] by simp [em]]; exact o2
    · refine onO.mk (inc64 (by omega)) ⟨_, by show l.length - (j + 1) < l.length - j; omega, j + 1, rfl, by omega, by omega, rfl, ?_⟩
      rw [hg, show [x].filter mayO = [] by simp [em], List.append_nil]; exact ow
  · have : j = 6 := by omega
    subst this
    unfold goodL
    rw [List.take_take]; rfl
  · have : j = l.length := by omega
    subst this
    rw [List.take_length]
theorem c47 {css : List (List AV)} (rc : Raw h a 12 css) (ka : All2 (D.kOp.K h) l css) (hl : l.length < 31000000) (k : ∀ r h', Fresh h h' r 12 css → Post r h') : wpC Try.prog 47 [a] Post h := by
  have ra : OpRow h a l := ⟨css, rc, ka⟩
  refine call_sound (args := [.vv a]) (cuts := []) ⟨ra.sc, trivial⟩ ?_
  rw [vc47]
  have hlen := ka.length
  refine clone_body (d := kRw 12) ⟨css, rc, kRw_mk (d := D.kOp) ka⟩ rfl kRw_flat (by omega) (Nat.ble_eq_true_of_le (by show (4 * css.length + 4000) * 120 ≤ 17179869184; omega)) fun r h' o => ?_
  obtain ⟨p, css', p1, p2, f, f2⟩ := o
  have := kRw_all f2
  subst this
  exact k r h' (f.mono p1 p2)
/-- all of it taken over -/
theorem c29 (ra : OpRow h a l) (hl : l.length < 31000000) (ho : ∀ o ∈ l, opOk o) (k : ∀ r h', NewOps h h' r l → Post r h') : wpC Try.prog 29 [a] Post h := by
  refine call_sound (args := [.vv a]) (cuts := []) ⟨ra.sc, trivial⟩ ?_
  rw [vc29]
  obtain ⟨css, rc, ka⟩ := ra
  have hlen := ka.length
  refine c47 rc ka hl fun r h0 f0 => onRet.r f0.row.sc (onO.mk f0.row.len ?_)
  refine ⟨fun m n0 h' => ∃ (i : Nat) (G : Hp) (css' : List (List AV)) (qs : Nat → Hp), n0 = i ∧ i ≤ l.length ∧ m = l.length - i ∧ Fresh G h' r 12 css' ∧ h.le G ∧ G.lo = h.lo ∧ css'.length = l.length ∧ (∀ j, (qs j).le G) ∧ (∀ j, Disj (qs j) h) ∧ (∀ j j', j ≠ j' → Disj (qs j) (qs j')) ∧ (∀ j, (qs j).lo = G.lo) ∧ (∀ j b, (qs j).g b ≠ none → G.lo ≤ b) ∧ (∀ j x c, j < i → l[j]? = some x → css'[j]? = some c → eOp (qs j) x c) ∧ (∀ j, i ≤ j → css'[j]? = css[j]?) ∧ ∀ j, i ≤ j → qs j = Hp.none h.lo,
    ⟨l.length, 0, h, css, fun _ => Hp.none h.lo, rfl, by omega, rfl, f0, Hp.le_refl _, rfl, hlen.symm ▸ rfl, fun _ => none_le _ _, fun _ k c e => (by cases e), fun _ _ _ k c e => (by cases e), fun _ => rfl, fun _ b e => absurd rfl e, fun j x c hj => by omega, fun _ _ => rfl, fun _ _ => rfl⟩, ?_⟩
  rintro m h1 _ ⟨i, G, css', qs, rfl, hi, rfl, f, hG, loG, hl', q1, q2, q3, q4, q5, q6, q7, q8⟩
  refine onB.dec (fun e => ?_) (fun e => ?_)
  · obtain ⟨x, hx⟩ := get_lt (l := l) (k := i) (by omega)
    obtain ⟨c, hc⟩ := get_lt (l := css) (k := i) (by omega)
    have hc' : css'[i]? = some c := by rw [q7 i (Nat.le_refl _)]; exact hc
    have kx := ka.get2 hx hc
    obtain ⟨d, rfl, rd⟩ := op_cells kx
    have hod := ho x (List.mem_of_getElem? hx)
    obtain ⟨b, of, e1, e2, e3⟩ := f.row.idx (i := (i : Int)) (Int.natCast_nonneg i) (by simpa using hc')
    refine onO.mk e1 (onO.mk e2 (onL.op rd.sc ?_))
    refine (f.call (Q := fun v p' => ∃ r', v = .agg (opC x r') ∧ Kn.int.Own G p' r' x.deps) (c48 (o := x) (rd.mono hG) hod fun r' h' ow => ⟨r', rfl, ow⟩)).mono ?_
    rintro v h2 ⟨p', f', hlo, r', rfl, ow⟩
    obtain ⟨qd, d1, d2, d3, d4, d5, d6⟩ := ow.part
    have kk : eOp qd x (opC x r') := ⟨op_again kx d6, r', rfl, by rw [d3]; exact d5⟩
    refine onRet.op ow.sc (f'.set hc' 0 (new := opC x r') (by simp [opC]) (D.kOp.sc kk.1) fun h3 f3 => ?_)
    have esp : splice (opC x d) 0 (opC x r') = opC x r' := rfl
    rw [esp] at f3
    have hGp : G.le p' := ow.le
    have cs : ∀ {P : Hp → Prop} (j : Nat), (j ≠ i → P (qs j)) → (j = i → P qd) → P (if j = i then qd else qs j) := fun {P} j a1 a2 => by
      by_cases h : j = i
      · rw [if_pos h]; exact a2 h
      · rw [if_neg h]; exact a1 h
    refine onO.mk (inc64 (by omega)) ⟨_, by show l.length - (i + 1) < l.length - i; omega, i + 1, p', _, fun j => if j = i then qd else qs j, rfl, by omega, rfl, f3, Hp.le_trans hG hGp, hlo.trans loG, by rw [List.length_set]; exact hl', fun j => cs (P := fun q => q.le p') j (fun _ => Hp.le_trans (q1 j) hGp) fun _ => d1, fun j => cs (P := fun q => Disj q h) j (fun _ => q2 j) fun _ => d2.le_right hG, fun j j' hjj => ?_, fun j => cs (P := fun q => q.lo = p'.lo) j (fun _ => (q4 j).trans hlo.symm) fun _ => d3.trans hlo.symm, fun j => cs (P := fun q => ∀ b, q.g b ≠ none → p'.lo ≤ b) j (fun _ b hb => by rw [hlo]; exact q5 j b hb) fun _ b hb => by rw [hlo]; exact d4 b hb, fun j y c' hj hy hc'' => ?_, fun j hj => ?_, fun j hj => ?_⟩
    · refine cs (P := fun q => Disj q (if j' = i then qd else qs j')) j (fun hj => ?_) fun hj => ?_
      · exact cs (P := fun q => Disj (qs j) q) j' (fun _ => q3 _ _ hjj) fun _ => (d2.le_right (q1 j)).symm
      · exact cs (P := fun q => Disj qd q) j' (fun _ => d2.le_right (q1 j')) fun hj' => by omega
    · by_cases hji : j = i
      · subst hji
        rw [hx] at hy; injection hy with hy; subst hy
        rw [List.getElem?_set_self (by omega)] at hc''
        injection hc'' with hc''; subst hc''
        simp only [if_pos rfl]
        exact kk
      · rw [List.getElem?_set_ne (by omega)] at hc''
        simp only [if_neg hji]
        exact q6 j y c' (by omega) hy hc''
    · rw [List.getElem?_set_ne (by omega)]; exact q7 j (by omega)
    · simp only [if_neg (show j ≠ i by omega)]; exact q8 j (by omega)
  · have : i = l.length := by omega
    subst this
    have o : OwnE eOp 12 (G.res fun k => ∀ i, (qs i).g k = none) h1 r l G css' qs :=
      ⟨Hp.res_le _ _, rfl, f, hl', q1, fun i k c h => Hp.res_out fun hk => (by rw [hk i] at h; cases h), q3, q4, q5, fun j x c hx hc => q6 j x c (List.getElem?_eq_some_iff.1 hx).1 hx hc⟩
    obtain ⟨q, z1, z2, z3⟩ := OpsP.of ⟨G, css', qs, o⟩
    refine k r h1 ⟨Hp.le_trans hG f.le, f.lo.trans loG, q, z1, z2.le_right fun k c e => ?_, by rw [← loG]; exact z3⟩
    rw [Hp.res_in fun i => (q2 i).symm k c e]
    exact hG k c e
theorem c146b (ra : OpRow h a l) (hl : l.length ≤ 140737488351232) (k : ∀ n : Int, 0 ≤ n → n ≤ 281474978000000 → (n ≤ 1000000 → l.length ≤ n ∧ ∀ o ∈ l, o.deps.length ≤ n) → Post (.i .i64 n) h) : wpC Try.prog 37 [a] Post h := by
  refine call_sound (args := [.vv a]) (cuts := []) ⟨ra.sc, trivial⟩ ?_
  rw [vc37]
  refine onO.mk ra.len ⟨fun m n i h' => h' = h ∧ ∃ N k : Nat, n = N ∧ i = k ∧ k ≤ l.length ∧ m = l.length - k ∧ l.length ≤ N ∧ N ≤ 281474976710656 + 1048576 + 1 ∧ ∀ o ∈ l.take k, o.deps.length ≤ N ∧ o.key.length ≤ N, ⟨_, rfl, l.length, 0, rfl, rfl, by omega, rfl, by omega, by omega, fun o ho => by simp at ho⟩, ?_⟩
  rintro m h0 _ _ ⟨rfl, N, j, rfl, rfl, hj, rfl, hN, hN2, hall⟩
  refine onO.mk ra.len (onB.dec (fun e => onB.dec (fun e2 => ?_) (fun e2 => k _ (by omega) (by omega) fun e3 => by omega)) (fun e => k _ (by omega) (by omega) fun e3 => ⟨by omega, fun o ho => ?_⟩))
  · obtain ⟨x, hx⟩ := get_lt (l := l) (k := j) (by omega)
    refine opW ra (Hp.le_refl _) hx fun d rd kx => ?_
    have hf := op_fits kx
    obtain ⟨f1, f2⟩ := hf
    refine c54 (o := x) rd ⟨f1, f2⟩ (onRet.i (onO.mk (add64 (by omega) (by omega)) (onO.mk (inc64 (by omega)) ⟨_, by show l.length - (j + 1) < l.length - j; omega, rfl, N + (1 + x.deps.length + x.key.length), j + 1, by omega, rfl, by omega, rfl, by omega, by omega, fun o ho => ?_⟩)))
    rw [take_succ' hx] at ho
    rcases List.mem_append.1 ho with ho | ho
    · have := hall o ho; omega
    · simp at ho; subst ho; omega
  · have : j = l.length := by omega
    subst this
    rw [List.take_length] at hall
    have := hall o ho; omega
theorem c10 {x : Int} (k : Post (.i .i64 x) h) : wpC Try.prog 10 [.i .i64 x] Post h := by
  refine call_sound (args := [.ii .i64 x]) (cuts := []) ⟨trivial, trivial⟩ ?_
  rw [vc10]; exact k
theorem st_cells {acts : List D.StoreDo} {z : D.StoreDo} (ra : D.kStoreDo.Row h b acts) {j : Nat} (hx : acts[j]? = some z) :
    ∃ bb oo r1 r2, idxV b (j : Int) 3 = some (bb, oo) ∧ rdH h bb oo 3 = some [.i .i64 z.act, r1, r2] ∧ OpRow h r1 z.l ∧ z.l.length ≤ 140737488351231 ∧ Kn.int.Row h r2 z.picks ∧ z.picks.length ≤ 140737488351232 ∧ In64 z.act := by
  obtain ⟨bb, oo, cc, e1, e2, e3⟩ := ra.idx (i := (j : Int)) (x := z) (Int.natCast_nonneg j) (by simpa using hx)
  obtain ⟨a0, a1, rfl, f0, ⟨f3, f4⟩, f5, f6⟩ := D.kStoreDo_open e3
  exact ⟨bb, oo, a0, a1, e1, e2, f3, by omega, f5, by omega, f0⟩
theorem c14 {c : AV} {acts : List D.StoreDo} (ra : D.kStoreDo.Row h b acts) (ha : acts.length ≤ 140737488351232) (rc : c.sc = true) {n : Nat} (hc : lenV c = some n) (hn : n ≤ 140737488351232)
    (k1 : Post (.b true) h) (k2 : (∀ z ∈ acts, z.l.length ≤ 6000 ∧ (∀ x ∈ z.l, opOk x)) → acts.length ≤ 60 → Post (.b false) h) : wpC Try.prog 14 [.agg [b, c]] Post h := by
  refine call_sound (args := [.ag [.vv b, .vv c]]) (cuts := []) ⟨⟨ra.sc, rc, trivial⟩, trivial⟩ ?_
  rw [vc14]
  intro _
  refine onO.mk hc ⟨fun m n1 n2 h' => ∃ j : Nat, n2 = j ∧ j ≤ acts.length ∧ m = acts.length - j ∧ h' = h ∧ 0 ≤ n1 ∧ n1 ≤ 1125899906842624 ∧ ∀ z ∈ acts.take j, (n1 ≤ 6000 → z.l.length ≤ 6000 ∧ ∀ x ∈ z.l, opOk x), ⟨_, 0, rfl, by omega, rfl, rfl, by omega, by omega, fun x hx => by simp at hx⟩, ?_⟩
  rintro m hh n1 _ ⟨j, rfl, hj, rfl, rfl, hn1, hn2, hx0⟩
  have fin : ¬ ((j : Int) < (acts.length : Nat)) ∨ ¬ n1 < 1048576 → onB (decide (6000 < n1)) (Post (AV.b true) hh) (onO (lenV b) fun p7 => Post (AV.b (decide ((60 : Int) < ↑p7))) hh) := fun e => by
    refine onB.dec (fun _ => k1) fun e2 => onO.mk ra.len ?_
    by_cases e3 : (60 : Int) < (acts.length : Nat)
    · rw [decide_eq_true e3]; exact k1
    · rw [decide_eq_false e3]
      refine k2 (fun z hz => ?_) (by omega)
      have : acts.take j = acts := List.take_of_length_le (by omega)
      exact hx0 z (by rw [this]; exact hz) (by omega)
  refine onO.mk ra.len (onB.dec (fun e => onB.dec (fun e2 => ?_) fun e2 => fin (.inr e2)) fun e => fin (.inl e))
  obtain ⟨z, hz⟩ := get_lt (l := acts) (k := j) (by omega)
  obtain ⟨bb, oo, r1, r2, e3, e4, w1, w2, w3, w4, _⟩ := st_cells ra hz
  refine onO.mk (add64 (by omega) (by omega)) (onO.mk e3 (onO.mk (rdH_sub e4 (o' := 2) (n' := 1) rfl) (onL.r1 w3.sc (onO.mk w3.len (onO.mk (add64 (by omega) (by omega)) ?_)))))
  refine onO.mk e3 (onO.mk (rdH_sub e4 (o' := 1) (n' := 1) rfl) (onL.r1 w1.sc (c146b w1 (by omega) fun n3 g1 g2 g3 => onRet.i ⟨onO.mk (rdH_sub e4 (o' := 2) (n' := 1) rfl) (rdH_sub e4 (o' := 2) (n' := 1) rfl), ?_⟩)))
  refine onO.mk (add64 (by omega) (by omega)) (onO.mk (inc64b (by omega)) ⟨_, by show acts.length - (j + 1) < acts.length - j; omega, j + 1, rfl, by omega, rfl, rfl, by omega, by omega, fun y hy hq => ?_⟩)
  rw [take_succ' hz] at hy
  rcases List.mem_append.1 hy with hy | hy
  · exact hx0 y hy (by omega)
  · simp at hy; subst hy
    obtain ⟨q1, q2⟩ := g3 (by omega)
    exact ⟨by omega, fun x hx => by have := q2 x hx; show x.deps.length < 32000000; omega⟩
end
structure StP where
  l : List D.Op
  size : Nat
  dead : Bool
def stC (q : Nat) (v : AV) (S : StP) : List AV := [.p q 0, v, .i .i64 (S.size : Nat), .b S.dead]
structure StM (lo : Nat) (F : Hp) (Q : Nat → Hp) (w q dp : Nat) (r : AV) (a : Nat → AV) (v : AV) (E : Dk) (L : Lg) (S : StP) : Prop where
  lg : LgM lo F Q q dp r a E L
  box : Q 12 = Hp.one w (stC q v S) lo
  wlo : lo ≤ w
  ops : RowP D.kOp F lo (Q 13) v S.l
  ok : ∀ o ∈ S.l, mayO o = true
theorem LgM.same {lo q dp : Nat} {F : Hp} {Q Q' : Nat → Hp} {a : Nat → AV} {r : AV} {E : Dk} {L : Lg} (m : LgM lo F Q q dp r a E L) (e : ∀ j, j < 12 → Q' j = Q j) : LgM lo F Q' q dp r a E L :=
  ⟨by rw [e 10 (by omega)]; exact m.box, m.qlo, by rw [e 11 (by omega)]; exact m.row, m.dk.same fun j _ _ => e j (by omega), m.file⟩
section
variable {lo w q dp : Nat} {F F' h h' : Hp} {Q Q' : Nat → Hp} {a a' : Nat → AV} {r r' v v' b : AV} {E E' : Dk} {L L' : Lg} {S S' : StP} {Post : AV → Hp → Prop} {l : List D.Op}
theorem StM.fmono (m : StM lo F Q w q dp r a v E L S) (f : F.le F') : StM lo F' Q w q dp r a v E L S := ⟨m.lg.fmono f, m.box, m.wlo, m.ops.mono f, m.ok⟩
theorem StM.log (m : StM lo F Q w q dp r a v E L S) (f : F.le F') (m' : LgM lo F' Q' q dp r' a' E' L') (u : Upd 0 12 Q Q') : StM lo F' Q' w q dp r' a' v E' L' S :=
  ⟨m', by rw [u 12 (by omega)]; exact m.box, m.wlo, by rw [u 13 (by omega)]; exact m.ops.mono f, m.ok⟩
theorem StM.same (m : StM lo F Q w q dp r a v E L S) (e : ∀ j, j < 14 → Q' j = Q j) : StM lo F Q' w q dp r a v E L S :=
  ⟨m.lg.same fun j hj => e j (by omega), by rw [e 12 (by omega)]; exact m.box, m.wlo, by rw [e 13 (by omega)]; exact m.ops, m.ok⟩
theorem st_word (s : Sep lo F Q h) (e : Q 12 = Hp.one w (stC q v S) lo) : rdH h w (0 + 0) 1 = some [.p q 0] ∧ rdH h w (0 + 1) 1 = some [v] ∧ rdH h w (0 + 2) 1 = some [.i .i64 (S.size : Nat)] ∧ rdH h w (0 + 3) 1 = some [.b S.dead] :=
  ⟨rdBox (s.box e) rfl, rdBox (s.box e) rfl, rdBox (s.box e) rfl, rdBox (s.box e) rfl⟩
theorem st_put (s : Sep lo F Q h) (e : Q 12 = Hp.one w (stC q v S) lo) (wlo : lo ≤ w) {i : Nat} {x : AV} (hx : x.sc = true) {c : List AV} (hc : splice (stC q v S) (0 + i) [x] = c) (hi : i < 4) {Post : Option AV → Hp → Prop}
    (k : ∀ h', Sep lo F (updQ Q 12 (Hp.one w c lo)) h' → Post none h') : wpE (.w w (0 + i) (.lit [x]) none) Post h := by
  refine wpE.w (s.box e) (by rw [s.hlo]; exact wlo) (new := [x]) rfl (by show _ + 1 ≤ 4; omega) (by simp [hx]) (k _ ?_)
  rw [hc]; exact s.put e _
theorem drop_cons {α : Type} {l : List α} {j : Nat} {x : α} (h : l[j]? = some x) : l.drop j = x :: l.drop (j + 1) := by
  obtain ⟨h1, h2⟩ := List.getElem?_eq_some_iff.1 h
  rw [List.drop_eq_getElem_cons h1, h2]
theorem src_up {h h' : Hp} (l : h.le h') {s : Src} {c : List AV} (e : srcH h s = some c) : srcH h' s = some c := by
  cases s with
  | lit l => exact e
  | mem b o n => exact rdH_le l e
theorem bytes_enc : ∀ (n : Nat), Bytes8 (enc n) := by
  intro n
  induction n using Nat.strongRecOn with
  | ind n ih =>
    by_cases h : n < 128
    · rw [enc_small h]; intro x hx; simp at hx; omega
    · rw [enc_big (by omega)]
      intro x hx
      rcases List.mem_cons.1 hx with rfl | hx
      · omega
      · exact ih (n / 128) (by omega) x hx
theorem Bytes8.append {a b : List Nat} (ha : Bytes8 a) (hb : Bytes8 b) : Bytes8 (a ++ b) := fun x hx => (List.mem_append.1 hx).elim (ha x) (hb x)
theorem bytes_encs : ∀ (v : List Int), Bytes8 (encs v)
  | [] => fun x hx => by simp [encs] at hx
  | x :: v => by rw [encs_cons]; exact (bytes_enc _).append (bytes_encs v)
theorem bytes_opE {o : D.Op} (hk : Bytes8 o.key) : Bytes8 (opE o) := by
  unfold opE
  refine ((((bytes_enc _).append (bytes_enc _)).append ((bytes_enc _).append (bytes_encs _))).append (bytes_enc _)).append ((bytes_enc _).append (bytes_enc _)) |>.append ?_
  split
  · exact ((bytes_enc _).append (bytes_enc _)).append ((bytes_enc _).append hk)
  · exact (bytes_enc _).append (bytes_enc _)
/-- what is one of a store's records -/
def recO (b : List Nat) : Prop := (takeO b).2.2 = 0 ∧ (takeO b).2.1 = b.length
instance (b : List Nat) : Decidable (recO b) := inferInstanceAs (Decidable (_ ∧ _))
def readS (S : StP) (b : List Nat) : StP := ⟨S.l ++ [(takeO b).1], S.size + b.length + 16, S.dead⟩
/-- ways that keep all but some parts -/
def Kp (n m : Nat) (Q Q' : Nat → Hp) : Prop := ∀ j, j < n ∨ m ≤ j → Q' j = Q j
theorem c28 {b : List Nat} (s : Sep lo F Q h) (m : StM lo F Q w q dp r a v E L S) (hb : b.length ≤ 30000000) (h8 : Bytes8 b) (hl : S.l.length < 31000000) (hs : S.size < 4611686018427387904)
    (k1 : ¬ recO b → ∀ F' h', F.le F' → Sep lo F' Q h' → Post (.b false) h')
    (k2 : recO b → ∀ F' v' Q' h', F.le F' → Sep lo F' Q' h' → StM lo F' Q' w q dp r a v' E L (readS S b) → Kp 12 14 Q Q' → Post (.b true) h') : wpC Try.prog 28 [.p w 0, .s b] Post h := by
  refine call_sound (args := [.vv (.p w 0), .ss b]) (cuts := []) ⟨rfl, trivial, trivial⟩ ?_
  rw [vc28]
  intro p0 hp hlo
  have s0 := s.grow (Hp.le_put hp) rfl (h' := h.put p0 (bytesV b))
  have br : BR (h.put p0 (bytesV b)) (.sl p0 0 b.length b.length false 1) b := by
    have ob : Kn.byte.Own h (h.put p0 (bytesV b)) (.sl p0 0 b.length b.length false 1) b :=
      ⟨h, b.map fun y => [.i .u8 (.ofNat y)], Hp.le_refl _, rfl, Fresh.put (Hp.le_refl _) rfl hp hlo (css := b.map fun y => [.i .u8 (.ofNat y)]) (sz := 1) (len := b.length) false (fun c hc => by
        obtain ⟨y, _, rfl⟩ := List.mem_map.1 hc; rfl) (by simp) (ofU8_flat b), bytes_all h8⟩
    exact ob.row
  refine c29o br (by omega) fun d h1 o1 => onTup.opii o1.sc fun _ => ?_
  have s1 := s0.frz o1.le o1.lo
  have f1 := s0.fgrow o1.le
  refine onB.ndec (fun e => k1 (fun e2 => e e2.1) _ h1 f1 s1) fun e => onB.ndec (fun e2 => k1 (fun e3 => e2 (by rw [e3.2])) _ h1 f1 s1) fun e2 => ?_
  have hr : recO b := ⟨e, by omega⟩
  have m1 := m.fmono f1
  obtain ⟨y0, y1, y2, y3⟩ := st_word s1 m1.box
  have hx := takeO_in' h8 e (o1.frozen int_flat (F := F))
  refine onO.mk rfl (onO.mk y1 (onL.r1 m1.ops.sc fun _ => ?_))
  refine s1.app1 (i := 13) m1.ops (sz := 12) rfl hx (by omega) fun v2 h2 q13 s2 p2 => onO.mk rfl (onO.mk rfl ?_)
  have e12 : updQ Q 13 q13 12 = Hp.one w (stC q v S) lo := by rw [updQ_ne (by omega)]; exact m1.box
  obtain ⟨z0, z1, z2, z3⟩ := st_word s2 e12
  refine onO.mk z2 (onL.i1 ⟨onO.mk y2 z2, ?_⟩)
  refine onO.mk (a := ((S.size + b.length : Nat) : Int)) (add64 (by omega) (by omega)) (onO.mk (a := ((S.size + b.length + 16 : Nat) : Int)) (add64 (by omega) (by omega)) ?_)
  refine onO.mk rfl (st_put s2 e12 m.wlo (i := 1) p2.sc (c := stC q v2 S) rfl (by omega) fun h3 s3 => onO.mk rfl (st_put s3 updQ_same m.wlo (i := 2) rfl (c := stC q v2 (readS S b)) rfl (by omega) fun h4 s4 => ?_))
  refine k2 hr _ v2 _ h4 f1 s4 ⟨m1.lg.same fun j hj => by rw [updQ_ne (by omega), updQ_ne (by omega), updQ_ne (by omega)], updQ_same, m.wlo, by rw [updQ_ne (by omega), updQ_ne (by omega), updQ_same]; exact p2, fun o ho => ?_⟩ fun j hj => by rw [updQ_ne (by omega), updQ_ne (by omega), updQ_ne (by omega)]
  rcases List.mem_append.1 ho with ho | ho
  · exact m.ok o ho
  · simp at ho; subst ho; exact (takeO_was h8 e).1
/-- operations that are seen as long as a part is kept -/
def VwO (lo : Nat) (F : Hp) (Q : Nat → Hp) (b : AV) (l : List D.Op) : Prop := ∀ F' Q' h', F.le F' → Sep lo F' Q' h' → Q' 14 = Q 14 → OpRow h' b l
theorem VwO.frz (row : OpRow F b l) : VwO lo F Q b l := fun _ _ _ f s _ => (row.mono f).mono s.fle
theorem VwO.part (p : OpsP lo (Q 14) b l) : VwO lo F Q b l := fun _ _ _ _ s e => p.row (by rw [← e]; exact s.le 14)
/-- more operations appended, their data frozen -/
theorem Sep.appN {m : List D.Op} (s : Sep lo F Q h) {i : Nat} (rp : RowP D.kOp F lo (Q i) v l) (row : OpRow F b m) (hl : l.length < 10000000) (hm : m.length < 20000) {Post : Option AV → Hp → Prop}
    (k : ∀ a' h' q', Sep lo F (updQ Q i q') h' → RowP D.kOp F lo q' a' (l ++ m) → Post (some a') h') : onO (srcV 12 b) fun r0 => onC (((4 * r0.1 + 4000) * 120).ble (OfNat.ofNat 17179869184)) (wpE (.app v r0.1 r0.2 12) Post h) := by
  obtain ⟨css, rr, kk⟩ := row
  have hcl := kk.length
  obtain ⟨src, t1, t2⟩ := rr.src
  refine onO.mk (a := (css.length, src)) t1 (onC.mk (Nat.ble_eq_true_of_le (by show (4 * css.length + 4000) * 120 ≤ 17179869184; omega)) ?_)
  obtain ⟨ocs, p13, k13⟩ := rp
  have ol := k13.length
  refine (s.own kRw_flat p13).app (sz := 12) rfl kRw_flat (kRw_mk (d := D.kOp) kk) (src_up s.fle t2) rfl (by omega) fun v5 h5 o5 => ?_
  obtain ⟨q13, s5, p5⟩ := s.back kRw_flat o5
  exact k v5 h5 q13 s5 ⟨_, p5, k13.append kk⟩
/-- the operations' records -/
def recsO (l : List D.Op) : Recs := l.map opE
theorem recs_len {l : List D.Op} (h : ∀ o ∈ l, mayO o = true) : sizeL (recsO l) ≤ 416 * l.length := by
  have := sizeL_le (k := 400) (l := recsO l) fun x hx => by
    obtain ⟨o, ho, rfl⟩ := List.mem_map.1 hx
    exact opE_len (h o ho)
  rw [show (recsO l).length = l.length from List.length_map _] at this
  omega
theorem c40 (s : Sep lo F Q h) (vw : VwO lo F Q b l) (hl : l.length < 30000000) (ho : ∀ o ∈ l, opOk o)
    (k1 : (∃ o ∈ l, mayO o = false) → ∀ Q' h', Sep lo F Q' h' → Kp 15 16 Q Q' → Post (.tup [.ns, .i .i64 0, .i .i64 1]) h')
    (k2 : (∀ o ∈ l, mayO o = true) → ∀ r Q' h', Sep lo F Q' h' → PK Kn.str lo (Q' 15) r (recsO l) → Kp 15 16 Q Q' → Post (.tup [r, .i .i64 (sizeL (recsO l) : Nat), .i .i64 0]) h') : wpC Try.prog 40 [b] Post h := by
  have row := vw F Q h (Hp.le_refl _) s rfl
  refine call_sound (args := [.vv b]) (cuts := []) ⟨row.sc, trivial⟩ ?_
  rw [vc40]
  have hk := op_keys row
  refine onO.mk row.len ⟨fun m n0 r n1 i h' => ∃ (j : Nat) (Q' : Nat → Hp), i = j ∧ j ≤ l.length ∧ m = l.length - j ∧ Sep lo F Q' h' ∧ Kp 15 16 Q Q' ∧ (∀ o ∈ l.take j, mayO o = true) ∧ PK Kn.str lo (Q' 15) r (recsO (l.take j)) ∧ n1 = (sizeL (recsO (l.take j)) : Nat),
    ⟨_, 0, _, rfl, by omega, rfl, s.drop 15, fun j hj => updQ_ne (by omega), fun o h => (by cases h), by rw [updQ_same]; exact PK.nil _ _, rfl⟩, ?_⟩
  rintro m h0 n0 r _ _ _ ⟨j, Q', rfl, hj, rfl, s', u', hm, p', rfl⟩
  refine onB.dec (fun e => ?_) (fun e => ?_)
  · obtain ⟨x, hx⟩ := get_lt (l := l) (k := j) (by omega)
    have hmx := List.mem_of_getElem? hx
    refine opW (vw F Q' h0 (Hp.le_refl _) s' (u' 14 (by omega))) (Hp.le_refl _) hx fun d rd kx => fun _ => c59 rd (ho x hmx) (hk x hmx) (fun em => onTup.ri rfl (onB.pos rfl (k1 ⟨x, hmx, em⟩ Q' h0 s' u'))) fun em r2 h2 o2 => onTup.ri o2.sc (onB.neg rfl ?_)
    obtain ⟨b1, o1, n1, e1⟩ := strAt_row o2.row
    have s2 := s'.grow o2.le o2.lo
    have hm2 : ∀ o ∈ l.take (j + 1), mayO o = true := fun o ho => by
      rw [take_succ' hx] at ho
      rcases List.mem_append.1 ho with h | h
      · exact hm o h
      · simp at h; subst h; exact em
    have hsz := recs_len hm
    have hlx := opE_len em
    have htl : (l.take j).length = j := by simp; omega
    have hrec : recsO (l.take (j + 1)) = recsO (l.take j) ++ [opE x] := by unfold recsO; rw [take_succ' hx, List.map_append]; rfl
    refine onO.mk e1 fun _ => (s2.own str_flat p').app1 (x := opE x) (sz := 1) rfl str_flat ⟨rfl, by omega, bytes_opE (hk x hmx)⟩ (by unfold recsO; rw [List.length_map]; omega) fun r3 h3 o3 => onO.mk rfl ?_
    obtain ⟨q15, s3, p3⟩ := s2.back str_flat o3
    refine onO.mk o2.row.len (onO.mk (a := ((sizeL (recsO (l.take j)) + (opE x).length : Nat) : Int)) (add64 (by omega) (by omega)) (onO.mk (a := ((sizeL (recsO (l.take j)) + (opE x).length + 16 : Nat) : Int)) (add64 (by omega) (by omega)) (onO.mk (inc64 (by omega)) ⟨_, by show l.length - (j + 1) < l.length - j; omega, j + 1, _, rfl, by omega, rfl, s3, fun i hi => by rw [updQ_ne (by omega)]; exact u' i hi, hm2, by rw [updQ_same, hrec]; exact p3, ?_⟩)))
    rw [hrec, sizeL_app]
    simp [sizeL]; omega
  · have : j = l.length := by omega
    subst this
    rw [List.take_length] at *
    exact k2 hm r Q' h0 s' p' u'
def FitL (L : Lg) : Prop := L.size ≤ 2097152 ∧ L.pos ≤ 2097152 + L.size ∧ L.l.length ≤ L.size
theorem appL_fit {x : List Nat} (f : FitL L) : FitL (appL E L x).2.2 := by
  obtain ⟨f1, f2, f3⟩ := f
  unfold appL
  split
  · exact ⟨f1, f2, f3⟩
  · split
    · exact ⟨f1, f2, f3⟩
    · split
      · exact ⟨f1, f2, f3⟩
      · split
        · exact ⟨by show L.size + _ + _ ≤ _; omega, by show L.pos + _ + _ ≤ 2097152 + (L.size + _ + _); omega, by show (L.l ++ [x]).length ≤ L.size + _ + _; simp; omega⟩
        · exact ⟨f1, f2, f3⟩
def writeS : Dk → Lg → Recs → Int × Dk × Lg
  | E, L, [] => syncL E L
  | E, L, x :: t => if (appL E L x).1 = 0 then writeS (appL E L x).2.1 (appL E L x).2.2 t else appL E L x
theorem c41 {l : Recs} {N : Nat} (s : Sep lo F Q h) (m : StM lo F Q w q dp r a v E L S) (row : PK Kn.str lo (Q 15) b l) (hb : Few E N) (hN : N + l.length < 30000000) (hf : FitL L)
    (k : ∀ F' r' a' Q' h', F.le F' → Sep lo F' Q' h' → StM lo F' Q' w q dp r' a' v (writeS E L l).2.1 (writeS E L l).2.2 S → Upd 0 12 Q Q' → Post (.i .i64 (writeS E L l).1) h') : wpC Try.prog 41 [.p w 0, b] Post h := by
  refine call_sound (args := [.vv (.p w 0), .vv b]) (cuts := []) ⟨rfl, row.sc, trivial⟩ ?_
  rw [vc41]
  have wr := s.row row
  refine onO.mk wr.len ⟨fun m n0 i h' => ∃ (j : Nat) (F' : Hp) (r' : AV) (a' : Nat → AV) (Q' : Nat → Hp) (E' : Dk) (L' : Lg), i = j ∧ j ≤ l.length ∧ m = l.length - j ∧ F.le F' ∧ Sep lo F' Q' h' ∧ StM lo F' Q' w q dp r' a' v E' L' S ∧ Upd 0 12 Q Q' ∧ Few E' (N + j) ∧ FitL L' ∧ writeS E L l = writeS E' L' (l.drop j),
    ⟨_, 0, F, r, a, Q, E, L, rfl, by omega, rfl, Hp.le_refl _, s, m, Upd.refl, hb, hf, rfl⟩, ?_⟩
  rintro m' h0 n0 _ ⟨j, F', r', a', Q', E', L', rfl, hj, rfl, f', s', m2, u', few, fit, hw⟩
  have row' : PK Kn.str lo (Q' 15) b l := by rw [u' 15 (by omega)]; exact row
  obtain ⟨y0, y1, y2, y3⟩ := st_word s' m2.box
  obtain ⟨g1, g2, g3⟩ := fit
  refine onB.dec (fun e => ?_) (fun e => ?_)
  · obtain ⟨x, hx⟩ := get_lt (l := l) (k := j) (by omega)
    have hd : l.drop j = x :: l.drop (j + 1) := drop_cons hx
    rw [hd] at hw
    refine str0 (s'.row row') hx fun q1 q2 => onO.mk rfl (onO.mk y0 (onL.r1 rfl ?_))
    refine c60 s' m2.lg (few.mono (by omega)) q2 q1 g1 (by omega) (by omega) fun F3 r3 a3 Q3 h3 f3 s3 m3 u3 => onRet.i ?_
    have hstep : writeS E' L' (x :: l.drop (j + 1)) = if (appL E' L' x).1 = 0 then writeS (appL E' L' x).2.1 (appL E' L' x).2.2 (l.drop (j + 1)) else appL E' L' x := rfl
    rw [hstep] at hw
    refine onB.ndec (fun e2 => ?_) fun e2 => ?_
    · rw [if_neg e2] at hw
      rw [hw] at k
      exact k F3 r3 a3 Q3 h3 (Hp.le_trans f' f3) s3 (m2.log f3 m3 u3) (u'.trans u3)
    · rw [if_pos e2] at hw
      exact onO.mk (inc64 (by omega)) ⟨_, by show l.length - (j + 1) < l.length - j; omega, j + 1, F3, r3, a3, Q3, _, _, rfl, by omega, rfl, Hp.le_trans f' f3, s3, m2.log f3 m3 u3, u'.trans u3, (appL_few few).mono (by omega), appL_fit ⟨g1, g2, g3⟩, hw⟩
  · have : j = l.length := by omega
    subst this
    rw [List.drop_length] at hw
    have hw : writeS E L l = syncL E' L' := hw
    rw [hw] at k
    refine onO.mk rfl (onO.mk y0 (onL.r1 rfl (c61 s' m2.lg (few.mono (by omega)) fun a3 Q3 h3 s3 m3 u3 => onRet.i (k F' r' a3 Q3 h3 f' s3 (m2.log (Hp.le_refl _) m3 (u3)) (u'.trans u3)))))
/-- operations appended: the answer, the disk, the log, the store -/
def appS (E : Dk) (L : Lg) (S : StP) (l : List D.Op) : Int × Dk × Lg × StP :=
  if S.dead = true then (10, E, L, S) else if (∃ o ∈ l, mayO o = false) then (1, E, L, S) else if 2097152 < S.size + sizeL (recsO l) then (5, E, L, S) else
  if (writeS E L (recsO l)).1 = 0 then (0, (writeS E L (recsO l)).2.1, (writeS E L (recsO l)).2.2, ⟨S.l ++ l, S.size + sizeL (recsO l), S.dead⟩)
  else ((writeS E L (recsO l)).1, (writeS E L (recsO l)).2.1, (writeS E L (recsO l)).2.2, { S with dead := true })
theorem c20 {N : Nat} (s : Sep lo F Q h) (m : StM lo F Q w q dp r a v E L S) (vw : VwO lo F Q b l) (hl : l.length < 20000) (ho : ∀ o ∈ l, opOk o) (hb : Few E N) (hN : N < 20000000) (hf : FitL L) (hsl : S.l.length < 10000000) (hss : S.size ≤ 4611686018427387)
    (k : ∀ F' r' a' v' Q' h', F.le F' → Sep lo F' Q' h' → StM lo F' Q' w q dp r' a' v' (appS E L S l).2.1 (appS E L S l).2.2.1 (appS E L S l).2.2.2 → Kp 0 16 Q Q' → Q' 14 = Q 14 → Post (.i .i64 (appS E L S l).1) h') : wpC Try.prog 20 [.p w 0, b] Post h := by
  refine call_sound (args := [.vv (.p w 0), .vv b]) (cuts := []) ⟨rfl, (vw F Q h (Hp.le_refl _) s rfl).sc, trivial⟩ ?_
  rw [vc20]
  unfold appS at k
  obtain ⟨y0, y1, y2, y3⟩ := st_word s m.box
  refine onO.mk rfl (onO.mk y3 (onL.b1 (onB.mk (fun e => ?_) fun e => ?_)))
  · rw [if_pos e] at k
    exact k F r a v Q h (Hp.le_refl _) s m (fun _ _ => rfl) rfl
  rw [if_neg (by rw [e]; simp)] at k
  refine c40 s vw (by omega) ho (fun ex Q1 h1 s1 u1 => onTup.rii rfl (onB.pos rfl ?_)) fun hm r1 Q1 h1 s1 p1 u1 => onTup.rii p1.sc (onB.neg rfl ?_)
  · rw [if_pos ex] at k
    exact k F r a v Q1 h1 (Hp.le_refl _) s1 (m.same fun j hj => u1 j (by omega)) (fun j hj => u1 j (by omega)) (u1 14 (by omega))
  rw [if_neg (by rintro ⟨o, ho, h⟩; rw [hm o ho] at h; cases h)] at k
  have m1 := m.same (Q' := Q1) fun j hj => u1 j (by omega)
  have hsz := recs_len hm
  obtain ⟨z0, z1, z2, z3⟩ := st_word s1 m1.box
  refine onO.mk rfl (onO.mk z2 (onL.i1 (onO.mk (a := (2097152 : Int) - (S.size : Nat)) (sub64 (by omega) (by omega)) (onB.dec (fun e2 => ?_) fun e2 => ?_))))
  · rw [if_pos (by omega)] at k
    exact k F r a v Q1 h1 (Hp.le_refl _) s1 m1 (fun j hj => u1 j (by omega)) (u1 14 (by omega))
  rw [if_neg (by omega)] at k
  refine c41 s1 m1 p1 hb (by unfold recsO; rw [List.length_map]; omega) hf fun F2 r2 a2 Q2 h2 f2 s2 m2 u2 => onRet.i ?_
  have u02 : ∀ j, j ≠ 15 → 12 ≤ j → Q2 j = Q j := fun j h1 h2 => by rw [u2 j (by omega), u1 j (by omega)]
  refine onB.ndec (fun e3 => ?_) fun e3 => ?_
  · rw [if_neg e3] at k
    refine onO.mk rfl (st_put s2 m2.box m.wlo (i := 3) rfl (c := stC q v { S with dead := true }) rfl (by omega) fun h3 s3 => ?_)
    exact k F2 r2 a2 v _ h3 f2 s3 ⟨m2.lg.same fun j hj => updQ_ne (by omega), updQ_same, m.wlo, by rw [updQ_ne (by omega)]; exact m2.ops, m.ok⟩ (fun j hj => by rw [updQ_ne (by omega)]; exact u02 j (by omega) (by omega)) (by rw [updQ_ne (by omega)]; exact u02 14 (by omega) (by omega))
  rw [if_pos e3] at k
  obtain ⟨x0, x1, x2, x3⟩ := st_word s2 m2.box
  refine onO.mk rfl (onO.mk x1 (onL.r1 m2.ops.sc ?_))
  refine c29 (vw F2 Q2 h2 f2 s2 (u02 14 (by omega) (by omega))) (by omega) ho fun r3 h3 o3 => onRet.r o3.sc ?_
  have s3 := s2.frz o3.1 o3.2.1
  have f3 := s2.fgrow o3.1
  have row3 : OpRow (moreH h2 h3 F2) r3 l := o3.frozen
  have m3 := m2.fmono f3
  obtain ⟨v0, v1, v2, v3⟩ := st_word s3 m3.box
  refine ⟨onO.mk x1 v1, s3.appN m3.ops row3 hsl hl fun v5 h5 q13 s5 p5 => onO.mk rfl (onO.mk rfl ?_)⟩
  have e12 : updQ Q2 13 q13 12 = Hp.one w (stC q v S) lo := by rw [updQ_ne (by omega)]; exact m3.box
  obtain ⟨w0, w1, w2, w3⟩ := st_word s5 e12
  refine onO.mk w2 (onL.i1 ⟨onO.mk v2 w2, onO.mk x2 v2, ?_⟩)
  refine onO.mk (a := ((S.size + sizeL (recsO l) : Nat) : Int)) (add64 (by omega) (by omega)) ?_
  refine onO.mk rfl (st_put s5 e12 m.wlo (i := 1) p5.sc (c := stC q v5 S) rfl (by omega) fun h6 s6 => onO.mk rfl (st_put s6 updQ_same m.wlo (i := 2) rfl (c := stC q v5 ⟨S.l ++ l, S.size + sizeL (recsO l), S.dead⟩) rfl (by omega) fun h7 s7 => ?_))
  have same : ∀ j, j ≠ 12 → j ≠ 13 → updQ (updQ (updQ Q2 13 q13) 12 (Hp.one w (stC q v5 S) lo)) 12 (Hp.one w (stC q v5 ⟨S.l ++ l, S.size + sizeL (recsO l), S.dead⟩) lo) j = Q2 j := fun j h1 h2 => by rw [updQ_ne h1, updQ_ne h1, updQ_ne h2]
  refine k _ r2 a2 v5 _ h7 (Hp.le_trans f2 f3) s7 ⟨m3.lg.same fun j hj => same j (by omega) (by omega), updQ_same, m.wlo, by rw [updQ_ne (by omega), updQ_ne (by omega), updQ_same]; exact p5, fun o ho => ?_⟩ (fun j hj => by rw [same j (by omega) (by omega)]; exact u02 j (by omega) (by omega)) (by rw [same 14 (by omega) (by omega)]; exact u02 14 (by omega) (by omega))
  rcases List.mem_append.1 ho with h | h
  · exact m.ok o h
  · exact hm o h
/-- what it holds, told -/
theorem c11 (s : Sep lo F Q h) (m : StM lo F Q w q dp r a v E L S) (hl : S.l.length < 30000000) (k : ∀ r' h', NewOps h h' r' S.l → Post r' h') : wpC Try.prog 11 [.p w 0] Post h := by
  refine call_sound (args := [.vv (.p w 0)]) (cuts := []) ⟨rfl, trivial⟩ ?_
  rw [vc11]
  obtain ⟨y0, y1, y2, y3⟩ := st_word s m.box
  exact onO.mk rfl (onO.mk y1 (onL.r1 m.ops.sc (c29 (s.rows m.ops) (by omega) (fun o ho => may_opk (m.ok o ho)) fun r2 h2 o2 => onRet.r o2.sc (k r2 h2 o2))))
end
theorem sizeL_lay : ∀ l : Recs, sizeL l ≤ 2 * (layR l).length
  | [] => Nat.zero_le _
  | s :: l => by
    have := sizeL_lay l
    rw [sizeL_cons, layR_cons, List.length_append, lay1_len]; omega
theorem load_recs {E : Dk} (ok : ∀ (n : Nat) f, E.f[n]? = some f → f.ok) : (∀ b ∈ (loadR E).2.2.l, b.length ≤ 4096) ∧ sizeL (loadR E).2.2.l ≤ 8388608 ∧ (loadR E).2.2.l.length ≤ 8388608 := by
  have key : (∀ b ∈ (loadR E).2.2.l, b.length ≤ 4096) ∧ sizeL (loadR E).2.2.l ≤ 8388608 := by
    unfold loadR
    split
    · have hbl : (bytesOf E).length ≤ 4194304 := fileD_len ok
      obtain ⟨s1, s2, s3⟩ := scan_len (bytesOf E)
      have hl : (logOf E).l = (scanL (bytesOf E)).1 := by
        show [] ++ (scanL ((bytesOf E).drop 0)).1 = _
        rw [List.drop_zero, List.nil_append]
      show (∀ b ∈ (logOf E).l, _) ∧ sizeL (logOf E).l ≤ _
      rw [hl]
      have := sizeL_lay (scanL (bytesOf E)).1
      exact ⟨s2, by omega⟩
    · exact ⟨fun b h => (by cases h), by show sizeL [] ≤ _; exact Nat.zero_le _⟩
  have := len_sizeL (loadR E).2.2.l
  exact ⟨key.1, key.2, by omega⟩
/-- the records' operations -/
def opsO (l : Recs) : List D.Op := l.map fun b => (takeO b).1
section
variable {lo w q dp : Nat} {F F' h h' : Hp} {Q Q' : Nat → Hp} {a a' : Nat → AV} {r r' v v' b : AV} {E E' : Dk} {L L' : Lg} {S S' : StP} {Post : AV → Hp → Prop} {l : List D.Op}
theorem c9 (s : Sep lo F Q h) (d : DkA lo F Q 0 dp a E) (hb : Few E 30000000)
    (k1 : (loadR E).1 ≠ 0 → ∀ F' a' Q' h', F.le F' → Sep lo F' Q' h' → DkA lo F' Q' 0 dp a' (loadR E).2.1 → Kp 0 14 Q Q' → Post (.tup [.np, .i .i64 (loadR E).1]) h')
    (k2 : (loadR E).1 = 0 → (∃ b ∈ (loadR E).2.2.l, ¬ recO b) → ∀ F' Q' h', F.le F' → Sep lo F' Q' h' → Post (.tup [.np, .i .i64 1]) h')
    (k3 : (loadR E).1 = 0 → (∀ b ∈ (loadR E).2.2.l, recO b) → ∀ w q F' r' a' v' Q' h', F.le F' → Sep lo F' Q' h' → StM lo F' Q' w q dp r' a' v' (loadR E).2.1 (loadR E).2.2 ⟨opsO (loadR E).2.2.l, sizeL (loadR E).2.2.l, false⟩ → Kp 0 14 Q Q' → Post (.tup [.p w 0, .i .i64 0]) h') : wpC Try.prog 9 [.p dp 0] Post h := by
  refine call_sound (args := [.vv (.p dp 0)]) (cuts := [0]) ⟨rfl, trivial⟩ ?_
  rw [vc9]
  obtain ⟨z1, z2, z3⟩ := load_recs d.ok
  refine c26 s d hb (fun e F2 a2 Q2 h2 f2 s2 d2 u2 => onTup.ri rfl (onB.pos (by simp [e]) (k1 e F2 a2 Q2 h2 f2 s2 d2 fun j hj => u2 j (by omega)))) fun e q F2 r2 a2 Q2 h2 f2 s2 m2 u2 => onTup.ri rfl (onB.neg rfl fun w => ?_)
  generalize hL : (loadR E).2.2 = L at *
  generalize hE : (loadR E).2.1 = E2 at *
  refine c27 s2 m2 (by omega) fun r3 h3 o3 => onRet.r o3.sc fun hw hwlo => ?_
  have s3 := s2.frz o3.le o3.lo
  have f3 := s2.fgrow o3.le
  have row3 : SR (moreH h2 h3 F2) r3 L.l := o3.frozen str_flat
  have f03 := Hp.le_trans f2 f3
  have s4 := (s3.drop 13).alloc 12 hw [.p q 0, .ns, .i .i64 0, .b false]
  have m4 : StM lo (moreH h2 h3 F2) (updQ (updQ Q2 13 (Hp.none lo)) 12 (Hp.one w [.p q 0, .ns, .i .i64 0, .b false] lo)) w q dp r2 a2 .ns E2 L ⟨[], 0, false⟩ :=
    ⟨(m2.fmono f3).same fun j hj => by rw [updQ_ne (by omega), updQ_ne (by omega)], updQ_same, by rw [← s3.hlo]; exact hwlo, by rw [updQ_ne (by omega), updQ_same]; exact RowP.nil, fun o ho => (by cases ho)⟩
  have u4 : Kp 0 14 Q (updQ (updQ Q2 13 (Hp.none lo)) 12 (Hp.one w [.p q 0, .ns, .i .i64 0, .b false] lo)) := fun j hj => by rw [updQ_ne (by omega), updQ_ne (by omega)]; exact u2 j (by omega)
  refine ⟨fun m x y n h' => ∃ (j : Nat) (F5 : Hp) (v5 : AV) (Q5 : Nat → Hp), y = .np ∧ n = 0 ∧ j ≤ L.l.length ∧ m = L.l.length - j ∧ F.le F5 ∧ Sep lo F5 Q5 h' ∧ SR F5 x (L.l.drop j) ∧ StM lo F5 Q5 w q dp r2 a2 v5 E2 L ⟨opsO (L.l.take j), sizeL (L.l.take j), false⟩ ∧ (∀ b ∈ L.l.take j, recO b) ∧ Kp 0 14 Q Q5,
    ⟨_, 0, _, .ns, _, rfl, rfl, by omega, rfl, f03, s4, row3, m4, fun b hb => (by cases hb), u4⟩, ?_⟩
  rintro m h5 x hx _ _ _ ⟨j, F5, v5, Q5, rfl, rfl, hj, rfl, f5, s5, row5, m5, hr, u5⟩
  refine Dup.mk (onO.mk (row5.mono s5.fle).len (onB.mk (fun e0 => ?_) fun e0 => ?_))
  · have e0 := of_decide_eq_true e0
    rw [List.length_drop] at e0
    have : j = L.l.length := by omega
    subst this
    rw [List.take_length] at m5 hr
    exact k3 e hr w q F5 r2 a2 v5 Q5 h5 f5 s5 m5 u5
  · have e0 := of_decide_eq_false e0
    rw [List.length_drop] at e0
    obtain ⟨y, hy⟩ := get_lt (l := L.l) (k := j) (by omega)
    have hmem := List.mem_of_getElem? hy
    have hy1 := z1 y hmem
    have htk := take_succ' hy
    have hd0 : (L.l.drop j)[0]? = some y := by rw [List.getElem?_drop, Nat.add_zero]; exact hy
    refine str0 (j := 0) (row5.mono s5.fle) hd0 fun q1 q2 => ?_
    have hsz : sizeL (L.l.take j) ≤ sizeL L.l := sizeL_take
    refine c28 s5 m5 (by omega) q2 (by show (opsO _).length < _; unfold opsO; rw [List.length_map, List.length_take]; omega) (by show sizeL _ < _; omega) (fun hn F6 h6 f6 s6 => onRet.b (onB.neg rfl (k2 e ⟨y, hmem, hn⟩ F6 Q5 h6 (Hp.le_trans f5 f6) s6))) fun hyr F6 v6 Q6 h6 f6 s6 m6 u6 => onRet.b (onB.pos rfl ?_)
    have row6 := row5.mono f6
    obtain ⟨r7, e7, row7⟩ := row6.sl rfl (sz := 1) (i := 1) (j := (L.l.drop j).length) (lo := some 1) (hi := none) (by rw [List.length_drop]; omega) (Nat.le_refl _) rfl rfl
    have hdd : ((L.l.drop j).drop 1).take ((L.l.drop j).length - 1) = L.l.drop (j + 1) := by
      rw [List.take_of_length_le (by rw [List.length_drop]; omega), List.drop_drop]
    rw [hdd] at row7
    refine onO.mk e7 ⟨_, by show L.l.length - (j + 1) < L.l.length - j; omega, j + 1, F6, v6, Q6, rfl, rfl, by omega, rfl, Hp.le_trans f5 f6, s6, row7, ?_, fun b hb => ?_, fun i hi => by rw [u6 i (by omega)]; exact u5 i hi⟩
    · have he : (⟨opsO (L.l.take (j + 1)), sizeL (L.l.take (j + 1)), false⟩ : StP) = readS ⟨opsO (L.l.take j), sizeL (L.l.take j), false⟩ y := by
        unfold readS
        rw [htk, sizeL_app]
        simp [opsO, sizeL, Nat.add_assoc]
      rw [he]; exact m6
    · rw [htk] at hb
      rcases List.mem_append.1 hb with h | h
      · exact hr b h
      · simp at h; subst h; exact hyr
end
/-- all of the log's file is kept -/
def Clean (E : Dk) (L : Lg) (r : Recs) : Prop := fileD E (L.file : Nat) = ⟨layR r, []⟩
section
variable {E : Dk} {L : Lg} {r : Recs} {N : Nat} {C : Recs → Prop} {l ops : List D.Op}
theorem open_newc (hC : C []) (ho : E.off = false) (hf : E.f = (dkOf []).f) : ((loadR E).1 = 0 ∧ InvC (loadR E).2.1 (loadR E).2.2 [] 0 C ∧ Clean (loadR E).2.1 (loadR E).2.2 [] ∧ (loadR E).2.1.armed = E.armed) ∨ ((loadR E).1 = 10 ∧ E.armed = true ∧ (loadR E).2.1.f.length = 3 ∧ AllC (loadR E).2.1 C) := by
  have hr : recOf [] [] [] = [] := by decide
  rcases loadR_cc (x0 := []) (x1 := []) (x2 := []) (N := 0) (C := C) ho hf with ⟨h1, h2, h3, h4, h5, h6⟩ | ⟨h1, h2, h3, h4⟩
  · left
    rw [hr] at h6
    have := h6 (by decide) ⟨fun s hs => (by cases hs), by decide⟩ (Nat.le_refl _) hC
    exact ⟨h1, this.1, this.2, h5⟩
  · right
    rw [hr] at h4
    exact ⟨h1, h2, h3, h4.mono fun y e => by rw [e]; exact hC⟩
theorem syncL_clean (i : InvC E L r N C) (h : (syncL E L).1 = 0) : Clean (syncL E L).2.1 (syncL E L).2.2 r := by
  have hdead : L.dead = false := by rw [i.lg]
  have hfl := i.file
  unfold syncL at h ⊢
  rw [if_neg (by rw [hdead]; simp)] at h ⊢
  rcases syncR_cases (D := E) (n := L.file) (by omega) i.off i.len with ⟨_, _, _, _, g5⟩ | ⟨g1, _, _⟩
  · show fileD (syncR E (L.file : Nat)).2 (L.file : Nat) = _
    rw [g5 _ (by omega), if_pos rfl, i.seen]
  · have h : (syncR E (L.file : Nat)).1 = 0 := h
    rw [g1] at h; cases h
theorem writeS_c : ∀ (xs : Recs) {r : Recs} {E : Dk} {L : Lg} {N : Nat} {C : Recs → Prop}, InvC E L r N C → (∀ x ∈ xs, x.length ≤ 4096 ∧ Bytes8 x) → sizeL r + sizeL xs ≤ 2097152 →
    ((writeS E L xs).1 = 0 ∧ InvC (writeS E L xs).2.1 (writeS E L xs).2.2 (r ++ xs) N (fun y => y = r ++ xs) ∧ Clean (writeS E L xs).2.1 (writeS E L xs).2.2 (r ++ xs) ∧ (writeS E L xs).2.1.armed = E.armed) ∨
    ((writeS E L xs).1 = 10 ∧ E.armed = true ∧ (writeS E L xs).2.1.f.length = 3 ∧ AllC (writeS E L xs).2.1 (fun y => C y ∨ ∃ k, k ≤ xs.length ∧ y = r ++ xs.take k))
  | [], r, E, L, N, C, i, _, _ => by
    have hs : writeS E L [] = syncL E L := rfl
    rw [hs, List.append_nil]
    rcases syncL_c (C' := fun y => y = r) i rfl with ⟨a1, a2, a3⟩ | ⟨a1, a2, a3⟩
    · exact .inl ⟨a1, a2, syncL_clean i a1, a3⟩
    · exact .inr ⟨a1, a2, a3.len, a3.all.mono fun y h => .inl h⟩
  | x :: xs, r, E, L, N, C, i, hx, hs => by
    have hstep : writeS E L (x :: xs) = if (appL E L x).1 = 0 then writeS (appL E L x).2.1 (appL E L x).2.2 xs else appL E L x := rfl
    rw [sizeL_cons] at hs
    obtain ⟨x1, x2⟩ := hx x (by simp)
    have happ : r ++ x :: xs = (r ++ [x]) ++ xs := by simp
    rcases appL_c (C' := fun y => C y ∨ y = r ++ [x]) i x1 x2 (by omega) (fun y h => .inl h) (.inr rfl) with ⟨a1, a2, a3⟩ | ⟨a1, a2, a3⟩
    · rw [if_pos a1] at hstep
      have hsz : sizeL (r ++ [x]) + sizeL xs ≤ 2097152 := by
        rw [sizeL_app]; simp [sizeL] at *; omega
      rw [hstep]
      rcases writeS_c xs a2 (fun y hy => hx y (by simp [hy])) hsz with ⟨b1, b2, b3, b4⟩ | ⟨b1, b2, b3, b4⟩
      · left
        rw [happ]
        exact ⟨b1, b2, b3, b4.trans a3⟩
      · right
        refine ⟨b1, by rw [← a3]; exact b2, b3, b4.mono fun y h => ?_⟩
        rcases h with (h | h) | ⟨k, k1, k2⟩
        · exact .inl h
        · exact .inr ⟨1, by simp, by rw [h]; rfl⟩
        · exact .inr ⟨k + 1, by simp; omega, by rw [k2]; simp⟩
    · rw [if_neg (by rw [a1]; omega)] at hstep
      rw [hstep]
      exact .inr ⟨a1, a2, a3.len, a3.all.mono fun y h => .inl h⟩
theorem writeS_few : ∀ (xs : Recs) {E : Dk} {L : Lg} {N : Nat}, Few E N → Few (writeS E L xs).2.1 (N + xs.length)
  | [], E, L, N, w => (syncL_few w).mono (by simp)
  | x :: xs, E, L, N, w => by
    have hstep : writeS E L (x :: xs) = if (appL E L x).1 = 0 then writeS (appL E L x).2.1 (appL E L x).2.2 xs else appL E L x := rfl
    rw [hstep]
    have w1 : Few (appL E L x).2.1 (N + 1) := appL_few w
    split
    · exact (writeS_few xs w1).mono (by simp; omega)
    · exact w1.mono (by simp)
theorem InvC.fit (i : InvC E L r N C) : FitL L := by
  obtain ⟨z1, z2, z3, z4⟩ := i.size
  have := len_sizeL r
  rw [i.lg]
  exact ⟨i.ok.2, by have := layR_len8 i.ok; show (layR r).length ≤ 2097152 + sizeL r; omega, this⟩
theorem recs_ok (h : ∀ o ∈ l, mayO o = true ∧ Bytes8 o.key) : ∀ x ∈ recsO l, x.length ≤ 4096 ∧ Bytes8 x := fun x hx => by
  obtain ⟨o, ho, rfl⟩ := List.mem_map.1 hx
  obtain ⟨h1, h2⟩ := h o ho
  have := opE_len h1
  exact ⟨by omega, bytes_opE h2⟩
theorem recs_app {a b : List D.Op} : recsO (a ++ b) = recsO a ++ recsO b := List.map_append
theorem ops_recs (h : ∀ o ∈ l, mayO o = true ∧ Bytes8 o.key) : opsO (recsO l) = l := by
  unfold opsO recsO
  rw [List.map_map]
  conv => rhs; rw [← List.map_id l]
  refine List.map_congr_left fun o ho => ?_
  have := takeO_put (h o ho).1 (h o ho).2 []
  rw [List.append_nil] at this
  show (takeO (opE o)).1 = o
  rw [this]
theorem recs_rec (h : ∀ o ∈ l, mayO o = true ∧ Bytes8 o.key) : ∀ b ∈ recsO l, recO b := fun x hx => by
  obtain ⟨o, ho, rfl⟩ := List.mem_map.1 hx
  have := takeO_put (h o ho).1 (h o ho).2 []
  rw [List.append_nil] at this
  unfold recO
  rw [this]; exact ⟨rfl, rfl⟩
theorem appS_c (i : InvC E L (recsO ops) N C) (hm : ∀ o ∈ l, mayO o = true ∧ Bytes8 o.key) (hs : sizeL (recsO ops) + sizeL (recsO l) ≤ 2097152) :
    (appS E L ⟨ops, sizeL (recsO ops), false⟩ l = (0, (writeS E L (recsO l)).2.1, (writeS E L (recsO l)).2.2, ⟨ops ++ l, sizeL (recsO (ops ++ l)), false⟩) ∧ InvC (writeS E L (recsO l)).2.1 (writeS E L (recsO l)).2.2 (recsO (ops ++ l)) N (fun y => y = recsO (ops ++ l)) ∧ Clean (writeS E L (recsO l)).2.1 (writeS E L (recsO l)).2.2 (recsO (ops ++ l)) ∧ (writeS E L (recsO l)).2.1.armed = E.armed) ∨
    (appS E L ⟨ops, sizeL (recsO ops), false⟩ l = (10, (writeS E L (recsO l)).2.1, (writeS E L (recsO l)).2.2, ⟨ops, sizeL (recsO ops), true⟩) ∧ E.armed = true ∧ (writeS E L (recsO l)).2.1.f.length = 3 ∧ AllC (writeS E L (recsO l)).2.1 (fun y => C y ∨ ∃ k, k ≤ l.length ∧ y = recsO (ops ++ l.take k))) := by
  unfold appS
  rw [if_neg (by simp), if_neg (by rintro ⟨o, ho, h⟩; rw [(hm o ho).1] at h; cases h), if_neg (by show ¬ 2097152 < sizeL (recsO ops) + _; omega)]
  rcases writeS_c (recsO l) i (recs_ok hm) hs with ⟨b1, b2, b3, b4⟩ | ⟨b1, b2, b3, b4⟩
  · left
    rw [if_pos b1, recs_app, sizeL_app]
    exact ⟨rfl, b2, b3, b4⟩
  · right
    rw [if_neg (by rw [b1]; omega), b1]
    refine ⟨rfl, b2, b3, b4.mono fun y h => h.imp id fun ⟨k, k1, k2⟩ => ⟨k, by unfold recsO at k1; rw [List.length_map] at k1; exact k1, ?_⟩⟩
    rw [k2, recs_app]
    unfold recsO
    rw [List.map_take]
end
section
variable {h : Hp} {Post : AV → Hp → Prop}
theorem put_more {F : Hp} {p : Nat} {c : List AV} (f : F.le h) (hp : h.g p = none) : (F.put p c).le (moreH h (h.put p c) F) := fun k x e => by
  by_cases ek : k = p
  · subst ek
    unfold moreH
    rw [Hp.res_in (.inl hp), Hp.put_same]
    rw [Hp.put_same] at e; exact e
  · rw [Hp.put_ne _ _ ek] at e
    exact more_base f (Hp.le_trans f (Hp.le_put hp)) k x e
theorem theO_ok : mayO theO = true ∧ Bytes8 theO.key := ⟨theO_may, fun x hx => by simp [theO] at hx; omega⟩
theorem one_op' {d : AV} {p : Nat} (rd : IR h d theO.deps) (hp : h.g p = none) : OpRow (h.put p (opC theO d)) (.sl p 0 1 1 true 12) [theO] := by
  have kx : D.kOp.K (h.put p (opC theO d)) theO (opC theO d) := nums_in theO_ok.1 theO_ok.2 (rd.mono (Hp.le_put hp))
  refine ⟨[opC theO d], ⟨fun c hc => by simp at hc; subst hc; rfl, rfl, rfl, Nat.le_refl _, .inr ?_⟩, .cons kx .nil⟩
  unfold rdH
  rw [Hp.put_same]; rfl
/-- an operation appended to a new one, and told -/
theorem c13 (k : ∀ h', Post (.b true) h') : wpC Try.prog 13 [] Post h := by
  refine call_sound (args := []) (cuts := []) trivial ?_
  rw [vc13]
  have s := Sep.start h
  refine c15 s fun dp a Q1 h1 s1 d1 u1 => onRet.r rfl ?_
  rcases open_newc (E := dkOf []) (C := fun y => y = []) rfl rfl rfl with ⟨e1, i1, _, ar1⟩ | ⟨_, e2, _⟩
  rotate_left
  · cases e2
  have few1 : Few (loadR (dkOf [])).2.1 1 := loadR_few few0
  have hl0 : (loadR (dkOf [])).2.2.l = [] := by rw [i1.lg]
  refine c9 s1 d1 few0 (fun e => absurd e1 e) (fun _ ⟨b, hb, _⟩ => by rw [hl0] at hb; cases hb) fun _ _ w q F2 r2 a2 v2 Q2 h2 f2 s2 m2 u2 => onTup.ri rfl (c10 (onRet.i (onB.neg rfl (onO.mk rfl (onB.neg rfl ?_)))))
  rw [hl0] at m2
  have m2 : StM h.lo F2 Q2 w q dp r2 a2 v2 (loadR (dkOf [])).2.1 (loadR (dkOf [])).2.2 ⟨[], sizeL (recsO []), false⟩ := m2
  have ar : (loadR (dkOf [])).2.1.armed = false := ar1
  generalize (loadR (dkOf [])).2.1 = E2 at *
  generalize (loadR (dkOf [])).2.2 = L2 at *
  refine c36 fun d h3 o3 => onRet.op (o := theO) o3.sc fun p0 hp0 hlo0 => ?_
  have s3 := s2.frz o3.le o3.lo
  have rd : IR (moreH h2 h3 F2) d theO.deps := o3.frozen int_flat
  have f3 := s2.fgrow o3.le
  have row4 := (one_op' (h := moreH h2 h3 F2) rd (le_none s3.fle hp0)).mono (put_more s3.fle hp0)
  have lp : h3.le (h3.put p0 (opC theO d)) := Hp.le_put hp0
  have s4 := s3.frz lp rfl
  have f4 := s3.fgrow lp
  have ho : ∀ o ∈ [theO], mayO o = true ∧ Bytes8 o.key := fun o ho => by simp at ho; subst ho; exact theO_ok
  have hsz : sizeL (recsO ([] : List D.Op)) + sizeL (recsO [theO]) ≤ 2097152 := by
    have := recs_len (l := [theO]) fun o h => (ho o h).1
    show 0 + _ ≤ _
    simp at this ⊢; omega
  refine c20 (l := [theO]) s4 ((m2.fmono f3).fmono f4) (VwO.frz row4) (by simp) (fun o h => may_opk (ho o h).1) few1 (by omega) i1.fit (by simp) (by show sizeL [] ≤ _; exact Nat.zero_le _) fun F5 r5 a5 v5 Q5 h5 f5 s5 m5 u5 _ => onRet.i (c10 (onRet.i ?_))
  rcases appS_c (l := [theO]) i1 ho hsz with ⟨e3, _⟩ | ⟨_, e3, _⟩
  rotate_left
  · rw [ar] at e3; cases e3
  rw [e3] at m5 ⊢
  refine onB.pos rfl (c11 s5 m5 (by simp) fun r6 h6 o6 => onRet.r o6.sc ?_)
  refine c36 fun d7 h7 o7 => onRet.op (o := theO) o7.sc fun p8 hp8 hlo8 => ?_
  refine c21 ((o6.row.mono o7.le).mono (Hp.le_put hp8)) (one_op' o7.row hp8) (by simp) (fun o h => may_opk (ho o (by simpa using h)).1) (onRet.b ?_)
  rw [decide_eq_true (by rfl)]
  exact k _
end
/-- what is one of some beginnings of the operations -/
def Begins (low : Nat) (all : List D.Op) (y : Recs) : Prop := ∃ k, low ≤ k ∧ k ≤ all.length ∧ y = recsO (all.take k)
structure TlS (lo : Nat) (F0 F : Hp) (Q : Nat → Hp) (h : Hp) (dv yv : AV) (low : Nat) (all : List D.Op) : Prop where
  fle : F0.le F
  s : Sep lo F Q h
  row : OpRow F yv all
  len : all.length ≤ 100
  ok : ∀ o ∈ all, mayO o = true ∧ Bytes8 o.key
  m : ∃ dp a E, dv = .p dp 0 ∧ DkA lo F Q 0 dp a E ∧ E.f.length = 3 ∧ AllC E (Begins low all) ∧ Few E 1000
theorem tail25 {h hh : Hp} {X : D.StoreA} {a0 a1 a2 yv : AV} {low : Nat} {all : List D.Op} {F : Hp} {Q : Nat → Hp} (rl : D.kStoreDo.Row h a0 X.l) (rf : Kn.int.Row h a1 X.off) (lf : X.off.length * 8 ≤ 140737488351232) (base : TlS h.lo h F Q hh a2 yv low all) {Post : AV → Hp → Prop} (hPost : ∀ h', Post (.b true) h') : StTail a0 a1 a2 false (low : Nat) yv hh Post := by
  unfold StTail
  refine ⟨fun m dv c n yv k h' => ∃ (j : Nat) (F : Hp) (Q : Nat → Hp) (low : Nat) (all : List D.Op), k = j ∧ n = (low : Nat) ∧ j ≤ 4 ∧ m = 4 - j ∧ c = false ∧ TlS h.lo h F Q h' dv yv low all, ⟨4, 0, F, Q, low, all, rfl, rfl, by omega, rfl, rfl, base⟩, ?_⟩
  clear base
  rintro m h41 dv hdv _ _ yv hyv _ ⟨j, F, Q, low, all, rfl, rfl, hj, rfl, rfl, t⟩
  have s := t.s
  have rlF := rl.mono t.fle
  have rfF := rf.mono t.fle
  have tlen := t.len
  refine onB.dec (fun e => onO.mk (rlF.mono s.fle).len ⟨fun b h' => h' = h41 ∧ ∃ ps, Kn.int.Row F b ps, onB.dec (fun e2 => ?_) (fun _ => ⟨rfl, [], ns_ints⟩), ?_⟩) fun e => c13 fun h' => onRet.b (hPost _)
  · obtain ⟨y, hy⟩ := get_lt (l := X.l) (k := j) (by omega)
    obtain ⟨bb, oo, b1, b2, e3, e4, wl, wl2, wp, wp2, hact⟩ := st_cells rlF hy
    exact onO.mk e3 (onO.mk (rdH_sub (rdH_le s.fle e4) (o' := 2) (n' := 1) rfl) (onL.r1 wp.sc ⟨rfl, _, wp⟩))
  rintro h42 b hb ⟨rfl, ps, row⟩
  obtain ⟨dp, a, E, rfl, d, l3, al, few⟩ := t.m
  refine c17 s d row (few.mono (by omega)) fun dp2 a2 Q2 h2 s2 d2 u2 => onRet.r rfl (onO.mk rfl (onB.neg rfl ?_))
  obtain ⟨x0, x1, x2, cr, t0, t1, t2⟩ := crash_three l3 ps
  rw [cr] at d2
  obtain ⟨k, hk1, hk2, hrec⟩ := al x0 x1 x2 t0 t1 t2
  have ok0 : ∀ o ∈ all.take k, mayO o = true ∧ Bytes8 o.key := fun o ho => t.ok o (List.mem_of_mem_take ho)
  have len0 : (all.take k).length = k := by rw [List.length_take]; omega
  refine ⟨fun c h' => h' = h2 ∧ (c = true → j + 1 < X.off.length ∧ j < 2), onO.mk (inc64 (by omega)) (onO.mk (rfF.mono s2.fle).len (onB.dec (fun e2 => ⟨rfl, fun e3 => ⟨by omega, by have := of_decide_eq_true e3; omega⟩⟩) fun e2 => ⟨rfl, fun e3 => by cases e3⟩)), ?_⟩
  rintro h44 lc20 ⟨rfl, h12⟩
  refine ⟨fun h' => ∃ (Q' : Nat → Hp) (E' : Dk) (a' : Nat → AV), Sep h.lo F Q' h' ∧ DkA h.lo F Q' 0 dp2 a' E' ∧ E'.off = false ∧ E'.f = (dkOf [x0, x1, x2]).f ∧ (2 ≤ j → E'.armed = false) ∧ Few E' 0, onB.mk (fun e2 => ?_) (fun e2 => ⟨Q2, _, a2, s2, d2, rfl, rfl, fun _ => rfl, few0⟩), ?_⟩
  · obtain ⟨q1, q2⟩ := h12 e2
    obtain ⟨o, ho⟩ := get_lt (l := X.off) (k := j + 1) q1
    refine onO.mk (inc64 (by omega)) (int0 (k := j + 1) (rfF.mono s2.fle) ho (c16 (by omega) (by omega) fun n g1 g2 => onRet.i (onO.mk (add64 (by omega) (by omega)) ?_)))
    refine c23 s2 d2 (by omega) fun Q3 h3 s3 d3 u3 => onTup.z ⟨Q3, _, a2, s3, d3, ?_, ?_, fun h => absurd h (by omega), few0⟩
    · rw [(offD_c (by omega)).1]; rfl
    · rw [(offD_c (by omega)).2]
  rintro h47 ⟨Q4, E4, a4, s4, d4, ho4, hf4, har4, few4⟩
  have fewL : Few (loadR E4).2.1 1 := loadR_few few4
  have lc := loadR_c (x0 := x0) (x1 := x1) (x2 := x2) (N := 0) (C := fun _ => True) ho4 hf4
  rw [hrec] at lc
  refine wpC.mono (Q := fun v h' => ∃ x e, v = .tup [x, .i .i64 e] ∧ x.sc = true ∧ ∃ (F' : Hp) (Q' : Nat → Hp) (a' : Nat → AV) (E' : Dk), F.le F' ∧ Sep h.lo F' Q' h' ∧ DkA h.lo F' Q' 0 dp2 a' E' ∧ E'.f.length = 3 ∧ AllC E' (fun y => y = recsO (all.take k)) ∧ Few E' 1 ∧ ((e = 10 ∧ x = .np ∧ j < 2) ∨ (e = 0 ∧ ∃ w q rr v L S, x = .p w 0 ∧ StM h.lo F' Q' w q dp2 rr a' v E' L S ∧ S.l = all.take k))) (c9 s4 d4 (few4.mono (by omega)) (fun e F5 a5 Q5 h5 f5 s5 d5 u5 => ?_) (fun e1 ⟨b, hb, hn⟩ => ?_) fun e hr w q F5 r5 a5 v5 Q5 h5 f5 s5 m5 u5 => ?_) ?_
  · rcases lc with ⟨e1, _⟩ | ⟨e1, e2, e3, e4⟩
    · exact absurd e1 e
    · refine ⟨.np, _, rfl, rfl, F5, Q5, a5, _, f5, s5, d5, e3, e4, fewL, .inl ⟨e1, rfl, ?_⟩⟩
      rcases Nat.lt_or_ge j 2 with h | h
      · exact h
      · rw [har4 h] at e2; cases e2
  · rcases lc with ⟨_, e2, _⟩ | ⟨e1', _⟩
    · rw [e2] at hb
      exact absurd (recs_rec ok0 b hb) hn
    · rw [e1] at e1'; cases e1'
  · rcases lc with ⟨e1, e2, e3, e4, _⟩ | ⟨e1', _⟩
    · exact ⟨.p w 0, 0, rfl, rfl, F5, Q5, a5, _, f5, s5, m5.lg.dk, e3, e4, fewL, .inr ⟨rfl, w, q, r5, v5, _, _, rfl, m5, by show opsO _ = _; rw [e2]; exact ops_recs ok0⟩⟩
    · rw [e] at e1'; cases e1'
  clear s4 d4 lc
  rintro v h48 ⟨x, e27, rfl, xsc, F5, Q5, a5, E5, f5, s5, d5, l5, al5, few5, st⟩
  have f05 := Hp.le_trans t.fle f5
  refine onTup.ri xsc ⟨fun c h' => (c = true ↔ e27 = 10) ∧ h' = h48, ?_, ?_⟩
  · rcases st with ⟨rfl, rfl, hj2⟩ | ⟨rfl, w, q, rr, v, L, S, rfl, m5, hS⟩
    · exact c10 (onRet.i (onB.pos rfl (onB.pos (decide_eq_true (by omega)) (onO.mk rfl ⟨by simp, rfl⟩))))
    · exact c10 (onRet.i (onB.neg rfl ⟨by simp, rfl⟩))
  rintro h50 lc22 ⟨hc22, rfl⟩
  refine onB.mk (fun e14 => ?_) fun e14 => ?_
  · exact onO.mk (inc64 (by omega)) ⟨_, by show 4 - (j + 1) < 4 - j; omega, j + 1, F5, Q5, low, all, rfl, rfl, by omega, rfl, rfl, f05, s5, t.row.mono f5, t.len, t.ok, dp2, a5, E5, rfl, d5, l5, al5.mono fun y hy => ⟨k, hk1, hk2, hy⟩, few5.mono (by omega)⟩
  · obtain ⟨rfl, w, q, rr, v, L, S, rfl, m5, hS⟩ : e27 = 0 ∧ ∃ w q rr v L S, x = .p w 0 ∧ StM h.lo F5 Q5 w q dp2 rr a5 v E5 L S ∧ S.l = all.take k := by
      rcases st with ⟨e0, _⟩ | h
      · rw [hc22.2 e0] at e14; cases e14
      · exact h
    refine ⟨fun c h' => c = false ∧ h' = h50, c10 (onRet.i (onB.neg rfl (onO.mk rfl ⟨rfl, rfl⟩))), ?_⟩
    rintro h52 _ ⟨rfl, rfl⟩
    refine onB.neg rfl (c11 s5 m5 (by rw [hS, len0]; omega) fun r7 h53 o7 => onRet.r o7.sc ?_)
    rw [hS] at o7
    have s7 := s5.frz o7.1 o7.2.1
    have f7 := s5.fgrow o7.1
    have row7 : OpRow (moreH h52 h53 F5) r7 (all.take k) := o7.frozen
    have len7 := (row7.mono s7.fle).len
    rw [len0] at len7
    have rowA : OpRow h53 yv all := ((t.row.mono f5).mono f7).mono s7.fle
    obtain ⟨r8, e8, row8⟩ := rowA.sl (sz := 12) rfl (i := 0) (j := k) (lo := none) (hi := some (k : Int)) (Nat.zero_le _) hk2 rfl rfl
    rw [List.drop_zero, Nat.sub_zero] at row8
    refine ⟨fun c h' => c = false ∧ h' = h53, onO.mk len7 (onB.dec (fun e => by omega) fun _ => onO.mk len7 (onO.mk rowA.len (onB.dec (fun e => by omega) fun _ => onO.mk len7 (onO.mk (a := r8) e8 (c21 (row7.mono s7.fle) row8 (by omega) (fun o ho => may_opk (ok0 o ho).1) (onRet.b ⟨by simp, rfl⟩)))))), ?_⟩
    rintro h55 _ ⟨rfl, rfl⟩
    refine onB.neg rfl (onO.mk len7 (onO.mk (inc64 (by omega)) ⟨_, by show 4 - (j + 1) < 4 - j; omega, j + 1, _, Q5, k, all.take k, rfl, rfl, by omega, rfl, rfl, Hp.le_trans f05 f7, s7, row7, by omega, ok0, dp2, a5, E5, rfl, d5.fmono f7, l5, al5.mono fun y hy => ⟨k, Nat.le_refl _, by omega, by rw [List.take_take, Nat.min_self]; exact hy⟩, few5.mono (by omega)⟩))
theorem syncL_fit {E : Dk} {L : Lg} (f : FitL L) : FitL (syncL E L).2.2 := by
  unfold syncL
  split
  · exact f
  · exact f
theorem writeS_fit : ∀ (xs : Recs) {E : Dk} {L : Lg}, FitL L → FitL (writeS E L xs).2.2
  | [], E, L, f => syncL_fit f
  | x :: xs, E, L, f => by
    have hstep : writeS E L (x :: xs) = if (appL E L x).1 = 0 then writeS (appL E L x).2.1 (appL E L x).2.2 xs else appL E L x := rfl
    rw [hstep]
    split
    · exact writeS_fit xs (appL_fit f)
    · exact appL_fit f
/-- a store while the power is there -/
structure CrA (lo : Nat) (F0 F : Hp) (Q : Nat → Hp) (h : Hp) (dp w : Nat) (yv : AV) (ops : List D.Op) (j : Nat) : Prop where
  fle : F0.le F
  s : Sep lo F Q h
  m : ∃ q rr a v E L, StM lo F Q w q dp rr a v E L ⟨ops, sizeL (recsO ops), false⟩ ∧ InvC E L (recsO ops) 0 (fun y => y = recsO ops) ∧ Few E (8 * j + 8)
  row : RowP D.kOp F lo (Q 16) yv ops
  len : ops.length ≤ 6 * j
  ok : ∀ o ∈ ops, mayO o = true ∧ Bytes8 o.key
/-- a part frozen -/
theorem Sep.ice {lo : Nat} {F h : Hp} {Q : Nat → Hp} (s : Sep lo F Q h) (i : Nat) : Sep lo (F.add (Q i)) (updQ Q i (Hp.none lo)) h := by
  refine ⟨s.hlo, add_le s.fle (s.le i), s.lo i, fun m => ?_, fun m => ?_, fun m => ?_, fun m k e => ?_⟩
  · by_cases em : m = i
    · subst em; rw [updQ_same]; exact none_le _ _
    · rw [updQ_ne em]; exact s.le m
  · by_cases em : m = i
    · subst em; rw [updQ_same]; rfl
    · rw [updQ_ne em]; exact s.lo m
  · by_cases em : m = i
    · subst em; rw [updQ_same]; exact none_disj
    · rw [updQ_ne em]; exact fun k c e => addH_none (s.df m k c e) (s.dd m i em k c e)
  · by_cases em : m = i
    · subst em; rw [updQ_same]; exact none_disj
    · by_cases ek : k = i
      · subst ek; rw [updQ_same]; exact disj_none
      · rw [updQ_ne em, updQ_ne ek]; exact s.dd m k e
/-- a copy with more behind it, frozen -/
theorem copy_more {lo : Nat} {F h : Hp} {Q : Nat → Hp} {yv b : AV} {ops G : List D.Op} (s : Sep lo F Q h) (row : OpRow h yv ops) (rg : OpRow F b G) (hl : ops.length ≤ 1000) (hg : G.length ≤ 1000) (ok : ∀ o ∈ ops, mayO o = true) {Post : Option AV → Hp → Prop}
    (k : ∀ F' Q' r h', F.le F' → Sep lo F' Q' h' → OpRow F' r (ops ++ G) → (∀ j, j ≠ 14 → Q' j = Q j) → Post (some r) h') :
    wpC Try.prog 19 [yv] (fun a22 h20 => onRet [Sh.one Kd.ref] a22 fun a23 => onO (srcV 12 b) fun r3 => onC (((4 * r3.1 + 4000) * 120).ble (OfNat.ofNat 17179869184)) (wpE (.app a23 r3.1 r3.2 12) Post h20)) h := by
  refine c63o row (by omega) (fun o ho => may_opk (ok o ho)) fun r7 h7 o7 => onRet.r o7.kn.row.sc ?_
  -- the copy's data frozen, its row a part
  obtain ⟨p, css, qs, oe⟩ := o7
  have kk : All2 (D.kOp.K p) ops css := All2.of_get oe.len.symm fun i x y hx hy => D.kOp.mono (oe.sub i) (oe.el i x y hx hy).1
  have s1 := s.frz oe.le oe.lo
  have f1 := s.fgrow oe.le
  have kF : All2 (D.kOp.K (moreH h p F)) ops css := All2.of_get oe.len.symm fun i x y hx hy => D.kOp.mono (more_new (oe.sub i) (oe.dj i)) (oe.el i x y hx hy).1
  have ow : (kRw 12).Own p h7 r7 css := ⟨p, css, Hp.le_refl _, rfl, oe.fr, kRw_mk (d := D.kOp) kF⟩
  obtain ⟨q14, s2, rp⟩ := s1.rowNew (d := D.kOp) 14 ow kF
  refine s2.appN (i := 14) (by rw [updQ_same]; exact rp) (rg.mono f1) (by omega) (by omega) fun r8 h8 q8 s8 rp8 => ?_
  have s9 := s8.ice 14
  rw [updQ_same] at s9
  have fF : (moreH h p F).le ((moreH h p F).add q8) := Hp.le_left _ _
  have dq := (s8.df 14).symm
  rw [updQ_same] at dq
  have fq : q8.le ((moreH h p F).add q8) := Hp.le_right dq
  exact k _ _ r8 h8 (Hp.le_trans f1 fF) s9 (rp8.row fq fF) fun j hj => by rw [updQ_ne hj, updQ_ne hj, updQ_ne hj]
theorem D.lawStoreCrashes {h : Hp} {X : D.StoreA} {c : List AV} (kx : D.kStoreA.K h X c) : wpC Try.prog 5 [.agg c] (fun v _ => v = .b true) h := by
  obtain ⟨a0, a1, rfl, ⟨rl, ll⟩, rf, lf⟩ := D.kStoreA_open kx
  refine call_sound (args := [.ag [.vv a0, .vv a1]]) (cuts := [18999999, 11000036, 23000057, 35000090, 41000006, 41000007, 41000011, 56000014, 63000127, 66999999, 69000153, 71000160, 77000182]) ⟨⟨rl.sc, rf.sc, trivial⟩, trivial⟩ ?_
  rw [vc5]
  intro _
  refine c14 rl (by omega) rf.sc rf.len (by omega) (onRet.b (onB.pos rfl rfl)) fun w1 w2 => onRet.b (onB.neg rfl ?_)
  have s0 := Sep.start h
  refine c15 s0 fun dp a Q1 h1 s1 d1 u1 => onRet.r rfl ?_
  rcases open_newc (E := dkOf []) (C := fun y => y = []) rfl rfl rfl with ⟨e1, i1, cl1, ar1⟩ | ⟨_, e2, _⟩
  rotate_left
  · cases e2
  have hl0 : (loadR (dkOf [])).2.2.l = [] := by rw [i1.lg]
  refine c9 s1 d1 few0 (fun e => absurd e1 e) (fun _ ⟨b, hb, _⟩ => by rw [hl0] at hb; cases hb) fun _ _ w q F2 r2 a2 v2 Q2 h2 f2 s2 m2 u2 => onTup.ri rfl ⟨fun c h' => c = false ∧ h' = h2, onO.mk rfl (onB.neg rfl (c10 (onRet.i (onB.neg rfl (onO.mk rfl ⟨rfl, rfl⟩))))), ?_⟩
  rw [hl0] at m2
  have m2 : StM h.lo F2 Q2 w q dp r2 a2 v2 (loadR (dkOf [])).2.1 (loadR (dkOf [])).2.2 ⟨[], sizeL (recsO []), false⟩ := m2
  rintro h4 _ ⟨rfl, rfl⟩
  have fw1 : Few (loadR (dkOf [])).2.1 8 := (loadR_few (few0 (N := 0))).mono (by omega)
  generalize (loadR (dkOf [])).2.1 = E2 at *
  generalize (loadR (dkOf [])).2.2 = L2 at *
  refine onB.neg rfl (onO.mk (rf.mono (Hp.le_trans f2 s2.fle)).len ⟨fun h' => ∃ F Q, CrA h.lo h F Q h' dp w .ns [] 0, onB.dec (fun e => ?_) (fun e => ⟨F2, _, f2, s2.drop 16, ⟨q, r2, a2, v2, E2, L2, m2.same fun j hj => updQ_ne (by omega), i1, fw1⟩, by rw [updQ_same]; exact RowP.nil, by simp, fun o ho => by cases ho⟩), ?_⟩)
  · obtain ⟨o, ho⟩ := get_lt (l := X.off) (k := 0) (by omega)
    refine int0 (k := 0) (rf.mono (Hp.le_trans f2 s2.fle)) ho (c16 (by omega) (by omega) fun n g1 g2 => onRet.i (onO.mk (add64 (by omega) (by omega)) ?_))
    refine c23 s2 m2.lg.dk (by omega) fun Q3 h3 s3 d3 u3 => onTup.z ?_
    have ho3 := (offD_c (E := E2) (n := 1 + n) (by omega))
    have m3 : StM h.lo F2 Q3 w q dp r2 a2 v2 (offD E2 (1 + n)) L2 ⟨[], sizeL (recsO []), false⟩ := m2.log (Hp.le_refl _) (m2.lg.disk d3 u3) u3.more
    have i3 : InvC (offD E2 (1 + n)) L2 (recsO []) 0 (fun y => y = recsO []) := by
      have fd : ∀ m : Int, fileD (offD E2 (1 + n)) m = fileD E2 m := fun m => fileD_congr ho3.2
      exact ⟨by rw [ho3.1]; exact i1.off, by rw [ho3.2]; exact i1.len, i1.lg, i1.file, by rw [fd]; exact i1.seen, i1.ok, by obtain ⟨mk, k1, k2, k3⟩ := i1.mark; exact ⟨mk, by rw [fd]; exact k1, k2, k3⟩, fun x hx => by rw [fd] at hx; exact i1.can x hx⟩
    exact ⟨F2, _, f2, s3.drop 16, ⟨q, r2, a2, v2, _, L2, m3.same fun j hj => updQ_ne (by omega), i3, few_off fw1⟩, by rw [updQ_same]; exact RowP.nil, by simp, fun o ho => by cases ho⟩
  clear m2 s2 f2 u2 d1 s1 u1
  rintro h7 ⟨F7, Q7, base⟩
  refine ⟨fun m yv c gv i h' => ∃ (j : Nat) (F : Hp) (Q : Nat → Hp) (ops : List D.Op), i = j ∧ j ≤ X.l.length ∧ m = X.l.length - j ∧ c = false ∧ gv = .ns ∧ j ≤ 12 ∧ CrA h.lo h F Q h' dp w yv ops j, ⟨_, 0, F7, Q7, [], rfl, by omega, rfl, rfl, rfl, by omega, base⟩, ?_⟩
  clear base
  rintro m h8 yv hyv _ _ _ _ ⟨j, F, Q, ops, rfl, hj, rfl, rfl, rfl, hj12, t⟩
  have s := t.s
  have rlF := rl.mono t.fle
  have tlen := t.len
  have tok := t.ok
  have hsz := recs_len fun o ho => (tok o ho).1
  obtain ⟨q, rr, a, v, E, L, mm, inv, few⟩ := t.m
  refine ⟨fun c h' => (c = true ↔ j < X.l.length ∧ j < 12) ∧ h' = h8, onO.mk (rlF.mono s.fle).len (onB.dec (fun e => ⟨by rw [decide_eq_true_iff]; omega, rfl⟩) fun e => ⟨by simp; omega, rfl⟩), ?_⟩
  rintro h9 lc5 ⟨hc, rfl⟩
  refine onB.mk (fun e => ?_) fun e => ?_
  · obtain ⟨ej1, ej2⟩ := hc.1 e
    obtain ⟨y, hy⟩ := get_lt (l := X.l) (k := j) ej1
    obtain ⟨bb, oo, b1, b2, e3, e4, wl, wl2, wp, wp2, hact⟩ := st_cells rlF hy
    obtain ⟨y1, y2⟩ := w1 y (List.mem_of_getElem? hy)
    refine onO.mk e3 (onO.mk (rdH_sub (rdH_le s.fle e4) (o' := 1) (n' := 1) rfl) (onL.r1 wl.sc ?_))
    refine c18 (wl.mono s.fle) (by omega) y2 fun r6 h6 o6 => onRet.r o6.sc ?_
    have s6 := s.frz o6.1 o6.2.1
    have f6 := s.fgrow o6.1
    have row6 : OpRow (moreH h9 h6 F) r6 (goodL y.l) := o6.frozen
    have glen := good_len (l := y.l)
    have gok : ∀ o ∈ goodL y.l, mayO o = true ∧ Bytes8 o.key := fun o ho => ⟨good_may o ho, op_keys row6 o ho⟩
    have gopk : ∀ o ∈ goodL y.l, opOk o := fun o ho => may_opk (gok o ho).1
    generalize goodL y.l = G at *
    have gsz := recs_len fun o ho => (gok o ho).1
    refine c20 (l := G) s6 (mm.fmono f6) (VwO.frz row6) (by omega) gopk few (by omega) inv.fit (by show ops.length < _; omega) (by show sizeL (recsO ops) ≤ _; omega) fun F8 r8 a8 v8 Q8 h10 f8 s8 m8 u8 _ => onRet.i (c10 (onRet.i ?_))
    have wfew := writeS_few (recsO G) (L := L) few
    rw [show (recsO G).length = G.length from List.length_map _] at wfew
    have row8 := row6.mono f8
    have f08 := Hp.le_trans t.fle (Hp.le_trans f6 f8)
    have rw8 : RowP D.kOp F8 h.lo (Q8 16) yv ops := by rw [u8 16 (by omega)]; exact (t.row.mono f6).mono f8
    have hlen8 : (ops ++ G).length ≤ 6 * j + 6 := by rw [List.length_append]; omega
    have hok8 : ∀ o ∈ ops ++ G, mayO o = true ∧ Bytes8 o.key := fun o ho => (List.mem_append.1 ho).elim (tok o) (gok o)
    rcases appS_c (l := G) inv gok (by omega) with ⟨ee, inv8, cln8, ar8⟩ | ⟨ee, ar8, l8, al8⟩
    · rw [ee] at m8 ⊢
      generalize hE8 : (writeS E L (recsO G)).2.1 = E8 at *
      generalize hL8 : (writeS E L (recsO G)).2.2 = L8 at *
      have m8 : StM h.lo F8 Q8 w q dp r8 a8 v8 E8 L8 ⟨ops ++ G, sizeL (recsO (ops ++ G)), false⟩ := m8
      refine onB.pos rfl (s8.appN (i := 16) rw8 row8 (by omega) (by omega) fun yv11 h11 q11 s11 rw11 => onO.mk rfl (onO.mk (inc64 (by omega)) ⟨_, by show X.l.length - (j + 1) < X.l.length - j; omega, j + 1, F8, _, ops ++ G, rfl, by omega, rfl, rfl, rfl, by omega, f08, s11, ⟨q, r8, a8, v8, E8, L8, m8.same fun i hi => updQ_ne (by omega), inv8, wfew.mono (by omega)⟩, by rw [updQ_same]; exact rw11, by omega, hok8⟩))
    · rw [ee] at m8 ⊢
      generalize hE8 : (writeS E L (recsO G)).2.1 = E8 at *
      generalize hL8 : (writeS E L (recsO G)).2.2 = L8 at *
      have m8 : StM h.lo F8 Q8 w q dp r8 a8 v8 E8 L8 ⟨ops, sizeL (recsO ops), true⟩ := m8
      refine onB.neg rfl ⟨fun c h' => c = false ∧ ∃ (F9 : Hp) (Q9 : Nat → Hp) (a9 : Nat → AV), F8.le F9 ∧ Sep h.lo F9 Q9 h' ∧ DkA h.lo F9 Q9 0 dp a9 E8 ∧ RowP D.kOp F9 h.lo (Q9 16) yv ops, onB.neg rfl ?_, ?_⟩
      · refine c11 s8 m8 (by show ops.length < _; omega) fun r11 h11 o11 => onRet.r o11.sc ?_
        have s11 := s8.grow o11.1 o11.2.1
        refine c21 (a := r11) (la := ops) o11.row (s11.rows rw8) (by omega) (fun o ho => may_opk (tok o ho).1) (onRet.b (onB.neg (by simp) ?_))
        have fit8 : FitL L8 := by rw [← hL8]; exact writeS_fit _ inv.fit
        refine c20 (l := []) s11 m8 (VwO.frz nsO) (by simp) (fun o ho => by cases ho) wfew (by omega) fit8 (by show ops.length < _; omega) (by show sizeL (recsO ops) ≤ _; omega) fun F12 r12 a12 v12 Q12 h12 f12 s12 m12 u12 _ => onRet.i (c10 (onRet.i ?_))
        have eS : appS E8 L8 ⟨ops, sizeL (recsO ops), true⟩ [] = (10, E8, L8, ⟨ops, sizeL (recsO ops), true⟩) := by unfold appS; rw [if_pos rfl]
        rw [eS] at m12 ⊢
        exact ⟨rfl, F12, Q12, a12, f12, s12, m12.lg.dk, by rw [u12 16 (by omega)]; exact rw8.mono f12⟩
      rintro h18 _ ⟨rfl, F9, Q9, a9, f9, s9, d9, rw9⟩
      have len9 := (s9.rows rw9).len
      refine onB.neg rfl ⟨fun n h' => n = (ops.length : Nat) ∧ h' = h18, onO.mk len9 ⟨rfl, rfl⟩, ?_⟩
      rintro h19 _ ⟨rfl, rfl⟩
      refine copy_more s9 (s9.rows rw9) (row8.mono f9) (by omega) (by omega) (fun o ho => (tok o ho).1) fun F10 Q10 r10 h20 f10 s10 row10 u10 => onO.mk rfl ?_
      refine tail25 rl rf lf (low := ops.length) (all := ops ++ G) ⟨Hp.le_trans f08 (Hp.le_trans f9 f10), s10, row10, by omega, hok8, dp, a9, E8, rfl, (d9.fmono f10).same fun i _ _ => u10 i (by omega), l8, al8.mono fun y hy => ?_, wfew.mono (by omega)⟩ (fun _ => rfl)
      rcases hy with h | ⟨k, k1, k2⟩
      · exact ⟨ops.length, Nat.le_refl _, by simp, by rw [h, List.take_left]⟩
      · exact ⟨ops.length + k, by omega, by simp; omega, by rw [k2, List.take_append, List.take_of_length_le (l := ops) (by omega), Nat.add_sub_cancel_left]⟩
  · have len9 := (s.rows t.row).len
    refine ⟨fun n h' => n = (ops.length : Nat) ∧ h' = h9, onO.mk len9 ⟨rfl, rfl⟩, ?_⟩
    rintro h38 _ ⟨rfl, rfl⟩
    refine copy_more s (s.rows t.row) (nsO (h := F)) (by omega) (by simp) (fun o ho => (tok o ho).1) fun F10 Q10 r10 h20 f10 s10 row10 u10 => onO.mk rfl ?_
    rw [List.append_nil] at row10
    exact tail25 rl rf lf (low := ops.length) (all := ops) ⟨Hp.le_trans t.fle f10, s10, row10, by omega, tok, dp, a, E, rfl, (mm.lg.dk.fmono f10).same fun i _ _ => u10 i (by omega), inv.len, inv.all.mono fun y hy => ⟨ops.length, Nat.le_refl _, Nat.le_refl _, by rw [List.take_length]; exact hy⟩, few.mono (by omega)⟩ (fun _ => rfl)
end Go.Proofs.YtiidgjdogekpfaaAn
