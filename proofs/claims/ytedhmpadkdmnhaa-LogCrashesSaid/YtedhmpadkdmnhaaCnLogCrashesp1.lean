/- What the functions that the law reaches come to, down to the law itself. -/
import Derived.Test.YtedhmpadkdmnhaaCnLogCrashesp0
import Derived.Test.YtedhmpadkdmnhaaProg
set_option linter.unusedVariables false
set_option linter.unusedSimpArgs false
set_option maxRecDepth 100000
namespace Go.Proofs.YtedhmpadkdmnhaaAn
open Go
/- arras/arraslaw13.LogCrashes -/
theorem vc5 (a0 : AV) (a1 : AV) (h : Hp) (Post : AV → Hp → Prop) : vcCall Try.prog [16999999,
 19000057,
 31000073,
 45000101,
 48000007,
 53000126,
 70000014,
 77000160,
 80999999,
 83000186,
 85000193] 5 [(SV.ag [(SV.vv a0), (SV.vv a1)])] h Post = (
  ∀ (p0 : Nat),
  wpC Try.prog 14 [AV.agg [a0, a1]]
    (fun a0_1 h0 =>
      onRet [Sh.one Kd.bool] a0_1 fun lc0 =>
        onB lc0 (Post (AV.b true) h0)
          (wpC Try.prog 7 []
            (fun a1_1 h1 =>
              onRet [Sh.one Kd.ref] a1_1 fun a2 =>
                onO (nilP a2) fun lc1 =>
                  onB lc1 (Post (AV.b false) h1)
                    (onO (lenV a1) fun p1 =>
                      ∃ I0 : Hp → Prop,
                        onB (decide ((0 : Int) < ↑p1))
                            (onO (idxV a1 0 1) fun r0 =>
                              onO (rdH h1 r0.fst r0.snd 1) fun l0 =>
                                onL [Kd.int IntKind.i64] l0 fun n0 =>
                                  wpC Try.prog 18 [AV.i IntKind.i64 n0, AV.i IntKind.i64 40]
                                    (fun a3 h2 =>
                                      onRet [Sh.one (Kd.int IntKind.i64)] a3 fun n1 =>
                                        onO (intO BinOp.add IntKind.i64 1 n1) fun n2 => wpC Try.prog 20 [a2, AV.i IntKind.i64 n2] (fun a4 h3 => onTup [] a4 (I0 h3)) h2)
                                    h1)
                            (I0 h1) ∧
                          ∀ (h4 : Hp),
                            I0 h4 →
                              wpC Try.prog 6 [a2]
                                (fun a5 h5 =>
                                  onTup [Sh.one Kd.ref, Sh.one (Kd.int IntKind.i64)] a5 fun a6 n3 =>
                                    ∃ I1 : Bool → Hp → Prop,
                                      wpC Try.prog 8 [AV.i IntKind.i64 n3]
                                          (fun a7 h6 =>
                                            onRet [Sh.one (Kd.int IntKind.i64)] a7 fun n4 =>
                                              onB (!decide (n4 = 0))
                                                (wpC Try.prog 8 [AV.i IntKind.i64 n3]
                                                  (fun a8 h7 =>
                                                    onRet [Sh.one (Kd.int IntKind.i64)] a8 fun n5 =>
                                                      onB (!decide (n5 = 10)) (I1 true h7)
                                                        (onO (nilP a6) fun lc2 =>
                                                          wpC Try.prog 8 [AV.i IntKind.i64 n3] (fun a9 h8 => onRet [Sh.one (Kd.int IntKind.i64)] a9 fun n6 => I1 (!lc2 == !decide (n6 = 0)) h8) h7))
                                                  h6)
                                                (onO (nilP a6) fun lc3 =>
                                                  wpC Try.prog 8 [AV.i IntKind.i64 n3] (fun a10 h9 => onRet [Sh.one (Kd.int IntKind.i64)] a10 fun n7 => I1 (!lc3 == !decide (n7 = 0)) h9) h6))
                                          h5 ∧
                                        ∀ (h10 : Hp) (lc4 : Bool),
                                          I1 lc4 h10 →
                                            onB lc4 (Post (AV.b false) h10)
                                              (∀ (p2 : Nat),
                                                wpC Try.prog 8 [AV.i IntKind.i64 n3]
                                                  (fun a11 h11 =>
                                                    onRet [Sh.one (Kd.int IntKind.i64)] a11 fun n8 =>
                                                      h11.g p2 = none →
                                                        h11.lo.le p2 →
                                                          ∃ I2 : Nat → AV → Int → Bool → AV → Int → Hp → Prop,
                                                            (∃ p3, I2 p3 AV.ns n8 false (AV.sl p2 0 1 1 true 1) 0 (h11.put p2 [AV.ns])) ∧
                                                              ∀ (p4 : Nat) (h12 : Hp) (a12 : AV),
                                                                a12.sc = true →
                                                                  ∀ (n9 : Int) (lc5 : Bool) (a13 : AV),
                                                                    a13.sc = true →
                                                                      ∀ (n10 : Int),
                                                                        I2 p4 a12 n9 lc5 a13 n10 h12 →
                                                                          ∃ I3 : Bool → Hp → Prop,
                                                                            (onO (lenV a0) fun p5 =>
                                                                                onB (decide (n10 < ↑p5)) (onB (decide (n10 < 20)) (I3 (decide (n9 = 0)) h12) (I3 false h12)) (I3 false h12)) ∧
                                                                              ∀ (h13 : Hp) (lc6 : Bool),
                                                                                I3 lc6 h13 →
                                                                                  onB lc6
                                                                                    (onO (idxV a0 n10 4) fun r1 =>
                                                                                      onO (rdH h13 r1.fst r1.snd 4) fun l1 =>
                                                                                        onL [Kd.int IntKind.i64, Kd.str, Kd.ref, Kd.ref] l1 fun n11 l2 a14 a15 =>
                                                                                          ∀ (p6 : Nat),
                                                                                            wpC Try.prog 15 [a12, AV.agg [AV.i IntKind.i64 n11, AV.s l2, a14, a15]]
                                                                                              (fun a16 h14 =>
                                                                                                onTup [Sh.one Kd.ref, Sh.one (Kd.int IntKind.i64)] a16 fun a17 n12 =>
                                                                                                  wpC Try.prog 16 [a6, AV.agg [AV.i IntKind.i64 n11, AV.s l2, a14, a15]]
                                                                                                    (fun a18 h15 =>
                                                                                                      onRet [Sh.one (Kd.int IntKind.i64)] a18 fun n13 =>
                                                                                                        onB (decide (n13 = n12))
                                                                                                          (∃ I4 : Bool → Hp → Prop,
                                                                                                            onB (decide (n12 = 0))
                                                                                                                (wpC Try.prog 18 [AV.i IntKind.i64 n11, AV.i IntKind.i64 7]
                                                                                                                  (fun a19 h16 =>
                                                                                                                    onRet [Sh.one (Kd.int IntKind.i64)] a19 fun n14 => I4 (decide (4 ≤ n14)) h16)
                                                                                                                  h15)
                                                                                                                (I4 false h15) ∧
                                                                                                              ∀ (h17 : Hp) (lc7 : Bool),
                                                                                                                I4 lc7 h17 →
                                                                                                                  ∃ I5 : AV → Hp → Prop,
                                                                                                                    onB lc7 (I5 AV.ns h17) (I5 a13 h17) ∧
                                                                                                                      ∀ (h18 : Hp) (a20 : AV),
                                                                                                                        a20.sc = true →
                                                                                                                          I5 a20 h18 →
                                                                                                                            ∀ (p7 : Nat),
                                                                                                                              wpE (Eff.app a20 1 (Src.lit [a17]) 1)
                                                                                                                                (fun x0 h19 =>
                                                                                                                                  onO x0 fun a21 =>
                                                                                                                                    onO (intO BinOp.add IntKind.i64 n10 1) fun n15 =>
                                                                                                                                      ∃ p8, ltN p8 p4 ∧ I2 p8 a17 0 lc5 a21 n15 h19)
                                                                                                                                h18)
                                                                                                          (∃ I6 : Bool → Hp → Prop,
                                                                                                            onB (!decide (n13 = 10)) (I6 true h15)
                                                                                                                (wpC Try.prog 10 [a6]
                                                                                                                  (fun a22 h20 =>
                                                                                                                    onRet [Sh.one Kd.ref] a22 fun a23 =>
                                                                                                                      wpC Try.prog 12 [a23, a12]
                                                                                                                        (fun a24 h21 =>
                                                                                                                          onRet [Sh.one Kd.bool] a24 fun lc8 =>
                                                                                                                            onB (!lc8) (I6 true h21)
                                                                                                                              (wpC Try.prog 21 [a6]
                                                                                                                                (fun a25 h22 =>
                                                                                                                                  onRet [Sh.one (Kd.int IntKind.i64)] a25 fun n16 =>
                                                                                                                                    wpC Try.prog 8 [AV.i IntKind.i64 n16]
                                                                                                                                      (fun a26 h23 =>
                                                                                                                                        onRet [Sh.one (Kd.int IntKind.i64)] a26 fun n17 =>
                                                                                                                                          onB (!decide (n17 = 10)) (I6 true h23)
                                                                                                                                            (wpC Try.prog 9 [a6, AV.s [120]]
                                                                                                                                              (fun a27 h24 =>
                                                                                                                                                onRet [Sh.one (Kd.int IntKind.i64)] a27 fun n18 =>
                                                                                                                                                  wpC Try.prog 8 [AV.i IntKind.i64 n18]
                                                                                                                                                    (fun a28 h25 =>
                                                                                                                                                      onRet [Sh.one (Kd.int IntKind.i64)] a28 fun n19 =>
                                                                                                                                                        I6 (!decide (n19 = 10)) h25)
                                                                                                                                                    h24)
                                                                                                                                              h23))
                                                                                                                                      h22)
                                                                                                                                h21))
                                                                                                                        h20)
                                                                                                                  h15) ∧
                                                                                                              ∀ (h26 : Hp) (lc9 : Bool),
                                                                                                                I6 lc9 h26 →
                                                                                                                  onB lc9 (Post (AV.b false) h26)
                                                                                                                    (∀ (p9 : Nat),
                                                                                                                      wpE (Eff.app a13 1 (Src.lit [a17]) 1)
                                                                                                                        (fun x1 h27 =>
                                                                                                                          onO x1 fun a29 =>
                                                                                                                            onO (intO BinOp.add IntKind.i64 n10 1) fun n20 =>
                                                                                                                              ∃ p10, ltN p10 p4 ∧ I2 p10 a12 n13 lc5 a29 n20 h27)
                                                                                                                        h26)))
                                                                                                    h14)
                                                                                              h13)
                                                                                    (∃ I7 : Nat → AV → Bool → AV → Int → Hp → Prop,
                                                                                      (∃ p11, I7 p11 a2 lc5 a13 0 h13) ∧
                                                                                        ∀ (p12 : Nat) (h28 : Hp) (a30 : AV),
                                                                                          a30.sc = true →
                                                                                            ∀ (lc10 : Bool) (a31 : AV),
                                                                                              a31.sc = true →
                                                                                                ∀ (n21 : Int),
                                                                                                  I7 p12 a30 lc10 a31 n21 h28 →
                                                                                                    onB (decide (n21 < 4))
                                                                                                      (onO (lenV a0) fun p13 =>
                                                                                                        ∃ I8 : AV → Hp → Prop,
                                                                                                          onB (decide (n21 < ↑p13))
                                                                                                              (onO (idxV a0 n21 4) fun r2 =>
                                                                                                                onO (rdH h28 r2.fst (r2.snd + 3) 1) fun l3 => onL [Kd.ref] l3 fun a32 => I8 a32 h28)
                                                                                                              (I8 AV.ns h28) ∧
                                                                                                            ∀ (h29 : Hp) (a33 : AV),
                                                                                                              a33.sc = true →
                                                                                                                I8 a33 h29 →
                                                                                                                  wpC Try.prog 19 [a30, a33]
                                                                                                                    (fun a34 h30 =>
                                                                                                                      onRet [Sh.one Kd.ref] a34 fun a35 =>
                                                                                                                        onO (nilP a35) fun lc11 =>
                                                                                                                          onB lc11 (Post (AV.b false) h30)
                                                                                                                            (∃ I9 : Bool → Hp → Prop,
                                                                                                                              (onO (intO BinOp.add IntKind.i64 n21 1) fun n22 =>
                                                                                                                                  onO (lenV a1) fun p14 =>
                                                                                                                                    onB (decide (n22 < ↑p14)) (I9 (decide (n21 < 2)) h30)
                                                                                                                                      (I9 false h30)) ∧
                                                                                                                                ∀ (h31 : Hp) (lc12 : Bool),
                                                                                                                                  I9 lc12 h31 →
                                                                                                                                    ∃ I10 : Hp → Prop,
                                                                                                                                      onB lc12
                                                                                                                                          (onO (intO BinOp.add IntKind.i64 n21 1) fun n23 =>
                                                                                                                                            onO (idxV a1 n23 1) fun r3 =>
                                                                                                                                              onO (rdH h31 r3.fst r3.snd 1) fun l4 =>
                                                                                                                                                onL [Kd.int IntKind.i64] l4 fun n24 =>
                                                                                                                                                  wpC Try.prog 18
                                                                                                                                                    [AV.i IntKind.i64 n24, AV.i IntKind.i64 10]
                                                                                                                                                    (fun a36 h32 =>
                                                                                                                                                      onRet [Sh.one (Kd.int IntKind.i64)] a36 fun n25 =>
                                                                                                                                                        onO (intO BinOp.add IntKind.i64 1 n25)
                                                                                                                                                          fun n26 =>
                                                                                                                                                          wpC Try.prog 20 [a35, AV.i IntKind.i64 n26]
                                                                                                                                                            (fun a37 h33 => onTup [] a37 (I10 h33)) h32)
                                                                                                                                                    h31)
                                                                                                                                          (I10 h31) ∧
                                                                                                                                        ∀ (h34 : Hp),
                                                                                                                                          I10 h34 →
                                                                                                                                            wpC Try.prog 6 [a35]
                                                                                                                                              (fun a38 h35 =>
                                                                                                                                                onTup [Sh.one Kd.ref, Sh.one (Kd.int IntKind.i64)] a38
                                                                                                                                                  fun a39 n27 =>
                                                                                                                                                  ∃ I11 : Bool → Hp → Prop,
                                                                                                                                                    wpC Try.prog 8 [AV.i IntKind.i64 n27]
                                                                                                                                                        (fun a40 h36 =>
                                                                                                                                                          onRet [Sh.one (Kd.int IntKind.i64)] a40
                                                                                                                                                            fun n28 =>
                                                                                                                                                            onB (decide (n28 = 10))
                                                                                                                                                              (onB (decide (n21 < 2))
                                                                                                                                                                (onO (nilP a39) fun lc13 => I11 lc13 h36)
                                                                                                                                                                (I11 false h36))
                                                                                                                                                              (I11 false h36))
                                                                                                                                                        h35 ∧
                                                                                                                                                      ∀ (h37 : Hp) (lc14 : Bool),
                                                                                                                                                        I11 lc14 h37 →
                                                                                                                                                          onB lc14
                                                                                                                                                            (onO (intO BinOp.add IntKind.i64 n21 1)
                                                                                                                                                              fun n29 =>
                                                                                                                                                              ∃ p15,
                                                                                                                                                                ltN p15 p12 ∧
                                                                                                                                                                  I7 p15 a35 lc10 a31 n29 h37)
                                                                                                                                                            (∃ I12 : Bool → Hp → Prop,
                                                                                                                                                              wpC Try.prog 8 [AV.i IntKind.i64 n27]
                                                                                                                                                                  (fun a41 h38 =>
                                                                                                                                                                    onRet [Sh.one (Kd.int IntKind.i64)]
                                                                                                                                                                      a41 fun n30 =>
                                                                                                                                                                      onB (!decide (n30 = 0))
                                                                                                                                                                        (I12 true h38)
                                                                                                                                                                        (onO (nilP a39) fun lc15 =>
                                                                                                                                                                          I12 lc15 h38))
                                                                                                                                                                  h37 ∧
                                                                                                                                                                ∀ (h39 : Hp) (lc16 : Bool),
                                                                                                                                                                  I12 lc16 h39 →
                                                                                                                                                                    onB lc16 (Post (AV.b false) h39)
                                                                                                                                                                      (wpC Try.prog 10 [a39]
                                                                                                                                                                        (fun a42 h40 =>
                                                                                                                                                                          onRet [Sh.one Kd.ref] a42
                                                                                                                                                                            fun a43 =>
                                                                                                                                                                            ∃ I13 : Nat → Bool → Int → Hp → Prop,
                                                                                                                                                                              (∃ p16,
                                                                                                                                                                                  I13 p16 false 0 h40) ∧
                                                                                                                                                                                ∀ (p17 : Nat) (h41 : Hp)
                                                                                                                                                                                  (lc17 : Bool)
                                                                                                                                                                                  (n31 : Int),
                                                                                                                                                                                  I13 p17 lc17 n31 h41 →
                                                                                                                                                                                    onO (lenV a31)
                                                                                                                                                                                      fun p18 =>
                                                                                                                                                                                      onB
                                                                                                                                                                                        (decide
                                                                                                                                                                                          (n31 < ↑p18))
                                                                                                                                                                                        (onB lc17
                                                                                                                                                                                          (onO
                                                                                                                                                                                            (intO
                                                                                                                                                                                              BinOp.add
                                                                                                                                                                                              IntKind.i64
                                                                                                                                                                                              n31 1)
                                                                                                                                                                                            fun n32 =>
                                                                                                                                                                                            ∃ p19,
                                                                                                                                                                                              ltN p19
                                                                                                                                                                                                  p17 ∧
                                                                                                                                                                                                I13 p19
                                                                                                                                                                                                  true
                                                                                                                                                                                                  n32
                                                                                                                                                                                                  h41)
                                                                                                                                                                                          (onO
                                                                                                                                                                                            (idxV a31
                                                                                                                                                                                              n31 1)
                                                                                                                                                                                            fun r4 =>
                                                                                                                                                                                            onO
                                                                                                                                                                                              (rdH h41
                                                                                                                                                                                                r4.fst
                                                                                                                                                                                                r4.snd
                                                                                                                                                                                                1)
                                                                                                                                                                                              fun l5 =>
                                                                                                                                                                                              onL
                                                                                                                                                                                                [Kd.ref]
                                                                                                                                                                                                l5
                                                                                                                                                                                                fun
                                                                                                                                                                                                  a44 =>
                                                                                                                                                                                                wpC
                                                                                                                                                                                                  Try.prog
                                                                                                                                                                                                  12
                                                                                                                                                                                                  [a44,
                                                                                                                                                                                                    a43]
                                                                                                                                                                                                  (fun
                                                                                                                                                                                                      a45
                                                                                                                                                                                                      h42 =>
                                                                                                                                                                                                    onRet
                                                                                                                                                                                                      [Sh.one
                                                                                                                                                                                                          Kd.bool]
                                                                                                                                                                                                      a45
                                                                                                                                                                                                      fun
                                                                                                                                                                                                        lc18 =>
                                                                                                                                                                                                      onO
                                                                                                                                                                                                        (intO
                                                                                                                                                                                                          BinOp.add
                                                                                                                                                                                                          IntKind.i64
                                                                                                                                                                                                          n31
                                                                                                                                                                                                          1)
                                                                                                                                                                                                        fun
                                                                                                                                                                                                          n33 =>
                                                                                                                                                                                                        ∃
                                                                                                                                                                                                          p20,
                                                                                                                                                                                                          ltN
                                                                                                                                                                                                              p20
                                                                                                                                                                                                              p17 ∧
                                                                                                                                                                                                            I13
                                                                                                                                                                                                              p20
                                                                                                                                                                                                              lc18
                                                                                                                                                                                                              n33
                                                                                                                                                                                                              h42)
                                                                                                                                                                                                  h41))
                                                                                                                                                                                        (onB (!lc17)
                                                                                                                                                                                          (Post
                                                                                                                                                                                            (AV.b false)
                                                                                                                                                                                            h41)
                                                                                                                                                                                          (∀
                                                                                                                                                                                            (p21 : Nat),
                                                                                                                                                                                            onO
                                                                                                                                                                                              (intO
                                                                                                                                                                                                BinOp.add
                                                                                                                                                                                                IntKind.i64
                                                                                                                                                                                                n21 1)
                                                                                                                                                                                              fun n34 =>
                                                                                                                                                                                              h41.g
                                                                                                                                                                                                    p21 =
                                                                                                                                                                                                  none →
                                                                                                                                                                                                h41.lo.le
                                                                                                                                                                                                    p21 →
                                                                                                                                                                                                  ∃ p22,
                                                                                                                                                                                                    ltN
                                                                                                                                                                                                        p22
                                                                                                                                                                                                        p12 ∧
                                                                                                                                                                                                      I7
                                                                                                                                                                                                        p22
                                                                                                                                                                                                        a35
                                                                                                                                                                                                        lc10
                                                                                                                                                                                                        (AV.sl
                                                                                                                                                                                                          p21
                                                                                                                                                                                                          0
                                                                                                                                                                                                          1
                                                                                                                                                                                                          1
                                                                                                                                                                                                          true
                                                                                                                                                                                                          1)
                                                                                                                                                                                                        n34
                                                                                                                                                                                                        (h41.put
                                                                                                                                                                                                          p21
                                                                                                                                                                                                          [a43]))))
                                                                                                                                                                        h39)))
                                                                                                                                              h34))
                                                                                                                    h29)
                                                                                                      (wpC Try.prog 13 [] (fun a46 h43 => onRet [Sh.one Kd.bool] a46 fun lc19 => Post (AV.b lc19) h43)
                                                                                                        h28)))
                                                  h10))
                                h4))
            h0))
    h) := by kernel_rfl
end Go.Proofs.YtedhmpadkdmnhaaAn
