/- What the functions that the law reaches come to, down to the law itself. -/
import Derived.Test.YthnhdgcaolgdnaaBnF
import Derived.Test.YthnhdgcaolgdnaaProg
set_option linter.unusedVariables false
set_option linter.unusedSimpArgs false
set_option maxRecDepth 100000
namespace Go.Proofs.YthnhdgcaolgdnaaAn
open Go
/-- what 64 bits hold -/
def In64 (n : Int) : Prop := -9223372036854775808 ≤ n ∧ n < 9223372036854775808
namespace D
structure Stamp where
  time : Int
  rep : Int
deriving DecidableEq
def kStamp : Kn Stamp := Kn.iso (Kn.pair Kn.int Kn.int) fun s => (s.time, s.rep)
structure Op where
  stamp : Stamp
  seq : Int
  deps : List (Int)
  kind : Int
  node : Stamp
  parent : Stamp
  key : List Nat
  prop : Int
  value : Int
deriving DecidableEq
def kOp : Kn Op := Kn.iso (Kn.pair kStamp (Kn.pair Kn.int (Kn.pair (Kn.slice Kn.int 8) (Kn.pair Kn.int (Kn.pair kStamp (Kn.pair kStamp (Kn.pair Kn.str (Kn.pair Kn.int Kn.int)))))))) fun s => (s.stamp, s.seq, s.deps, s.kind, s.node, s.parent, s.key, s.prop, s.value)
structure StoreDo where
  act : Int
  l : List (Op)
  picks : List (Int)
deriving DecidableEq
def kStoreDo : Kn StoreDo := Kn.iso (Kn.pair Kn.int (Kn.pair (Kn.slice kOp 120) (Kn.slice Kn.int 8))) fun s => (s.act, s.l, s.picks)
structure StoreA where
  l : List (StoreDo)
  off : List (Int)
deriving DecidableEq
def kStoreA : Kn StoreA := Kn.iso (Kn.pair (Kn.slice kStoreDo 56) (Kn.slice Kn.int 8)) fun s => (s.l, s.off)
theorem oStamp : Opens Try.prog 35 kStamp := opens_struct (P := Try.prog) (t := 35) Try.underlying35 (by kernel_rfl) (by kernel_rfl) (opens_cons (opens_int (P := Try.prog) Try.underlying3) (opens_one (opens_int (P := Try.prog) Try.underlying3))) _ (fun a => ⟨a.1, a.2⟩) fun _ => rfl
theorem oOp : Opens Try.prog 37 kOp := opens_struct (P := Try.prog) (t := 37) Try.underlying37 (by kernel_rfl) (by kernel_rfl) (opens_cons oStamp (opens_cons (opens_int (P := Try.prog) Try.underlying3) (opens_cons (opens_slice (P := Try.prog) 8 Try.underlying23 (by kernel_rfl) (by decide) (by kernel_rfl) (opens_int (P := Try.prog) Try.underlying3)) (opens_cons (opens_int (P := Try.prog) Try.underlying3) (opens_cons oStamp (opens_cons oStamp (opens_cons (opens_string (P := Try.prog) Try.underlying9) (opens_cons (opens_int (P := Try.prog) Try.underlying3) (opens_one (opens_int (P := Try.prog) Try.underlying3)))))))))) _ (fun a => ⟨a.1, a.2.1, a.2.2.1, a.2.2.2.1, a.2.2.2.2.1, a.2.2.2.2.2.1, a.2.2.2.2.2.2.1, a.2.2.2.2.2.2.2.1, a.2.2.2.2.2.2.2.2⟩) fun _ => rfl
theorem oStoreDo : Opens Try.prog 146 kStoreDo := opens_struct (P := Try.prog) (t := 146) Try.underlying146 (by kernel_rfl) (by kernel_rfl) (opens_cons (opens_int (P := Try.prog) Try.underlying3) (opens_cons (opens_slice (P := Try.prog) 120 Try.underlying33 (by kernel_rfl) (by decide) (by kernel_rfl) oOp) (opens_one (opens_slice (P := Try.prog) 8 Try.underlying23 (by kernel_rfl) (by decide) (by kernel_rfl) (opens_int (P := Try.prog) Try.underlying3))))) _ (fun a => ⟨a.1, a.2.1, a.2.2⟩) fun _ => rfl
theorem oStoreA : Opens Try.prog 25 kStoreA := opens_struct (P := Try.prog) (t := 25) Try.underlying25 (by kernel_rfl) (by kernel_rfl) (opens_cons (opens_slice (P := Try.prog) 56 Try.underlying22 (by kernel_rfl) (by decide) (by kernel_rfl) oStoreDo) (opens_one (opens_slice (P := Try.prog) 8 Try.underlying23 (by kernel_rfl) (by decide) (by kernel_rfl) (opens_int (P := Try.prog) Try.underlying3)))) _ (fun a => ⟨a.1, a.2⟩) fun _ => rfl
theorem kStamp_open {h : Hp} {s : Stamp} {cs : List AV} (k : kStamp.K h s cs) : cs = [.i .i64 s.time, .i .i64 s.rep] ∧ In64 s.time ∧ In64 s.rep := by
  obtain ⟨lc0, r0, e0, q0, q1⟩ := k
  obtain ⟨z0, f0⟩ := q0
  obtain ⟨z1, f1⟩ := q1
  refine ⟨?_, f0, f1⟩
  rw [e0, z0, z1]; rfl
theorem kOp_open {h : Hp} {s : Op} {cs : List AV} (k : kOp.K h s cs) : ∃ a0, cs = [.i .i64 s.stamp.time, .i .i64 s.stamp.rep, .i .i64 s.seq, a0, .i .i64 s.kind, .i .i64 s.node.time, .i .i64 s.node.rep, .i .i64 s.parent.time, .i .i64 s.parent.rep, .s s.key, .i .i64 s.prop, .i .i64 s.value] ∧ In64 s.stamp.time ∧ In64 s.stamp.rep ∧ In64 s.seq ∧ (Kn.int.Row h a0 s.deps ∧ s.deps.length * 8 ≤ 140737488351232) ∧ In64 s.kind ∧ In64 s.node.time ∧ In64 s.node.rep ∧ In64 s.parent.time ∧ In64 s.parent.rep ∧ (s.key.length ≤ 140737488351232 ∧ ∀ x ∈ s.key, x < 256) ∧ In64 s.prop ∧ In64 s.value := by
  obtain ⟨lc0, r0, e0, q0, lc1, r1, e1, q1, lc2, r2, e2, q2, lc3, r3, e3, q3, lc4, r4, e4, q4, lc5, r5, e5, q5, lc6, r6, e6, q6, lc7, r7, e7, q7, q8⟩ := k
  obtain ⟨z0, f0_0, f0_1⟩ := kStamp_open q0
  obtain ⟨z1, f1⟩ := q1
  obtain ⟨b2, z2, f2⟩ := q2
  obtain ⟨z3, f3⟩ := q3
  obtain ⟨z4, f4_0, f4_1⟩ := kStamp_open q4
  obtain ⟨z5, f5_0, f5_1⟩ := kStamp_open q5
  obtain ⟨z6, f6⟩ := q6
  obtain ⟨z7, f7⟩ := q7
  obtain ⟨z8, f8⟩ := q8
  refine ⟨b2, ?_, f0_0, f0_1, f1, f2, f3, f4_0, f4_1, f5_0, f5_1, f6, f7, f8⟩
  rw [e0, z0, e1, z1, e2, z2, e3, z3, e4, z4, e5, z5, e6, z6, e7, z7, z8]; rfl
theorem kStoreA_open {h : Hp} {s : StoreA} {cs : List AV} (k : kStoreA.K h s cs) : ∃ a0 a1, cs = [a0, a1] ∧ (kStoreDo.Row h a0 s.l ∧ s.l.length * 56 ≤ 140737488351232) ∧ (Kn.int.Row h a1 s.off ∧ s.off.length * 8 ≤ 140737488351232) := by
  obtain ⟨lc0, r0, e0, q0, q1⟩ := k
  obtain ⟨b0, z0, f0⟩ := q0
  obtain ⟨b1, z1, f1⟩ := q1
  refine ⟨b0, b1, ?_, f0, f1⟩
  rw [e0, z0, z1]; rfl
end D
/- arras/prop.May -/
theorem vc73 (a : Int) (b : Int) (h : Hp) (Post : AV → Hp → Prop) : vcCall Try.prog [] 73 [(SV.ii .i64 a), (SV.ii .i64 b)] h Post = (
  wpC Try.prog 76 [AV.i IntKind.i64 a]
  (fun a0 h0 =>
    onRet [Sh.one Kd.bool] a0 fun lc0 =>
      onB lc0
        (wpC Try.prog 77 [AV.i IntKind.i64 a]
          (fun a1 h1 =>
            onRet [Sh.agg [Kd.int IntKind.i64, Kd.int IntKind.i64, Kd.int IntKind.i64, Kd.bool]] a1 fun n0 n1 n2 lc1 =>
              onB (decide (n0 ≤ b))
                (wpC Try.prog 77 [AV.i IntKind.i64 a]
                  (fun a2 h2 => onRet [Sh.agg [Kd.int IntKind.i64, Kd.int IntKind.i64, Kd.int IntKind.i64, Kd.bool]] a2 fun n3 n4 n5 lc2 => Post (AV.b (decide (b ≤ n4))) h2) h1)
                (Post (AV.b false) h1))
          h0)
        (Post (AV.b false) h0))
  h) := by kernel_rfl
/- arras/prop.Is -/
theorem vc76 (a : Int) (h : Hp) (Post : AV → Hp → Prop) : vcCall Try.prog [] 76 [(SV.ii .i64 a)] h Post = (
  onB (decide (0 ≤ a)) (Post (AV.b (decide (a < 19))) h) (Post (AV.b false) h)) := by kernel_rfl
/- arras/stamp.Is -/
theorem vc59 (a0 : Int) (a1 : Int) (h : Hp) (Post : AV → Hp → Prop) : vcCall Try.prog [] 59 [(SV.ag [(SV.ii .i64 a0), (SV.ii .i64 a1)])] h Post = (
  ∀ (p0 : Nat), onB (decide (1 ≤ a0)) (onB (decide (a0 ≤ 1099511627776)) (onB (decide (0 ≤ a1)) (Post (AV.b (decide (a1 < 16))) h) (Post (AV.b false) h)) (Post (AV.b false) h)) (Post (AV.b false) h)) := by kernel_rfl
/- arras/prop.ruleOf -/
theorem vc77 (a : Int) (h : Hp) (Post : AV → Hp → Prop) : vcCall Try.prog [] 77 [(SV.ii .i64 a)] h Post = (
  ∀ (p0 : Nat),
  onB (decide (a = 0)) (Post (AV.agg [AV.i IntKind.i64 0, AV.i IntKind.i64 2, AV.i IntKind.i64 0, AV.b false]) h)
    (onB (decide (a = 1))
      (onB (decide (a = 1)) (Post (AV.agg [AV.i IntKind.i64 0, AV.i IntKind.i64 1, AV.i IntKind.i64 0, AV.b false]) h)
        (onB (decide (a = 3))
          (onB (decide (a = 3)) (Post (AV.agg [AV.i IntKind.i64 (-1), AV.i IntKind.i64 1099511627776, AV.i IntKind.i64 (-1), AV.b false]) h)
            (onB (decide (a = 5))
              (onB (decide (a = 5)) (Post (AV.agg [AV.i IntKind.i64 0, AV.i IntKind.i64 1099511627776, AV.i IntKind.i64 0, AV.b false]) h)
                (onB (decide (a = 9)) (Post (AV.agg [AV.i IntKind.i64 0, AV.i IntKind.i64 1048576, AV.i IntKind.i64 0, AV.b false]) h)
                  (onB (decide (a = 10)) (Post (AV.agg [AV.i IntKind.i64 0, AV.i IntKind.i64 1048576, AV.i IntKind.i64 1, AV.b false]) h)
                    (onB (decide (a = 15)) (Post (AV.agg [AV.i IntKind.i64 0, AV.i IntKind.i64 4, AV.i IntKind.i64 0, AV.b false]) h)
                      (onB (decide (a = 16)) (Post (AV.agg [AV.i IntKind.i64 0, AV.i IntKind.i64 3, AV.i IntKind.i64 0, AV.b false]) h)
                        (onB (decide (a = 17)) (Post (AV.agg [AV.i IntKind.i64 0, AV.i IntKind.i64 16777215, AV.i IntKind.i64 0, AV.b true]) h)
                          (onB (decide (a = 18)) (Post (AV.agg [AV.i IntKind.i64 64, AV.i IntKind.i64 64000, AV.i IntKind.i64 1024, AV.b true]) h)
                            (Post (AV.agg [AV.i IntKind.i64 0, AV.i IntKind.i64 1073741824, AV.i IntKind.i64 0, AV.b false]) h))))))))
              (onB (decide (a = 7)) (Post (AV.agg [AV.i IntKind.i64 0, AV.i IntKind.i64 1099511627776, AV.i IntKind.i64 0, AV.b false]) h)
                (onB (decide (a = 9)) (Post (AV.agg [AV.i IntKind.i64 0, AV.i IntKind.i64 1048576, AV.i IntKind.i64 0, AV.b false]) h)
                  (onB (decide (a = 10)) (Post (AV.agg [AV.i IntKind.i64 0, AV.i IntKind.i64 1048576, AV.i IntKind.i64 1, AV.b false]) h)
                    (onB (decide (a = 15)) (Post (AV.agg [AV.i IntKind.i64 0, AV.i IntKind.i64 4, AV.i IntKind.i64 0, AV.b false]) h)
                      (onB (decide (a = 16)) (Post (AV.agg [AV.i IntKind.i64 0, AV.i IntKind.i64 3, AV.i IntKind.i64 0, AV.b false]) h)
                        (onB (decide (a = 17)) (Post (AV.agg [AV.i IntKind.i64 0, AV.i IntKind.i64 16777215, AV.i IntKind.i64 0, AV.b true]) h)
                          (onB (decide (a = 18)) (Post (AV.agg [AV.i IntKind.i64 64, AV.i IntKind.i64 64000, AV.i IntKind.i64 1024, AV.b true]) h)
                            (Post (AV.agg [AV.i IntKind.i64 0, AV.i IntKind.i64 1073741824, AV.i IntKind.i64 0, AV.b false]) h))))))))))
          (onB (decide (a = 4))
            (onB (decide (a = 4)) (Post (AV.agg [AV.i IntKind.i64 (-1), AV.i IntKind.i64 1099511627776, AV.i IntKind.i64 (-1), AV.b false]) h)
              (onB (decide (a = 5))
                (onB (decide (a = 5)) (Post (AV.agg [AV.i IntKind.i64 0, AV.i IntKind.i64 1099511627776, AV.i IntKind.i64 0, AV.b false]) h)
                  (onB (decide (a = 9)) (Post (AV.agg [AV.i IntKind.i64 0, AV.i IntKind.i64 1048576, AV.i IntKind.i64 0, AV.b false]) h)
                    (onB (decide (a = 10)) (Post (AV.agg [AV.i IntKind.i64 0, AV.i IntKind.i64 1048576, AV.i IntKind.i64 1, AV.b false]) h)
                      (onB (decide (a = 15)) (Post (AV.agg [AV.i IntKind.i64 0, AV.i IntKind.i64 4, AV.i IntKind.i64 0, AV.b false]) h)
                        (onB (decide (a = 16)) (Post (AV.agg [AV.i IntKind.i64 0, AV.i IntKind.i64 3, AV.i IntKind.i64 0, AV.b false]) h)
                          (onB (decide (a = 17)) (Post (AV.agg [AV.i IntKind.i64 0, AV.i IntKind.i64 16777215, AV.i IntKind.i64 0, AV.b true]) h)
                            (onB (decide (a = 18)) (Post (AV.agg [AV.i IntKind.i64 64, AV.i IntKind.i64 64000, AV.i IntKind.i64 1024, AV.b true]) h)
                              (Post (AV.agg [AV.i IntKind.i64 0, AV.i IntKind.i64 1073741824, AV.i IntKind.i64 0, AV.b false]) h))))))))
                (onB (decide (a = 7)) (Post (AV.agg [AV.i IntKind.i64 0, AV.i IntKind.i64 1099511627776, AV.i IntKind.i64 0, AV.b false]) h)
                  (onB (decide (a = 9)) (Post (AV.agg [AV.i IntKind.i64 0, AV.i IntKind.i64 1048576, AV.i IntKind.i64 0, AV.b false]) h)
                    (onB (decide (a = 10)) (Post (AV.agg [AV.i IntKind.i64 0, AV.i IntKind.i64 1048576, AV.i IntKind.i64 1, AV.b false]) h)
                      (onB (decide (a = 15)) (Post (AV.agg [AV.i IntKind.i64 0, AV.i IntKind.i64 4, AV.i IntKind.i64 0, AV.b false]) h)
                        (onB (decide (a = 16)) (Post (AV.agg [AV.i IntKind.i64 0, AV.i IntKind.i64 3, AV.i IntKind.i64 0, AV.b false]) h)
                          (onB (decide (a = 17)) (Post (AV.agg [AV.i IntKind.i64 0, AV.i IntKind.i64 16777215, AV.i IntKind.i64 0, AV.b true]) h)
                            (onB (decide (a = 18)) (Post (AV.agg [AV.i IntKind.i64 64, AV.i IntKind.i64 64000, AV.i IntKind.i64 1024, AV.b true]) h)
                              (Post (AV.agg [AV.i IntKind.i64 0, AV.i IntKind.i64 1073741824, AV.i IntKind.i64 0, AV.b false]) h))))))))))
            (onB (decide (a = 6))
              (onB (decide (a = 6)) (Post (AV.agg [AV.i IntKind.i64 (-1), AV.i IntKind.i64 1099511627776, AV.i IntKind.i64 (-1), AV.b false]) h)
                (onB (decide (a = 5))
                  (onB (decide (a = 5)) (Post (AV.agg [AV.i IntKind.i64 0, AV.i IntKind.i64 1099511627776, AV.i IntKind.i64 0, AV.b false]) h)
                    (onB (decide (a = 9)) (Post (AV.agg [AV.i IntKind.i64 0, AV.i IntKind.i64 1048576, AV.i IntKind.i64 0, AV.b false]) h)
                      (onB (decide (a = 10)) (Post (AV.agg [AV.i IntKind.i64 0, AV.i IntKind.i64 1048576, AV.i IntKind.i64 1, AV.b false]) h)
                        (onB (decide (a = 15)) (Post (AV.agg [AV.i IntKind.i64 0, AV.i IntKind.i64 4, AV.i IntKind.i64 0, AV.b false]) h)
                          (onB (decide (a = 16)) (Post (AV.agg [AV.i IntKind.i64 0, AV.i IntKind.i64 3, AV.i IntKind.i64 0, AV.b false]) h)
                            (onB (decide (a = 17)) (Post (AV.agg [AV.i IntKind.i64 0, AV.i IntKind.i64 16777215, AV.i IntKind.i64 0, AV.b true]) h)
                              (onB (decide (a = 18)) (Post (AV.agg [AV.i IntKind.i64 64, AV.i IntKind.i64 64000, AV.i IntKind.i64 1024, AV.b true]) h)
                                (Post (AV.agg [AV.i IntKind.i64 0, AV.i IntKind.i64 1073741824, AV.i IntKind.i64 0, AV.b false]) h))))))))
                  (onB (decide (a = 7)) (Post (AV.agg [AV.i IntKind.i64 0, AV.i IntKind.i64 1099511627776, AV.i IntKind.i64 0, AV.b false]) h)
                    (onB (decide (a = 9)) (Post (AV.agg [AV.i IntKind.i64 0, AV.i IntKind.i64 1048576, AV.i IntKind.i64 0, AV.b false]) h)
                      (onB (decide (a = 10)) (Post (AV.agg [AV.i IntKind.i64 0, AV.i IntKind.i64 1048576, AV.i IntKind.i64 1, AV.b false]) h)
                        (onB (decide (a = 15)) (Post (AV.agg [AV.i IntKind.i64 0, AV.i IntKind.i64 4, AV.i IntKind.i64 0, AV.b false]) h)
                          (onB (decide (a = 16)) (Post (AV.agg [AV.i IntKind.i64 0, AV.i IntKind.i64 3, AV.i IntKind.i64 0, AV.b false]) h)
                            (onB (decide (a = 17)) (Post (AV.agg [AV.i IntKind.i64 0, AV.i IntKind.i64 16777215, AV.i IntKind.i64 0, AV.b true]) h)
                              (onB (decide (a = 18)) (Post (AV.agg [AV.i IntKind.i64 64, AV.i IntKind.i64 64000, AV.i IntKind.i64 1024, AV.b true]) h)
                                (Post (AV.agg [AV.i IntKind.i64 0, AV.i IntKind.i64 1073741824, AV.i IntKind.i64 0, AV.b false]) h))))))))))
              (onB (decide (a = 8))
                (onB (decide (a = 8)) (Post (AV.agg [AV.i IntKind.i64 (-1), AV.i IntKind.i64 1099511627776, AV.i IntKind.i64 (-1), AV.b false]) h)
                  (onB (decide (a = 5))
                    (onB (decide (a = 5)) (Post (AV.agg [AV.i IntKind.i64 0, AV.i IntKind.i64 1099511627776, AV.i IntKind.i64 0, AV.b false]) h)
                      (onB (decide (a = 9)) (Post (AV.agg [AV.i IntKind.i64 0, AV.i IntKind.i64 1048576, AV.i IntKind.i64 0, AV.b false]) h)
                        (onB (decide (a = 10)) (Post (AV.agg [AV.i IntKind.i64 0, AV.i IntKind.i64 1048576, AV.i IntKind.i64 1, AV.b false]) h)
                          (onB (decide (a = 15)) (Post (AV.agg [AV.i IntKind.i64 0, AV.i IntKind.i64 4, AV.i IntKind.i64 0, AV.b false]) h)
                            (onB (decide (a = 16)) (Post (AV.agg [AV.i IntKind.i64 0, AV.i IntKind.i64 3, AV.i IntKind.i64 0, AV.b false]) h)
                              (onB (decide (a = 17)) (Post (AV.agg [AV.i IntKind.i64 0, AV.i IntKind.i64 16777215, AV.i IntKind.i64 0, AV.b true]) h)
                                (onB (decide (a = 18)) (Post (AV.agg [AV.i IntKind.i64 64, AV.i IntKind.i64 64000, AV.i IntKind.i64 1024, AV.b true]) h)
                                  (Post (AV.agg [AV.i IntKind.i64 0, AV.i IntKind.i64 1073741824, AV.i IntKind.i64 0, AV.b false]) h))))))))
                    (onB (decide (a = 7)) (Post (AV.agg [AV.i IntKind.i64 0, AV.i IntKind.i64 1099511627776, AV.i IntKind.i64 0, AV.b false]) h)
                      (onB (decide (a = 9)) (Post (AV.agg [AV.i IntKind.i64 0, AV.i IntKind.i64 1048576, AV.i IntKind.i64 0, AV.b false]) h)
                        (onB (decide (a = 10)) (Post (AV.agg [AV.i IntKind.i64 0, AV.i IntKind.i64 1048576, AV.i IntKind.i64 1, AV.b false]) h)
                          (onB (decide (a = 15)) (Post (AV.agg [AV.i IntKind.i64 0, AV.i IntKind.i64 4, AV.i IntKind.i64 0, AV.b false]) h)
                            (onB (decide (a = 16)) (Post (AV.agg [AV.i IntKind.i64 0, AV.i IntKind.i64 3, AV.i IntKind.i64 0, AV.b false]) h)
                              (onB (decide (a = 17)) (Post (AV.agg [AV.i IntKind.i64 0, AV.i IntKind.i64 16777215, AV.i IntKind.i64 0, AV.b true]) h)
                                (onB (decide (a = 18)) (Post (AV.agg [AV.i IntKind.i64 64, AV.i IntKind.i64 64000, AV.i IntKind.i64 1024, AV.b true]) h)
                                  (Post (AV.agg [AV.i IntKind.i64 0, AV.i IntKind.i64 1073741824, AV.i IntKind.i64 0, AV.b false]) h))))))))))
                (onB (decide (a = 11)) (Post (AV.agg [AV.i IntKind.i64 (-1), AV.i IntKind.i64 1099511627776, AV.i IntKind.i64 (-1), AV.b false]) h)
                  (onB (decide (a = 5))
                    (onB (decide (a = 5)) (Post (AV.agg [AV.i IntKind.i64 0, AV.i IntKind.i64 1099511627776, AV.i IntKind.i64 0, AV.b false]) h)
                      (onB (decide (a = 9)) (Post (AV.agg [AV.i IntKind.i64 0, AV.i IntKind.i64 1048576, AV.i IntKind.i64 0, AV.b false]) h)
                        (onB (decide (a = 10)) (Post (AV.agg [AV.i IntKind.i64 0, AV.i IntKind.i64 1048576, AV.i IntKind.i64 1, AV.b false]) h)
                          (onB (decide (a = 15)) (Post (AV.agg [AV.i IntKind.i64 0, AV.i IntKind.i64 4, AV.i IntKind.i64 0, AV.b false]) h)
                            (onB (decide (a = 16)) (Post (AV.agg [AV.i IntKind.i64 0, AV.i IntKind.i64 3, AV.i IntKind.i64 0, AV.b false]) h)
                              (onB (decide (a = 17)) (Post (AV.agg [AV.i IntKind.i64 0, AV.i IntKind.i64 16777215, AV.i IntKind.i64 0, AV.b true]) h)
                                (onB (decide (a = 18)) (Post (AV.agg [AV.i IntKind.i64 64, AV.i IntKind.i64 64000, AV.i IntKind.i64 1024, AV.b true]) h)
                                  (Post (AV.agg [AV.i IntKind.i64 0, AV.i IntKind.i64 1073741824, AV.i IntKind.i64 0, AV.b false]) h))))))))
                    (onB (decide (a = 7)) (Post (AV.agg [AV.i IntKind.i64 0, AV.i IntKind.i64 1099511627776, AV.i IntKind.i64 0, AV.b false]) h)
                      (onB (decide (a = 9)) (Post (AV.agg [AV.i IntKind.i64 0, AV.i IntKind.i64 1048576, AV.i IntKind.i64 0, AV.b false]) h)
                        (onB (decide (a = 10)) (Post (AV.agg [AV.i IntKind.i64 0, AV.i IntKind.i64 1048576, AV.i IntKind.i64 1, AV.b false]) h)
                          (onB (decide (a = 15)) (Post (AV.agg [AV.i IntKind.i64 0, AV.i IntKind.i64 4, AV.i IntKind.i64 0, AV.b false]) h)
                            (onB (decide (a = 16)) (Post (AV.agg [AV.i IntKind.i64 0, AV.i IntKind.i64 3, AV.i IntKind.i64 0, AV.b false]) h)
                              (onB (decide (a = 17)) (Post (AV.agg [AV.i IntKind.i64 0, AV.i IntKind.i64 16777215, AV.i IntKind.i64 0, AV.b true]) h)
                                (onB (decide (a = 18)) (Post (AV.agg [AV.i IntKind.i64 64, AV.i IntKind.i64 64000, AV.i IntKind.i64 1024, AV.b true]) h)
                                  (Post (AV.agg [AV.i IntKind.i64 0, AV.i IntKind.i64 1073741824, AV.i IntKind.i64 0, AV.b false]) h)))))))))))))))
      (onB (decide (a = 2)) (Post (AV.agg [AV.i IntKind.i64 0, AV.i IntKind.i64 1, AV.i IntKind.i64 0, AV.b false]) h)
        (onB (decide (a = 3))
          (onB (decide (a = 3)) (Post (AV.agg [AV.i IntKind.i64 (-1), AV.i IntKind.i64 1099511627776, AV.i IntKind.i64 (-1), AV.b false]) h)
            (onB (decide (a = 5))
              (onB (decide (a = 5)) (Post (AV.agg [AV.i IntKind.i64 0, AV.i IntKind.i64 1099511627776, AV.i IntKind.i64 0, AV.b false]) h)
                (onB (decide (a = 9)) (Post (AV.agg [AV.i IntKind.i64 0, AV.i IntKind.i64 1048576, AV.i IntKind.i64 0, AV.b false]) h)
                  (onB (decide (a = 10)) (Post (AV.agg [AV.i IntKind.i64 0, AV.i IntKind.i64 1048576, AV.i IntKind.i64 1, AV.b false]) h)
                    (onB (decide (a = 15)) (Post (AV.agg [AV.i IntKind.i64 0, AV.i IntKind.i64 4, AV.i IntKind.i64 0, AV.b false]) h)
                      (onB (decide (a = 16)) (Post (AV.agg [AV.i IntKind.i64 0, AV.i IntKind.i64 3, AV.i IntKind.i64 0, AV.b false]) h)
                        (onB (decide (a = 17)) (Post (AV.agg [AV.i IntKind.i64 0, AV.i IntKind.i64 16777215, AV.i IntKind.i64 0, AV.b true]) h)
                          (onB (decide (a = 18)) (Post (AV.agg [AV.i IntKind.i64 64, AV.i IntKind.i64 64000, AV.i IntKind.i64 1024, AV.b true]) h)
                            (Post (AV.agg [AV.i IntKind.i64 0, AV.i IntKind.i64 1073741824, AV.i IntKind.i64 0, AV.b false]) h))))))))
              (onB (decide (a = 7)) (Post (AV.agg [AV.i IntKind.i64 0, AV.i IntKind.i64 1099511627776, AV.i IntKind.i64 0, AV.b false]) h)
                (onB (decide (a = 9)) (Post (AV.agg [AV.i IntKind.i64 0, AV.i IntKind.i64 1048576, AV.i IntKind.i64 0, AV.b false]) h)
                  (onB (decide (a = 10)) (Post (AV.agg [AV.i IntKind.i64 0, AV.i IntKind.i64 1048576, AV.i IntKind.i64 1, AV.b false]) h)
                    (onB (decide (a = 15)) (Post (AV.agg [AV.i IntKind.i64 0, AV.i IntKind.i64 4, AV.i IntKind.i64 0, AV.b false]) h)
                      (onB (decide (a = 16)) (Post (AV.agg [AV.i IntKind.i64 0, AV.i IntKind.i64 3, AV.i IntKind.i64 0, AV.b false]) h)
                        (onB (decide (a = 17)) (Post (AV.agg [AV.i IntKind.i64 0, AV.i IntKind.i64 16777215, AV.i IntKind.i64 0, AV.b true]) h)
                          (onB (decide (a = 18)) (Post (AV.agg [AV.i IntKind.i64 64, AV.i IntKind.i64 64000, AV.i IntKind.i64 1024, AV.b true]) h)
                            (Post (AV.agg [AV.i IntKind.i64 0, AV.i IntKind.i64 1073741824, AV.i IntKind.i64 0, AV.b false]) h))))))))))
          (onB (decide (a = 4))
            (onB (decide (a = 4)) (Post (AV.agg [AV.i IntKind.i64 (-1), AV.i IntKind.i64 1099511627776, AV.i IntKind.i64 (-1), AV.b false]) h)
              (onB (decide (a = 5))
                (onB (decide (a = 5)) (Post (AV.agg [AV.i IntKind.i64 0, AV.i IntKind.i64 1099511627776, AV.i IntKind.i64 0, AV.b false]) h)
                  (onB (decide (a = 9)) (Post (AV.agg [AV.i IntKind.i64 0, AV.i IntKind.i64 1048576, AV.i IntKind.i64 0, AV.b false]) h)
                    (onB (decide (a = 10)) (Post (AV.agg [AV.i IntKind.i64 0, AV.i IntKind.i64 1048576, AV.i IntKind.i64 1, AV.b false]) h)
                      (onB (decide (a = 15)) (Post (AV.agg [AV.i IntKind.i64 0, AV.i IntKind.i64 4, AV.i IntKind.i64 0, AV.b false]) h)
                        (onB (decide (a = 16)) (Post (AV.agg [AV.i IntKind.i64 0, AV.i IntKind.i64 3, AV.i IntKind.i64 0, AV.b false]) h)
                          (onB (decide (a = 17)) (Post (AV.agg [AV.i IntKind.i64 0, AV.i IntKind.i64 16777215, AV.i IntKind.i64 0, AV.b true]) h)
                            (onB (decide (a = 18)) (Post (AV.agg [AV.i IntKind.i64 64, AV.i IntKind.i64 64000, AV.i IntKind.i64 1024, AV.b true]) h)
                              (Post (AV.agg [AV.i IntKind.i64 0, AV.i IntKind.i64 1073741824, AV.i IntKind.i64 0, AV.b false]) h))))))))
                (onB (decide (a = 7)) (Post (AV.agg [AV.i IntKind.i64 0, AV.i IntKind.i64 1099511627776, AV.i IntKind.i64 0, AV.b false]) h)
                  (onB (decide (a = 9)) (Post (AV.agg [AV.i IntKind.i64 0, AV.i IntKind.i64 1048576, AV.i IntKind.i64 0, AV.b false]) h)
                    (onB (decide (a = 10)) (Post (AV.agg [AV.i IntKind.i64 0, AV.i IntKind.i64 1048576, AV.i IntKind.i64 1, AV.b false]) h)
                      (onB (decide (a = 15)) (Post (AV.agg [AV.i IntKind.i64 0, AV.i IntKind.i64 4, AV.i IntKind.i64 0, AV.b false]) h)
                        (onB (decide (a = 16)) (Post (AV.agg [AV.i IntKind.i64 0, AV.i IntKind.i64 3, AV.i IntKind.i64 0, AV.b false]) h)
                          (onB (decide (a = 17)) (Post (AV.agg [AV.i IntKind.i64 0, AV.i IntKind.i64 16777215, AV.i IntKind.i64 0, AV.b true]) h)
                            (onB (decide (a = 18)) (Post (AV.agg [AV.i IntKind.i64 64, AV.i IntKind.i64 64000, AV.i IntKind.i64 1024, AV.b true]) h)
                              (Post (AV.agg [AV.i IntKind.i64 0, AV.i IntKind.i64 1073741824, AV.i IntKind.i64 0, AV.b false]) h))))))))))
            (onB (decide (a = 6))
              (onB (decide (a = 6)) (Post (AV.agg [AV.i IntKind.i64 (-1), AV.i IntKind.i64 1099511627776, AV.i IntKind.i64 (-1), AV.b false]) h)
                (onB (decide (a = 5))
                  (onB (decide (a = 5)) (Post (AV.agg [AV.i IntKind.i64 0, AV.i IntKind.i64 1099511627776, AV.i IntKind.i64 0, AV.b false]) h)
                    (onB (decide (a = 9)) (Post (AV.agg [AV.i IntKind.i64 0, AV.i IntKind.i64 1048576, AV.i IntKind.i64 0, AV.b false]) h)
                      (onB (decide (a = 10)) (Post (AV.agg [AV.i IntKind.i64 0, AV.i IntKind.i64 1048576, AV.i IntKind.i64 1, AV.b false]) h)
                        (onB (decide (a = 15)) (Post (AV.agg [AV.i IntKind.i64 0, AV.i IntKind.i64 4, AV.i IntKind.i64 0, AV.b false]) h)
                          (onB (decide (a = 16)) (Post (AV.agg [AV.i IntKind.i64 0, AV.i IntKind.i64 3, AV.i IntKind.i64 0, AV.b false]) h)
                            (onB (decide (a = 17)) (Post (AV.agg [AV.i IntKind.i64 0, AV.i IntKind.i64 16777215, AV.i IntKind.i64 0, AV.b true]) h)
                              (onB (decide (a = 18)) (Post (AV.agg [AV.i IntKind.i64 64, AV.i IntKind.i64 64000, AV.i IntKind.i64 1024, AV.b true]) h)
                                (Post (AV.agg [AV.i IntKind.i64 0, AV.i IntKind.i64 1073741824, AV.i IntKind.i64 0, AV.b false]) h))))))))
                  (onB (decide (a = 7)) (Post (AV.agg [AV.i IntKind.i64 0, AV.i IntKind.i64 1099511627776, AV.i IntKind.i64 0, AV.b false]) h)
                    (onB (decide (a = 9)) (Post (AV.agg [AV.i IntKind.i64 0, AV.i IntKind.i64 1048576, AV.i IntKind.i64 0, AV.b false]) h)
                      (onB (decide (a = 10)) (Post (AV.agg [AV.i IntKind.i64 0, AV.i IntKind.i64 1048576, AV.i IntKind.i64 1, AV.b false]) h)
                        (onB (decide (a = 15)) (Post (AV.agg [AV.i IntKind.i64 0, AV.i IntKind.i64 4, AV.i IntKind.i64 0, AV.b false]) h)
                          (onB (decide (a = 16)) (Post (AV.agg [AV.i IntKind.i64 0, AV.i IntKind.i64 3, AV.i IntKind.i64 0, AV.b false]) h)
                            (onB (decide (a = 17)) (Post (AV.agg [AV.i IntKind.i64 0, AV.i IntKind.i64 16777215, AV.i IntKind.i64 0, AV.b true]) h)
                              (onB (decide (a = 18)) (Post (AV.agg [AV.i IntKind.i64 64, AV.i IntKind.i64 64000, AV.i IntKind.i64 1024, AV.b true]) h)
                                (Post (AV.agg [AV.i IntKind.i64 0, AV.i IntKind.i64 1073741824, AV.i IntKind.i64 0, AV.b false]) h))))))))))
              (onB (decide (a = 8))
                (onB (decide (a = 8)) (Post (AV.agg [AV.i IntKind.i64 (-1), AV.i IntKind.i64 1099511627776, AV.i IntKind.i64 (-1), AV.b false]) h)
                  (onB (decide (a = 5))
                    (onB (decide (a = 5)) (Post (AV.agg [AV.i IntKind.i64 0, AV.i IntKind.i64 1099511627776, AV.i IntKind.i64 0, AV.b false]) h)
                      (onB (decide (a = 9)) (Post (AV.agg [AV.i IntKind.i64 0, AV.i IntKind.i64 1048576, AV.i IntKind.i64 0, AV.b false]) h)
                        (onB (decide (a = 10)) (Post (AV.agg [AV.i IntKind.i64 0, AV.i IntKind.i64 1048576, AV.i IntKind.i64 1, AV.b false]) h)
                          (onB (decide (a = 15)) (Post (AV.agg [AV.i IntKind.i64 0, AV.i IntKind.i64 4, AV.i IntKind.i64 0, AV.b false]) h)
                            (onB (decide (a = 16)) (Post (AV.agg [AV.i IntKind.i64 0, AV.i IntKind.i64 3, AV.i IntKind.i64 0, AV.b false]) h)
                              (onB (decide (a = 17)) (Post (AV.agg [AV.i IntKind.i64 0, AV.i IntKind.i64 16777215, AV.i IntKind.i64 0, AV.b true]) h)
                                (onB (decide (a = 18)) (Post (AV.agg [AV.i IntKind.i64 64, AV.i IntKind.i64 64000, AV.i IntKind.i64 1024, AV.b true]) h)
                                  (Post (AV.agg [AV.i IntKind.i64 0, AV.i IntKind.i64 1073741824, AV.i IntKind.i64 0, AV.b false]) h))))))))
                    (onB (decide (a = 7)) (Post (AV.agg [AV.i IntKind.i64 0, AV.i IntKind.i64 1099511627776, AV.i IntKind.i64 0, AV.b false]) h)
                      (onB (decide (a = 9)) (Post (AV.agg [AV.i IntKind.i64 0, AV.i IntKind.i64 1048576, AV.i IntKind.i64 0, AV.b false]) h)
                        (onB (decide (a = 10)) (Post (AV.agg [AV.i IntKind.i64 0, AV.i IntKind.i64 1048576, AV.i IntKind.i64 1, AV.b false]) h)
                          (onB (decide (a = 15)) (Post (AV.agg [AV.i IntKind.i64 0, AV.i IntKind.i64 4, AV.i IntKind.i64 0, AV.b false]) h)
                            (onB (decide (a = 16)) (Post (AV.agg [AV.i IntKind.i64 0, AV.i IntKind.i64 3, AV.i IntKind.i64 0, AV.b false]) h)
                              (onB (decide (a = 17)) (Post (AV.agg [AV.i IntKind.i64 0, AV.i IntKind.i64 16777215, AV.i IntKind.i64 0, AV.b true]) h)
                                (onB (decide (a = 18)) (Post (AV.agg [AV.i IntKind.i64 64, AV.i IntKind.i64 64000, AV.i IntKind.i64 1024, AV.b true]) h)
                                  (Post (AV.agg [AV.i IntKind.i64 0, AV.i IntKind.i64 1073741824, AV.i IntKind.i64 0, AV.b false]) h))))))))))
                (onB (decide (a = 11)) (Post (AV.agg [AV.i IntKind.i64 (-1), AV.i IntKind.i64 1099511627776, AV.i IntKind.i64 (-1), AV.b false]) h)
                  (onB (decide (a = 5))
                    (onB (decide (a = 5)) (Post (AV.agg [AV.i IntKind.i64 0, AV.i IntKind.i64 1099511627776, AV.i IntKind.i64 0, AV.b false]) h)
                      (onB (decide (a = 9)) (Post (AV.agg [AV.i IntKind.i64 0, AV.i IntKind.i64 1048576, AV.i IntKind.i64 0, AV.b false]) h)
                        (onB (decide (a = 10)) (Post (AV.agg [AV.i IntKind.i64 0, AV.i IntKind.i64 1048576, AV.i IntKind.i64 1, AV.b false]) h)
                          (onB (decide (a = 15)) (Post (AV.agg [AV.i IntKind.i64 0, AV.i IntKind.i64 4, AV.i IntKind.i64 0, AV.b false]) h)
                            (onB (decide (a = 16)) (Post (AV.agg [AV.i IntKind.i64 0, AV.i IntKind.i64 3, AV.i IntKind.i64 0, AV.b false]) h)
                              (onB (decide (a = 17)) (Post (AV.agg [AV.i IntKind.i64 0, AV.i IntKind.i64 16777215, AV.i IntKind.i64 0, AV.b true]) h)
                                (onB (decide (a = 18)) (Post (AV.agg [AV.i IntKind.i64 64, AV.i IntKind.i64 64000, AV.i IntKind.i64 1024, AV.b true]) h)
                                  (Post (AV.agg [AV.i IntKind.i64 0, AV.i IntKind.i64 1073741824, AV.i IntKind.i64 0, AV.b false]) h))))))))
                    (onB (decide (a = 7)) (Post (AV.agg [AV.i IntKind.i64 0, AV.i IntKind.i64 1099511627776, AV.i IntKind.i64 0, AV.b false]) h)
                      (onB (decide (a = 9)) (Post (AV.agg [AV.i IntKind.i64 0, AV.i IntKind.i64 1048576, AV.i IntKind.i64 0, AV.b false]) h)
                        (onB (decide (a = 10)) (Post (AV.agg [AV.i IntKind.i64 0, AV.i IntKind.i64 1048576, AV.i IntKind.i64 1, AV.b false]) h)
                          (onB (decide (a = 15)) (Post (AV.agg [AV.i IntKind.i64 0, AV.i IntKind.i64 4, AV.i IntKind.i64 0, AV.b false]) h)
                            (onB (decide (a = 16)) (Post (AV.agg [AV.i IntKind.i64 0, AV.i IntKind.i64 3, AV.i IntKind.i64 0, AV.b false]) h)
                              (onB (decide (a = 17)) (Post (AV.agg [AV.i IntKind.i64 0, AV.i IntKind.i64 16777215, AV.i IntKind.i64 0, AV.b true]) h)
                                (onB (decide (a = 18)) (Post (AV.agg [AV.i IntKind.i64 64, AV.i IntKind.i64 64000, AV.i IntKind.i64 1024, AV.b true]) h)
                                  (Post (AV.agg [AV.i IntKind.i64 0, AV.i IntKind.i64 1073741824, AV.i IntKind.i64 0, AV.b false]) h))))))))))))))))) := by kernel_rfl
def isS (s : D.Stamp) : Bool := decide (1 ≤ s.time) && (decide (s.time ≤ 1099511627776) && (decide (0 ≤ s.rep) && decide (s.rep < 16)))
def propP (a : Int) : Bool := decide (0 ≤ a) && decide (a < 19)
def lowP : Nat → Int
  | 3 | 4 | 6 | 8 | 11 => -1
  | 18 => 64
  | _ => 0
def highP : Nat → Int
  | 0 => 2 | 1 | 2 => 1
  | 3 | 4 | 5 | 6 | 7 | 8 | 11 => 1099511627776
  | 9 | 10 => 1048576
  | 12 | 13 | 14 => 1073741824
  | 15 => 4 | 16 => 3 | 17 => 16777215 | 18 => 64000
  | _ => 0
def plainP : Nat → Int
  | 3 | 4 | 6 | 8 | 11 => -1
  | 10 => 1
  | 18 => 1024
  | _ => 0
def goesP : Nat → Bool
  | 17 | 18 => true
  | _ => false
def mayP (a b : Int) : Bool := propP a && (decide (lowP a.toNat ≤ b) && decide (b ≤ highP a.toNat))
section
variable {h : Hp} {Post : AV → Hp → Prop}
theorem c59 {s : D.Stamp} (k : Post (.b (isS s)) h) : wpC Try.prog 59 [.agg [.i .i64 s.time, .i .i64 s.rep]] Post h := by
  refine call_sound (args := [.ag [.ii .i64 s.time, .ii .i64 s.rep]]) (cuts := []) ⟨⟨trivial, trivial, trivial⟩, trivial⟩ ?_
  rw [vc59]
  intro _
  unfold isS at k
  refine onB.dec (fun e => onB.dec (fun e1 => onB.dec (fun e2 => ?_) (fun e2 => ?_)) (fun e1 => ?_)) (fun e => ?_)
  · simpa only [e, e1, e2, decide_true, Bool.true_and] using k
  · simpa only [e, e1, e2, decide_true, decide_false, Bool.true_and, Bool.false_and] using k
  · simpa only [e, e1, decide_true, decide_false, Bool.true_and, Bool.false_and] using k
  · simpa only [e, decide_false, Bool.false_and] using k
end
section
variable {h : Hp} {Post : AV → Hp → Prop}
theorem c76 {a : Int} (k : Post (.b (propP a)) h) : wpC Try.prog 76 [.i .i64 a] Post h := by
  refine call_sound (args := [.ii .i64 a]) (cuts := []) ⟨trivial, trivial⟩ ?_
  rw [vc76]
  unfold propP at k
  refine onB.dec (fun e => ?_) (fun e => ?_)
  · simpa only [e, decide_true, Bool.true_and] using k
  · simpa only [e, decide_false, Bool.false_and] using k
theorem prop_cases {a : Int} (h0 : 0 ≤ a) (h1 : a < 19) : a = 0 ∨ a = 1 ∨ a = 2 ∨ a = 3 ∨ a = 4 ∨ a = 5 ∨ a = 6 ∨ a = 7 ∨ a = 8 ∨ a = 9 ∨ a = 10 ∨ a = 11 ∨ a = 12 ∨ a = 13 ∨ a = 14 ∨ a = 15 ∨ a = 16 ∨ a = 17 ∨ a = 18 := by omega
theorem c77 {a : Int} (h0 : 0 ≤ a) (h1 : a < 19) (k : Post (.agg [.i .i64 (lowP a.toNat), .i .i64 (highP a.toNat), .i .i64 (plainP a.toNat), .b (goesP a.toNat)]) h) : wpC Try.prog 77 [.i .i64 a] Post h := by
  refine call_sound (args := [.ii .i64 a]) (cuts := []) ⟨trivial, trivial⟩ ?_
  rw [vc77]
  intro _
  rcases prop_cases h0 h1 with rfl | rfl | rfl | rfl | rfl | rfl | rfl | rfl | rfl | rfl | rfl | rfl | rfl | rfl | rfl | rfl | rfl | rfl | rfl
  all_goals repeat' first
    | exact k
    | refine onB.pos rfl ?_
    | refine onB.neg rfl ?_
theorem c73 {a b : Int} (k : Post (.b (mayP a b)) h) : wpC Try.prog 73 [.i .i64 a, .i .i64 b] Post h := by
  refine call_sound (args := [.ii .i64 a, .ii .i64 b]) (cuts := []) ⟨trivial, trivial, trivial⟩ ?_
  rw [vc73]
  refine c76 (onRet.b ?_)
  unfold mayP at k
  refine onB.mk (fun e => ?_) (fun e => ?_)
  · have hr : 0 ≤ a ∧ a < 19 := by simpa [propP] using e
    refine c77 hr.1 hr.2 ?_
    refine onB.dec (fun e1 => c77 hr.1 hr.2 ?_) (fun e1 => ?_)
    · rw [e, decide_eq_true e1, Bool.true_and, Bool.true_and] at k; exact k
    · rw [e, decide_eq_false e1] at k; exact k
  · rw [e] at k; exact k
end
theorem drop_of {α : Type} {l : List α} {k : Nat} {x : α} (h : l[k]? = some x) : l.drop k = x :: l.drop (k + 1) := by
  obtain ⟨hk, e⟩ := List.getElem?_eq_some_iff.1 h
  rw [List.drop_eq_getElem_cons hk, e]
theorem get_lt {α : Type} {l : List α} {k : Nat} (h : k < l.length) : ∃ x, l[k]? = some x := ⟨_, List.getElem?_eq_getElem h⟩
theorem take_succ' {α : Type} {l : List α} {k : Nat} {x : α} (h : l[k]? = some x) : l.take (k + 1) = l.take k ++ [x] := by
  rw [List.take_add_one, h]; rfl
section
variable {h : Hp} {a : AV}
theorem Kn.Row.all {α : Type} {d : Kn α} {h : Hp} {a : AV} {l : List α} (r : d.Row h a l) {x : α} (hx : x ∈ l) : ∃ c, d.K h x c := by
  obtain ⟨css, _, r2⟩ := r
  obtain ⟨i, hi, rfl⟩ := List.getElem_of_mem hx
  obtain ⟨c, _, k⟩ := r2.get (List.getElem?_eq_getElem hi)
  exact ⟨c, k⟩
theorem inc64 {k : Nat} (h : k < 1000000000000) : intO .add .i64 (k : Int) 1 = some ((k + 1 : Nat) : Int) := by
  rw [add64 (by omega) (by omega)]; rfl
end
/- arras/key.Is -/
theorem vc72 (a : List Nat) (h : Hp) (Post : AV → Hp → Prop) : vcCall Try.prog [] 72 [(SV.ss a)] h Post = (
  onB (decide ((1 : Int) ≤ ↑a.length))
  (onB (decide ((↑a.length : Int) ≤ 64))
    (onO (intO BinOp.sub IntKind.i64 (↑a.length) 1) fun n0 => onO ((natI n0).bind fun j => nthL a j) fun p1 => Post (AV.b !decide ((↑p1 : Int) = 0)) h)
    (Post (AV.b false) h))
  (Post (AV.b false) h)) := by kernel_rfl
/- arras/stamp.Place -/
theorem vc71 (a0 : Int) (a1 : Int) (h : Hp) (Post : AV → Hp → Prop) : vcCall Try.prog [] 71 [(SV.ag [(SV.ii .i64 a0), (SV.ii .i64 a1)])] h Post = (
  ∀ (p0 : Nat),
  wpC Try.prog 59 [AV.agg [AV.i IntKind.i64 a0, AV.i IntKind.i64 a1]]
    (fun a0_1 h0 =>
      onRet [Sh.one Kd.bool] a0_1 fun lc0 =>
        onB lc0 (Post (AV.b true) h0)
          (wpC Try.prog 74 []
            (fun a1_1 h1 =>
              onRet [Sh.agg [Kd.int IntKind.i64, Kd.int IntKind.i64]] a1_1 fun n0 n1 =>
                onB (decide (a0 = n0) && decide (a1 = n1)) (Post (AV.b true) h1)
                  (wpC Try.prog 75 [] (fun a2 h2 => onRet [Sh.agg [Kd.int IntKind.i64, Kd.int IntKind.i64]] a2 fun n2 n3 => Post (AV.b (decide (a0 = n2) && decide (a1 = n3))) h2) h1))
            h0))
    h) := by kernel_rfl
/- arras/stamp.Root -/
theorem vc74  (h : Hp) (Post : AV → Hp → Prop) : vcCall Try.prog [] 74 [] h Post = (
  ∀ (p0 : Nat), Post (AV.agg [AV.i IntKind.i64 0, AV.i IntKind.i64 0]) h) := by kernel_rfl
/- arras/stamp.Trash -/
theorem vc75  (h : Hp) (Post : AV → Hp → Prop) : vcCall Try.prog [] 75 [] h Post = (
  ∀ (p0 : Nat), Post (AV.agg [AV.i IntKind.i64 0, AV.i IntKind.i64 1]) h) := by kernel_rfl
/- arras/op.May -/
theorem vc41 (a0 : Int) (a1 : Int) (a2 : Int) (a3 : AV) (a4 : Int) (a5 : Int) (a6 : Int) (a7 : Int) (a8 : Int) (a9 : List Nat) (a10 : Int) (a11 : Int) (h : Hp) (Post : AV → Hp → Prop) : vcCall Try.prog [] 41 [(SV.ag [(SV.ii .i64 a0), (SV.ii .i64 a1), (SV.ii .i64 a2), (SV.vv a3), (SV.ii .i64 a4), (SV.ii .i64 a5), (SV.ii .i64 a6), (SV.ii .i64 a7), (SV.ii .i64 a8), (SV.ss a9), (SV.ii .i64 a10), (SV.ii .i64 a11)])] h Post = (
  ∀ (p0 : Nat),
  wpC Try.prog 59 [AV.agg [AV.i IntKind.i64 a0, AV.i IntKind.i64 a1]]
    (fun a0_1 h0 =>
      onRet [Sh.one Kd.bool] a0_1 fun lc0 =>
        onB (!lc0) (Post (AV.b false) h0)
          (wpC Try.prog 60 [a3]
            (fun a1_1 h1 =>
              onRet [Sh.one Kd.bool] a1_1 fun lc1 =>
                onB (!lc1) (Post (AV.b false) h1)
                  (onO (lenV a3) fun p1 =>
                    onB (decide ((↑p1 : Int) ≤ a1)) (Post (AV.b false) h1)
                      (wpC Try.prog 59 [AV.agg [AV.i IntKind.i64 a5, AV.i IntKind.i64 a6]]
                        (fun a2_1 h2 =>
                          onRet [Sh.one Kd.bool] a2_1 fun lc2 =>
                            onB (!lc2) (Post (AV.b false) h2)
                              (onO (idxV a3 a1 1) fun r0 =>
                                onO (rdH h2 r0.fst r0.snd 1) fun l0 =>
                                  onL [Kd.int IntKind.i64] l0 fun n0 =>
                                    onO (intO BinOp.add IntKind.i64 n0 1) fun n1 =>
                                      onB (decide (a2 = n1))
                                        (onB (decide (a2 ≤ 1099511627776))
                                          (wpC Try.prog 61
                                            [AV.agg
                                                [AV.i IntKind.i64 a0, AV.i IntKind.i64 a1, AV.i IntKind.i64 a2, a3, AV.i IntKind.i64 a4, AV.i IntKind.i64 a5, AV.i IntKind.i64 a6, AV.i IntKind.i64 a7,
                                                  AV.i IntKind.i64 a8, AV.s a9, AV.i IntKind.i64 a10, AV.i IntKind.i64 a11]]
                                            (fun a3 h3 => onRet [Sh.one Kd.bool] a3 fun lc3 => Post (AV.b lc3) h3) h2)
                                          (Post (AV.b false) h2))
                                        (Post (AV.b false) h2)))
                        h1)))
            h0))
    h) := by kernel_rfl
/- arras/op.kind -/
theorem vc61 (a0 : Int) (a1 : Int) (a2 : Int) (a3 : AV) (a4 : Int) (a5 : Int) (a6 : Int) (a7 : Int) (a8 : Int) (a9 : List Nat) (a10 : Int) (a11 : Int) (h : Hp) (Post : AV → Hp → Prop) : vcCall Try.prog [] 61 [(SV.ag [(SV.ii .i64 a0), (SV.ii .i64 a1), (SV.ii .i64 a2), (SV.vv a3), (SV.ii .i64 a4), (SV.ii .i64 a5), (SV.ii .i64 a6), (SV.ii .i64 a7), (SV.ii .i64 a8), (SV.ss a9), (SV.ii .i64 a10), (SV.ii .i64 a11)])] h Post = (
  ∀ (p0 : Nat),
  onB (decide (a4 = 1))
    (wpC Try.prog 71 [AV.agg [AV.i IntKind.i64 a7, AV.i IntKind.i64 a8]]
      (fun a0 h0 =>
        onRet [Sh.one Kd.bool] a0 fun lc0 =>
          onB lc0
            (wpC Try.prog 72 [AV.s a9]
              (fun a1 h1 => onRet [Sh.one Kd.bool] a1 fun lc1 => onB lc1 (onB (decide (a10 = 0)) (Post (AV.b (decide (a11 = 0))) h1) (Post (AV.b false) h1)) (Post (AV.b false) h1)) h0)
            (Post (AV.b false) h0))
      h)
    (onB (decide (a4 = 2))
      (wpC Try.prog 73 [AV.i IntKind.i64 a10, AV.i IntKind.i64 a11]
        (fun a2 h2 =>
          onRet [Sh.one Kd.bool] a2 fun lc2 =>
            onB lc2
              (wpC Try.prog 74 []
                (fun a3 h3 =>
                  onRet [Sh.agg [Kd.int IntKind.i64, Kd.int IntKind.i64]] a3 fun n0 n1 =>
                    onB (decide (a7 = n0) && decide (a8 = n1)) (Post (AV.b (decide (a9 = bytesL { data := #[] }))) h3) (Post (AV.b false) h3))
                h2)
              (Post (AV.b false) h2))
        h)
      (Post (AV.b false) h))) := by kernel_rfl
/- arras/have.Is -/
theorem vc60 (a : AV) (h : Hp) (Post : AV → Hp → Prop) : vcCall Try.prog [0] 60 [(SV.vv a)] h Post = (
  ∃ I0 : Nat → Int → Bool → Hp → Prop,
  (∃ p0, I0 p0 0 false h) ∧
    ∀ (p1 : Nat) (h0 : Hp) (n0 : Int) (lc0 : Bool),
      I0 p1 n0 lc0 h0 →
        Dup
          (onO (lenV a) fun p2 =>
            onB (decide (n0 = ↑p2)) (onB (decide (1 ≤ n0)) (Post (AV.b (decide (n0 ≤ 16))) h0) (Post (AV.b false) h0))
              (onO (idxV a n0 1) fun r0 =>
                onO (rdH h0 r0.fst r0.snd 1) fun l0 =>
                  onL [Kd.int IntKind.i64] l0 fun n1 =>
                    onB (decide (0 ≤ n1))
                      (onO (idxV a n0 1) fun r1 =>
                        onO (rdH h0 r1.fst r1.snd 1) fun l1 =>
                          onL [Kd.int IntKind.i64] l1 fun n2 =>
                            onB (decide (n2 ≤ 1099511627776)) (onO (intO BinOp.add IntKind.i64 n0 1) fun n3 => ∃ p3, ltN p3 p1 ∧ I0 p3 n3 lc0 h0) (Post (AV.b false) h0))
                      (Post (AV.b false) h0)))) := by kernel_rfl
/- arras/arrasref0.EqNumbers -/
theorem vc35 (a : AV) (b : AV) (h : Hp) (Post : AV → Hp → Prop) : vcCall Try.prog [] 35 [(SV.vv a), (SV.vv b)] h Post = (
  onO (lenV a) fun p0 =>
  onO (lenV b) fun p1 =>
    onB (!decide ((↑p0 : Int) = ↑p1)) (Post (AV.b false) h)
      (∃ I0 : Nat → Bool → Int → Hp → Prop,
        (∃ p2, I0 p2 false 0 h) ∧
          ∀ (p3 : Nat) (h0 : Hp) (lc0 : Bool) (n0 : Int),
            I0 p3 lc0 n0 h0 →
              onO (lenV a) fun p4 =>
                onB (decide (n0 < ↑p4))
                  (onO (idxV a n0 1) fun r0 =>
                    onO (rdH h0 r0.fst r0.snd 1) fun l0 =>
                      onL [Kd.int IntKind.i64] l0 fun n1 =>
                        onO (idxV b n0 1) fun r1 =>
                          onO (rdH h0 r1.fst r1.snd 1) fun l1 =>
                            onL [Kd.int IntKind.i64] l1 fun n2 => onB (!decide (n1 = n2)) (Post (AV.b false) h0) (onO (intO BinOp.add IntKind.i64 n0 1) fun n3 => ∃ p5, ltN p5 p3 ∧ I0 p5 lc0 n3 h0))
                  (Post (AV.b true) h0))) := by kernel_rfl
/- arras/arrasref0.EqOp -/
theorem vc22 (a0 : Int) (a1 : Int) (a2 : Int) (a3 : AV) (a4 : Int) (a5 : Int) (a6 : Int) (a7 : Int) (a8 : Int) (a9 : List Nat) (a10 : Int) (a11 : Int) (b0 : Int) (b1 : Int) (b2 : Int) (b3 : AV) (b4 : Int) (b5 : Int) (b6 : Int) (b7 : Int) (b8 : Int) (b9 : List Nat) (b10 : Int) (b11 : Int) (h : Hp) (Post : AV → Hp → Prop) : vcCall Try.prog [] 22 [(SV.ag [(SV.ii .i64 a0), (SV.ii .i64 a1), (SV.ii .i64 a2), (SV.vv a3), (SV.ii .i64 a4), (SV.ii .i64 a5), (SV.ii .i64 a6), (SV.ii .i64 a7), (SV.ii .i64 a8), (SV.ss a9), (SV.ii .i64 a10), (SV.ii .i64 a11)]), (SV.ag [(SV.ii .i64 b0), (SV.ii .i64 b1), (SV.ii .i64 b2), (SV.vv b3), (SV.ii .i64 b4), (SV.ii .i64 b5), (SV.ii .i64 b6), (SV.ii .i64 b7), (SV.ii .i64 b8), (SV.ss b9), (SV.ii .i64 b10), (SV.ii .i64 b11)])] h Post = (
  ∀ (p0 p1 : Nat),
  onB (decide (a0 = b0) && decide (a1 = b1))
    (onB (decide (a2 = b2))
      (wpC Try.prog 35 [a3, b3]
        (fun a0 h0 =>
          onRet [Sh.one Kd.bool] a0 fun lc0 =>
            onB lc0
              (onB (decide (a4 = b4))
                (onB (decide (a5 = b5) && decide (a6 = b6))
                  (onB (decide (a7 = b7) && decide (a8 = b8)) (onB (decide (a9 = b9)) (onB (decide (a10 = b10)) (Post (AV.b (decide (a11 = b11))) h0) (Post (AV.b false) h0)) (Post (AV.b false) h0))
                    (Post (AV.b false) h0))
                  (Post (AV.b false) h0))
                (Post (AV.b false) h0))
              (Post (AV.b false) h0))
        h)
      (Post (AV.b false) h))
    (Post (AV.b false) h)) := by kernel_rfl
/- arras/arrasref0.EqOps -/
theorem vc10 (a : AV) (b : AV) (h : Hp) (Post : AV → Hp → Prop) : vcCall Try.prog [] 10 [(SV.vv a), (SV.vv b)] h Post = (
  onO (lenV a) fun p0 =>
  onO (lenV b) fun p1 =>
    onB (!decide ((↑p0 : Int) = ↑p1)) (Post (AV.b false) h)
      (∃ I0 : Nat → Bool → Int → Hp → Prop,
        (∃ p2, I0 p2 false 0 h) ∧
          ∀ (p3 : Nat) (h0 : Hp) (lc0 : Bool) (n0 : Int),
            I0 p3 lc0 n0 h0 →
              onO (lenV a) fun p4 =>
                onB (decide (n0 < ↑p4))
                  (onO (idxV a n0 12) fun r0 =>
                    onO (rdH h0 r0.fst r0.snd 12) fun l0 =>
                      onL
                        [Kd.int IntKind.i64, Kd.int IntKind.i64, Kd.int IntKind.i64, Kd.ref, Kd.int IntKind.i64, Kd.int IntKind.i64, Kd.int IntKind.i64, Kd.int IntKind.i64, Kd.int IntKind.i64, Kd.str,
                          Kd.int IntKind.i64, Kd.int IntKind.i64]
                        l0 fun n1 n2 n3 a0 n4 n5 n6 n7 n8 l1 n9 n10 =>
                        onO (idxV b n0 12) fun r1 =>
                          onO (rdH h0 r1.fst r1.snd 12) fun l2 =>
                            onL
                              [Kd.int IntKind.i64, Kd.int IntKind.i64, Kd.int IntKind.i64, Kd.ref, Kd.int IntKind.i64, Kd.int IntKind.i64, Kd.int IntKind.i64, Kd.int IntKind.i64, Kd.int IntKind.i64,
                                Kd.str, Kd.int IntKind.i64, Kd.int IntKind.i64]
                              l2 fun n11 n12 n13 a1 n14 n15 n16 n17 n18 l3 n19 n20 =>
                              wpC Try.prog 22
                                [AV.agg
                                    [AV.i IntKind.i64 n1, AV.i IntKind.i64 n2, AV.i IntKind.i64 n3, a0, AV.i IntKind.i64 n4, AV.i IntKind.i64 n5, AV.i IntKind.i64 n6, AV.i IntKind.i64 n7,
                                      AV.i IntKind.i64 n8, AV.s l1, AV.i IntKind.i64 n9, AV.i IntKind.i64 n10],
                                  AV.agg
                                    [AV.i IntKind.i64 n11, AV.i IntKind.i64 n12, AV.i IntKind.i64 n13, a1, AV.i IntKind.i64 n14, AV.i IntKind.i64 n15, AV.i IntKind.i64 n16, AV.i IntKind.i64 n17,
                                      AV.i IntKind.i64 n18, AV.s l3, AV.i IntKind.i64 n19, AV.i IntKind.i64 n20]]
                                (fun a2 h1 => onRet [Sh.one Kd.bool] a2 fun lc1 => onB (!lc1) (Post (AV.b false) h1) (onO (intO BinOp.add IntKind.i64 n0 1) fun n21 => ∃ p5, ltN p5 p3 ∧ I0 p5 lc0 n21 h1))
                                h0)
                  (Post (AV.b true) h0))) := by kernel_rfl
/- slices.Clone[[]int,int] -/
theorem vc46 (a : AV) (h : Hp) (Post : AV → Hp → Prop) : vcCall Try.prog [] 46 [(SV.vv a)] h Post = (
  onO (nilSl a) fun lc0 =>
  onB lc0 (Post AV.ns h)
    (∀ (p0 : Nat),
      h.g p0 = none →
        h.lo.le p0 →
          onO (srcV 1 a) fun r0 =>
            onC (((4 * r0.fst + 4000) * 8).ble (OfNat.ofNat 17179869184)) (wpE (Eff.app (AV.sl p0 0 0 0 true 1) r0.fst r0.snd 1) (fun x0 h0 => onO x0 fun a0 => Post a0 h0) (h.put p0 [])))) := by kernel_rfl
/- arras/op.Own -/
theorem vc31 (a0 : Int) (a1 : Int) (a2 : Int) (a3 : AV) (a4 : Int) (a5 : Int) (a6 : Int) (a7 : Int) (a8 : Int) (a9 : List Nat) (a10 : Int) (a11 : Int) (h : Hp) (Post : AV → Hp → Prop) : vcCall Try.prog [] 31 [(SV.ag [(SV.ii .i64 a0), (SV.ii .i64 a1), (SV.ii .i64 a2), (SV.vv a3), (SV.ii .i64 a4), (SV.ii .i64 a5), (SV.ii .i64 a6), (SV.ii .i64 a7), (SV.ii .i64 a8), (SV.ss a9), (SV.ii .i64 a10), (SV.ii .i64 a11)])] h Post = (
  ∀ (p0 p1 : Nat),
  wpC Try.prog 46 [a3]
    (fun a0_1 h0 =>
      onRet [Sh.one Kd.ref] a0_1 fun a1_1 =>
        Post
          (AV.agg
            [AV.i IntKind.i64 a0, AV.i IntKind.i64 a1, AV.i IntKind.i64 a2, a1_1, AV.i IntKind.i64 a4, AV.i IntKind.i64 a5, AV.i IntKind.i64 a6, AV.i IntKind.i64 a7, AV.i IntKind.i64 a8, AV.s a9,
              AV.i IntKind.i64 a10, AV.i IntKind.i64 a11])
          h0)
    h) := by kernel_rfl
/-! ### plain -/
def numV (x : Int) : Bool := decide (0 ≤ x) && decide (x ≤ 1099511627776)
def vecV (l : List Int) : Bool := l.all numV && (decide (1 ≤ l.length) && decide (l.length ≤ 16))
abbrev IR := Kn.int.Row
theorem int_cells {h : Hp} {x : Int} : ∀ c, Kn.int.K h x c → c = [.i .i64 x] := fun c k => k.1
theorem int_flat : Kn.int.Flat := fun h h' x c k => k
section
variable {h : Hp} {a b : AV} {l la lb : List Int} {Post : AV → Hp → Prop}
theorem int0 (r : IR h a l) {k : Nat} {x : Int} (e : l[k]? = some x) {K : Int → Prop} (q : K x) : onO (idxV a (k : Int) 1) fun r0 => onO (rdH h r0.1 r0.2 1) fun l0 => onL [Kd.int .i64] l0 K :=
  r.whole (Int.natCast_nonneg k) (by simpa using e) int_cells rfl (onL.i1 q)
theorem c60 (r : IR h a l) (hb : l.length < 32000000) (k : Post (.b (vecV l)) h) : wpC Try.prog 60 [a] Post h := by
  refine call_sound (args := [.vv a]) (cuts := [0]) ⟨r.sc, trivial⟩ ?_
  rw [vc60]
  refine ⟨fun m i _ h' => h' = h ∧ ∃ k : Nat, i = k ∧ k ≤ l.length ∧ m = l.length - k ∧ l.all numV = (l.drop k).all numV, ⟨l.length, rfl, 0, rfl, by omega, rfl, rfl⟩, ?_⟩
  rintro m h0 _ _ ⟨rfl, j, rfl, hj, rfl, hp⟩
  refine Dup.mk (onO.mk r.len (onB.dec (fun e => ?_) (fun e => ?_)))
  · have : j = l.length := by omega
    subst this
    rw [List.drop_length] at hp
    unfold vecV at k
    rw [hp, List.all_nil, Bool.true_and] at k
    refine onB.dec (fun e1 => ?_) (fun e1 => ?_)
    · have e2 : decide ((l.length : Int) ≤ 16) = decide (l.length ≤ 16) := by rw [decide_eq_decide]; omega
      rw [e2]
      rw [decide_eq_true (show 1 ≤ l.length by omega), Bool.true_and] at k; exact k
    · rw [decide_eq_false (show ¬ 1 ≤ l.length by omega), Bool.false_and] at k; exact k
  · obtain ⟨x, hx⟩ := get_lt (l := l) (k := j) (by omega)
    rw [drop_of hx, List.all_cons] at hp
    have bad : numV x = false → Post (.b false) h0 := fun e1 => by
      rw [e1, Bool.false_and] at hp
      unfold vecV at k
      rw [hp, Bool.false_and] at k; exact k
    refine int0 r hx (onB.dec (fun e1 => int0 r hx (onB.dec (fun e2 => ?_) (fun e2 => bad (by simp [numV, e2])))) (fun e1 => bad (by simp [numV, e1])))
    have e1 : numV x = true := by simp [numV, e1, e2]
    rw [e1, Bool.true_and] at hp
    exact onO.mk (inc64 (by omega)) ⟨_, by show l.length - (j + 1) < l.length - j; omega, rfl, j + 1, rfl, by omega, rfl, hp⟩
theorem c35 (ra : IR h a la) (rb : IR h b lb) (hb : la.length < 32000000) (k : Post (.b (decide (la = lb))) h) : wpC Try.prog 35 [a, b] Post h := by
  refine call_sound (args := [.vv a, .vv b]) (cuts := []) ⟨ra.sc, rb.sc, trivial⟩ ?_
  rw [vc35]
  refine onO.mk ra.len (onO.mk rb.len (onB.ndec (fun e => ?_) (fun e => ?_)))
  · rw [decide_eq_false (fun e' => e (by rw [e']))] at k
    exact k
  · have hl : la.length = lb.length := by omega
    refine ⟨fun m _ i h' => h' = h ∧ ∃ k : Nat, i = k ∧ k ≤ la.length ∧ m = la.length - k ∧ la.take k = lb.take k, ⟨la.length, rfl, 0, rfl, by omega, rfl, by simp⟩, ?_⟩
    rintro m h0 _ _ ⟨rfl, j, rfl, hj, rfl, hp⟩
    refine onO.mk ra.len (onB.dec (fun e => ?_) (fun e => ?_))
    · obtain ⟨x, hx⟩ := get_lt (l := la) (k := j) (by omega)
      obtain ⟨y, hy⟩ := get_lt (l := lb) (k := j) (by omega)
      refine int0 ra hx (int0 rb hy (onB.ndec (fun e1 => ?_) (fun e1 => ?_)))
      · have : la ≠ lb := by
          intro e2; subst e2; rw [hx] at hy; injection hy with hy; exact e1 hy
        rw [decide_eq_false this] at k; exact k
      · subst e1
        exact onO.mk (inc64 (by omega)) ⟨_, by show la.length - (j + 1) < la.length - j; omega, rfl, j + 1, rfl, by omega, rfl, by rw [take_succ' hx, take_succ' hy, hp]⟩
    · have : j = la.length := by omega
      subst this
      rw [List.take_length, hl, List.take_length] at hp
      rw [decide_eq_true hp] at k; exact k
end
/-! ### keys, places -/
def keyV (l : List Nat) : Bool := decide (1 ≤ l.length) && (decide (l.length ≤ 64) && !decide (l.getLast? = some 0))
section
variable {h : Hp} {Post : AV → Hp → Prop}
theorem nthL_get : ∀ {α : Type} (l : List α) (i : Nat), nthL l i = l[i]?
  | _, [], _ => rfl
  | _, _ :: _, 0 => rfl
  | _, _ :: l, i + 1 => (nthL_get l i).trans (by simp)
theorem key_body {l : List Nat} (k : Post (.b (keyV l)) h) : onB (decide ((1 : Int) ≤ ↑l.length))
    (onB (decide ((↑l.length : Int) ≤ 64))
      (onO (intO BinOp.sub IntKind.i64 (↑l.length) 1) fun n0 => onO ((natI n0).bind fun j => nthL l j) fun p1 => Post (AV.b !decide ((↑p1 : Int) = 0)) h)
      (Post (AV.b false) h))
    (Post (AV.b false) h) := by
  unfold keyV at k
  refine onB.dec (fun e => onB.dec (fun e1 => ?_) (fun e1 => ?_)) (fun e => ?_)
  · rw [decide_eq_true (show 1 ≤ l.length by omega), decide_eq_true (show l.length ≤ 64 by omega), Bool.true_and, Bool.true_and] at k
    have hs : intO .sub .i64 (l.length : Int) 1 = some ((l.length - 1 : Nat) : Int) := by rw [sub64 (by omega) (by omega)]; congr 1; omega
    obtain ⟨x, hx⟩ := get_lt (l := l) (k := l.length - 1) (by omega)
    refine onO.mk hs (onO.mk (a := x) (by show nthL l (l.length - 1) = some x; rw [nthL_get]; exact hx) ?_)
    have : l.getLast? = some x := by rw [List.getLast?_eq_getElem?]; exact hx
    rw [this] at k
    have e3 : decide ((x : Int) = 0) = decide (some x = some 0) := by rw [decide_eq_decide, Option.some.injEq]; omega
    rw [e3]; exact k
  · rw [decide_eq_false (show ¬ l.length ≤ 64 by omega), Bool.false_and, Bool.and_false] at k; exact k
  · rw [decide_eq_false (show ¬ 1 ≤ l.length by omega), Bool.false_and] at k; exact k
theorem c72 {l : List Nat} (k : Post (.b (keyV l)) h) : wpC Try.prog 72 [.s l] Post h := by
  refine call_sound (args := [.ss l]) (cuts := []) ⟨trivial, trivial⟩ ?_
  rw [vc72]
  exact key_body k
end
/-! ### plain -/
def placeV (s : D.Stamp) : Bool := isS s || (decide (s = ⟨0, 0⟩) || decide (s = ⟨0, 1⟩))
def kindV (o : D.Op) : Bool :=
  if o.kind = 1 then placeV o.parent && (keyV o.key && (decide (o.prop = 0) && decide (o.value = 0)))
  else if o.kind = 2 then mayP o.prop o.value && (decide (o.parent = ⟨0, 0⟩) && decide (o.key = [])) else false
def seqV (o : D.Op) : Bool := match o.deps[o.stamp.rep.toNat]? with
  | some x => decide (o.seq = x + 1) && decide (o.seq ≤ 1099511627776)
  | none => false
def mayO (o : D.Op) : Bool := isS o.stamp && (vecV o.deps && (isS o.node && (seqV o && kindV o)))
def opC (o : D.Op) (a : AV) : List AV := [.i .i64 o.stamp.time, .i .i64 o.stamp.rep, .i .i64 o.seq, a, .i .i64 o.kind, .i .i64 o.node.time, .i .i64 o.node.rep, .i .i64 o.parent.time, .i .i64 o.parent.rep, .s o.key, .i .i64 o.prop, .i .i64 o.value]
def opS (o : D.Op) (a : AV) : SV := .ag [.ii .i64 o.stamp.time, .ii .i64 o.stamp.rep, .ii .i64 o.seq, .vv a, .ii .i64 o.kind, .ii .i64 o.node.time, .ii .i64 o.node.rep, .ii .i64 o.parent.time, .ii .i64 o.parent.rep, .ss o.key, .ii .i64 o.prop, .ii .i64 o.value]
theorem opS_good {o : D.Op} {a : AV} (ha : a.sc = true) : (opS o a).Good (fun _ => 0) 0 := ⟨trivial, trivial, trivial, ha, trivial, trivial, trivial, trivial, trivial, trivial, trivial, trivial, trivial⟩
theorem onRet.a2 {n m : Int} {K : Int → Int → Prop} (k : K n m) : onRet [Sh.agg [Kd.int .i64, Kd.int .i64]] (.agg [.i .i64 n, .i .i64 m]) K := k
theorem stamp_eq {a : D.Stamp} {x y : Int} : (decide (a.time = x) && decide (a.rep = y)) = decide (a = ⟨x, y⟩) := by
  cases a with
  | mk t r =>
    rw [← Bool.decide_and, decide_eq_decide]
    simp
theorem vecV_at {l : List Int} (h : vecV l = true) {k : Nat} {x : Int} (e : l[k]? = some x) : 0 ≤ x ∧ x ≤ 1099511627776 := by
  unfold vecV at h
  simp only [Bool.and_eq_true, List.all_eq_true] at h
  have := h.1 x (List.mem_of_getElem? e)
  simpa [numV] using this
theorem vecV_len {l : List Int} (h : vecV l = true) : 1 ≤ l.length ∧ l.length ≤ 16 := by
  unfold vecV at h
  simp only [Bool.and_eq_true, decide_eq_true_eq] at h
  exact h.2
theorem isS_rep {s : D.Stamp} (h : isS s = true) : 0 ≤ s.rep ∧ s.rep < 16 := by
  unfold isS at h
  simp only [Bool.and_eq_true, decide_eq_true_eq] at h
  exact h.2.2
section
variable {h : Hp} {Post : AV → Hp → Prop}
theorem c74 (k : Post (.agg [.i .i64 0, .i .i64 0]) h) : wpC Try.prog 74 [] Post h := by
  refine call_sound (args := []) (cuts := []) trivial ?_
  rw [vc74]; exact fun _ => k
theorem c75 (k : Post (.agg [.i .i64 0, .i .i64 1]) h) : wpC Try.prog 75 [] Post h := by
  refine call_sound (args := []) (cuts := []) trivial ?_
  rw [vc75]; exact fun _ => k
theorem c71 {s : D.Stamp} (k : Post (.b (placeV s)) h) : wpC Try.prog 71 [.agg [.i .i64 s.time, .i .i64 s.rep]] Post h := by
  refine call_sound (args := [.ag [.ii .i64 s.time, .ii .i64 s.rep]]) (cuts := []) ⟨⟨trivial, trivial, trivial⟩, trivial⟩ ?_
  rw [vc71]
  intro _
  unfold placeV at k
  refine c59 (onRet.b (onB.mk (fun e => ?_) (fun e => c74 (onRet.a2 ?_))))
  · rw [e] at k; exact k
  · rw [e, Bool.false_or] at k
    rw [stamp_eq]
    refine onB.mk (fun e1 => ?_) (fun e1 => c75 (onRet.a2 ?_))
    · rw [e1] at k; exact k
    · rw [e1, Bool.false_or] at k
      rw [stamp_eq]; exact k
theorem c61 {o : D.Op} {a : AV} (ha : a.sc = true) (k : Post (.b (kindV o)) h) : wpC Try.prog 61 [.agg (opC o a)] Post h := by
  refine call_sound (args := [opS o a]) (cuts := []) ⟨opS_good ha, trivial⟩ ?_
  unfold opS
  rw [vc61]
  intro _
  unfold kindV at k
  refine onB.dec (fun e => c71 (onRet.b (onB.mk (fun e1 => c72 (onRet.b (onB.mk (fun e2 => onB.dec (fun e3 => ?_) (fun e3 => ?_)) (fun e2 => ?_)))) (fun e1 => ?_)))) (fun e => onB.dec (fun e0 => c73 (onRet.b (onB.mk (fun e1 => c74 (onRet.a2 ?_)) (fun e1 => ?_)))) (fun e0 => ?_))
  · rw [if_pos e, e1, e2, decide_eq_true e3] at k; exact k
  · rw [if_pos e, e1, e2, decide_eq_false e3] at k; exact k
  · rw [if_pos e, e1, e2] at k; exact k
  · rw [if_pos e, e1] at k; exact k
  · rw [if_neg e, if_pos e0, e1, Bool.true_and] at k
    rw [stamp_eq]
    refine onB.mk (fun e2 => ?_) (fun e2 => ?_)
    · rw [e2, Bool.true_and] at k; exact k
    · rw [e2, Bool.false_and] at k; exact k
  · rw [if_neg e, if_pos e0, e1] at k; exact k
  · rw [if_neg e, if_neg e0] at k; exact k
theorem c41 {o : D.Op} {a : AV} (r : IR h a o.deps) (hb : o.deps.length < 32000000) (k : Post (.b (mayO o)) h) : wpC Try.prog 41 [.agg (opC o a)] Post h := by
  refine call_sound (args := [opS o a]) (cuts := []) ⟨opS_good r.sc, trivial⟩ ?_
  unfold opS
  rw [vc41]
  intro _
  unfold mayO at k
  refine c59 (onRet.b (onB.not (fun e1 => ?_) (fun e1 => c60 r hb (onRet.b (onB.not (fun e2 => ?_) (fun e2 => onO.mk r.len (onB.dec (fun e3 => ?_) (fun e3 => c59 (onRet.b (onB.not (fun e4 => ?_) (fun e4 => ?_)))))))))))
  · rw [e1] at k; exact k
  · rw [e1, e2] at k; exact k
  · have hs : seqV o = false := by
      unfold seqV
      rw [List.getElem?_eq_none (by have := isS_rep e1; omega)]
    rw [hs, Bool.false_and, Bool.and_false, Bool.and_false, Bool.and_false] at k; exact k
  · rw [e1, e2, e4] at k; exact k
  · obtain ⟨g0, g1⟩ := isS_rep e1
    obtain ⟨j, hj⟩ := Int.eq_ofNat_of_zero_le g0
    obtain ⟨x, hx⟩ := get_lt (l := o.deps) (k := j) (by omega)
    have hx2 := vecV_at e2 hx
    have hjt : o.stamp.rep.toNat = j := by omega
    rw [e1, e2, e4, Bool.true_and, Bool.true_and, Bool.true_and] at k
    unfold seqV at k
    rw [hjt, hx] at k
    rw [hj]
    refine int0 r hx (onO.mk (add64 (by omega) (by omega)) (onB.dec (fun e5 => onB.dec (fun e6 => ?_) (fun e6 => ?_)) (fun e5 => ?_)))
    · rw [← hj]
      refine c61 (o := o) r.sc (onRet.b ?_)
      simpa only [decide_eq_true e5, decide_eq_true e6, Bool.true_and] using k
    · simpa only [decide_eq_true e5, decide_eq_false e6, Bool.true_and, Bool.false_and] using k
    · simpa only [decide_eq_false e5, Bool.false_and] using k
theorem c22 {o p : D.Op} {a b : AV} (ra : IR h a o.deps) (rb : IR h b p.deps) (hb : o.deps.length < 32000000) (k : Post (.b (decide (o = p))) h) : wpC Try.prog 22 [.agg (opC o a), .agg (opC p b)] Post h := by
  refine call_sound (args := [opS o a, opS p b]) (cuts := []) ⟨opS_good ra.sc, opS_good rb.sc, trivial⟩ ?_
  unfold opS
  rw [vc22]
  intro _ _
  rw [stamp_eq, stamp_eq, stamp_eq]
  have bad : o ≠ p → Post (.b false) h := fun e => by rw [decide_eq_false e] at k; exact k
  refine onB.dec (fun e1 => onB.dec (fun e2 => c35 ra rb hb (onRet.b (onB.dec (fun e3 => onB.dec (fun e4 => onB.dec (fun e5 => onB.dec (fun e6 => onB.dec (fun e7 => onB.dec (fun e8 => ?_) (fun e8 => bad ?_)) (fun e7 => bad ?_)) (fun e6 => bad ?_)) (fun e5 => bad ?_)) (fun e4 => bad ?_)) (fun e3 => bad ?_)))) (fun e2 => bad ?_)) (fun e1 => bad ?_)
  · have : decide (o.value = p.value) = decide (o = p) := by
      rw [decide_eq_decide]
      constructor
      · intro e9
        cases o; cases p
        simp_all
      · intro e; rw [e]
    rw [this]; exact k
  · intro e; exact e8 (by rw [e])
  · intro e; exact e7 (by rw [e])
  · intro e; subst e; exact e6 rfl
  · intro e; subst e; exact e5 rfl
  · intro e; exact e4 (by rw [e])
  · intro e; exact e3 (by rw [e])
  · intro e; exact e2 (by rw [e])
  · intro e; subst e; exact e1 rfl
end
/-! ### Clone -/
theorem Raw.src {h : Hp} {a : AV} {sz : Nat} {css : List (List AV)} (r : Raw h a sz css) : ∃ s, srcV sz a = some (css.length, s) ∧ srcH h s = some css.flatten := by
  obtain ⟨hc, r⟩ := r
  cases a <;> first | exact r.elim | skip
  · rename_i b o len lo ex z
    obtain ⟨r1, r2, r3, r4⟩ := r
    subst r1; subst r2
    refine ⟨_, by show cond (Nat.beq z z) _ _ = _; rw [Nat.beq_refl, cond_true], ?_⟩
    cases hl : Nat.beq css.length 0 with
    | true =>
      have : css = [] := List.length_eq_zero_iff.1 (beq_eq' hl)
      subst this; rfl
    | false =>
      rcases r4 with r4 | r4
      · subst r4; cases hl
      · exact r4
  all_goals
    have r : css = [] := r
    subst r
    exact ⟨.lit [], rfl, rfl⟩
theorem Raw.nil {h : Hp} {a : AV} {sz : Nat} {css : List (List AV)} (r : Raw h a sz css) : ∃ c, nilSl a = some c ∧ (c = true → css = []) := by
  obtain ⟨hc, r⟩ := r
  cases a <;> first | exact r.elim | skip
  · exact ⟨false, rfl, fun e => by cases e⟩
  · exact ⟨true, rfl, fun _ => r⟩
  · exact ⟨false, rfl, fun e => by cases e⟩
/-- a copy by append to an empty row of its own -/
theorem clone_body {α : Type} {d : Kn α} {h : Hp} {a : AV} {l : List α} {sz nb : Nat} {Post : AV → Hp → Prop} (r : d.Row h a l) (hsz : d.sz = sz) (fl : d.Flat) (hb : l.length < 32000000) (hm : Nat.ble ((4 * l.length + 4000) * nb) 17179869184 = true) (k : ∀ r' h', d.Own h h' r' l → Post r' h') :
    onO (nilSl a) fun lc0 => onB lc0 (Post AV.ns h) (∀ (p0 : Nat), h.g p0 = none → h.lo.le p0 → onO (srcV sz a) fun r0 =>
      onC (((4 * r0.fst + 4000) * nb).ble (OfNat.ofNat 17179869184)) (wpE (Eff.app (AV.sl p0 0 0 0 true sz) r0.fst r0.snd sz) (fun x0 h0 => onO x0 fun a0 => Post a0 h0) (h.put p0 []))) := by
  subst hsz
  obtain ⟨css, r1, r2⟩ := r
  obtain ⟨c, e1, e2⟩ := r1.nil
  have hl := r2.length
  refine onO.mk e1 (onB.mk (fun e => ?_) (fun _ p hp hlo => ?_))
  · have := e2 e
    subst this
    have : l = [] := List.length_eq_zero_iff.1 hl
    subst this
    exact k _ _ (Kn.Own.nil d h)
  · obtain ⟨s, s1, s2⟩ := r1.src
    refine onO.mk s1 (onC.mk (by rw [← hl]; exact hm) ?_)
    have f := Fresh.put (Hp.le_refl h) rfl hp hlo (css := []) (sz := d.sz) (len := 0) true (fun c hc => by cases hc) rfl (cs := []) rfl
    have ow : d.Own h (h.put p []) (.sl p 0 0 0 true d.sz) [] := ⟨h, [], Hp.le_refl h, rfl, f, .nil⟩
    have s3 : srcH (h.put p []) s = some css.flatten := by
      cases s with
      | lit l => exact s2
      | mem b o n => exact rdH_le (Hp.le_put hp) s2
    exact ow.app rfl fl (r2.mono fun _ _ q => fl _ _ _ _ q) s3 hl (by simp; omega) fun r' h' o' => onO.mk rfl (k _ _ (by simpa using o'))
section
variable {h : Hp} {a : AV} {l : List Int} {Post : AV → Hp → Prop}
theorem c46 (r : IR h a l) (hb : l.length < 32000000) (k : ∀ r' h', Kn.int.Own h h' r' l → Post r' h') : wpC Try.prog 46 [a] Post h := by
  refine call_sound (args := [.vv a]) (cuts := []) ⟨r.sc, trivial⟩ ?_
  rw [vc46]
  exact clone_body r rfl int_flat hb (Nat.ble_eq_true_of_le (by omega)) k
theorem c31 {o : D.Op} (r : IR h a o.deps) (hb : o.deps.length < 32000000) (k : ∀ r' h', Kn.int.Own h h' r' o.deps → Post (.agg (opC o r')) h') : wpC Try.prog 31 [.agg (opC o a)] Post h := by
  refine call_sound (args := [opS o a]) (cuts := []) ⟨opS_good r.sc, trivial⟩ ?_
  unfold opS
  rw [vc31]
  intro _ _
  exact c46 r hb fun r' h' ow => onRet.r ow.sc (k _ _ ow)
end
abbrev OpRow := D.kOp.Row
/-- deps that are not too many -/
def opOk (o : D.Op) : Prop := o.deps.length < 32000000
section
variable {h : Hp} {a b : AV} {l la lb : List D.Op} {Post : AV → Hp → Prop}
theorem op_cells {o : D.Op} {c : List AV} (k : D.kOp.K h o c) : ∃ d, c = opC o d ∧ IR h d o.deps := by
  obtain ⟨d, e, f⟩ := D.kOp_open k
  exact ⟨d, e, f.2.2.2.1.1⟩
theorem onL.op {o : D.Op} {d : AV} (hd : d.sc = true) {K : Int → Int → Int → AV → Int → Int → Int → Int → Int → List Nat → Int → Int → Prop} (q : K o.stamp.time o.stamp.rep o.seq d o.kind o.node.time o.node.rep o.parent.time o.parent.rep o.key o.prop o.value) :
    onL [Kd.int .i64, Kd.int .i64, Kd.int .i64, Kd.ref, Kd.int .i64, Kd.int .i64, Kd.int .i64, Kd.int .i64, Kd.int .i64, Kd.str, Kd.int .i64, Kd.int .i64] (opC o d) K :=
  onRef.mk (K := fun d => K o.stamp.time o.stamp.rep o.seq d o.kind o.node.time o.node.rep o.parent.time o.parent.rep o.key o.prop o.value) hd q
theorem onRet.op {o : D.Op} {d : AV} (hd : d.sc = true) {K : Int → Int → Int → AV → Int → Int → Int → Int → Int → List Nat → Int → Int → Prop} (q : K o.stamp.time o.stamp.rep o.seq d o.kind o.node.time o.node.rep o.parent.time o.parent.rep o.key o.prop o.value) :
    onRet [Sh.agg [Kd.int .i64, Kd.int .i64, Kd.int .i64, Kd.ref, Kd.int .i64, Kd.int .i64, Kd.int .i64, Kd.int .i64, Kd.int .i64, Kd.str, Kd.int .i64, Kd.int .i64]] (.agg (opC o d)) K := by
  unfold onRet onS
  have e : flatV [Sh.agg [Kd.int .i64, Kd.int .i64, Kd.int .i64, Kd.ref, Kd.int .i64, Kd.int .i64, Kd.int .i64, Kd.int .i64, Kd.int .i64, Kd.str, Kd.int .i64, Kd.int .i64]] [.agg (opC o d)] = some (opC o d) := rfl
  rw [e]
  exact onL.op hd q
theorem opW {h1 : Hp} (r : OpRow h a l) (le : h.le h1) {k : Nat} {o : D.Op} (e : l[k]? = some o) {K : Int → Int → Int → AV → Int → Int → Int → Int → Int → List Nat → Int → Int → Prop}
    (q : ∀ d, IR h d o.deps → D.kOp.K h o (opC o d) → K o.stamp.time o.stamp.rep o.seq d o.kind o.node.time o.node.rep o.parent.time o.parent.rep o.key o.prop o.value) :
    onO (idxV a (k : Int) 12) fun r0 => onO (rdH h1 r0.1 r0.2 12) fun l0 => onL [Kd.int .i64, Kd.int .i64, Kd.int .i64, Kd.ref, Kd.int .i64, Kd.int .i64, Kd.int .i64, Kd.int .i64, Kd.int .i64, Kd.str, Kd.int .i64, Kd.int .i64] l0 K := by
  obtain ⟨b, p, c, e1, e2, e3⟩ := r.idx (i := (k : Int)) (Int.natCast_nonneg k) (by simpa using e)
  obtain ⟨d, rfl, e4⟩ := op_cells e3
  exact onO.mk e1 (onO.mk (rdH_le le e2) (onL.op e4.sc (q d e4 e3)))
theorem c10 (ra : OpRow h a la) (rb : OpRow h b lb) (hb : la.length < 32000000) (ho : ∀ o ∈ la, opOk o) (k : Post (.b (decide (la = lb))) h) : wpC Try.prog 10 [a, b] Post h := by
  refine call_sound (args := [.vv a, .vv b]) (cuts := []) ⟨ra.sc, rb.sc, trivial⟩ ?_
  rw [vc10]
  refine onO.mk ra.len (onO.mk rb.len (onB.ndec (fun e => ?_) (fun e => ?_)))
  · rw [decide_eq_false (fun e' => e (by rw [e']))] at k
    exact k
  · have hl : la.length = lb.length := by omega
    refine ⟨fun m _ i h' => h' = h ∧ ∃ k : Nat, i = k ∧ k ≤ la.length ∧ m = la.length - k ∧ la.take k = lb.take k, ⟨la.length, rfl, 0, rfl, by omega, rfl, by simp⟩, ?_⟩
    rintro m h0 _ _ ⟨rfl, j, rfl, hj, rfl, hp⟩
    refine onO.mk ra.len (onB.dec (fun e => ?_) (fun e => ?_))
    · obtain ⟨x, hx⟩ := get_lt (l := la) (k := j) (by omega)
      obtain ⟨y, hy⟩ := get_lt (l := lb) (k := j) (by omega)
      refine opW ra (Hp.le_refl _) hx fun d rd _ => opW rb (Hp.le_refl _) hy fun d' rd' _ => c22 (o := x) (p := y) rd rd' (ho x (List.mem_of_getElem? hx)) (onRet.b (onB.not (fun e1 => ?_) (fun e1 => ?_)))
      · have e1 := of_decide_eq_false e1
        have : la ≠ lb := by
          intro e2; subst e2; rw [hx] at hy; injection hy with hy; exact e1 hy
        rw [decide_eq_false this] at k; exact k
      · have e1 := of_decide_eq_true e1
        subst e1
        exact onO.mk (inc64 (by omega)) ⟨_, by show la.length - (j + 1) < la.length - j; omega, rfl, j + 1, rfl, by omega, rfl, by rw [take_succ' hx, take_succ' hy, hp]⟩
    · have : j = la.length := by omega
      subst this
      rw [List.take_length, hl, List.take_length] at hp
      rw [decide_eq_true hp] at k; exact k
theorem in64_of {n : Int} (k : In64 n) : Kn.int.K h n [.i .i64 n] := ⟨rfl, k⟩
/-- an operation's cells, with another row of the same deps -/
theorem op_again {o : D.Op} {d d' : AV} (k : D.kOp.K h o (opC o d)) {h' : Hp} (r : IR h' d' o.deps) : D.kOp.K h' o (opC o d') := by
  obtain ⟨d0, e, f1, f2, f3, f4, f5, f6, f7, f8, f9, f10, f11, f12⟩ := D.kOp_open k
  refine ⟨_, _, rfl, ⟨_, _, rfl, in64_of f1, in64_of f2⟩, _, _, rfl, in64_of f3, _, _, rfl, ⟨d', rfl, r, f4.2⟩, _, _, rfl, in64_of f5, _, _, rfl, ⟨_, _, rfl, in64_of f6, in64_of f7⟩, _, _, rfl, ⟨_, _, rfl, in64_of f8, in64_of f9⟩, _, _, rfl, ⟨rfl, f10⟩, _, _, rfl, in64_of f11, in64_of f12⟩
end
/- arras/arraslaw10.O -/
theorem vc7  (h : Hp) (Post : AV → Hp → Prop) : vcCall Try.prog [] 7 [] h Post = (
  ∀ (p0 p1 : Nat),
  h.g p1 = none →
    h.lo.le p1 →
      Post
        (AV.agg
          [AV.i IntKind.i64 1, AV.i IntKind.i64 0, AV.i IntKind.i64 1, AV.sl p1 0 1 1 true 1, AV.i IntKind.i64 1, AV.i IntKind.i64 1, AV.i IntKind.i64 0, AV.i IntKind.i64 0, AV.i IntKind.i64 0,
            AV.s [107], AV.i IntKind.i64 0, AV.i IntKind.i64 0])
        (h.put p1 [AV.i IntKind.i64 0])) := by kernel_rfl
/-! ### operations with memory of their own -/
def intC (l : List Int) : List (List AV) := l.map fun x => [.i .i64 x]
/-- an operation whose deps stand in this part, in a row of its own -/
def eOp (q : Hp) (o : D.Op) (c : List AV) : Prop := D.kOp.K q o c ∧ ∃ d, c = opC o d ∧ Fresh (Hp.none q.lo) q d 1 (intC o.deps)
abbrev OpOwn (g h : Hp) (a : AV) (l : List D.Op) : Prop := OwnD eOp 12 g h a l
theorem OpOwn.kn {g h : Hp} {a : AV} {l : List D.Op} (o : OpOwn g h a l) : D.kOp.Own g h a l := OwnD.own o rfl fun _ _ _ e => e.1
theorem ints_css {h : Hp} : ∀ {l : List Int} {css : List (List AV)}, All2 (Kn.int.K h) l css → css = intC l
  | [], _, .nil => rfl
  | _ :: _, _, .cons k t => by rw [k.1, ints_css t]; rfl
theorem Kn.Own.part {g h : Hp} {a : AV} {l : List Int} (o : Kn.int.Own g h a l) : ∃ q, q.le h ∧ Disj q g ∧ q.lo = g.lo ∧ (∀ b, q.g b ≠ none → g.lo ≤ b) ∧ Fresh (Hp.none g.lo) q a 1 (intC l) ∧ IR q a l := by
  obtain ⟨p, css, h0, h1, f, h2⟩ := o
  obtain ⟨q, q1, q2, q3, q4, q5⟩ := f.part
  have e := ints_css h2
  subst e
  rw [h1] at q3 q4 q5
  exact ⟨q, q1, q2.le_right h0, q3, q4, q5, _, q5.row, h2.mono fun _ _ k => k⟩
/-- one more operation, copied -/
theorem OpOwn.snoc {g p p' h' : Hp} {a : AV} {l : List D.Op} {css : List (List AV)} {qs : Nat → Hp} {h : Hp} (o : OwnE eOp 12 g h a l p css qs) (fr : Fresh p' h' a 12 css) (hl : p'.lo = p.lo) {x : D.Op} {d : AV} {h0 : Hp} (kx : D.kOp.K h0 x (opC x d)) {r : AV} (ow : Kn.int.Own p p' r x.deps)
    (hbig : l.length + 1 < 32000000) {Post : Option AV → Hp → Prop} (k : ∀ r h2, OpOwn g h2 r (l ++ [x]) → Post (some r) h2) : wpE (.app a 1 (.lit (opC x r)) 12) Post h' := by
  obtain ⟨q, q1, q2, q3, q4, q5, q6⟩ := ow.part
  have kk := op_again kx q6
  exact OwnE.snoc o fr ow.le hl q1 q2 q3 q4 ⟨kk, r, rfl, by rw [q3]; exact q5⟩ rfl (D.kOp.sc kk) hbig k
def lacks (v : List Int) (o : D.Op) : Bool := match v[o.stamp.rep.toNat]? with
  | some x => decide (x < o.seq)
  | none => false
def behind (v : List Int) (l : List D.Op) : List D.Op := (l.filter (lacks v)).take 8
section
variable {h : Hp} {Post : AV → Hp → Prop}
theorem op_mk {h : Hp} {o : D.Op} {d : AV} (k1 : In64 o.stamp.time) (k2 : In64 o.stamp.rep) (k3 : In64 o.seq) (r : IR h d o.deps) (k4 : o.deps.length * 8 ≤ 140737488351232) (k5 : In64 o.kind) (k6 : In64 o.node.time) (k7 : In64 o.node.rep) (k8 : In64 o.parent.time) (k9 : In64 o.parent.rep)
    (k10 : o.key.length ≤ 140737488351232) (k11 : ∀ x ∈ o.key, x < 256) (k12 : In64 o.prop) (k13 : In64 o.value) : D.kOp.K h o (opC o d) :=
  ⟨_, _, rfl, ⟨_, _, rfl, in64_of k1, in64_of k2⟩, _, _, rfl, in64_of k3, _, _, rfl, ⟨d, rfl, r, k4⟩, _, _, rfl, in64_of k5, _, _, rfl, ⟨_, _, rfl, in64_of k6, in64_of k7⟩, _, _, rfl, ⟨_, _, rfl, in64_of k8, in64_of k9⟩, _, _, rfl, ⟨rfl, k10, k11⟩, _, _, rfl, in64_of k12, in64_of k13⟩
end
open Classical in
/-- what is seen of some blocks -/
noncomputable def Hp.res (h : Hp) (S : Nat → Prop) : Hp := ⟨fun k => if S k then h.g k else Option.none, h.lo⟩
open Classical in
theorem Hp.res_le (h : Hp) (S : Nat → Prop) : (h.res S).le h := fun k c e => by
  have e : (if S k then h.g k else Option.none) = some c := e
  by_cases hs : S k
  · rw [if_pos hs] at e; exact e
  · rw [if_neg hs] at e; cases e
theorem Hp.res_in {h : Hp} {S : Nat → Prop} {k : Nat} (hs : S k) : (h.res S).g k = h.g k := if_pos hs
theorem Hp.res_out {h : Hp} {S : Nat → Prop} {k : Nat} (hs : ¬ S k) : (h.res S).g k = Option.none := if_neg hs
theorem Hp.res_has {h : Hp} {S : Nat → Prop} {k : Nat} {c : List AV} (e : (h.res S).g k = some c) : S k := by
  by_cases hs : S k
  · exact hs
  · rw [Hp.res_out hs] at e; cases e
/-- all of a row of one's own, apart from the rest -/
theorem OwnD.part {α : Type} {E : Hp → α → List AV → Prop} {sz : Nat} {g h : Hp} {a : AV} {l : List α} (o : OwnD E sz g h a l) : ∃ q, q.le h ∧ Disj q g ∧ q.lo = g.lo ∧ OwnD E sz (Hp.none g.lo) q a l := by
  obtain ⟨p, css, qs, o⟩ := o
  have hin : ∀ i k, (qs i).g k ≠ none → h.g k = (qs i).g k := fun i k e => by
    cases hq : (qs i).g k with
    | none => exact absurd hq e
    | some c => exact o.fr.le k c (o.sub i k c hq)
  have hlo : h.lo = g.lo := o.fr.lo.trans o.lo
  refine ⟨h.res fun k => (∃ b of len lo ex z, a = .sl b of len lo ex z ∧ k = b) ∨ ∃ i, (qs i).g k ≠ none, Hp.res_le _ _, fun k c e => ?_, hlo, h.res fun k => ∃ i, (qs i).g k ≠ none, css, qs, none_le _ _, hlo, ?_, o.len, fun i k c e => ?_, fun i k c e => rfl, o.dd, o.qlo, o.own, o.el⟩
  · rcases Hp.res_has e with ⟨b, of, len, lo, ex, z, ea, rfl⟩ | ⟨i, hi⟩
    · exact le_none o.le (o.fr.new _ _ _ _ _ _ ea).1
    · cases hq : (qs i).g k with
      | none => exact absurd hq hi
      | some c' => exact o.dj i k c' hq
  · refine ⟨fun k c e => ?_, rfl, ⟨o.fr.row.1, ?_⟩, fun b of len lo ex z ea => ?_⟩
    · have hk := Hp.res_has e
      rw [Hp.res_in hk] at e
      rw [Hp.res_in (.inr hk)]; exact e
    · have r := o.fr.row.2
      cases a <;> first | exact r | skip
      obtain ⟨r1, r2, r3, r4⟩ := r
      refine ⟨r1, r2, r3, r4.imp id fun e => ?_⟩
      unfold rdH at e ⊢
      rw [Hp.res_in (.inl ⟨_, _, _, _, _, _, rfl, rfl⟩)]; exact e
    · obtain ⟨n1, n2, cs, n3, n4⟩ := o.fr.new _ _ _ _ _ _ ea
      refine ⟨?_, by show h.lo ≤ b; rw [o.fr.lo]; exact n2, cs, ?_, n4⟩
      · apply Hp.res_out
        rintro ⟨i, hi⟩
        cases hq : (qs i).g b with
        | none => exact hi hq
        | some c' => rw [o.sub i b c' hq] at n1; cases n1
      · rw [Hp.res_in (.inl ⟨_, _, _, _, _, _, ea, rfl⟩)]; exact n3
  · have hi : (qs i).g k ≠ none := by rw [e]; simp
    rw [Hp.res_in ⟨i, hi⟩, hin i k hi]; exact e
section
variable {g h : Hp} {a b : AV} {Post : AV → Hp → Prop}
theorem onTup.z {K : Prop} (k : K) : onTup [] (.tup []) K := k
end
section
variable {h : Hp} {a b : AV} {l : List D.Op} {v : List Int} {Post : AV → Hp → Prop}
theorem nsI : IR h .ns [] := ⟨[], ⟨fun _ h => (by cases h), rfl⟩, .nil⟩
theorem nsO : OpRow h .ns [] := ⟨[], ⟨fun _ h => (by cases h), rfl⟩, .nil⟩
end
section
variable {h : Hp} {a b : AV} {l : List D.Op} {v : List Int} {Post : AV → Hp → Prop}
theorem onL.ask {a b : AV} (ha : a.sc = true) (hb : b.sc = true) {x y z w : Int} {K : AV → AV → Int → Int → Int → Int → Prop} (k : K a b x y z w) : onL [Kd.ref, Kd.ref, Kd.int .i64, Kd.int .i64, Kd.int .i64, Kd.int .i64] [a, b, .i .i64 x, .i .i64 y, .i .i64 z, .i .i64 w] K :=
  onRef.mk (K := fun a => onL [Kd.ref, Kd.int .i64, Kd.int .i64, Kd.int .i64, Kd.int .i64] [b, .i .i64 x, .i .i64 y, .i .i64 z, .i .i64 w] (K a)) ha (onRef.mk (K := fun b => onL [Kd.int .i64, Kd.int .i64, Kd.int .i64, Kd.int .i64] [.i .i64 x, .i .i64 y, .i .i64 z, .i .i64 w] (K a b)) hb k)
end
/- arras/code.Put -/
theorem vc64 (a : AV) (b : Int) (h : Hp) (Post : AV → Hp → Prop) : vcCall Try.prog [0] 64 [(SV.vv a), (SV.ii .i64 b)] h Post = (
  ∃ I0 : Nat → AV → Int → AV → Hp → Prop,
  (∃ p0, I0 p0 a b AV.ns h) ∧
    ∀ (p1 : Nat) (h0 : Hp) (a0 : AV),
      a0.sc = true →
        ∀ (n0 : Int) (a1 : AV),
          a1.sc = true →
            I0 p1 a0 n0 a1 h0 →
              Dup
                (onB (decide (128 ≤ n0))
                  (onO (wrO IntKind.u8 n0) fun n1 =>
                    onO (intO BinOp.or IntKind.u8 n1 128) fun n2 =>
                      ∀ (p2 : Nat),
                        wpE (Eff.app a0 1 (Src.lit [AV.i IntKind.u8 n2]) 1) (fun x0 h1 => onO x0 fun a2 => onO (shO BinOp.shr IntKind.i64 n0 7) fun n3 => ∃ p3, ltN p3 p1 ∧ I0 p3 a2 n3 a1 h1) h0)
                  (onO (wrO IntKind.u8 n0) fun n4 => ∀ (p4 : Nat), wpE (Eff.app a0 1 (Src.lit [AV.i IntKind.u8 n4]) 1) (fun x1 h2 => onO x1 fun a3 => Post a3 h2) h0))) := by kernel_rfl
/- arras/code.PutAll -/
theorem vc62 (a : AV) (b : AV) (h : Hp) (Post : AV → Hp → Prop) : vcCall Try.prog [] 62 [(SV.vv a), (SV.vv b)] h Post = (
  onO (lenV b) fun p0 =>
  wpC Try.prog 64 [a, AV.i IntKind.i64 ↑p0]
    (fun a0 h0 =>
      onRet [Sh.one Kd.ref] a0 fun a1 =>
        onO (lenV b) fun p1 =>
          ∃ I0 : Nat → AV → Int → Hp → Prop,
            (∃ p2, I0 p2 a1 0 h0) ∧
              ∀ (p3 : Nat) (h1 : Hp) (a2 : AV),
                a2.sc = true →
                  ∀ (n0 : Int),
                    I0 p3 a2 n0 h1 →
                      onB (decide (n0 < ↑p1))
                        (onO (idxV b n0 1) fun r0 =>
                          onO (rdH h1 r0.fst r0.snd 1) fun l0 =>
                            onL [Kd.int IntKind.i64] l0 fun n1 =>
                              wpC Try.prog 64 [a2, AV.i IntKind.i64 n1]
                                (fun a3 h2 => onRet [Sh.one Kd.ref] a3 fun a4 => onO (intO BinOp.add IntKind.i64 n0 1) fun n2 => ∃ p4, ltN p4 p3 ∧ I0 p4 a4 n2 h2) h1)
                        (Post a2 h1))
    h) := by kernel_rfl
/- arras/code.PutText -/
theorem vc65 (a : AV) (b : List Nat) (h : Hp) (Post : AV → Hp → Prop) : vcCall Try.prog [] 65 [(SV.vv a), (SV.ss b)] h Post = (
  wpC Try.prog 64 [a, AV.i IntKind.i64 ↑b.length]
  (fun a0 h0 =>
    onRet [Sh.one Kd.ref] a0 fun a1 =>
      onO (srcV 1 (AV.s b)) fun r0 => onC (((4 * r0.fst + 4000) * 1).ble (OfNat.ofNat 17179869184)) (wpE (Eff.app a1 r0.fst r0.snd 1) (fun x0 h1 => onO x0 fun a2 => Post a2 h1) h0))
  h) := by kernel_rfl
/- arras/stamp.Put -/
theorem vc63 (a : AV) (b0 : Int) (b1 : Int) (h : Hp) (Post : AV → Hp → Prop) : vcCall Try.prog [] 63 [(SV.vv a), (SV.ag [(SV.ii .i64 b0), (SV.ii .i64 b1)])] h Post = (
  ∀ (p0 : Nat),
  wpC Try.prog 64 [a, AV.i IntKind.i64 b0] (fun a0 h0 => onRet [Sh.one Kd.ref] a0 fun a1 => wpC Try.prog 64 [a1, AV.i IntKind.i64 b1] (fun a2 h1 => onRet [Sh.one Kd.ref] a2 fun a3 => Post a3 h1) h0)
    h) := by kernel_rfl
/- arras/op.Put -/
theorem vc42 (a : AV) (b0 : Int) (b1 : Int) (b2 : Int) (b3 : AV) (b4 : Int) (b5 : Int) (b6 : Int) (b7 : Int) (b8 : Int) (b9 : List Nat) (b10 : Int) (b11 : Int) (h : Hp) (Post : AV → Hp → Prop) : vcCall Try.prog [] 42 [(SV.vv a), (SV.ag [(SV.ii .i64 b0), (SV.ii .i64 b1), (SV.ii .i64 b2), (SV.vv b3), (SV.ii .i64 b4), (SV.ii .i64 b5), (SV.ii .i64 b6), (SV.ii .i64 b7), (SV.ii .i64 b8), (SV.ss b9), (SV.ii .i64 b10), (SV.ii .i64 b11)])] h Post = (
  ∀ (p0 : Nat),
  wpC Try.prog 63 [a, AV.agg [AV.i IntKind.i64 b0, AV.i IntKind.i64 b1]]
    (fun a0 h0 =>
      onRet [Sh.one Kd.ref] a0 fun a1 =>
        wpC Try.prog 62 [a1, b3]
          (fun a2 h1 =>
            onRet [Sh.one Kd.ref] a2 fun a3 =>
              wpC Try.prog 64 [a3, AV.i IntKind.i64 b4]
                (fun a4 h2 =>
                  onRet [Sh.one Kd.ref] a4 fun a5 =>
                    wpC Try.prog 63 [a5, AV.agg [AV.i IntKind.i64 b5, AV.i IntKind.i64 b6]]
                      (fun a6 h3 =>
                        onRet [Sh.one Kd.ref] a6 fun a7 =>
                          onB (decide (b4 = 1))
                            (wpC Try.prog 63 [a7, AV.agg [AV.i IntKind.i64 b7, AV.i IntKind.i64 b8]]
                              (fun a8 h4 => onRet [Sh.one Kd.ref] a8 fun a9 => wpC Try.prog 65 [a9, AV.s b9] (fun a10 h5 => onRet [Sh.one Kd.ref] a10 fun a11 => Post a11 h5) h4) h3)
                            (wpC Try.prog 64 [a7, AV.i IntKind.i64 b10]
                              (fun a12 h6 =>
                                onRet [Sh.one Kd.ref] a12 fun a13 =>
                                  onO (intO BinOp.add IntKind.i64 b11 1) fun n0 => wpC Try.prog 64 [a13, AV.i IntKind.i64 n0] (fun a14 h7 => onRet [Sh.one Kd.ref] a14 fun a15 => Post a15 h7) h6)
                              h3))
                      h2)
                h1)
          h0)
    h) := by kernel_rfl
/- arras/op.Bytes -/
theorem vc27 (a0 : Int) (a1 : Int) (a2 : Int) (a3 : AV) (a4 : Int) (a5 : Int) (a6 : Int) (a7 : Int) (a8 : Int) (a9 : List Nat) (a10 : Int) (a11 : Int) (h : Hp) (Post : AV → Hp → Prop) : vcCall Try.prog [] 27 [(SV.ag [(SV.ii .i64 a0), (SV.ii .i64 a1), (SV.ii .i64 a2), (SV.vv a3), (SV.ii .i64 a4), (SV.ii .i64 a5), (SV.ii .i64 a6), (SV.ii .i64 a7), (SV.ii .i64 a8), (SV.ss a9), (SV.ii .i64 a10), (SV.ii .i64 a11)])] h Post = (
  ∀ (p0 : Nat),
  wpC Try.prog 41
    [AV.agg
        [AV.i IntKind.i64 a0, AV.i IntKind.i64 a1, AV.i IntKind.i64 a2, a3, AV.i IntKind.i64 a4, AV.i IntKind.i64 a5, AV.i IntKind.i64 a6, AV.i IntKind.i64 a7, AV.i IntKind.i64 a8, AV.s a9,
          AV.i IntKind.i64 a10, AV.i IntKind.i64 a11]]
    (fun a0_1 h0 =>
      onRet [Sh.one Kd.bool] a0_1 fun lc0 =>
        onB (!lc0) (Post (AV.tup [AV.ns, AV.i IntKind.i64 1]) h0)
          (wpC Try.prog 42
            [AV.ns,
              AV.agg
                [AV.i IntKind.i64 a0, AV.i IntKind.i64 a1, AV.i IntKind.i64 a2, a3, AV.i IntKind.i64 a4, AV.i IntKind.i64 a5, AV.i IntKind.i64 a6, AV.i IntKind.i64 a7, AV.i IntKind.i64 a8, AV.s a9,
                  AV.i IntKind.i64 a10, AV.i IntKind.i64 a11]]
            (fun a1 h1 => onRet [Sh.one Kd.ref] a1 fun a2 => Post (AV.tup [a2, AV.i IntKind.i64 0]) h1) h0))
    h) := by kernel_rfl
/- arras/code.TakeNum -/
theorem vc70 (a : AV) (h : Hp) (Post : AV → Hp → Prop) : vcCall Try.prog [0] 70 [(SV.vv a)] h Post = (
  ∃ I0 : Nat → Int → Int → Int → Int → Hp → Prop,
  (∃ p0, I0 p0 0 0 0 0 h) ∧
    ∀ (p1 : Nat) (h0 : Hp) (n0 n1 n2 n3 : Int),
      I0 p1 n0 n1 n2 n3 h0 →
        Dup
          (onO (lenV a) fun p2 =>
            onB (decide (n0 = ↑p2)) (Post (AV.tup [AV.i IntKind.i64 0, AV.i IntKind.i64 0, AV.i IntKind.i64 7]) h0)
              (onO (idxV a n0 1) fun r0 =>
                onO (rdH h0 r0.fst r0.snd 1) fun l0 =>
                  onL [Kd.int IntKind.u8] l0 fun n4 =>
                    onB (decide (128 ≤ n4))
                      (onB (decide (n0 = 8)) (Post (AV.tup [AV.i IntKind.i64 0, AV.i IntKind.i64 0, AV.i IntKind.i64 1]) h0)
                        (onO (idxV a n0 1) fun r1 =>
                          onO (rdH h0 r1.fst r1.snd 1) fun l1 =>
                            onL [Kd.int IntKind.u8] l1 fun n5 =>
                              onO (intO BinOp.and IntKind.u8 n5 127) fun n6 =>
                                onO (wrO IntKind.i64 n6) fun n7 =>
                                  onO (intO BinOp.mul IntKind.i64 7 n0) fun n8 =>
                                    onO (shO BinOp.shl IntKind.i64 n7 n8) fun n9 =>
                                      onO (intO BinOp.or IntKind.i64 n1 n9) fun n10 =>
                                        onO (idxV a n0 1) fun r2 =>
                                          onO (rdH h0 r2.fst r2.snd 1) fun l2 =>
                                            onL [Kd.int IntKind.u8] l2 fun n11 =>
                                              onB (decide (128 ≤ n11)) (onO (intO BinOp.add IntKind.i64 n0 1) fun n12 => ∃ p3, ltN p3 p1 ∧ I0 p3 n12 n10 n2 n3 h0)
                                                (onO (idxV a n0 1) fun r3 =>
                                                  onO (rdH h0 r3.fst r3.snd 1) fun l3 =>
                                                    onL [Kd.int IntKind.u8] l3 fun n13 =>
                                                      onB (decide (n13 = 0))
                                                        (onB (decide (0 < n0)) (Post (AV.tup [AV.i IntKind.i64 0, AV.i IntKind.i64 0, AV.i IntKind.i64 1]) h0)
                                                          (onB (decide (4611686018427387904 < n10)) (Post (AV.tup [AV.i IntKind.i64 0, AV.i IntKind.i64 0, AV.i IntKind.i64 1]) h0)
                                                            (onO (intO BinOp.add IntKind.i64 n0 1) fun n14 => Post (AV.tup [AV.i IntKind.i64 n10, AV.i IntKind.i64 n14, AV.i IntKind.i64 0]) h0)))
                                                        (onB (decide (4611686018427387904 < n10)) (Post (AV.tup [AV.i IntKind.i64 0, AV.i IntKind.i64 0, AV.i IntKind.i64 1]) h0)
                                                          (onO (intO BinOp.add IntKind.i64 n0 1) fun n15 => Post (AV.tup [AV.i IntKind.i64 n10, AV.i IntKind.i64 n15, AV.i IntKind.i64 0]) h0)))))
                      (onO (idxV a n0 1) fun r4 =>
                        onO (rdH h0 r4.fst r4.snd 1) fun l4 =>
                          onL [Kd.int IntKind.u8] l4 fun n16 =>
                            onO (intO BinOp.and IntKind.u8 n16 127) fun n17 =>
                              onO (wrO IntKind.i64 n17) fun n18 =>
                                onO (intO BinOp.mul IntKind.i64 7 n0) fun n19 =>
                                  onO (shO BinOp.shl IntKind.i64 n18 n19) fun n20 =>
                                    onO (intO BinOp.or IntKind.i64 n1 n20) fun n21 =>
                                      onO (idxV a n0 1) fun r5 =>
                                        onO (rdH h0 r5.fst r5.snd 1) fun l5 =>
                                          onL [Kd.int IntKind.u8] l5 fun n22 =>
                                            onB (decide (128 ≤ n22)) (onO (intO BinOp.add IntKind.i64 n0 1) fun n23 => ∃ p4, ltN p4 p1 ∧ I0 p4 n23 n21 n2 n3 h0)
                                              (onO (idxV a n0 1) fun r6 =>
                                                onO (rdH h0 r6.fst r6.snd 1) fun l6 =>
                                                  onL [Kd.int IntKind.u8] l6 fun n24 =>
                                                    onB (decide (n24 = 0))
                                                      (onB (decide (0 < n0)) (Post (AV.tup [AV.i IntKind.i64 0, AV.i IntKind.i64 0, AV.i IntKind.i64 1]) h0)
                                                        (onB (decide (4611686018427387904 < n21)) (Post (AV.tup [AV.i IntKind.i64 0, AV.i IntKind.i64 0, AV.i IntKind.i64 1]) h0)
                                                          (onO (intO BinOp.add IntKind.i64 n0 1) fun n25 => Post (AV.tup [AV.i IntKind.i64 n21, AV.i IntKind.i64 n25, AV.i IntKind.i64 0]) h0)))
                                                      (onB (decide (4611686018427387904 < n21)) (Post (AV.tup [AV.i IntKind.i64 0, AV.i IntKind.i64 0, AV.i IntKind.i64 1]) h0)
                                                        (onO (intO BinOp.add IntKind.i64 n0 1) fun n26 => Post (AV.tup [AV.i IntKind.i64 n21, AV.i IntKind.i64 n26, AV.i IntKind.i64 0]) h0))))))) := by kernel_rfl
/- arras/code.TakeNums -/
theorem vc69 (a : AV) (h : Hp) (Post : AV → Hp → Prop) : vcCall Try.prog [] 69 [(SV.vv a)] h Post = (
  wpC Try.prog 70 [a]
  (fun a0 h0 =>
    onTup [Sh.one (Kd.int IntKind.i64), Sh.one (Kd.int IntKind.i64), Sh.one (Kd.int IntKind.i64)] a0 fun n0 n1 n2 =>
      onB (!decide (n2 = 0)) (Post (AV.tup [AV.ns, AV.i IntKind.i64 0, AV.i IntKind.i64 n2]) h0)
        (onB (decide (1024 < n0)) (Post (AV.tup [AV.ns, AV.i IntKind.i64 0, AV.i IntKind.i64 1]) h0)
          (∃ I0 : Nat → Int → AV → Int → Int → Hp → Prop,
            (∃ p0, I0 p0 n2 AV.ns n1 0 h0) ∧
              ∀ (p1 : Nat) (h1 : Hp) (n3 : Int) (a1 : AV),
                a1.sc = true →
                  ∀ (n4 n5 : Int),
                    I0 p1 n3 a1 n4 n5 h1 →
                      onB (decide (n5 < n0))
                        (onO (slV a (some n4) none none 1) fun a2 =>
                          wpC Try.prog 70 [a2]
                            (fun a3 h2 =>
                              onTup [Sh.one (Kd.int IntKind.i64), Sh.one (Kd.int IntKind.i64), Sh.one (Kd.int IntKind.i64)] a3 fun n6 n7 n8 =>
                                onB (!decide (n8 = 0)) (Post (AV.tup [AV.ns, AV.i IntKind.i64 0, AV.i IntKind.i64 n8]) h2)
                                  (∀ (p2 : Nat),
                                    wpE (Eff.app a1 1 (Src.lit [AV.i IntKind.i64 n6]) 1)
                                      (fun x0 h3 =>
                                        onO x0 fun a4 => onO (intO BinOp.add IntKind.i64 n4 n7) fun n9 => onO (intO BinOp.add IntKind.i64 n5 1) fun n10 => ∃ p3, ltN p3 p1 ∧ I0 p3 n3 a4 n9 n10 h3)
                                      h2))
                            h1)
                        (Post (AV.tup [a1, AV.i IntKind.i64 n4, AV.i IntKind.i64 0]) h1))))
  h) := by kernel_rfl
/- arras/code.TakeText -/
theorem vc58 (a : AV) (h : Hp) (Post : AV → Hp → Prop) : vcCall Try.prog [] 58 [(SV.vv a)] h Post = (
  wpC Try.prog 70 [a]
  (fun a0 h0 =>
    onTup [Sh.one (Kd.int IntKind.i64), Sh.one (Kd.int IntKind.i64), Sh.one (Kd.int IntKind.i64)] a0 fun n0 n1 n2 =>
      onB (!decide (n2 = 0)) (Post (AV.tup [AV.s [], AV.i IntKind.i64 0, AV.i IntKind.i64 n2]) h0)
        (onB (decide (65536 < n0)) (Post (AV.tup [AV.s [], AV.i IntKind.i64 0, AV.i IntKind.i64 1]) h0)
          (onO (lenV a) fun p0 =>
            onO (intO BinOp.sub IntKind.i64 (↑p0) n1) fun n3 =>
              onB (decide (n3 < n0)) (Post (AV.tup [AV.s [], AV.i IntKind.i64 0, AV.i IntKind.i64 7]) h0)
                (onO (intO BinOp.add IntKind.i64 n1 n0) fun n4 =>
                  onO (slV a (some n1) (some n4) none 1) fun a1 =>
                    onO (strAt h0 a1) fun r0 => onO (intO BinOp.add IntKind.i64 n1 n0) fun n5 => Post (AV.tup [AV.s r0.fst, AV.i IntKind.i64 n5, AV.i IntKind.i64 0]) h0))))
  h) := by kernel_rfl
/- arras/stamp.Take -/
theorem vc68 (a : AV) (h : Hp) (Post : AV → Hp → Prop) : vcCall Try.prog [] 68 [(SV.vv a)] h Post = (
  ∀ (p0 : Nat),
  wpC Try.prog 70 [a]
    (fun a0 h0 =>
      onTup [Sh.one (Kd.int IntKind.i64), Sh.one (Kd.int IntKind.i64), Sh.one (Kd.int IntKind.i64)] a0 fun n0 n1 n2 =>
        onB (!decide (n2 = 0)) (Post (AV.tup [AV.agg [AV.i IntKind.i64 0, AV.i IntKind.i64 0], AV.i IntKind.i64 0, AV.i IntKind.i64 n2]) h0)
          (onO (slV a (some n1) none none 1) fun a1 =>
            wpC Try.prog 70 [a1]
              (fun a2 h1 =>
                onTup [Sh.one (Kd.int IntKind.i64), Sh.one (Kd.int IntKind.i64), Sh.one (Kd.int IntKind.i64)] a2 fun n3 n4 n5 =>
                  onB (!decide (n5 = 0)) (Post (AV.tup [AV.agg [AV.i IntKind.i64 0, AV.i IntKind.i64 0], AV.i IntKind.i64 0, AV.i IntKind.i64 n5]) h1)
                    (wpC Try.prog 71 [AV.agg [AV.i IntKind.i64 n0, AV.i IntKind.i64 n3]]
                      (fun a3 h2 =>
                        onRet [Sh.one Kd.bool] a3 fun lc0 =>
                          onB (!lc0) (Post (AV.tup [AV.agg [AV.i IntKind.i64 0, AV.i IntKind.i64 0], AV.i IntKind.i64 0, AV.i IntKind.i64 1]) h2)
                            (onO (intO BinOp.add IntKind.i64 n1 n4) fun n6 => Post (AV.tup [AV.agg [AV.i IntKind.i64 n0, AV.i IntKind.i64 n3], AV.i IntKind.i64 n6, AV.i IntKind.i64 0]) h2))
                      h1))
              h0))
    h) := by kernel_rfl
/- arras/have.Take -/
theorem vc55 (a : AV) (h : Hp) (Post : AV → Hp → Prop) : vcCall Try.prog [] 55 [(SV.vv a)] h Post = (
  wpC Try.prog 69 [a]
  (fun a0 h0 =>
    onTup [Sh.one Kd.ref, Sh.one (Kd.int IntKind.i64), Sh.one (Kd.int IntKind.i64)] a0 fun a1 n0 n1 =>
      onB (!decide (n1 = 0)) (Post (AV.tup [AV.ns, AV.i IntKind.i64 0, AV.i IntKind.i64 n1]) h0)
        (wpC Try.prog 60 [a1]
          (fun a2 h1 =>
            onRet [Sh.one Kd.bool] a2 fun lc0 => onB (!lc0) (Post (AV.tup [AV.ns, AV.i IntKind.i64 0, AV.i IntKind.i64 1]) h1) (Post (AV.tup [a1, AV.i IntKind.i64 n0, AV.i IntKind.i64 0]) h1))
          h0))
  h) := by kernel_rfl
/- (*arras/op.reader).part -/
theorem vc56 (a : AV) (b : Int) (c : Int) (h : Hp) (Post : AV → Hp → Prop) : vcCall Try.prog [] 56 [(SV.vv a), (SV.ii .i64 b), (SV.ii .i64 c)] h Post = (
  onO (ptrV a) fun r0 =>
  onO (rdH h r0.fst (r0.snd + 2) 1) fun l0 =>
    onL [Kd.int IntKind.i64] l0 fun n0 =>
      onB (decide (n0 = 0))
        (onO (ptrV a) fun r1 =>
          onO (rdH h r1.fst (r1.snd + 1) 1) fun l1 =>
            onL [Kd.int IntKind.i64] l1 fun n1 =>
              onO (intO BinOp.add IntKind.i64 n1 b) fun n2 =>
                onO (ptrV a) fun r2 =>
                  wpE (Eff.w r2.fst (r2.snd + 1) (Src.lit [AV.i IntKind.i64 n2]) none)
                    (fun x0 h0 => onO (ptrV a) fun r3 => wpE (Eff.w r3.fst (r3.snd + 2) (Src.lit [AV.i IntKind.i64 c]) none) (fun x1 h1 => Post (AV.tup []) h1) h0) h)
        (Post (AV.tup []) h)) := by kernel_rfl
/- (*arras/op.reader).number -/
theorem vc57 (a : AV) (h : Hp) (Post : AV → Hp → Prop) : vcCall Try.prog [] 57 [(SV.vv a)] h Post = (
  onO (ptrV a) fun r0 =>
  onO (rdH h r0.fst (r0.snd + 0) 1) fun l0 =>
    onL [Kd.ref] l0 fun a0 =>
      onO (ptrV a) fun r1 =>
        onO (rdH h r1.fst (r1.snd + 1) 1) fun l1 =>
          onL [Kd.int IntKind.i64] l1 fun n0 =>
            onO (slV a0 (some n0) none none 1) fun a1 =>
              wpC Try.prog 70 [a1]
                (fun a2 h0 =>
                  onTup [Sh.one (Kd.int IntKind.i64), Sh.one (Kd.int IntKind.i64), Sh.one (Kd.int IntKind.i64)] a2 fun n1 n2 n3 =>
                    wpC Try.prog 56 [a, AV.i IntKind.i64 n2, AV.i IntKind.i64 n3] (fun a3 h1 => onTup [] a3 (Post (AV.i IntKind.i64 n1) h1)) h0)
                h) := by kernel_rfl
/- (*arras/op.reader).place -/
theorem vc54 (a : AV) (h : Hp) (Post : AV → Hp → Prop) : vcCall Try.prog [] 54 [(SV.vv a)] h Post = (
  ∀ (p0 : Nat),
  onO (ptrV a) fun r0 =>
    onO (rdH h r0.fst (r0.snd + 0) 1) fun l0 =>
      onL [Kd.ref] l0 fun a0 =>
        onO (ptrV a) fun r1 =>
          onO (rdH h r1.fst (r1.snd + 1) 1) fun l1 =>
            onL [Kd.int IntKind.i64] l1 fun n0 =>
              onO (slV a0 (some n0) none none 1) fun a1 =>
                wpC Try.prog 68 [a1]
                  (fun a2 h0 =>
                    onTup [Sh.agg [Kd.int IntKind.i64, Kd.int IntKind.i64], Sh.one (Kd.int IntKind.i64), Sh.one (Kd.int IntKind.i64)] a2 fun n1 n2 n3 n4 =>
                      ∀ (p1 : Nat), wpC Try.prog 56 [a, AV.i IntKind.i64 n3, AV.i IntKind.i64 n4] (fun a3 h1 => onTup [] a3 (Post (AV.agg [AV.i IntKind.i64 n1, AV.i IntKind.i64 n2]) h1)) h0)
                  h) := by kernel_rfl
/- (*arras/op.reader).read -/
theorem vc40 (a : AV) (h : Hp) (Post : AV → Hp → Prop) : vcCall Try.prog [] 40 [(SV.vv a)] h Post = (
  ∀ (p0 : Nat),
  wpC Try.prog 54 [a]
    (fun a0 h0 =>
      onRet [Sh.agg [Kd.int IntKind.i64, Kd.int IntKind.i64]] a0 fun n0 n1 =>
        onO (ptrV a) fun r0 =>
          onO (rdH h0 r0.fst (r0.snd + 0) 1) fun l0 =>
            onL [Kd.ref] l0 fun a1 =>
              onO (ptrV a) fun r1 =>
                onO (rdH h0 r1.fst (r1.snd + 1) 1) fun l1 =>
                  onL [Kd.int IntKind.i64] l1 fun n2 =>
                    onO (slV a1 (some n2) none none 1) fun a2 =>
                      wpC Try.prog 55 [a2]
                        (fun a3 h1 =>
                          onTup [Sh.one Kd.ref, Sh.one (Kd.int IntKind.i64), Sh.one (Kd.int IntKind.i64)] a3 fun a4 n3 n4 =>
                            wpC Try.prog 56 [a, AV.i IntKind.i64 n3, AV.i IntKind.i64 n4]
                              (fun a5 h2 =>
                                onTup [] a5
                                  (wpC Try.prog 57 [a]
                                    (fun a6 h3 =>
                                      onRet [Sh.one (Kd.int IntKind.i64)] a6 fun n5 =>
                                        onB (!decide (n5 = 1))
                                          (onB (!decide (n5 = 2))
                                            (wpC Try.prog 56 [a, AV.i IntKind.i64 0, AV.i IntKind.i64 1]
                                              (fun a7 h4 =>
                                                onTup [] a7
                                                  (wpC Try.prog 54 [a]
                                                    (fun a8 h5 =>
                                                      onRet [Sh.agg [Kd.int IntKind.i64, Kd.int IntKind.i64]] a8 fun n6 n7 =>
                                                        onB (decide (n5 = 1))
                                                          (wpC Try.prog 54 [a]
                                                            (fun a9 h6 =>
                                                              onRet [Sh.agg [Kd.int IntKind.i64, Kd.int IntKind.i64]] a9 fun n8 n9 =>
                                                                onO (ptrV a) fun r2 =>
                                                                  onO (rdH h6 r2.fst (r2.snd + 0) 1) fun l2 =>
                                                                    onL [Kd.ref] l2 fun a10 =>
                                                                      onO (ptrV a) fun r3 =>
                                                                        onO (rdH h6 r3.fst (r3.snd + 1) 1) fun l3 =>
                                                                          onL [Kd.int IntKind.i64] l3 fun n10 =>
                                                                            onO (slV a10 (some n10) none none 1) fun a11 =>
                                                                              wpC Try.prog 58 [a11]
                                                                                (fun a12 h7 =>
                                                                                  onTup [Sh.one Kd.str, Sh.one (Kd.int IntKind.i64), Sh.one (Kd.int IntKind.i64)] a12 fun l4 n11 n12 =>
                                                                                    wpC Try.prog 56 [a, AV.i IntKind.i64 n11, AV.i IntKind.i64 n12]
                                                                                      (fun a13 h8 =>
                                                                                        onTup [] a13
                                                                                          (Post
                                                                                            (AV.agg
                                                                                              [AV.i IntKind.i64 n0, AV.i IntKind.i64 n1, AV.i IntKind.i64 0, a4, AV.i IntKind.i64 n5,
                                                                                                AV.i IntKind.i64 n6, AV.i IntKind.i64 n7, AV.i IntKind.i64 n8, AV.i IntKind.i64 n9, AV.s l4,
                                                                                                AV.i IntKind.i64 0, AV.i IntKind.i64 0])
                                                                                            h8))
                                                                                      h7)
                                                                                h6)
                                                            h5)
                                                          (wpC Try.prog 57 [a]
                                                            (fun a14 h9 =>
                                                              onRet [Sh.one (Kd.int IntKind.i64)] a14 fun n13 =>
                                                                wpC Try.prog 57 [a]
                                                                  (fun a15 h10 =>
                                                                    onRet [Sh.one (Kd.int IntKind.i64)] a15 fun n14 =>
                                                                      onO (intO BinOp.sub IntKind.i64 n14 1) fun n15 =>
                                                                        Post
                                                                          (AV.agg
                                                                            [AV.i IntKind.i64 n0, AV.i IntKind.i64 n1, AV.i IntKind.i64 0, a4, AV.i IntKind.i64 n5, AV.i IntKind.i64 n6,
                                                                              AV.i IntKind.i64 n7, AV.i IntKind.i64 0, AV.i IntKind.i64 0, AV.s [], AV.i IntKind.i64 n13, AV.i IntKind.i64 n15])
                                                                          h10)
                                                                  h9)
                                                            h5))
                                                    h4))
                                              h3)
                                            (wpC Try.prog 54 [a]
                                              (fun a16 h11 =>
                                                onRet [Sh.agg [Kd.int IntKind.i64, Kd.int IntKind.i64]] a16 fun n16 n17 =>
                                                  onB (decide (n5 = 1))
                                                    (wpC Try.prog 54 [a]
                                                      (fun a17 h12 =>
                                                        onRet [Sh.agg [Kd.int IntKind.i64, Kd.int IntKind.i64]] a17 fun n18 n19 =>
                                                          onO (ptrV a) fun r4 =>
                                                            onO (rdH h12 r4.fst (r4.snd + 0) 1) fun l5 =>
                                                              onL [Kd.ref] l5 fun a18 =>
                                                                onO (ptrV a) fun r5 =>
                                                                  onO (rdH h12 r5.fst (r5.snd + 1) 1) fun l6 =>
                                                                    onL [Kd.int IntKind.i64] l6 fun n20 =>
                                                                      onO (slV a18 (some n20) none none 1) fun a19 =>
                                                                        wpC Try.prog 58 [a19]
                                                                          (fun a20 h13 =>
                                                                            onTup [Sh.one Kd.str, Sh.one (Kd.int IntKind.i64), Sh.one (Kd.int IntKind.i64)] a20 fun l7 n21 n22 =>
                                                                              wpC Try.prog 56 [a, AV.i IntKind.i64 n21, AV.i IntKind.i64 n22]
                                                                                (fun a21 h14 =>
                                                                                  onTup [] a21
                                                                                    (Post
                                                                                      (AV.agg
                                                                                        [AV.i IntKind.i64 n0, AV.i IntKind.i64 n1, AV.i IntKind.i64 0, a4, AV.i IntKind.i64 n5, AV.i IntKind.i64 n16,
                                                                                          AV.i IntKind.i64 n17, AV.i IntKind.i64 n18, AV.i IntKind.i64 n19, AV.s l7, AV.i IntKind.i64 0,
                                                                                          AV.i IntKind.i64 0])
                                                                                      h14))
                                                                                h13)
                                                                          h12)
                                                      h11)
                                                    (wpC Try.prog 57 [a]
                                                      (fun a22 h15 =>
                                                        onRet [Sh.one (Kd.int IntKind.i64)] a22 fun n23 =>
                                                          wpC Try.prog 57 [a]
                                                            (fun a23 h16 =>
                                                              onRet [Sh.one (Kd.int IntKind.i64)] a23 fun n24 =>
                                                                onO (intO BinOp.sub IntKind.i64 n24 1) fun n25 =>
                                                                  Post
                                                                    (AV.agg
                                                                      [AV.i IntKind.i64 n0, AV.i IntKind.i64 n1, AV.i IntKind.i64 0, a4, AV.i IntKind.i64 n5, AV.i IntKind.i64 n16,
                                                                        AV.i IntKind.i64 n17, AV.i IntKind.i64 0, AV.i IntKind.i64 0, AV.s [], AV.i IntKind.i64 n23, AV.i IntKind.i64 n25])
                                                                    h16)
                                                            h15)
                                                      h11))
                                              h3))
                                          (wpC Try.prog 54 [a]
                                            (fun a24 h17 =>
                                              onRet [Sh.agg [Kd.int IntKind.i64, Kd.int IntKind.i64]] a24 fun n26 n27 =>
                                                onB (decide (n5 = 1))
                                                  (wpC Try.prog 54 [a]
                                                    (fun a25 h18 =>
                                                      onRet [Sh.agg [Kd.int IntKind.i64, Kd.int IntKind.i64]] a25 fun n28 n29 =>
                                                        onO (ptrV a) fun r6 =>
                                                          onO (rdH h18 r6.fst (r6.snd + 0) 1) fun l8 =>
                                                            onL [Kd.ref] l8 fun a26 =>
                                                              onO (ptrV a) fun r7 =>
                                                                onO (rdH h18 r7.fst (r7.snd + 1) 1) fun l9 =>
                                                                  onL [Kd.int IntKind.i64] l9 fun n30 =>
                                                                    onO (slV a26 (some n30) none none 1) fun a27 =>
                                                                      wpC Try.prog 58 [a27]
                                                                        (fun a28 h19 =>
                                                                          onTup [Sh.one Kd.str, Sh.one (Kd.int IntKind.i64), Sh.one (Kd.int IntKind.i64)] a28 fun l10 n31 n32 =>
                                                                            wpC Try.prog 56 [a, AV.i IntKind.i64 n31, AV.i IntKind.i64 n32]
                                                                              (fun a29 h20 =>
                                                                                onTup [] a29
                                                                                  (Post
                                                                                    (AV.agg
                                                                                      [AV.i IntKind.i64 n0, AV.i IntKind.i64 n1, AV.i IntKind.i64 0, a4, AV.i IntKind.i64 n5, AV.i IntKind.i64 n26,
                                                                                        AV.i IntKind.i64 n27, AV.i IntKind.i64 n28, AV.i IntKind.i64 n29, AV.s l10, AV.i IntKind.i64 0,
                                                                                        AV.i IntKind.i64 0])
                                                                                    h20))
                                                                              h19)
                                                                        h18)
                                                    h17)
                                                  (wpC Try.prog 57 [a]
                                                    (fun a30 h21 =>
                                                      onRet [Sh.one (Kd.int IntKind.i64)] a30 fun n33 =>
                                                        wpC Try.prog 57 [a]
                                                          (fun a31 h22 =>
                                                            onRet [Sh.one (Kd.int IntKind.i64)] a31 fun n34 =>
                                                              onO (intO BinOp.sub IntKind.i64 n34 1) fun n35 =>
                                                                Post
                                                                  (AV.agg
                                                                    [AV.i IntKind.i64 n0, AV.i IntKind.i64 n1, AV.i IntKind.i64 0, a4, AV.i IntKind.i64 n5, AV.i IntKind.i64 n26, AV.i IntKind.i64 n27,
                                                                      AV.i IntKind.i64 0, AV.i IntKind.i64 0, AV.s [], AV.i IntKind.i64 n33, AV.i IntKind.i64 n35])
                                                                  h22)
                                                          h21)
                                                    h17))
                                            h3))
                                    h2))
                              h1)
                        h0)
    h) := by kernel_rfl
/- arras/op.Take -/
theorem vc26 (a : AV) (h : Hp) (Post : AV → Hp → Prop) : vcCall Try.prog [] 26 [(SV.vv a)] h Post = (
  ∀ (p0 p1 : Nat),
  h.g p1 = none →
    h.lo.le p1 →
      wpC Try.prog 40 [AV.p p1 0]
        (fun a0 h0 =>
          onRet
            [Sh.agg
                [Kd.int IntKind.i64, Kd.int IntKind.i64, Kd.int IntKind.i64, Kd.ref, Kd.int IntKind.i64, Kd.int IntKind.i64, Kd.int IntKind.i64, Kd.int IntKind.i64, Kd.int IntKind.i64, Kd.str,
                  Kd.int IntKind.i64, Kd.int IntKind.i64]]
            a0 fun n0 n1 n2 a1 n3 n4 n5 n6 n7 l0 n8 n9 =>
            onO (rdH h0 p1 2 1) fun l1 =>
              onL [Kd.int IntKind.i64] l1 fun n10 =>
                onB (!decide (n10 = 0))
                  (Post
                    (AV.tup
                      [AV.agg
                          [AV.i IntKind.i64 0, AV.i IntKind.i64 0, AV.i IntKind.i64 0, AV.ns, AV.i IntKind.i64 0, AV.i IntKind.i64 0, AV.i IntKind.i64 0, AV.i IntKind.i64 0, AV.i IntKind.i64 0,
                            AV.s [], AV.i IntKind.i64 0, AV.i IntKind.i64 0],
                        AV.i IntKind.i64 0, AV.i IntKind.i64 n10])
                    h0)
                  (onO (lenV a1) fun p2 =>
                    onB (decide ((↑p2 : Int) ≤ n1))
                      (Post
                        (AV.tup
                          [AV.agg
                              [AV.i IntKind.i64 0, AV.i IntKind.i64 0, AV.i IntKind.i64 0, AV.ns, AV.i IntKind.i64 0, AV.i IntKind.i64 0, AV.i IntKind.i64 0, AV.i IntKind.i64 0, AV.i IntKind.i64 0,
                                AV.s [], AV.i IntKind.i64 0, AV.i IntKind.i64 0],
                            AV.i IntKind.i64 0, AV.i IntKind.i64 1])
                        h0)
                      (onO (idxV a1 n1 1) fun r0 =>
                        onO (rdH h0 r0.fst r0.snd 1) fun l2 =>
                          onL [Kd.int IntKind.i64] l2 fun n11 =>
                            onO (intO BinOp.add IntKind.i64 n11 1) fun n12 =>
                              wpC Try.prog 41
                                [AV.agg
                                    [AV.i IntKind.i64 n0, AV.i IntKind.i64 n1, AV.i IntKind.i64 n12, a1, AV.i IntKind.i64 n3, AV.i IntKind.i64 n4, AV.i IntKind.i64 n5, AV.i IntKind.i64 n6,
                                      AV.i IntKind.i64 n7, AV.s l0, AV.i IntKind.i64 n8, AV.i IntKind.i64 n9]]
                                (fun a2 h1 =>
                                  onRet [Sh.one Kd.bool] a2 fun lc0 =>
                                    onB lc0
                                      (onO (rdH h1 p1 1 1) fun l3 =>
                                        onL [Kd.int IntKind.i64] l3 fun n13 =>
                                          Post
                                            (AV.tup
                                              [AV.agg
                                                  [AV.i IntKind.i64 n0, AV.i IntKind.i64 n1, AV.i IntKind.i64 n12, a1, AV.i IntKind.i64 n3, AV.i IntKind.i64 n4, AV.i IntKind.i64 n5,
                                                    AV.i IntKind.i64 n6, AV.i IntKind.i64 n7, AV.s l0, AV.i IntKind.i64 n8, AV.i IntKind.i64 n9],
                                                AV.i IntKind.i64 n13, AV.i IntKind.i64 0])
                                            h1)
                                      (Post
                                        (AV.tup
                                          [AV.agg
                                              [AV.i IntKind.i64 0, AV.i IntKind.i64 0, AV.i IntKind.i64 0, AV.ns, AV.i IntKind.i64 0, AV.i IntKind.i64 0, AV.i IntKind.i64 0, AV.i IntKind.i64 0,
                                                AV.i IntKind.i64 0, AV.s [], AV.i IntKind.i64 0, AV.i IntKind.i64 0],
                                            AV.i IntKind.i64 0, AV.i IntKind.i64 1])
                                        h1))
                                h0)))
        (h.put p1 [a, AV.i IntKind.i64 0, AV.i IntKind.i64 0])) := by kernel_rfl
/-! ### plain: written -/
def encF : Nat → Nat → List Nat
  | 0, n => [n % 256]
  | f + 1, n => if n < 128 then [n] else (n % 128 + 128) :: encF f (n / 128)
/-- a number's bytes -/
def enc (n : Nat) : List Nat := encF n n
theorem encF_more : ∀ (f n : Nat), n ≤ f → encF (f + 1) n = encF f n
  | 0, n, h => by
    have : n = 0 := by omega
    subst this; rfl
  | f + 1, n, h => by
    show (if n < 128 then [n] else (n % 128 + 128) :: encF (f + 1) (n / 128)) = (if n < 128 then [n] else (n % 128 + 128) :: encF f (n / 128))
    by_cases hn : n < 128
    · rw [if_pos hn, if_pos hn]
    · rw [if_neg hn, if_neg hn, encF_more f (n / 128) (by omega)]
theorem encF_eq : ∀ (f n : Nat), n ≤ f → encF f n = enc n := by
  intro f n h
  induction h with
  | refl => rfl
  | step h ih => rw [encF_more _ _ h, ih]
theorem enc_small {n : Nat} (h : n < 128) : enc n = [n] := by
  cases n with
  | zero => rfl
  | succ n => show (if n + 1 < 128 then [n + 1] else _) = _; rw [if_pos h]
theorem enc_big {n : Nat} (h : 128 ≤ n) : enc n = (n % 128 + 128) :: enc (n / 128) := by
  obtain ⟨m, rfl⟩ : ∃ m, n = m + 1 := ⟨n - 1, by omega⟩
  show (if m + 1 < 128 then [m + 1] else ((m + 1) % 128 + 128) :: encF m ((m + 1) / 128)) = _
  rw [if_neg (by omega), encF_eq m _ (by omega)]
theorem enc_len : ∀ (k n : Nat), n < 128 ^ (k + 1) → (enc n).length ≤ k + 1
  | 0, n, h => by rw [enc_small (by omega)]; simp
  | k + 1, n, h => by
    by_cases hn : n < 128
    · rw [enc_small hn]; simp
    · rw [enc_big (by omega), List.length_cons]
      have := enc_len k (n / 128) (by rw [Nat.pow_succ] at h; omega)
      omega
theorem enc_len10 {n : Nat} (h : n < 9223372036854775808) : (enc n).length ≤ 9 := enc_len 8 n (by omega)
def encs (l : List Int) : List Nat := (l.map fun x => enc x.toNat).flatten
def opE (o : D.Op) : List Nat := enc o.stamp.time.toNat ++ enc o.stamp.rep.toNat ++ (enc o.deps.length ++ encs o.deps) ++ enc o.kind.toNat ++ (enc o.node.time.toNat ++ enc o.node.rep.toNat) ++
  (if o.kind = 1 then (enc o.parent.time.toNat ++ enc o.parent.rep.toNat) ++ (enc o.key.length ++ o.key) else enc o.prop.toNat ++ enc (o.value + 1).toNat)
/-- what was taken, how many bytes, the error -/
abbrev Tk (α : Type) := α × Nat × Int
def tkF : List Nat → Nat → Nat → Tk Int
  | [], _, _ => (0, 0, 7)
  | b :: l, i, acc => if 128 ≤ b ∧ i = 8 then (0, 0, 1) else if 128 ≤ b then tkF l (i + 1) (acc + b % 128 * 2 ^ (7 * i)) else
    if b = 0 ∧ 0 < i ∨ 4611686018427387904 < acc + b * 2 ^ (7 * i) then (0, 0, 1) else ((acc + b * 2 ^ (7 * i) : Nat), i + 1, 0)
def tkN (l : List Nat) : Tk Int := tkF l 0 0
theorem tkF_len : ∀ (l : List Nat) (i acc : Nat), (tkF l i acc).2.1 ≤ l.length + i
  | [], i, acc => by simp [tkF]
  | b :: l, i, acc => by
    unfold tkF
    split
    · simp
    · split
      · have := tkF_len l (i + 1) (acc + b % 128 * 2 ^ (7 * i)); simp; omega
      · split
        · simp
        · simp; omega
theorem tkN_len (l : List Nat) : (tkN l).2.1 ≤ l.length := by have := tkF_len l 0 0; unfold tkN; omega
theorem tkF_num : ∀ (l : List Nat) (i acc : Nat), 0 ≤ (tkF l i acc).1 ∧ (tkF l i acc).1 ≤ 4611686018427387904
  | [], i, acc => by simp [tkF]
  | b :: l, i, acc => by
    unfold tkF
    split
    · simp
    · split
      · exact tkF_num l _ _
      · split
        · simp
        · rename_i h
          have : ¬ 4611686018427387904 < acc + b * 2 ^ (7 * i) := fun h' => h (.inr h')
          constructor
          · exact Int.natCast_nonneg _
          · show ((acc + b * 2 ^ (7 * i) : Nat) : Int) ≤ _; omega
theorem tkN_num (l : List Nat) : 0 ≤ (tkN l).1 ∧ (tkN l).1 ≤ 4611686018427387904 := tkF_num l 0 0
def tkNsF : Nat → List Nat → List Int → Nat → Tk (List Int)
  | 0, _, acc, k => (acc, k, 0)
  | m + 1, l, acc, k => if (tkN (l.drop k)).2.2 = 0 then tkNsF m l (acc ++ [(tkN (l.drop k)).1]) (k + (tkN (l.drop k)).2.1) else ([], 0, (tkN (l.drop k)).2.2)
def tkNs (l : List Nat) : Tk (List Int) := if (tkN l).2.2 = 0 then (if 1024 < (tkN l).1 then ([], 0, 1) else tkNsF (tkN l).1.toNat l [] (tkN l).2.1) else ([], 0, (tkN l).2.2)
def tkT (l : List Nat) : Tk (List Nat) := if (tkN l).2.2 = 0 then (if 65536 < (tkN l).1 then ([], 0, 1) else if (l.length : Int) - (tkN l).2.1 < (tkN l).1 then ([], 0, 7) else ((l.drop (tkN l).2.1).take (tkN l).1.toNat, (tkN l).2.1 + (tkN l).1.toNat, 0)) else ([], 0, (tkN l).2.2)
def tkS (l : List Nat) : Tk D.Stamp := if (tkN l).2.2 = 0 then (if (tkN (l.drop (tkN l).2.1)).2.2 = 0 then (if placeV ⟨(tkN l).1, (tkN (l.drop (tkN l).2.1)).1⟩ = true then (⟨(tkN l).1, (tkN (l.drop (tkN l).2.1)).1⟩, (tkN l).2.1 + (tkN (l.drop (tkN l).2.1)).2.1, 0) else (⟨0, 0⟩, 0, 1)) else (⟨0, 0⟩, 0, (tkN (l.drop (tkN l).2.1)).2.2)) else (⟨0, 0⟩, 0, (tkN l).2.2)
def tkV (l : List Nat) : Tk (List Int) := if (tkNs l).2.2 = 0 then (if vecV (tkNs l).1 = true then tkNs l else ([], 0, 1)) else ([], 0, (tkNs l).2.2)
theorem tkNsF_len : ∀ (m : Nat) (l : List Nat) (acc : List Int) (k : Nat), k ≤ l.length → (tkNsF m l acc k).2.1 ≤ l.length
  | 0, l, acc, k, h => h
  | m + 1, l, acc, k, h => by
    unfold tkNsF
    split
    · refine tkNsF_len m l _ _ ?_
      have := tkN_len (l.drop k)
      rw [List.length_drop] at this; omega
    · simp
theorem tkNs_len (l : List Nat) : (tkNs l).2.1 ≤ l.length := by
  unfold tkNs
  split
  · split
    · simp
    · exact tkNsF_len _ _ _ _ (tkN_len l)
  · simp
theorem tkT_len (l : List Nat) : (tkT l).2.1 ≤ l.length := by
  unfold tkT
  split
  · split
    · simp
    · split
      · simp
      · have := tkN_num l
        show (tkN l).2.1 + (tkN l).1.toNat ≤ l.length
        omega
  · simp
theorem tkS_len (l : List Nat) : (tkS l).2.1 ≤ l.length := by
  unfold tkS
  split
  · split
    · split
      · have := tkN_len (l.drop (tkN l).2.1)
        have h2 := tkN_len l
        rw [List.length_drop] at this
        show (tkN l).2.1 + (tkN (l.drop (tkN l).2.1)).2.1 ≤ l.length
        omega
      · simp
    · simp
  · simp
theorem tkV_len (l : List Nat) : (tkV l).2.1 ≤ l.length := by
  unfold tkV
  split
  · split
    · exact tkNs_len l
    · simp
  · simp
abbrev BR := Kn.byte.Row
abbrev BO := Kn.byte.Own
theorem byte_cells {h : Hp} {x : Nat} : ∀ c, Kn.byte.K h x c → c = [.i .u8 (.ofNat x)] := fun c k => k.1
theorem byte_flat : Kn.byte.Flat := fun h h' x c k => k
theorem byte_lt {h : Hp} {a : AV} {l : List Nat} (r : BR h a l) {x : Nat} (hx : x ∈ l) : x < 256 := by
  obtain ⟨c, k⟩ := r.all hx
  exact k.2
section
variable {g h : Hp} {a b : AV} {l m : List Nat} {Post : AV → Hp → Prop}
theorem byte0 (r : BR h a l) {k : Nat} {x : Nat} (e : l[k]? = some x) {K : Int → Prop} (q : K (x : Int)) : onO (idxV a (k : Int) 1) fun r0 => onO (rdH h r0.1 r0.2 1) fun l0 => onL [Kd.int .u8] l0 K :=
  r.whole (Int.natCast_nonneg k) (by simpa using e) byte_cells rfl (onL.u1 q)
theorem app_byte (ow : BO g h a l) {x : Nat} (hx : x < 256) (hb : l.length + 1 < 32000000) (k : ∀ r h', BO g h' r (l ++ [x]) → Post r h') : wpE (.app a 1 (.lit [.i .u8 (x : Int)]) 1) (fun x0 h1 => onO x0 fun a2 => Post a2 h1) h :=
  ow.app1 (c := [.i .u8 (.ofNat x)]) rfl byte_flat ⟨rfl, hx⟩ hb fun r' h' o => onO.mk rfl (k _ _ o)
theorem wr8n {n : Nat} : wrO .u8 (n : Int) = some ((n % 256 : Nat) : Int) := by rw [wr8]; rfl
theorem or128 {n : Nat} (h : n < 256) : intO .or .u8 (n : Int) 128 = some ((n % 128 + 128 : Nat) : Int) := by
  unfold intO
  have e : intA .or .u8 (n : Int) 128 = some (.i .u8 (wrapA .u8 (.ofNat (Nat.lor n 128)))) := by
    show (cond (Nat.blt n 256 && Nat.blt 128 256) _ none : Option AV) = _
    rw [blt_of h]; rfl
  rw [e]
  have h2 : Nat.lor n 128 = n % 128 + 128 := by
    have : ∀ m : Fin 256, Nat.lor m.val 128 = m.val % 128 + 128 := by decide
    exact this ⟨n, h⟩
  rw [h2]
  show some (wrapA .u8 ((n % 128 + 128 : Nat) : Int)) = _
  rw [wrap_mod rfl]
  congr 1
  show ((n % 128 + 128 : Nat) : Int) % 256 = _
  omega
theorem shr7 {n : Nat} (h : n < 9223372036854775808) : shO .shr .i64 (n : Int) 7 = some ((n / 128 : Nat) : Int) := by
  unfold shO
  show (match some (AV.i .i64 (Int.fdiv (n : Int) ((128 : Nat) : Int))) with | some (.i _ c) => some c | _ => none) = _
  show some (Int.fdiv (n : Int) ((128 : Nat) : Int)) = _
  rw [Int.fdiv_eq_ediv_of_nonneg _ (by omega)]
  rfl
theorem c64 {n : Nat} (ow : BO g h a l) (hn : n < 9223372036854775808) (hb : l.length + 10 < 32000000) (k : ∀ r h', BO g h' r (l ++ enc n) → Post r h') : wpC Try.prog 64 [a, .i .i64 (n : Int)] Post h := by
  refine call_sound (args := [.vv a, .ii .i64 n]) (cuts := [0]) ⟨ow.sc, trivial, trivial⟩ ?_
  rw [vc64]
  refine ⟨fun q r i _ h' => ∃ (n' : Nat) (l' : List Nat), i = n' ∧ n' < 9223372036854775808 ∧ q = n' ∧ BO g h' r l' ∧ l' ++ enc n' = l ++ enc n ∧ l'.length + (enc n').length < 32000000, ⟨n, n, l, rfl, hn, rfl, ow, rfl, by have := enc_len10 hn; omega⟩, ?_⟩
  rintro q h0 r _ _ x _ ⟨n', l', rfl, hn', hq, ow', he, hl⟩
  have hq := hq.symm
  subst hq
  refine Dup.mk (onB.dec (fun e => ?_) (fun e => ?_))
  · have e : 128 ≤ n' := by omega
    rw [enc_big e, List.length_cons] at hl
    refine onO.mk wr8n (onO.mk (or128 (Nat.mod_lt _ (by omega))) fun _ => app_byte (Post := fun a2 h1 => onO (shO .shr .i64 (n' : Int) 7) fun n3 => ∃ p3, ltN p3 n' ∧ (∃ (n'' : Nat) (l'' : List Nat), n3 = n'' ∧ n'' < 9223372036854775808 ∧ p3 = n'' ∧ BO g h1 a2 l'' ∧ l'' ++ enc n'' = l ++ enc n ∧ l''.length + (enc n'').length < 32000000)) ow' (by omega) (by omega) fun r' h' o => ?_)
    refine onO.mk (shr7 hn') ⟨_, by show n' / 128 < n'; omega, n' / 128, _, rfl, by omega, rfl, o, ?_, by simp; omega⟩
    rw [← he, enc_big e, List.append_assoc]
    congr 1
    show [n' % 256 % 128 + 128] ++ enc (n' / 128) = _
    rw [show n' % 256 % 128 = n' % 128 by omega]; rfl
  · have e : n' < 128 := by omega
    rw [enc_small e, List.length_singleton] at hl
    refine onO.mk wr8n fun _ => app_byte ow' (by omega) (by omega) fun r' h' o => k _ _ ?_
    rw [← he, enc_small e, show n' = n' % 256 by omega]
    exact o
theorem encs_take {v : List Int} {k : Nat} {x : Int} (e : v[k]? = some x) : encs (v.take (k + 1)) = encs (v.take k) ++ enc x.toNat := by
  unfold encs
  rw [take_succ' e, List.map_append, List.flatten_append]; simp
theorem encs_len : ∀ {v : List Int}, (∀ x ∈ v, x < 9223372036854775808) → (encs v).length ≤ 9 * v.length
  | [], _ => by simp [encs]
  | x :: v, h => by
    have h1 := enc_len10 (n := x.toNat) (by have := h x (by simp); omega)
    have h2 := encs_len (v := v) fun y hy => h y (by simp [hy])
    unfold encs at h2 ⊢
    simp only [List.map_cons, List.flatten_cons, List.length_append, List.length_cons]; omega
theorem c62 {v : List Int} (ow : BO g h a l) (rb : IR g b v) (h0 : ∀ x ∈ v, 0 ≤ x ∧ x < 9223372036854775808) (hv : v.length < 32000000) (hb : l.length + 10 + 9 * v.length + 10 < 32000000) (k : ∀ r h', BO g h' r (l ++ (enc v.length ++ encs v)) → Post r h') : wpC Try.prog 62 [a, b] Post h := by
  refine call_sound (args := [.vv a, .vv b]) (cuts := []) ⟨ow.sc, rb.sc, trivial⟩ ?_
  rw [vc62]
  have hl := enc_len10 (n := v.length) (by omega)
  refine onO.mk rb.len (c64 ow (by omega) (by omega) fun r1 h1 o1 => onRet.r o1.sc (onO.mk rb.len ⟨fun q r i h' => ∃ k : Nat, i = k ∧ k ≤ v.length ∧ q = v.length - k ∧ BO g h' r (l ++ (enc v.length ++ encs (v.take k))), ⟨v.length, 0, rfl, by omega, rfl, by simpa [encs] using o1⟩, ?_⟩))
  rintro q h2 r _ _ ⟨j, rfl, hj, rfl, o2⟩
  refine onB.dec (fun e => ?_) (fun e => ?_)
  · obtain ⟨x, hx⟩ := get_lt (l := v) (k := j) (by omega)
    obtain ⟨x0, x1⟩ := h0 x (List.mem_of_getElem? hx)
    obtain ⟨n, rfl⟩ := Int.eq_ofNat_of_zero_le x0
    have hel := encs_len (v := v.take j) fun y hy => (h0 y (List.mem_of_mem_take hy)).2
    have htl : (v.take j).length ≤ v.length := by simp; omega
    refine int0 (rb.mono o2.le) hx (c64 o2 (by omega) (by simp only [List.length_append]; omega) fun r3 h3 o3 => onRet.r o3.sc (onO.mk (inc64 (by omega)) ⟨_, by show v.length - (j + 1) < v.length - j; omega, j + 1, rfl, by omega, rfl, ?_⟩))
    rw [encs_take hx]
    simpa [List.append_assoc] using o3
  · have : j = v.length := by omega
    subst this
    rw [List.take_length] at o2
    exact k _ _ o2
theorem bytes_all {s : List Nat} (hs : ∀ x ∈ s, x < 256) : All2 (Kn.byte.K h) s (s.map fun x => [.i .u8 (.ofNat x)]) :=
  All2.of_get (by simp) fun i x c hx hc => by
    simp [hx] at hc
    subst hc
    exact ⟨rfl, hs x (List.mem_of_getElem? hx)⟩
theorem ofU8_flat : ∀ s : List Nat, ofU8 s = (s.map fun x => [AV.i .u8 (.ofNat x)]).flatten
  | [] => rfl
  | x :: s => by simp [ofU8, ofU8_flat s]
theorem c65 {s : List Nat} (ow : BO g h a l) (hs : ∀ x ∈ s, x < 256) (hb : l.length + 10 + s.length + 10 < 32000000) (k : ∀ r h', BO g h' r (l ++ (enc s.length ++ s)) → Post r h') : wpC Try.prog 65 [a, .s s] Post h := by
  refine call_sound (args := [.vv a, .ss s]) (cuts := []) ⟨ow.sc, trivial, trivial⟩ ?_
  rw [vc65]
  have hl := enc_len10 (n := s.length) (by omega)
  refine c64 ow (by omega) (by omega) fun r1 h1 o1 => onRet.r o1.sc (onO.mk (a := (s.length, .lit (ofU8 s))) rfl (onC.mk (Nat.ble_eq_true_of_le (by show (4 * s.length + 4000) * 1 ≤ 17179869184; omega)) ?_))
  refine o1.app (sz := 1) rfl byte_flat (bytes_all hs) (by simp [srcH, ofU8_flat]) rfl (by simp only [List.length_append]; omega) fun r2 h2 o2 => onO.mk rfl (k _ _ ?_)
  simpa [List.append_assoc] using o2
theorem c63 {s : D.Stamp} (ow : BO g h a l) (h1 : 0 ≤ s.time ∧ s.time < 9223372036854775808) (h2 : 0 ≤ s.rep ∧ s.rep < 9223372036854775808) (hb : l.length + 30 < 32000000) (k : ∀ r h', BO g h' r (l ++ (enc s.time.toNat ++ enc s.rep.toNat)) → Post r h') : wpC Try.prog 63 [a, .agg [.i .i64 s.time, .i .i64 s.rep]] Post h := by
  refine call_sound (args := [.vv a, .ag [.ii .i64 s.time, .ii .i64 s.rep]]) (cuts := []) ⟨ow.sc, ⟨trivial, trivial, trivial⟩, trivial⟩ ?_
  rw [vc63]
  intro _
  obtain ⟨t, ht⟩ := Int.eq_ofNat_of_zero_le h1.1
  obtain ⟨q, hq⟩ := Int.eq_ofNat_of_zero_le h2.1
  rw [ht, hq] at k ⊢
  have e1 := enc_len10 (n := t) (by omega)
  refine c64 ow (by omega) (by omega) fun r1 g1 o1 => onRet.r o1.sc (c64 o1 (by omega) (by simp only [List.length_append]; omega) fun r2 g2 o2 => onRet.r o2.sc (k _ _ ?_))
  simpa [List.append_assoc] using o2
end
theorem isS_fits {s : D.Stamp} (h : isS s = true) : 1 ≤ s.time ∧ s.time ≤ 1099511627776 ∧ 0 ≤ s.rep ∧ s.rep < 16 := by
  unfold isS at h
  simpa using h
theorem placeV_fits {s : D.Stamp} (h : placeV s = true) : 0 ≤ s.time ∧ s.time ≤ 1099511627776 ∧ 0 ≤ s.rep ∧ s.rep < 16 := by
  unfold placeV at h
  rw [Bool.or_eq_true, Bool.or_eq_true] at h
  rcases h with h | h | h
  · have := isS_fits h; omega
  · have := of_decide_eq_true h; subst this; simp
  · have := of_decide_eq_true h; subst this; simp
theorem mayP_fits {p v : Int} (h : mayP p v = true) : 0 ≤ p ∧ p < 19 ∧ -1 ≤ v ∧ v ≤ 1099511627776 := by
  unfold mayP propP at h
  simp only [Bool.and_eq_true, decide_eq_true_eq] at h
  obtain ⟨⟨h1, h2⟩, h3, h4⟩ := h
  obtain ⟨n, rfl⟩ := Int.eq_ofNat_of_zero_le h1
  have hn : n < 19 := by omega
  simp only [Int.toNat_natCast] at h3 h4
  have key : ∀ m : Fin 19, -1 ≤ lowP m.val ∧ highP m.val ≤ 1099511627776 := by decide
  have := key ⟨n, hn⟩
  simp only at this
  omega
/-- the numbers of what may be -/
structure OpNums (o : D.Op) : Prop where
  stamp : 1 ≤ o.stamp.time ∧ o.stamp.time ≤ 1099511627776 ∧ 0 ≤ o.stamp.rep ∧ o.stamp.rep < 16
  deps : ∀ x ∈ o.deps, 0 ≤ x ∧ x ≤ 1099511627776
  len : 1 ≤ o.deps.length ∧ o.deps.length ≤ 16
  node : 1 ≤ o.node.time ∧ o.node.time ≤ 1099511627776 ∧ 0 ≤ o.node.rep ∧ o.node.rep < 16
  kind : (o.kind = 1 ∧ (0 ≤ o.parent.time ∧ o.parent.time ≤ 1099511627776 ∧ 0 ≤ o.parent.rep ∧ o.parent.rep < 16) ∧ 1 ≤ o.key.length ∧ o.key.length ≤ 64 ∧ o.prop = 0 ∧ o.value = 0) ∨
    (o.kind = 2 ∧ (0 ≤ o.prop ∧ o.prop < 19 ∧ -1 ≤ o.value ∧ o.value ≤ 1099511627776) ∧ o.parent = ⟨0, 0⟩ ∧ o.key = [])
theorem mayO_nums {o : D.Op} (h : mayO o = true) : OpNums o := by
  unfold mayO at h
  simp only [Bool.and_eq_true] at h
  obtain ⟨h1, h2, h3, h4, h5⟩ := h
  have hv := h2
  unfold vecV at hv
  simp only [Bool.and_eq_true, List.all_eq_true, decide_eq_true_eq] at hv
  refine ⟨isS_fits h1, fun x hx => ?_, hv.2, isS_fits h3, ?_⟩
  · have := hv.1 x hx
    simpa [numV] using this
  · unfold kindV at h5
    split at h5
    · rename_i hk
      simp only [Bool.and_eq_true, decide_eq_true_eq] at h5
      obtain ⟨q1, q2, q3, q4⟩ := h5
      unfold keyV at q2
      simp only [Bool.and_eq_true, decide_eq_true_eq] at q2
      exact .inl ⟨hk, placeV_fits q1, q2.1, q2.2.1, q3, q4⟩
    · split at h5
      · rename_i hk
        simp only [Bool.and_eq_true, decide_eq_true_eq] at h5
        exact .inr ⟨hk, mayP_fits h5.1, h5.2.1, h5.2.2⟩
      · cases h5
section
variable {g h : Hp} {a b : AV} {l m : List Nat} {Post : AV → Hp → Prop}
theorem c42 {o : D.Op} {d : AV} (ow : BO g h a l) (rd : IR g d o.deps) (hm : mayO o = true) (hk : ∀ x ∈ o.key, x < 256) (hb : l.length < 31000000) (k : ∀ r h', BO g h' r (l ++ opE o) → Post r h') : wpC Try.prog 42 [a, .agg (opC o d)] Post h := by
  obtain ⟨s1, s2, s3, s4, s5⟩ := mayO_nums hm
  refine call_sound (args := [.vv a, opS o d]) (cuts := []) ⟨ow.sc, opS_good rd.sc, trivial⟩ ?_
  unfold opS
  rw [vc42]
  intro _
  have t1 := enc_len10 (n := o.stamp.time.toNat) (by omega)
  have t2 := enc_len10 (n := o.stamp.rep.toNat) (by omega)
  have t3 := enc_len10 (n := o.deps.length) (by omega)
  have t4 := encs_len (v := o.deps) fun x hx => by have := s2 x hx; omega
  have t5 : 0 ≤ o.kind ∧ o.kind ≤ 2 := by rcases s5 with s | s <;> omega
  obtain ⟨K, hK⟩ := Int.eq_ofNat_of_zero_le t5.1
  have t6 := enc_len10 (n := K) (by omega)
  have t7 := enc_len10 (n := o.node.time.toNat) (by omega)
  have t8 := enc_len10 (n := o.node.rep.toNat) (by omega)
  refine c63 (s := o.stamp) ow ⟨by omega, by omega⟩ ⟨by omega, by omega⟩ (by omega) fun r1 h1 o1 => onRet.r o1.sc ?_
  refine c62 o1 rd (fun x hx => by have := s2 x hx; omega) (by omega) (by simp only [List.length_append]; omega) fun r2 h2 o2 => onRet.r o2.sc ?_
  rw [hK]
  refine c64 o2 (by omega) (by simp only [List.length_append]; omega) fun r3 h3 o3 => onRet.r o3.sc ?_
  refine c63 (s := o.node) o3 ⟨by omega, by omega⟩ ⟨by omega, by omega⟩ (by simp only [List.length_append]; omega) fun r4 h4 o4 => onRet.r o4.sc ?_
  rcases s5 with ⟨k1, k2, k3, k4, k5, k6⟩ | ⟨k1, k2, k3, k4⟩
  · refine onB.pos (by rw [← hK, k1]; rfl) (c63 (s := o.parent) o4 ⟨by omega, by omega⟩ ⟨by omega, by omega⟩ (by simp only [List.length_append]; omega) fun r5 h5 o5 => onRet.r o5.sc ?_)
    have t9 := enc_len10 (n := o.parent.time.toNat) (by omega)
    have t10 := enc_len10 (n := o.parent.rep.toNat) (by omega)
    refine c65 o5 hk (by simp only [List.length_append]; omega) fun r6 h6 o6 => onRet.r o6.sc (k _ _ ?_)
    unfold opE
    rw [if_pos k1, hK]
    simpa [List.append_assoc] using o6
  · refine onB.neg (by rw [← hK, k1]; rfl) ?_
    obtain ⟨p, hp⟩ := Int.eq_ofNat_of_zero_le k2.1
    have t9 := enc_len10 (n := p) (by omega)
    obtain ⟨w, hw⟩ := Int.eq_ofNat_of_zero_le (a := o.value + 1) (by omega)
    rw [hp]
    refine c64 o4 (by omega) (by simp only [List.length_append]; omega) fun r5 h5 o5 => onRet.r o5.sc (onO.mk (add64 (by omega) (by omega)) ?_)
    rw [hw]
    refine c64 o5 (by omega) (by simp only [List.length_append]; omega) fun r6 h6 o6 => onRet.r o6.sc (k _ _ ?_)
    unfold opE
    rw [if_neg (by omega), hK, hp, hw]
    simpa [List.append_assoc] using o6
theorem c27 {o : D.Op} {d : AV} (rd : IR h d o.deps) (hd : o.deps.length < 32000000) (hk : ∀ x ∈ o.key, x < 256) (k1 : mayO o = false → Post (.tup [.ns, .i .i64 1]) h) (k2 : mayO o = true → ∀ r h', BO h h' r (opE o) → Post (.tup [r, .i .i64 0]) h') : wpC Try.prog 27 [.agg (opC o d)] Post h := by
  refine call_sound (args := [opS o d]) (cuts := []) ⟨opS_good rd.sc, trivial⟩ ?_
  unfold opS
  rw [vc27]
  intro _
  refine c41 (o := o) rd hd (onRet.b (onB.not k1 fun e => ?_))
  exact c42 (o := o) (l := []) (Kn.Own.nil _ _) rd e hk (by simp) fun r h' o' => onRet.r o'.sc (k2 e _ _ o')
end
theorem and127 {n : Nat} (h : n < 256) : intO .and .u8 (n : Int) 127 = some ((n % 128 : Nat) : Int) := by
  unfold intO
  have e : intA .and .u8 (n : Int) 127 = some (.i .u8 (wrapA .u8 (.ofNat (Nat.land n 127)))) := by
    show (cond (Nat.blt n 256 && Nat.blt 127 256) _ none : Option AV) = _
    rw [blt_of h]; rfl
  rw [e]
  have h2 : Nat.land n 127 = n % 128 := Nat.and_two_pow_sub_one_eq_mod n 7
  rw [h2]
  show some (wrapA .u8 ((n % 128 : Nat) : Int)) = _
  rw [wrap_mod rfl]
  congr 1
  show ((n % 128 : Nat) : Int) % 256 = _
  omega
theorem pow7 {i : Nat} (h : i ≤ 8) : 2 ^ (7 * i) ≤ 72057594037927936 := by
  have : (2 : Nat) ^ (7 * i) ≤ 2 ^ 56 := Nat.pow_le_pow_right (by omega) (by omega)
  simpa using this
theorem mul_lt128 {c p : Nat} (hc : c < 128) (hp : p ≤ 72057594037927936) : c * p ≤ 9151314442816847872 := by
  have : c * p ≤ 127 * 72057594037927936 := Nat.mul_le_mul (by omega) hp
  omega
theorem shl7 {c i : Nat} (hc : c < 128) (hi : i ≤ 8) : shO .shl .i64 (c : Int) ((7 * i : Nat) : Int) = some ((c * 2 ^ (7 * i) : Nat) : Int) := by
  unfold shO
  have hb : Nat.ble (7 * i) 64 = true := Nat.ble_eq_true_of_le (by omega)
  have e : shiftA .shl .i64 (c : Int) ((7 * i : Nat) : Int) = some (.i .i64 (wrapA .i64 (Int.mul (c : Int) (.ofNat (Nat.pow 2 (cond (Nat.ble (7 * i) 64) (7 * i) 64)))))) := rfl
  rw [e, hb, cond_true]
  have h1 := mul_lt128 hc (pow7 hi)
  have h2 : Int.mul (c : Int) (.ofNat (Nat.pow 2 (7 * i))) = ((c * 2 ^ (7 * i) : Nat) : Int) := by
    rw [Int.natCast_mul]; rfl
  rw [h2, wrap64 (by omega) (by omega)]
theorem or64 {a c i : Nat} (ha : a < 2 ^ (7 * i)) (hc : c < 128) (hi : i ≤ 8) : intO .or .i64 (a : Int) ((c * 2 ^ (7 * i) : Nat) : Int) = some ((a + c * 2 ^ (7 * i) : Nat) : Int) := by
  have h1 := mul_lt128 hc (pow7 hi)
  have h0 := pow7 hi
  unfold intO
  have e : intA .or .i64 (a : Int) ((c * 2 ^ (7 * i) : Nat) : Int) = some (.i .i64 (wrapA .i64 (.ofNat (Nat.lor a (c * 2 ^ (7 * i)))))) := by
    show (cond (Nat.blt a 18446744073709551616 && Nat.blt (c * 2 ^ (7 * i)) 18446744073709551616) _ none : Option AV) = _
    rw [blt_of (by omega), blt_of (by omega)]; rfl
  rw [e]
  have h2 : Nat.lor a (c * 2 ^ (7 * i)) = a + c * 2 ^ (7 * i) := by
    have := Nat.two_pow_add_eq_or_of_lt ha c
    show a ||| (c * 2 ^ (7 * i)) = _
    rw [Nat.or_comm, Nat.mul_comm c, ← this]; omega
  rw [h2]
  have hs : a + c * 2 ^ (7 * i) < 9223372036854775808 := by
    have : a + c * 2 ^ (7 * i) < 72057594037927936 + 9151314442816847872 := by omega
    omega
  show some (wrapA .i64 ((a + c * 2 ^ (7 * i) : Nat) : Int)) = _
  rw [wrap64 (by omega) (by omega)]
theorem onTup.iii' {n m p : Int} {K : Int → Int → Int → Prop} (k : K n m p) : onTup [Sh.one (Kd.int .i64), Sh.one (Kd.int .i64), Sh.one (Kd.int .i64)] (.tup [.i .i64 n, .i .i64 m, .i .i64 p]) K := k
theorem onTup.rii {a : AV} (hs : a.sc = true) {n m : Int} {K : AV → Int → Int → Prop} (k : K a n m) : onTup [Sh.one Kd.ref, Sh.one (Kd.int .i64), Sh.one (Kd.int .i64)] (.tup [a, .i .i64 n, .i .i64 m]) K := by
  show onS [Sh.one Kd.ref, Sh.one (Kd.int .i64), Sh.one (Kd.int .i64)] [a, .i .i64 n, .i .i64 m] K
  unfold onS
  have e : flatV [Sh.one Kd.ref, Sh.one (Kd.int .i64), Sh.one (Kd.int .i64)] [a, .i .i64 n, .i .i64 m] = some [a, .i .i64 n, .i .i64 m] := by
    cases a <;> first | rfl | cases hs
  rw [e]
  exact onRef.mk (K := fun a => K a n m) hs k
theorem onTup.sii {s : List Nat} {n m : Int} {K : List Nat → Int → Int → Prop} (k : K s n m) : onTup [Sh.one Kd.str, Sh.one (Kd.int .i64), Sh.one (Kd.int .i64)] (.tup [.s s, .i .i64 n, .i .i64 m]) K := k
theorem onTup.aii {x y n m : Int} {K : Int → Int → Int → Int → Prop} (k : K x y n m) : onTup [Sh.agg [Kd.int .i64, Kd.int .i64], Sh.one (Kd.int .i64), Sh.one (Kd.int .i64)] (.tup [.agg [.i .i64 x, .i .i64 y], .i .i64 n, .i .i64 m]) K := k
/-- a part of a row of data -/
theorem Kn.Row.cut {α : Type} {d : Kn α} {h : Hp} {a : AV} {l : List α} (r : d.Row h a l) {lo hi : Option Int} {i j sz : Nat} (hsz : d.sz = sz) (hlo : natO 0 lo = some i) (hhi : natO l.length hi = some j) (h1 : i ≤ j) (h2 : j ≤ l.length) :
    ∃ r', slV a lo hi none sz = some r' ∧ d.Row h r' ((l.drop i).take (j - i)) := by
  subst hsz
  obtain ⟨css, r1, r2⟩ := r
  have hl := r2.length
  obtain ⟨r', e1, e2⟩ := r1.slice (lo := lo) (hi := hi) hlo (by rw [← hl]; exact hhi) h1 (by omega) (fun _ => trivial)
  exact ⟨r', e1, _, e2, (r2.drop i).take (j - i)⟩
theorem Kn.Row.from {α : Type} {d : Kn α} {h : Hp} {a : AV} {l : List α} (r : d.Row h a l) {i sz : Nat} (hsz : d.sz = sz) (h1 : i ≤ l.length) {K : AV → Prop} (k : ∀ r', d.Row h r' (l.drop i) → K r') : onO (slV a (some (i : Int)) none none sz) K := by
  obtain ⟨r', e1, e2⟩ := r.cut (lo := some (i : Int)) (hi := none) (i := i) (j := l.length) hsz rfl rfl h1 (Nat.le_refl _)
  rw [List.take_of_length_le (by simp)] at e2
  exact onO.mk e1 (k r' e2)
section
variable {g h : Hp} {a b : AV} {l m : List Nat} {Post : AV → Hp → Prop}
theorem c70 (r : BR h a l) (hb : l.length < 32000000) (k : Post (.tup [.i .i64 (tkN l).1, .i .i64 ((tkN l).2.1 : Nat), .i .i64 (tkN l).2.2]) h) : wpC Try.prog 70 [a] Post h := by
  refine call_sound (args := [.vv a]) (cuts := [0]) ⟨r.sc, trivial⟩ ?_
  rw [vc70]
  refine ⟨fun q n0 n1 _ _ h' => h' = h ∧ ∃ i acc : Nat, n0 = i ∧ n1 = acc ∧ i ≤ l.length ∧ i ≤ 8 ∧ q = l.length - i ∧ acc < 2 ^ (7 * i) ∧ tkN l = tkF (l.drop i) i acc, ⟨l.length, rfl, 0, 0, rfl, rfl, by omega, by omega, rfl, by simp, rfl⟩, ?_⟩
  rintro q h0 _ _ _ _ ⟨rfl, i, acc, rfl, rfl, hi, hi8, rfl, hacc, hp⟩
  refine Dup.mk (onO.mk r.len (onB.dec (fun e => ?_) (fun e => ?_)))
  · have : i = l.length := by omega
    rw [hp, this, List.drop_length] at k
    exact k
  · obtain ⟨x, hx⟩ := get_lt (l := l) (k := i) (by omega)
    have hx8 := byte_lt r (List.mem_of_getElem? hx)
    rw [drop_of hx] at hp
    unfold tkF at hp
    have hm7 : intO .mul .i64 7 (i : Int) = some ((7 * i : Nat) : Int) := by rw [mul64 (by omega) (by omega)]; rfl
    have hc := Nat.mod_lt x (show 128 > 0 by omega)
    have hp0 := pow7 hi8
    have hlt := mul_lt128 hc hp0
    refine byte0 r hx (onB.dec (fun e1 => ?_) (fun e1 => ?_))
    · refine onB.dec (fun e2 => ?_) (fun e2 => ?_)
      · rw [if_pos ⟨by omega, by omega⟩] at hp
        rw [hp] at k; exact k
      · rw [if_neg (by omega), if_pos (by omega)] at hp
        refine byte0 r hx (onO.mk (and127 hx8) (onO.mk (wr64 (by omega) (by omega)) (onO.mk hm7 (onO.mk (shl7 hc hi8) (onO.mk (or64 hacc hc hi8) (byte0 r hx (onB.pos (decide_eq_true e1) ?_)))))))
        refine onO.mk (inc64 (by omega)) ⟨_, by show l.length - (i + 1) < l.length - i; omega, rfl, i + 1, _, rfl, rfl, by omega, by omega, rfl, ?_, hp⟩
        have : 2 ^ (7 * (i + 1)) = 128 * 2 ^ (7 * i) := by rw [Nat.mul_succ, Nat.pow_add]; omega
        have h3 : x % 128 * 2 ^ (7 * i) + 2 ^ (7 * i) ≤ 128 * 2 ^ (7 * i) := by
          rw [← Nat.succ_mul]; exact Nat.mul_le_mul_right _ hc
        omega
    · rw [if_neg (by omega), if_neg (by omega)] at hp
      have hx7 : x % 128 = x := by omega
      rw [hx7] at hc hlt
      refine byte0 r hx (onO.mk (and127 hx8) (onO.mk (wr64 (by omega) (by omega)) (onO.mk hm7 (onO.mk (shl7 (by omega) hi8) (onO.mk (or64 hacc (by omega) hi8) (byte0 r hx (onB.neg (decide_eq_false e1) ?_)))))))
      rw [hx7]
      have fin : (¬ (x = 0 ∧ 0 < i)) → onB (decide ((4611686018427387904 : Int) < ((acc + x * 2 ^ (7 * i) : Nat) : Int))) (Post (.tup [.i .i64 0, .i .i64 0, .i .i64 1]) h0) (onO (intO .add .i64 (i : Int) 1) fun n => Post (.tup [.i .i64 ((acc + x * 2 ^ (7 * i) : Nat) : Int), .i .i64 n, .i .i64 0]) h0) := fun hz => by
        refine onB.dec (fun e3 => ?_) (fun e3 => ?_)
        · rw [if_pos (.inr (by omega))] at hp
          rw [hp] at k; exact k
        · rw [if_neg (by omega)] at hp
          rw [hp] at k
          exact onO.mk (inc64 (by omega)) k
      refine byte0 r hx (onB.dec (fun e2 => onB.dec (fun e3 => ?_) (fun e3 => fin (by omega))) (fun e2 => fin (by omega)))
      rw [if_pos (.inl ⟨by omega, by omega⟩)] at hp
      rw [hp] at k; exact k
theorem tkNsF_succ (m : Nat) (l : List Nat) (acc : List Int) (k : Nat) : tkNsF (m + 1) l acc k = if (tkN (l.drop k)).2.2 = 0 then tkNsF m l (acc ++ [(tkN (l.drop k)).1]) (k + (tkN (l.drop k)).2.1) else ([], 0, (tkN (l.drop k)).2.2) := rfl
theorem c69 (r : BR h a l) (hb : l.length < 32000000) (k : ∀ r' h', Kn.int.Own h h' r' (tkNs l).1 → Post (.tup [r', .i .i64 ((tkNs l).2.1 : Nat), .i .i64 (tkNs l).2.2]) h') : wpC Try.prog 69 [a] Post h := by
  refine call_sound (args := [.vv a]) (cuts := []) ⟨r.sc, trivial⟩ ?_
  rw [vc69]
  have hn := tkN_num l
  have hnl := tkN_len l
  unfold tkNs at k
  refine c70 r hb (onTup.iii' (onB.ndec (fun e => ?_) (fun e => onB.dec (fun e1 => ?_) (fun e1 => ?_))))
  · rw [if_neg e] at k; exact k _ _ (Kn.Own.nil _ _)
  · rw [if_pos e, if_pos e1] at k; exact k _ _ (Kn.Own.nil _ _)
  · rw [if_pos e, if_neg e1] at k
    obtain ⟨M, hM⟩ := Int.eq_ofNat_of_zero_le hn.1
    rw [hM] at k e1 ⊢
    refine ⟨fun q _ b kk j h' => ∃ (c : Nat) (acc : List Int) (K : Nat), j = c ∧ kk = K ∧ c ≤ M ∧ q = M - c ∧ K ≤ l.length ∧ acc.length = c ∧ Kn.int.Own h h' b acc ∧ tkNsF M l [] (tkN l).2.1 = tkNsF (M - c) l acc K, ⟨M, 0, [], _, rfl, rfl, by omega, rfl, hnl, rfl, Kn.Own.nil _ _, rfl⟩, ?_⟩
    rintro q h1 _ b _ _ _ ⟨c, acc, K, rfl, rfl, hc, rfl, hK, ha, ow, hp⟩
    refine onB.dec (fun e2 => ?_) (fun e2 => ?_)
    · obtain ⟨d, hd⟩ : ∃ d, M - c = d + 1 := ⟨M - c - 1, by omega⟩
      rw [hd, tkNsF_succ] at hp
      have hn2 := tkN_num (l.drop K)
      have hl2 := tkN_len (l.drop K)
      rw [List.length_drop] at hl2
      refine (r.mono ow.le).from rfl hK fun r2 br2 => c70 br2 (by simp; omega) (onTup.iii' (onB.ndec (fun e3 => ?_) (fun e3 => fun _ => ?_)))
      · rw [if_neg e3] at hp
        have hp : tkNsF ((M : Int)).toNat l [] (tkN l).2.1 = _ := hp
        rw [hp] at k
        exact k _ _ ((Kn.Own.nil _ h1).mono ow.le ow.lo)
      · rw [if_pos e3] at hp
        refine ow.app1 rfl int_flat (x := (tkN (l.drop K)).1) ⟨rfl, by omega, by omega⟩ (by omega) fun r3 h3 o3 => onO.mk rfl (onO.mk (add64 (by omega) (by omega)) (onO.mk (inc64 (by omega)) ⟨_, by show M - (c + 1) < M - c; omega, c + 1, _, K + (tkN (l.drop K)).2.1, rfl, by omega, by omega, rfl, by omega, by simp [ha], o3, ?_⟩))
        rw [show M - (c + 1) = d by omega]; exact hp
    · have : c = M := by omega
      subst this
      rw [Nat.sub_self] at hp
      have hp : tkNsF ((c : Int)).toNat l [] (tkN l).2.1 = (acc, K, 0) := hp
      rw [hp] at k
      exact k _ _ ow
theorem strAt_row (r : BR h a l) : ∃ b o n, strAt h a = some (l, b, o, n) := by
  obtain ⟨css, r1, r2⟩ := r
  have key : ∀ {l : List Nat} {css : List (List AV)}, All2 (Kn.byte.K h) l css → allU8 css.flatten = some l := by
    intro l css r2
    induction r2 with
    | nil => rfl
    | @cons x c l css hx _ ih =>
      obtain ⟨hx, hlt⟩ := hx
      subst hx
      show (cond (Nat.blt x 256) ((allU8 css.flatten).map fun r => x :: r) none) = _
      rw [blt_of hlt, ih]; rfl
  have hl := r2.length
  obtain ⟨hc, r⟩ := r1
  cases a <;> first | exact r.elim | skip
  · rename_i b o len lo ex z
    obtain ⟨r1, r2', r3, r4⟩ := r
    subst r1; subst r2'
    cases hz : Nat.beq css.length 0 with
    | true =>
      have h0 := beq_eq' hz
      have : l = [] := List.length_eq_zero_iff.1 (by omega)
      subst this
      refine ⟨b, o, 0, ?_⟩
      show (cond (Nat.beq Kn.byte.sz 1) (cond (Nat.beq css.length 0) _ _) none : Option (List Nat × Nat × Nat × Nat)) = _
      rw [hz]; rfl
    | false =>
      rcases r4 with r4 | r4
      · subst r4; cases hz
      · refine ⟨b, o, css.length, ?_⟩
        show (cond (Nat.beq Kn.byte.sz 1) (cond (Nat.beq css.length 0) _ (((rdH h b o css.length).bind allU8).map fun l => (l, b, o, css.length))) none : Option (List Nat × Nat × Nat × Nat)) = _
        rw [hz]
        have r4 : rdH h b o (css.length * 1) = some css.flatten := r4
        rw [Nat.mul_one] at r4
        rw [r4, cond_false, Option.bind_some, key r2]; rfl
  all_goals
    have r : css = [] := r
    subst r
    have : l = [] := List.length_eq_zero_iff.1 hl
    subst this
    exact ⟨0, 0, 0, rfl⟩
theorem c58 (r : BR h a l) (hb : l.length < 32000000) (k : Post (.tup [.s (tkT l).1, .i .i64 ((tkT l).2.1 : Nat), .i .i64 (tkT l).2.2]) h) : wpC Try.prog 58 [a] Post h := by
  refine call_sound (args := [.vv a]) (cuts := []) ⟨r.sc, trivial⟩ ?_
  rw [vc58]
  have hn := tkN_num l
  have hnl := tkN_len l
  unfold tkT at k
  refine c70 r hb (onTup.iii' (onB.ndec (fun e => ?_) (fun e => onB.dec (fun e1 => ?_) (fun e1 => onO.mk r.len (onO.mk (sub64 (by omega) (by omega)) (onB.dec (fun e2 => ?_) (fun e2 => ?_)))))))
  · rw [if_neg e] at k; exact k
  · rw [if_pos e, if_pos e1] at k; exact k
  · rw [if_pos e, if_neg e1, if_pos e2] at k; exact k
  · rw [if_pos e, if_neg e1, if_neg e2] at k
    obtain ⟨M, hM⟩ := Int.eq_ofNat_of_zero_le hn.1
    rw [hM] at k e2 e1 ⊢
    have hadd : intO .add .i64 (((tkN l).2.1 : Nat) : Int) (M : Int) = some (((tkN l).2.1 + M : Nat) : Int) := by rw [add64 (by omega) (by omega)]; rfl
    obtain ⟨r', e3, e4⟩ := r.cut (lo := some (((tkN l).2.1 : Nat) : Int)) (hi := some (((tkN l).2.1 + M : Nat) : Int)) (sz := 1) rfl rfl rfl (by omega) (by omega)
    rw [Nat.add_sub_cancel_left] at e4
    obtain ⟨b, o, n, e5⟩ := strAt_row e4
    exact onO.mk hadd (onO.mk e3 (onO.mk e5 (onO.mk hadd k)))
theorem c68 (r : BR h a l) (hb : l.length < 32000000) (k : Post (.tup [.agg [.i .i64 (tkS l).1.time, .i .i64 (tkS l).1.rep], .i .i64 ((tkS l).2.1 : Nat), .i .i64 (tkS l).2.2]) h) : wpC Try.prog 68 [a] Post h := by
  refine call_sound (args := [.vv a]) (cuts := []) ⟨r.sc, trivial⟩ ?_
  rw [vc68]
  have hnl := tkN_len l
  have hn2 := tkN_len (l.drop (tkN l).2.1)
  rw [List.length_drop] at hn2
  unfold tkS at k
  refine fun _ => c70 r hb (onTup.iii' (onB.ndec (fun e => ?_) (fun e => r.from rfl hnl fun r2 br2 => c70 br2 (by simp; omega) (onTup.iii' (onB.ndec (fun e1 => ?_) (fun e1 => c71 (s := ⟨(tkN l).1, (tkN (l.drop (tkN l).2.1)).1⟩) (onRet.b (onB.not (fun e2 => ?_) (fun e2 => ?_)))))))))
  · rw [if_neg e] at k; exact k
  · rw [if_pos e, if_neg e1] at k; exact k
  · rw [if_pos e, if_pos e1, e2] at k; exact k
  · rw [if_pos e, if_pos e1, if_pos e2] at k
    exact onO.mk (add64 (by omega) (by omega)) k
theorem tkNsF_cnt : ∀ (m : Nat) (l : List Nat) (acc : List Int) (k : Nat), (tkNsF m l acc k).1.length ≤ acc.length + m
  | 0, l, acc, k => Nat.le_refl _
  | m + 1, l, acc, k => by
    unfold tkNsF
    split
    · have := tkNsF_cnt m l (acc ++ [(tkN (l.drop k)).1]) (k + (tkN (l.drop k)).2.1)
      simp at this; omega
    · simp
theorem tkNs_cnt (l : List Nat) : (tkNs l).1.length ≤ 1024 := by
  unfold tkNs
  split
  · split
    · simp
    · rename_i h
      have := tkNsF_cnt (tkN l).1.toNat l [] (tkN l).2.1
      have := tkN_num l
      simp at *; omega
  · simp
theorem c55 (r : BR h a l) (hb : l.length < 32000000) (k : ∀ r' h', Kn.int.Own h h' r' (tkV l).1 → Post (.tup [r', .i .i64 ((tkV l).2.1 : Nat), .i .i64 (tkV l).2.2]) h') : wpC Try.prog 55 [a] Post h := by
  refine call_sound (args := [.vv a]) (cuts := []) ⟨r.sc, trivial⟩ ?_
  rw [vc55]
  have hc := tkNs_cnt l
  unfold tkV at k
  refine c69 r hb fun r2 h2 o2 => onTup.rii o2.sc (onB.ndec (fun e => ?_) (fun e => c60 o2.row (by omega) (onRet.b (onB.not (fun e1 => ?_) (fun e1 => ?_)))))
  · rw [if_neg e] at k; exact k _ _ ((Kn.Own.nil _ h2).mono o2.le o2.lo)
  · rw [if_pos e, e1] at k; exact k _ _ ((Kn.Own.nil _ h2).mono o2.le o2.lo)
  · rw [if_pos e, if_pos e1] at k
    rw [e] at k
    have e : (tkNs l).2.2 = 0 := e
    exact k _ _ o2
end
/-! ### memory with one block beside it -/
theorem put_put (G : Hp) (p : Nat) (x y : List AV) : (G.put p x).put p y = G.put p y := Hp.ext (fun k => by
  by_cases e : k = p
  · rw [e, Hp.put_same, Hp.put_same]
  · rw [Hp.put_ne _ _ e, Hp.put_ne _ _ e, Hp.put_ne _ _ e]) rfl
theorem add_one {G : Hp} {p : Nat} (hp : G.g p = none) (c : List AV) : G.add (Hp.one p c G.lo) = G.put p c := Hp.ext (fun k => by
  show (match G.g k with | some c => some c | none => if k = p then some c else none) = if k = p then some c else G.g k
  by_cases e : k = p
  · rw [e, hp, if_pos rfl]
  · rw [if_neg e]
    cases G.g k <;> simp [e]) rfl
theorem wpC.putp {P : Program} {f : FuncId} {args : List AV} {Q : AV → Hp → Prop} {G : Hp} {p : Nat} (hp : G.g p = none) (c : List AV) (w : wpC P f args Q G) :
    wpC P f args (fun v h' => ∃ G', h' = G'.put p c ∧ G'.g p = none ∧ G'.lo = G.lo ∧ Q v G') (G.put p c) := by
  have hd : Disj G (Hp.one p c G.lo) := fun k c' e => by
    show (if k = p then some c else none) = none
    rw [if_neg (fun e' => by rw [e', hp] at e; cases e)]
  have w' := wpC.frame (p := G) (g := Hp.one p c G.lo) rfl hd w
  rw [add_one hp c] at w'
  refine w'.mono fun v h' ⟨p', e, d, hlo, q⟩ => ?_
  have hpp : p'.g p = none := by
    cases hx : p'.g p with
    | none => rfl
    | some y =>
      have := d p y hx
      have this : (if p = p then some c else none) = none := this
      rw [if_pos rfl] at this; cases this
  have hlo : p'.lo = G.lo := hlo
  refine ⟨p', ?_, hpp, hlo, q⟩
  rw [e, ← hlo, add_one hpp]
/-- how far, the error -/
abbrev Rd := Nat × Int
def partR (s : Rd) (n : Nat) (e : Int) : Rd := if s.2 = 0 then (s.1 + n, e) else s
def rdC (a : AV) (s : Rd) : List AV := [a, .i .i64 (s.1 : Nat), .i .i64 s.2]
def numR (l : List Nat) (s : Rd) : Int × Rd := ((tkN (l.drop s.1)).1, partR s (tkN (l.drop s.1)).2.1 (tkN (l.drop s.1)).2.2)
def placeR (l : List Nat) (s : Rd) : D.Stamp × Rd := ((tkS (l.drop s.1)).1, partR s (tkS (l.drop s.1)).2.1 (tkS (l.drop s.1)).2.2)
def vecR (l : List Nat) (s : Rd) : List Int × Rd := ((tkV (l.drop s.1)).1, partR s (tkV (l.drop s.1)).2.1 (tkV (l.drop s.1)).2.2)
def textR (l : List Nat) (s : Rd) : List Nat × Rd := ((tkT (l.drop s.1)).1, partR s (tkT (l.drop s.1)).2.1 (tkT (l.drop s.1)).2.2)
theorem partR_len {l : List Nat} {s : Rd} (h : s.1 ≤ l.length) {n : Nat} (hn : n ≤ (l.drop s.1).length) (e : Int) : (partR s n e).1 ≤ l.length := by
  unfold partR
  rw [List.length_drop] at hn
  split
  · show s.1 + n ≤ l.length; omega
  · exact h
theorem numR_len {l : List Nat} {s : Rd} (h : s.1 ≤ l.length) : (numR l s).2.1 ≤ l.length := partR_len h (tkN_len _) _
theorem placeR_len {l : List Nat} {s : Rd} (h : s.1 ≤ l.length) : (placeR l s).2.1 ≤ l.length := partR_len h (tkS_len _) _
theorem vecR_len {l : List Nat} {s : Rd} (h : s.1 ≤ l.length) : (vecR l s).2.1 ≤ l.length := partR_len h (tkV_len _) _
theorem textR_len {l : List Nat} {s : Rd} (h : s.1 ≤ l.length) : (textR l s).2.1 ≤ l.length := partR_len h (tkT_len _) _
def zeroO : D.Op := ⟨⟨0, 0⟩, 0, [], 0, ⟨0, 0⟩, ⟨0, 0⟩, [], 0, 0⟩
/-- behind the kind -/
def bodyR (l : List Nat) (st : D.Stamp) (v : List Int) (k : Int) (s : Rd) : D.Op × Rd :=
  if k = 1 then (⟨st, 0, v, k, (placeR l s).1, (placeR l (placeR l s).2).1, (textR l (placeR l (placeR l s).2).2).1, 0, 0⟩, (textR l (placeR l (placeR l s).2).2).2)
  else (⟨st, 0, v, k, (placeR l s).1, ⟨0, 0⟩, [], (numR l (placeR l s).2).1, (numR l (numR l (placeR l s).2).2).1 - 1⟩, (numR l (numR l (placeR l s).2).2).2)
def kindR (k : Int) (s : Rd) : Rd := if k = 1 then s else if k = 2 then s else partR s 0 1
def readR (l : List Nat) : D.Op × Rd :=
  bodyR l (placeR l (0, 0)).1 (vecR l (placeR l (0, 0)).2).1 (numR l (vecR l (placeR l (0, 0)).2).2).1 (kindR (numR l (vecR l (placeR l (0, 0)).2).2).1 (numR l (vecR l (placeR l (0, 0)).2).2).2)
def takeO (l : List Nat) : Tk D.Op := if (readR l).2.2 = 0 then (match (readR l).1.deps[(readR l).1.stamp.rep.toNat]? with
  | some x => if mayO { (readR l).1 with seq := x + 1 } = true then ({ (readR l).1 with seq := x + 1 }, (readR l).2.1, 0) else (zeroO, 0, 1)
  | none => (zeroO, 0, 1)) else (zeroO, 0, (readR l).2.2)
section
variable {G : Hp} {p : Nat} {a : AV} {l : List Nat} {s : Rd} {Post : AV → Hp → Prop}
theorem rdc0 : rdH (G.put p (rdC a s)) p 0 1 = some [a] := by unfold rdH; rw [Hp.put_same]; rfl
theorem rdc1 : rdH (G.put p (rdC a s)) p 1 1 = some [.i .i64 (s.1 : Nat)] := by unfold rdH; rw [Hp.put_same]; rfl
theorem rdc2 : rdH (G.put p (rdC a s)) p 2 1 = some [.i .i64 s.2] := by unfold rdH; rw [Hp.put_same]; rfl
theorem c56 {n : Nat} {e : Int} (ha : a.sc = true) (hlo : G.lo ≤ p) (hn : s.1 + n < 32000000) (k : Post (.tup []) (G.put p (rdC a (partR s n e)))) : wpC Try.prog 56 [.p p 0, .i .i64 (n : Nat), .i .i64 e] Post (G.put p (rdC a s)) := by
  refine call_sound (args := [.vv (.p p 0), .ii .i64 n, .ii .i64 e]) (cuts := []) ⟨rfl, trivial, trivial, trivial⟩ ?_
  rw [vc56]
  unfold partR at k
  refine onO.mk (a := (p, 0)) rfl (onO.mk rdc2 (onL.i1 (onB.dec (fun e1 => ?_) (fun e1 => ?_))))
  · rw [if_pos e1] at k
    refine onO.mk (a := (p, 0)) rfl (onO.mk rdc1 (onL.i1 (onO.mk (add64 (by omega) (by omega)) (onO.mk (a := (p, 0)) rfl ?_))))
    refine wpE.w (Hp.put_same _ _ _) hlo rfl (by show 0 + 1 + 1 ≤ 3; omega) rfl ?_
    rw [put_put]
    refine onO.mk (a := (p, 0)) rfl (wpE.w (Hp.put_same _ _ _) hlo rfl (by show 0 + 2 + 1 ≤ 3; omega) rfl ?_)
    rw [put_put]
    exact k
  · rw [if_neg e1] at k; exact k
variable (br : BR G a l) (hlo : G.lo ≤ p) (hp : G.g p = none) (hs : s.1 ≤ l.length) (hb : l.length < 31000000)
include br hlo hp hs hb
theorem c57 (k : Post (.i .i64 (numR l s).1) (G.put p (rdC a (numR l s).2))) : wpC Try.prog 57 [.p p 0] Post (G.put p (rdC a s)) := by
  refine call_sound (args := [.vv (.p p 0)]) (cuts := []) ⟨rfl, trivial⟩ ?_
  rw [vc57]
  have hl := tkN_len (l.drop s.1)
  rw [List.length_drop] at hl
  refine onO.mk (a := (p, 0)) rfl (onO.mk rdc0 (onL.r1 br.sc (onO.mk (a := (p, 0)) rfl (onO.mk rdc1 (onL.i1 ((br.mono (Hp.le_put hp)).from rfl hs fun r' b' => c70 b' (by simp; omega) (onTup.iii' (c56 br.sc hlo (by omega) (onTup.z k)))))))))
theorem c54 (k : Post (.agg [.i .i64 (placeR l s).1.time, .i .i64 (placeR l s).1.rep]) (G.put p (rdC a (placeR l s).2))) : wpC Try.prog 54 [.p p 0] Post (G.put p (rdC a s)) := by
  refine call_sound (args := [.vv (.p p 0)]) (cuts := []) ⟨rfl, trivial⟩ ?_
  rw [vc54]
  have hl := tkS_len (l.drop s.1)
  rw [List.length_drop] at hl
  refine fun _ => onO.mk (a := (p, 0)) rfl (onO.mk rdc0 (onL.r1 br.sc (onO.mk (a := (p, 0)) rfl (onO.mk rdc1 (onL.i1 ((br.mono (Hp.le_put hp)).from rfl hs fun r' b' => c68 b' (by simp; omega) (onTup.aii fun _ => c56 br.sc hlo (by omega) (onTup.z k))))))))
end
theorem kindR_len {l : List Nat} {k : Int} {s : Rd} (h : s.1 ≤ l.length) : (kindR k s).1 ≤ l.length := by
  unfold kindR
  split
  · exact h
  · split
    · exact h
    · exact partR_len h (Nat.zero_le _) _
section
variable {G : Hp} {p : Nat} {a : AV} {l : List Nat} {Post : AV → Hp → Prop}
theorem c40 (br : BR G a l) (hlo : G.lo ≤ p) (hp : G.g p = none) (hb : l.length < 31000000) (k : ∀ d G', Kn.int.Own G G' d (readR l).1.deps → G'.g p = none → Post (.agg (opC (readR l).1 d)) (G'.put p (rdC a (readR l).2))) : wpC Try.prog 40 [.p p 0] Post (G.put p (rdC a (0, 0))) := by
  refine call_sound (args := [.vv (.p p 0)]) (cuts := []) ⟨rfl, trivial⟩ ?_
  rw [vc40]
  have l1 := placeR_len (l := l) (s := (0, 0)) (Nat.zero_le _)
  have l2 := vecR_len l1
  have l3 := numR_len l2
  have hv := tkV_len (l.drop (placeR l (0, 0)).2.1)
  rw [List.length_drop] at hv
  refine fun _ => c54 br hlo hp (Nat.zero_le _) hb (onRet.a2 ?_)
  refine onO.mk (a := (p, 0)) rfl (onO.mk rdc0 (onL.r1 br.sc (onO.mk (a := (p, 0)) rfl (onO.mk rdc1 (onL.i1 ?_)))))
  obtain ⟨r', e1, b'⟩ := br.cut (lo := some (((placeR l (0, 0)).2.1 : Nat) : Int)) (hi := none) (sz := 1) rfl rfl rfl l1 (Nat.le_refl _)
  rw [List.take_of_length_le (by simp)] at b'
  refine onO.mk e1 ?_
  have w : wpC Try.prog 55 [r'] (fun v G' => ∃ d, v = .tup [d, .i .i64 ((tkV (l.drop (placeR l (0, 0)).2.1)).2.1 : Nat), .i .i64 (tkV (l.drop (placeR l (0, 0)).2.1)).2.2] ∧ Kn.int.Own G G' d (tkV (l.drop (placeR l (0, 0)).2.1)).1) G := c55 b' (by simp; omega) fun d G' o => ⟨d, rfl, o⟩
  refine (wpC.putp hp (rdC a (placeR l (0, 0)).2) w).mono ?_
  rintro _ _ ⟨G', rfl, hp', hlo', d, rfl, ow⟩
  have br' := br.mono ow.le
  have hlo2 : G'.lo ≤ p := by rw [hlo']; exact hlo
  refine onTup.rii ow.sc (c56 br.sc hlo2 (by omega) (onTup.z ?_))
  refine c57 br' hlo2 hp' (s := (vecR l (placeR l (0, 0)).2).2) l2 hb (onRet.i ?_)
  have last : ∀ s4 : Rd, s4 = kindR (numR l (vecR l (placeR l (0, 0)).2).2).1 (numR l (vecR l (placeR l (0, 0)).2).2).2 → ∀ o s, (o, s) = bodyR l (placeR l (0, 0)).1 (vecR l (placeR l (0, 0)).2).1 (numR l (vecR l (placeR l (0, 0)).2).2).1 s4 → Post (.agg (opC o d)) (G'.put p (rdC a s)) := fun s4 h4 o s hos => by
    have hr : readR l = (o, s) := by unfold readR; rw [← h4, ← hos]
    have hd : (readR l).1.deps = (vecR l (placeR l (0, 0)).2).1 := by
      unfold readR bodyR
      split <;> rfl
    have := k d G' (by rw [hd]; exact ow) hp'
    rw [hr] at this
    exact this
  have l4 := kindR_len (k := (numR l (vecR l (placeR l (0, 0)).2).2).1) l3
  refine onB.ndec (fun e1 => onB.ndec (fun e2 => c56 (n := 0) br.sc hlo2 (by omega) (onTup.z ?_)) (fun e2 => ?_)) (fun e1 => ?_)
  · have h4 : partR (numR l (vecR l (placeR l (0, 0)).2).2).2 0 1 = kindR (numR l (vecR l (placeR l (0, 0)).2).2).1 (numR l (vecR l (placeR l (0, 0)).2).2).2 := by unfold kindR; rw [if_neg e1, if_neg e2]
    rw [← h4] at l4
    have hl := last _ h4
    unfold bodyR at hl
    rw [if_neg e1] at hl
    have l5 := placeR_len l4
    refine c54 br' hlo2 hp' l4 hb (onRet.a2 (onB.neg (decide_eq_false e1) (c57 br' hlo2 hp' l5 hb (onRet.i (c57 br' hlo2 hp' (numR_len l5) hb (onRet.i ?_))))))
    have hn := tkN_num (l.drop (numR l (placeR l (partR (numR l (vecR l (placeR l (0, 0)).2).2).2 0 1)).2).2.1)
    exact onO.mk (sub64 (by unfold numR at *; omega) (by unfold numR at *; omega)) (hl _ _ rfl)
  · have h4 : (numR l (vecR l (placeR l (0, 0)).2).2).2 = kindR (numR l (vecR l (placeR l (0, 0)).2).2).1 (numR l (vecR l (placeR l (0, 0)).2).2).2 := by unfold kindR; rw [if_neg e1, if_pos e2]
    have hl := last _ h4
    unfold bodyR at hl
    rw [if_neg e1] at hl
    have l5 := placeR_len l3
    refine c54 br' hlo2 hp' l3 hb (onRet.a2 (onB.neg (decide_eq_false e1) (c57 br' hlo2 hp' l5 hb (onRet.i (c57 br' hlo2 hp' (numR_len l5) hb (onRet.i ?_))))))
    have hn := tkN_num (l.drop (numR l (placeR l (numR l (vecR l (placeR l (0, 0)).2).2).2).2).2.1)
    exact onO.mk (sub64 (by unfold numR at *; omega) (by unfold numR at *; omega)) (hl _ _ rfl)
  · have h4 : (numR l (vecR l (placeR l (0, 0)).2).2).2 = kindR (numR l (vecR l (placeR l (0, 0)).2).2).1 (numR l (vecR l (placeR l (0, 0)).2).2).2 := by unfold kindR; rw [if_pos e1]
    have hl := last _ h4
    unfold bodyR at hl
    rw [if_pos e1] at hl
    have l5 := placeR_len l3
    have l6 := placeR_len l5
    refine c54 br' hlo2 hp' l3 hb (onRet.a2 (onB.pos (decide_eq_true e1) (c54 br' hlo2 hp' l5 hb (onRet.a2 ?_))))
    refine onO.mk (a := (p, 0)) rfl (onO.mk rdc0 (onL.r1 br.sc (onO.mk (a := (p, 0)) rfl (onO.mk rdc1 (onL.i1 ?_)))))
    have ht := tkT_len (l.drop (placeR l (placeR l (numR l (vecR l (placeR l (0, 0)).2).2).2).2).2.1)
    rw [List.length_drop] at ht
    exact (br'.mono (Hp.le_put hp')).from rfl l6 fun r2 b2 => c58 b2 (by simp; omega) (onTup.sii (c56 br.sc hlo2 (by omega) (onTup.z (hl _ _ rfl))))
theorem tkS_rep (l : List Nat) : 0 ≤ (tkS l).1.rep := by
  unfold tkS
  split
  · split
    · split
      · rename_i h; exact (placeV_fits h).2.2.1
      · simp
    · simp
  · simp
theorem Fresh.moren {g h : Hp} {a : AV} {sz : Nat} {css : List (List AV)} (f : Fresh g h a sz css) {b : Nat} (hb : h.g b = none) (cs : List AV) : Fresh g (h.put b cs) a sz css := by
  have key : ∀ b' o len lo ex z, a = .sl b' o len lo ex z → b' ≠ b := fun b' o len lo ex z e e' => by
    obtain ⟨_, _, c, n3, _⟩ := f.new _ _ _ _ _ _ e
    rw [e', hb] at n3; cases n3
  refine ⟨Hp.le_trans f.le (Hp.le_put hb), f.lo, f.row.mono (Hp.le_put hb), fun b' o len lo ex z e => ?_⟩
  obtain ⟨n1, n2, cs', n3, n4⟩ := f.new _ _ _ _ _ _ e
  exact ⟨n1, n2, cs', by rw [Hp.put_ne _ _ (key _ _ _ _ _ _ e)]; exact n3, n4⟩
theorem Kn.Own.moren {α : Type} {d : Kn α} {g h : Hp} {a : AV} {l : List α} (o : d.Own g h a l) {b : Nat} (hb : h.g b = none) (cs : List AV) : d.Own g (h.put b cs) a l := by
  obtain ⟨p, css, h0, h01, f, h1⟩ := o
  exact ⟨p, css, h0, h01, f.moren hb cs, h1⟩
theorem c29o {h : Hp} (br : BR h a l) (hb : l.length < 31000000) (k : ∀ d h', Kn.int.Own h h' d (takeO l).1.deps → Post (.tup [.agg (opC (takeO l).1 d), .i .i64 ((takeO l).2.1 : Nat), .i .i64 (takeO l).2.2]) h') : wpC Try.prog 26 [a] Post h := by
  refine call_sound (args := [.vv a]) (cuts := []) ⟨br.sc, trivial⟩ ?_
  rw [vc26]
  refine fun _ p hp hlo => c40 br hlo hp hb fun d G' ow hp' => onRet.op ow.sc ?_
  have le' : h.le (G'.put p (rdC a (readR l).2)) := Hp.le_trans ow.le (Hp.le_put hp')
  have lo' : (G'.put p (rdC a (readR l).2)).lo = h.lo := ow.lo
  have rd' : IR (G'.put p (rdC a (readR l).2)) d (readR l).1.deps := ow.row.mono (Hp.le_put hp')
  have kz : ∀ e : Int, takeO l = (zeroO, 0, e) → Post (.tup [.agg (opC zeroO .ns), .i .i64 0, .i .i64 e]) (G'.put p (rdC a (readR l).2)) := fun e he => by
    have := k .ns _ (by rw [he]; exact (Kn.Own.nil _ _).mono le' lo')
    rw [he] at this
    exact this
  have hst : (readR l).1.stamp = (placeR l (0, 0)).1 := by
    unfold readR bodyR
    split <;> rfl
  have hrep : 0 ≤ (readR l).1.stamp.rep := by rw [hst]; exact tkS_rep _
  have hdep : (readR l).1.deps = (vecR l (placeR l (0, 0)).2).1 := by
    unfold readR bodyR
    split <;> rfl
  have hvv : (vecR l (placeR l (0, 0)).2).1 = [] ∨ vecV (vecR l (placeR l (0, 0)).2).1 = true := by
    show (tkV _).1 = [] ∨ vecV (tkV _).1 = true
    unfold tkV
    split
    · split
      · rename_i h; exact .inr h
      · exact .inl rfl
    · exact .inl rfl
  unfold takeO at kz k
  refine onO.mk rdc2 (onL.i1 (onB.ndec (fun e1 => kz _ (by rw [if_neg e1])) (fun e1 => onO.mk rd'.len (onB.dec (fun e2 => kz _ ?_) (fun e2 => ?_)))))
  · rw [if_pos e1, List.getElem?_eq_none (by omega)]
  · obtain ⟨q, hq⟩ := Int.eq_ofNat_of_zero_le hrep
    have hqn : (readR l).1.stamp.rep.toNat = q := by omega
    obtain ⟨x, hx⟩ := get_lt (l := (readR l).1.deps) (k := q) (by omega)
    have hxx : 0 ≤ x ∧ x ≤ 1099511627776 := by
      rcases hvv with hv | hv
      · rw [hdep, hv] at hx; simp at hx
      · exact vecV_at hv (by rw [hdep] at hx; exact hx)
    rw [if_pos e1, hqn, hx] at kz k
    simp only at kz k
    have hidx : onO (idxV d (readR l).1.stamp.rep 1) fun r0 => onO (rdH (G'.put p (rdC a (readR l).2)) r0.1 r0.2 1) fun l0 => onL [Kd.int .i64] l0 fun n => n = x := by rw [hq]; exact int0 rd' hx rfl
    have hlen : (readR l).1.deps.length < 32000000 := by
      rcases hvv with hv | hv
      · rw [hdep, hv]; simp
      · rw [hdep]; have := vecV_len hv; omega
    rw [hq]
    refine int0 rd' hx (onO.mk (add64 (by omega) (by omega)) ?_)
    rw [← hq]
    refine c41 (o := { (readR l).1 with seq := x + 1 }) rd' hlen (onRet.b (onB.mk (fun e3 => ?_) (fun e3 => kz _ (by rw [e3]; rfl))))
    rw [if_pos e3] at k
    exact onO.mk rdc1 (onL.i1 (k d _ (ow.moren hp' _)))
end
def Bytes8 (l : List Nat) : Prop := ∀ x ∈ l, x < 256
theorem Bytes8.drop {l : List Nat} (h : Bytes8 l) (n : Nat) : Bytes8 (l.drop n) := fun x hx => h x (List.mem_of_mem_drop hx)
structure Good {α : Type} (p : List Nat → Tk α) (e : α → List Nat) (ok : α → Prop) : Prop where
  put : ∀ a rest, ok a → p (e a ++ rest) = (a, (e a).length, 0)
  cut : ∀ a j, ok a → j < (e a).length → (p ((e a).take j)).2.2 = 7
  was : ∀ l, Bytes8 l → (p l).2.2 = 0 → ok (p l).1 ∧ (p l).2.1 = (e (p l).1).length ∧ l.take (p l).2.1 = e (p l).1
/-! ### numbers -/
theorem pow_succ7 (i : Nat) : 2 ^ (7 * (i + 1)) = 128 * 2 ^ (7 * i) := by rw [Nat.mul_succ, Nat.pow_add]; omega
theorem split128 (n P : Nat) : n * P = n % 128 * P + n / 128 * (128 * P) := by
  conv => lhs; rw [← Nat.mod_add_div n 128, Nat.add_mul]
  congr 1
  rw [Nat.mul_comm 128, Nat.mul_assoc]
theorem tkF_cons (b : Nat) (l : List Nat) (i acc : Nat) : tkF (b :: l) i acc = if 128 ≤ b ∧ i = 8 then (0, 0, 1) else if 128 ≤ b then tkF l (i + 1) (acc + b % 128 * 2 ^ (7 * i)) else
    if b = 0 ∧ 0 < i ∨ 4611686018427387904 < acc + b * 2 ^ (7 * i) then (0, 0, 1) else ((acc + b * 2 ^ (7 * i) : Nat), i + 1, 0) := rfl
theorem big_step {n i acc : Nat} (hn : 128 ≤ n) (hi : i ≤ 8) (h : acc + n * 2 ^ (7 * i) ≤ 4611686018427387904) : i ≠ 8 := by
  rintro rfl
  have : 128 * 2 ^ (7 * 8) ≤ n * 2 ^ (7 * 8) := Nat.mul_le_mul_right _ hn
  have e : (128 : Nat) * 2 ^ (7 * 8) = 9223372036854775808 := by decide
  omega
theorem tkF_put : ∀ (n i acc : Nat) (rest : List Nat), i ≤ 8 → (0 < i → 0 < n) → acc + n * 2 ^ (7 * i) ≤ 4611686018427387904 → tkF (enc n ++ rest) i acc = (((acc + n * 2 ^ (7 * i) : Nat) : Int), i + (enc n).length, 0) := by
  intro n
  induction n using Nat.strongRecOn with
  | ind n ih =>
    intro i acc rest hi h0 hb
    by_cases hn : n < 128
    · rw [enc_small hn]
      show tkF (n :: rest) i acc = _
      rw [tkF_cons, if_neg (by omega), if_neg (by omega), if_neg (by omega)]; rfl
    · have h8 := big_step (n := n) (by omega) hi hb
      have hs := split128 n (2 ^ (7 * i))
      rw [enc_big (by omega), List.cons_append, tkF_cons, if_neg (by omega), if_pos (by omega), show (n % 128 + 128) % 128 = n % 128 by omega]
      rw [ih (n / 128) (by omega) (i + 1) _ rest (by omega) (fun _ => by omega) (by rw [pow_succ7]; omega), pow_succ7]
      rw [show acc + n % 128 * 2 ^ (7 * i) + n / 128 * (128 * 2 ^ (7 * i)) = acc + n * 2 ^ (7 * i) by omega]
      rw [List.length_cons]
      congr 2; omega
theorem tkF_cut : ∀ (n i acc j : Nat), i ≤ 8 → acc + n * 2 ^ (7 * i) ≤ 4611686018427387904 → j < (enc n).length → (tkF ((enc n).take j) i acc).2.2 = 7 := by
  intro n
  induction n using Nat.strongRecOn with
  | ind n ih =>
    intro i acc j hi hb hj
    cases j with
    | zero => rfl
    | succ j =>
      by_cases hn : n < 128
      · rw [enc_small hn] at hj; simp at hj
      · have h8 := big_step (n := n) (by omega) hi hb
        have hs := split128 n (2 ^ (7 * i))
        rw [enc_big (by omega)] at hj ⊢
        rw [List.take_succ_cons, tkF_cons, if_neg (by omega), if_pos (by omega), show (n % 128 + 128) % 128 = n % 128 by omega]
        exact ih (n / 128) (by omega) (i + 1) _ j (by omega) (by rw [pow_succ7]; omega) (by simpa using hj)
theorem tkF_was : ∀ (l : List Nat) (i acc : Nat), Bytes8 l → (tkF l i acc).2.2 = 0 → ∃ n : Nat, tkF l i acc = (((acc + n * 2 ^ (7 * i) : Nat) : Int), i + (enc n).length, 0) ∧ l.take (enc n).length = enc n ∧ (0 < i → 0 < n)
  | [], i, acc, _, h => by cases h
  | b :: l, i, acc, hl, h => by
    have hb := hl b (by simp)
    rw [tkF_cons] at h ⊢
    by_cases h1 : 128 ≤ b ∧ i = 8
    · rw [if_pos h1] at h; cases h
    · rw [if_neg h1] at h ⊢
      by_cases h2 : 128 ≤ b
      · rw [if_pos h2] at h ⊢
        obtain ⟨n, e1, e2, e3⟩ := tkF_was l (i + 1) _ (fun x hx => hl x (by simp [hx])) h
        have hn := e3 (by omega)
        have hs := split128 (b % 128 + 128 * n) (2 ^ (7 * i))
        rw [show (b % 128 + 128 * n) % 128 = b % 128 by omega, show (b % 128 + 128 * n) / 128 = n by omega] at hs
        refine ⟨b % 128 + 128 * n, ?_, ?_, fun _ => by omega⟩
        · rw [e1, pow_succ7, enc_big (n := b % 128 + 128 * n) (by omega), show (b % 128 + 128 * n) / 128 = n by omega, List.length_cons]
          rw [show acc + b % 128 * 2 ^ (7 * i) + n * (128 * 2 ^ (7 * i)) = acc + (b % 128 + 128 * n) * 2 ^ (7 * i) by omega]
          congr 2; omega
        · rw [enc_big (n := b % 128 + 128 * n) (by omega), show (b % 128 + 128 * n) / 128 = n by omega, List.length_cons, List.take_succ_cons, e2]
          congr 1; omega
      · rw [if_neg h2] at h ⊢
        by_cases h3 : b = 0 ∧ 0 < i ∨ 4611686018427387904 < acc + b * 2 ^ (7 * i)
        · rw [if_pos h3] at h; cases h
        · rw [if_neg h3]
          refine ⟨b, ?_, ?_, fun _ => by omega⟩
          · rw [enc_small (by omega)]; rfl
          · rw [enc_small (by omega)]; rfl
def okN (n : Int) : Prop := 0 ≤ n ∧ n ≤ 4611686018427387904
theorem goodN : Good tkN (fun n => enc n.toNat) okN where
  put n rest h := by
    obtain ⟨m, rfl⟩ := Int.eq_ofNat_of_zero_le h.1
    have h2 := h.2
    show tkF (enc m ++ rest) 0 0 = _
    rw [tkF_put m 0 0 rest (by omega) (by omega) (by simp; omega)]
    simp
  cut n j h hj := by
    obtain ⟨m, rfl⟩ := Int.eq_ofNat_of_zero_le h.1
    have h2 := h.2
    exact tkF_cut m 0 0 j (by omega) (by simp; omega) hj
  was l hl h := by
    obtain ⟨n, e1, e2, _⟩ := tkF_was l 0 0 hl h
    have hn := tkN_num l
    have e1 : tkN l = ((n : Int), (enc n).length, 0) := by unfold tkN; rw [e1]; simp
    rw [e1] at hn ⊢
    exact ⟨hn, rfl, e2⟩
section
variable {α : Type} {p : List Nat → Tk α} {e : α → List Nat} {ok : α → Prop} (gp : Good p e ok)
include gp
theorem Good.at {l pre rest : List Nat} {a : α} (h : ok a) (hl : l = pre ++ (e a ++ rest)) : p (l.drop pre.length) = (a, (e a).length, 0) := by
  rw [hl, List.drop_left]; exact gp.put a rest h
theorem Good.cutAt {l pre : List Nat} {a : α} {j : Nat} (h : ok a) (hj : j < (e a).length) (hl : l = pre ++ (e a).take j) : (p (l.drop pre.length)).2.2 = 7 := by
  rw [hl, List.drop_left]; exact gp.cut a j h hj
/-- a reader's step that went well -/
theorem Good.step {l : List Nat} {s : Rd} (hl : Bytes8 l) (hs : s.1 ≤ l.length) (h : (partR s (p (l.drop s.1)).2.1 (p (l.drop s.1)).2.2).2 = 0) :
    s.2 = 0 ∧ (p (l.drop s.1)).2.2 = 0 ∧ ok (p (l.drop s.1)).1 ∧ (partR s (p (l.drop s.1)).2.1 (p (l.drop s.1)).2.2).1 = s.1 + (p (l.drop s.1)).2.1 ∧ l.take (s.1 + (p (l.drop s.1)).2.1) = l.take s.1 ++ e (p (l.drop s.1)).1 := by
  unfold partR at h ⊢
  by_cases h0 : s.2 = 0
  · rw [if_pos h0] at h ⊢
    have h : (p (l.drop s.1)).2.2 = 0 := h
    obtain ⟨w1, w2, w3⟩ := gp.was _ (hl.drop _) h
    exact ⟨h0, h, w1, rfl, by rw [List.take_add, w3]⟩
  · rw [if_neg h0] at h; exact absurd h h0
end
theorem partR_ok {k n : Nat} {e : Int} : partR (k, 0) n e = (k + n, e) := rfl
/-! ### stamps -/
def encS (s : D.Stamp) : List Nat := enc s.time.toNat ++ enc s.rep.toNat
theorem place_ok {s : D.Stamp} (h : placeV s = true) : okN s.time ∧ okN s.rep := by
  have := placeV_fits h
  exact ⟨⟨by omega, by omega⟩, ⟨by omega, by omega⟩⟩
theorem goodS : Good tkS encS (fun s => placeV s = true) where
  put s rest h := by
    obtain ⟨h1, h2⟩ := place_ok h
    have e1 := goodN.put s.time (enc s.rep.toNat ++ rest) h1
    have e2 := goodN.put s.rep rest h2
    unfold tkS encS
    rw [List.append_assoc, e1]
    simp only [List.drop_left, e2, if_true]
    rw [if_pos h, List.length_append]
  cut s j h hj := by
    obtain ⟨h1, h2⟩ := place_ok h
    unfold encS at hj ⊢
    rw [List.length_append] at hj
    unfold tkS
    by_cases hc : j < (enc s.time.toNat).length
    · rw [List.take_append_of_le_length (by omega)]
      have := goodN.cut s.time j h1 hc
      simp only [this]
      rw [if_neg (by decide)]
    · have e : (enc s.time.toNat ++ enc s.rep.toNat).take j = enc s.time.toNat ++ (enc s.rep.toNat).take (j - (enc s.time.toNat).length) := by rw [List.take_append, List.take_of_length_le (by omega)]
      rw [e]
      have e1 := goodN.put s.time ((enc s.rep.toNat).take (j - (enc s.time.toNat).length)) h1
      have e2 := goodN.cut s.rep (j - (enc s.time.toNat).length) h2 (by omega)
      rw [e1]
      simp only [List.drop_left, if_true, e2]
      rw [if_neg (by decide)]
  was l hl h := by
    unfold tkS at h ⊢
    by_cases h1 : (tkN l).2.2 = 0
    · rw [if_pos h1] at h ⊢
      by_cases h2 : (tkN (l.drop (tkN l).2.1)).2.2 = 0
      · rw [if_pos h2] at h ⊢
        by_cases h3 : placeV ⟨(tkN l).1, (tkN (l.drop (tkN l).2.1)).1⟩ = true
        · rw [if_pos h3]
          obtain ⟨w1, w2, w3⟩ := goodN.was l hl h1
          obtain ⟨w4, w5, w6⟩ := goodN.was _ (hl.drop _) h2
          refine ⟨h3, ?_, ?_⟩
          · show (tkN l).2.1 + (tkN (l.drop (tkN l).2.1)).2.1 = _
            unfold encS
            rw [List.length_append, ← w2, ← w5]
          · show l.take ((tkN l).2.1 + (tkN (l.drop (tkN l).2.1)).2.1) = _
            rw [List.take_add, w3, w6]; rfl
        · rw [if_neg h3] at h; cases h
      · rw [if_neg h2] at h; exact absurd h h2
    · rw [if_neg h1] at h; exact absurd h h1
/-! ### texts -/
def encT (s : List Nat) : List Nat := enc s.length ++ s
def okT (s : List Nat) : Prop := s.length ≤ 65536 ∧ Bytes8 s
theorem goodT : Good tkT encT okT where
  put s rest h := by
    have h1 : okN (s.length : Int) := ⟨by omega, by have := h.1; omega⟩
    have hL := h.1
    have e1 := goodN.put (s.length : Int) (s ++ rest) h1
    rw [Int.toNat_natCast] at e1
    unfold tkT encT
    rw [List.append_assoc, e1]
    simp only [if_true, List.drop_left, Int.toNat_natCast, List.take_left]
    rw [if_neg (by omega), if_neg (by simp only [List.length_append]; omega), List.length_append]
  cut s j h hj := by
    have h1 : okN (s.length : Int) := ⟨by omega, by have := h.1; omega⟩
    have hL := h.1
    unfold encT at hj ⊢
    rw [List.length_append] at hj
    unfold tkT
    by_cases hc : j < (enc s.length).length
    · rw [List.take_append_of_le_length (by omega)]
      have := goodN.cut (s.length : Int) j h1 hc
      rw [Int.toNat_natCast] at this
      simp only [this]
      rw [if_neg (by decide)]
    · have e : (enc s.length ++ s).take j = enc s.length ++ s.take (j - (enc s.length).length) := by rw [List.take_append, List.take_of_length_le (by omega)]
      rw [e]
      have e1 := goodN.put (s.length : Int) (s.take (j - (enc s.length).length)) h1
      rw [Int.toNat_natCast] at e1
      rw [e1]
      simp only [if_true]
      rw [if_neg (by omega), if_pos]
      simp only [List.length_append, List.length_take]; omega
  was l hl h := by
    unfold tkT at h ⊢
    by_cases h1 : (tkN l).2.2 = 0
    · rw [if_pos h1] at h ⊢
      by_cases h2 : 65536 < (tkN l).1
      · rw [if_pos h2] at h; cases h
      · rw [if_neg h2] at h ⊢
        by_cases h3 : (l.length : Int) - (tkN l).2.1 < (tkN l).1
        · rw [if_pos h3] at h; cases h
        · rw [if_neg h3]
          obtain ⟨w1, w2, w3⟩ := goodN.was l hl h1
          have hL : ((l.drop (tkN l).2.1).take (tkN l).1.toNat).length = (tkN l).1.toNat := by
            rw [List.length_take, List.length_drop]; have := w1.1; omega
          refine ⟨⟨by rw [hL]; have := w1.1; omega, fun x hx => hl x (List.mem_of_mem_drop (List.mem_of_mem_take hx))⟩, ?_, ?_⟩
          · show (tkN l).2.1 + (tkN l).1.toNat = (encT _).length
            unfold encT
            rw [hL, List.length_append, hL, ← w2]
          · show l.take ((tkN l).2.1 + (tkN l).1.toNat) = encT _
            unfold encT
            rw [hL, List.take_add, w3]
    · rw [if_neg h1] at h; exact absurd h h1
/-! ### rows of numbers -/
theorem encs_cons (x : Int) (v : List Int) : encs (x :: v) = enc x.toNat ++ encs v := by simp [encs]
theorem tkNsF_put : ∀ (v : List Int) (l rest pre : List Nat) (acc : List Int), (∀ x ∈ v, okN x) → l = pre ++ (encs v ++ rest) → tkNsF v.length l acc pre.length = (acc ++ v, pre.length + (encs v).length, 0)
  | [], l, rest, pre, acc, _, hl => by simp [tkNsF, encs]
  | x :: v, l, rest, pre, acc, hv, hl => by
    rw [encs_cons] at hl
    have e1 := goodN.at (a := x) (l := l) (pre := pre) (rest := encs v ++ rest) (hv x (by simp)) (by rw [hl]; simp [List.append_assoc])
    rw [List.length_cons, tkNsF_succ, e1]
    simp only [if_true]
    have := tkNsF_put v l rest (pre ++ enc x.toNat) (acc ++ [x]) (fun y hy => hv y (by simp [hy])) (by rw [hl]; simp [List.append_assoc])
    rw [List.length_append] at this
    rw [this, encs_cons, List.length_append]
    simp [Nat.add_assoc]
theorem tkNsF_cut : ∀ (v : List Int) (l pre : List Nat) (acc : List Int) (j : Nat), (∀ x ∈ v, okN x) → j < (encs v).length → l = pre ++ (encs v).take j → (tkNsF v.length l acc pre.length).2.2 = 7
  | [], l, pre, acc, j, _, hj, hl => by simp [encs] at hj
  | x :: v, l, pre, acc, j, hv, hj, hl => by
    rw [encs_cons] at hl hj
    rw [List.length_append] at hj
    rw [List.length_cons, tkNsF_succ]
    by_cases hc : j < (enc x.toNat).length
    · rw [List.take_append_of_le_length (by omega)] at hl
      have e1 := goodN.cutAt (a := x) (hv x (by simp)) hc hl
      rw [if_neg (by rw [e1]; decide)]; exact e1
    · have e : (enc x.toNat ++ encs v).take j = enc x.toNat ++ (encs v).take (j - (enc x.toNat).length) := by rw [List.take_append, List.take_of_length_le (by omega)]
      rw [e] at hl
      have e1 := goodN.at (a := x) (hv x (by simp)) hl
      rw [e1]
      simp only [if_true]
      have := tkNsF_cut v l (pre ++ enc x.toNat) (acc ++ [x]) (j - (enc x.toNat).length) (fun y hy => hv y (by simp [hy])) (by omega) (by rw [hl]; simp [List.append_assoc])
      rw [List.length_append] at this
      exact this
theorem tkNsF_was : ∀ (m : Nat) (l : List Nat) (acc : List Int) (k : Nat), Bytes8 l → k ≤ l.length → (tkNsF m l acc k).2.2 = 0 → ∃ v, tkNsF m l acc k = (acc ++ v, k + (encs v).length, 0) ∧ v.length = m ∧ (∀ x ∈ v, okN x) ∧ l.take (k + (encs v).length) = l.take k ++ encs v
  | 0, l, acc, k, _, _, _ => ⟨[], by simp [tkNsF, encs], rfl, by simp, by simp [encs]⟩
  | m + 1, l, acc, k, hl, hk, h => by
    rw [tkNsF_succ] at h ⊢
    by_cases h1 : (tkN (l.drop k)).2.2 = 0
    · rw [if_pos h1] at h ⊢
      obtain ⟨w1, w2, w3⟩ := goodN.was _ (hl.drop k) h1
      have hlen := tkN_len (l.drop k)
      rw [List.length_drop] at hlen
      obtain ⟨v, e1, e2, e3, e4⟩ := tkNsF_was m l _ _ hl (by omega) h
      refine ⟨(tkN (l.drop k)).1 :: v, ?_, by simp [e2], fun x hx => ?_, ?_⟩
      · rw [e1, encs_cons, List.length_append, ← w2]
        simp [Nat.add_assoc]
      · rcases List.mem_cons.1 hx with rfl | hx
        · exact w1
        · exact e3 x hx
      · rw [encs_cons, List.length_append, ← w2, ← Nat.add_assoc, e4, List.take_add, w3, List.append_assoc]
    · rw [if_neg h1] at h; exact absurd h h1
def encV (v : List Int) : List Nat := enc v.length ++ encs v
theorem goodV : Good tkV encV (fun v => vecV v = true) where
  put v rest h := by
    have hv := vecV_len h
    have hN : ∀ x ∈ v, okN x := fun x hx => by
      obtain ⟨k, hk⟩ := List.getElem?_of_mem hx
      have := vecV_at h hk
      exact ⟨by omega, by omega⟩
    have e1 := goodN.put (v.length : Int) (encs v ++ rest) ⟨by omega, by omega⟩
    rw [Int.toNat_natCast] at e1
    have e2 := tkNsF_put v (enc v.length ++ (encs v ++ rest)) rest (enc v.length) [] hN rfl
    have e3 : tkNs (encV v ++ rest) = (v, (encV v).length, 0) := by
      unfold tkNs encV
      rw [List.append_assoc, e1]
      simp only [if_true, Int.toNat_natCast]
      rw [if_neg (by omega), e2, List.length_append]; rfl
    unfold tkV
    rw [e3]
    simp only [if_true]
    rw [if_pos h]
  cut v j h hj := by
    have hv := vecV_len h
    have hN : ∀ x ∈ v, okN x := fun x hx => by
      obtain ⟨k, hk⟩ := List.getElem?_of_mem hx
      have := vecV_at h hk
      exact ⟨by omega, by omega⟩
    have e3 : (tkNs ((encV v).take j)).2.2 = 7 := by
      unfold encV at hj ⊢
      rw [List.length_append] at hj
      unfold tkNs
      by_cases hc : j < (enc v.length).length
      · rw [List.take_append_of_le_length (by omega)]
        have := goodN.cut (v.length : Int) j ⟨by omega, by omega⟩ hc
        rw [Int.toNat_natCast] at this
        rw [if_neg (by rw [this]; decide)]; exact this
      · have e : (enc v.length ++ encs v).take j = enc v.length ++ (encs v).take (j - (enc v.length).length) := by rw [List.take_append, List.take_of_length_le (by omega)]
        rw [e]
        have e1 := goodN.put (v.length : Int) ((encs v).take (j - (enc v.length).length)) ⟨by omega, by omega⟩
        rw [Int.toNat_natCast] at e1
        rw [e1]
        simp only [if_true, Int.toNat_natCast]
        rw [if_neg (by omega)]
        exact tkNsF_cut v _ (enc v.length) [] _ hN (by omega) rfl
    unfold tkV
    rw [if_neg (by rw [e3]; decide)]; exact e3
  was l hl h := by
    unfold tkV at h ⊢
    by_cases h1 : (tkNs l).2.2 = 0
    · rw [if_pos h1] at h ⊢
      by_cases h2 : vecV (tkNs l).1 = true
      · rw [if_pos h2]
        refine ⟨h2, ?_⟩
        unfold tkNs at h1 ⊢
        by_cases h3 : (tkN l).2.2 = 0
        · rw [if_pos h3] at h1 ⊢
          by_cases h4 : 1024 < (tkN l).1
          · rw [if_pos h4] at h1; cases h1
          · rw [if_neg h4] at h1 ⊢
            obtain ⟨w1, w2, w3⟩ := goodN.was l hl h3
            obtain ⟨v, e1, e2, e3, e4⟩ := tkNsF_was _ l [] _ hl (tkN_len l) h1
            rw [e1]
            show (tkN l).2.1 + (encs v).length = (encV v).length ∧ l.take ((tkN l).2.1 + (encs v).length) = encV v
            unfold encV
            rw [e2, List.length_append, e4, w3, ← w2]
            exact ⟨rfl, rfl⟩
        · rw [if_neg h3] at h1; exact absurd h1 h3
      · rw [if_neg h2] at h; cases h
    · rw [if_neg h1] at h; exact absurd h h1
section
variable {l pre rest : List Nat}
theorem placeR_put {s : D.Stamp} (h : placeV s = true) (hl : l = pre ++ (encS s ++ rest)) : placeR l (pre.length, 0) = (s, ((pre ++ encS s).length, 0)) := by
  have e := goodS.at h hl
  unfold placeR
  simp only [e, partR_ok, List.length_append]
theorem numR_put {n : Int} (h : okN n) (hl : l = pre ++ (enc n.toNat ++ rest)) : numR l (pre.length, 0) = (n, ((pre ++ enc n.toNat).length, 0)) := by
  have e := goodN.at h hl
  unfold numR
  simp only [e, partR_ok, List.length_append]
theorem vecR_put {v : List Int} (h : vecV v = true) (hl : l = pre ++ (encV v ++ rest)) : vecR l (pre.length, 0) = (v, ((pre ++ encV v).length, 0)) := by
  have e := goodV.at h hl
  unfold vecR
  simp only [e, partR_ok, List.length_append]
theorem textR_put {s : List Nat} (h : okT s) (hl : l = pre ++ (encT s ++ rest)) : textR l (pre.length, 0) = (s, ((pre ++ encT s).length, 0)) := by
  have e := goodT.at h hl
  unfold textR
  simp only [e, partR_ok, List.length_append]
end
theorem opE_eq (o : D.Op) : opE o = encS o.stamp ++ (encV o.deps ++ (enc o.kind.toNat ++ (encS o.node ++ (if o.kind = 1 then encS o.parent ++ encT o.key else enc o.prop.toNat ++ enc (o.value + 1).toNat)))) := by
  unfold opE encS encV encT
  simp only [List.append_assoc]
/-- what may be, as its parts are taken -/
structure OpParts (o : D.Op) : Prop where
  stamp : placeV o.stamp = true
  deps : vecV o.deps = true
  node : placeV o.node = true
  seq : ∃ x, o.deps[o.stamp.rep.toNat]? = some x ∧ o.seq = x + 1
  kind : (o.kind = 1 ∧ placeV o.parent = true ∧ okT o.key ∧ o.prop = 0 ∧ o.value = 0) ∨ (o.kind = 2 ∧ okN o.prop ∧ okN (o.value + 1) ∧ o.parent = ⟨0, 0⟩ ∧ o.key = [])
theorem op_parts {o : D.Op} (h : mayO o = true) (hk : Bytes8 o.key) : OpParts o := by
  obtain ⟨s1, s2, s3, s4, s5⟩ := mayO_nums h
  unfold mayO at h
  simp only [Bool.and_eq_true] at h
  obtain ⟨h1, h2, h3, h4, h5⟩ := h
  have p1 : placeV o.stamp = true := by unfold placeV; rw [h1]; rfl
  have p2 : placeV o.node = true := by unfold placeV; rw [h3]; rfl
  refine ⟨p1, h2, p2, ?_, ?_⟩
  · unfold seqV at h4
    split at h4
    · rename_i x hx
      simp only [Bool.and_eq_true, decide_eq_true_eq] at h4
      exact ⟨x, hx, h4.1⟩
    · cases h4
  · unfold kindV at h5
    rcases s5 with ⟨k1, k2, k3, k4, k5, k6⟩ | ⟨k1, k2, k3, k4⟩
    · rw [if_pos k1] at h5
      simp only [Bool.and_eq_true] at h5
      exact .inl ⟨k1, h5.1, ⟨by omega, hk⟩, k5, k6⟩
    · exact .inr ⟨k1, ⟨by omega, by omega⟩, ⟨by omega, by omega⟩, k3, k4⟩
theorem readR_put {o : D.Op} (h : OpParts o) (rest : List Nat) : readR (opE o ++ rest) = ({ o with seq := 0 }, (opE o).length, 0) := by
  obtain ⟨h1, h2, h3, _, h4⟩ := h
  have hkn : okN o.kind := by rcases h4 with ⟨k, _⟩ | ⟨k, _⟩ <;> (rw [k]; exact ⟨by omega, by omega⟩)
  unfold readR
  rw [opE_eq]
  generalize hl : (encS o.stamp ++ (encV o.deps ++ (enc o.kind.toNat ++ (encS o.node ++ (if o.kind = 1 then encS o.parent ++ encT o.key else enc o.prop.toNat ++ enc (o.value + 1).toNat))))) ++ rest = l
  simp only [List.append_assoc] at hl
  have e1 : placeR l (0, 0) = (o.stamp, (encS o.stamp).length, 0) := placeR_put (pre := []) h1 hl.symm
  have e2 := vecR_put (pre := encS o.stamp) h2 hl.symm
  have e3 := numR_put (pre := encS o.stamp ++ encV o.deps) hkn (l := l) (by rw [← hl]; simp only [List.append_assoc] <;> rfl)
  have e4 := placeR_put (pre := encS o.stamp ++ encV o.deps ++ enc o.kind.toNat) h3 (l := l) (by rw [← hl]; simp only [List.append_assoc] <;> rfl)
  rw [e1, e2]
  simp only [e3]
  rcases h4 with ⟨k1, k2, k3, k4, k5⟩ | ⟨k1, k2, k3, k4, k5⟩
  · rw [if_pos k1] at hl ⊢
    have e5 := placeR_put (pre := encS o.stamp ++ encV o.deps ++ enc o.kind.toNat ++ encS o.node) k2 (l := l) (by rw [← hl]; simp only [List.append_assoc] <;> rfl)
    have e6 := textR_put (pre := encS o.stamp ++ encV o.deps ++ enc o.kind.toNat ++ encS o.node ++ encS o.parent) k3 (l := l) (by rw [← hl]; simp only [List.append_assoc] <;> rfl)
    unfold kindR bodyR
    rw [if_pos k1, if_pos k1]
    simp only [e4, e5, e6]
    refine Prod.ext ?_ (Prod.ext (by simp [Nat.add_assoc]) rfl)
    cases o; simp_all
  · rw [if_neg (by omega)] at hl ⊢
    have e5 := numR_put (pre := encS o.stamp ++ encV o.deps ++ enc o.kind.toNat ++ encS o.node) k2 (l := l) (by rw [← hl]; simp only [List.append_assoc] <;> rfl)
    have e6 := numR_put (pre := encS o.stamp ++ encV o.deps ++ enc o.kind.toNat ++ encS o.node ++ enc o.prop.toNat) k3 (l := l) (by rw [← hl]; simp only [List.append_assoc] <;> rfl)
    unfold kindR bodyR
    rw [if_neg (by omega), if_neg (by omega), if_pos k1]
    simp only [e4, e5, e6]
    refine Prod.ext ?_ (Prod.ext (by simp [Nat.add_assoc]) rfl)
    cases o
    simp_all
theorem takeO_put {o : D.Op} (h : mayO o = true) (hk : Bytes8 o.key) (rest : List Nat) : takeO (opE o ++ rest) = (o, (opE o).length, 0) := by
  have hp := op_parts h hk
  unfold takeO
  rw [readR_put hp]
  obtain ⟨x, hx, hs⟩ := hp.seq
  simp only [if_true, hx]
  have e : ({ o with seq := x + 1 } : D.Op) = o := by rw [← hs]
  rw [e, if_pos h]
theorem readR_was {l : List Nat} (hl : Bytes8 l) (h : (readR l).2.2 = 0) : l.take (readR l).2.1 = opE (readR l).1 ∧ (readR l).2.1 ≤ l.length ∧ Bytes8 (readR l).1.key := by
  unfold readR at h ⊢
  have l0 : (0 : Nat) ≤ l.length := Nat.zero_le _
  have l1 := placeR_len (l := l) (s := (0, 0)) l0
  have l2 := vecR_len l1
  have l3 := numR_len l2
  have main : ∀ s4 : Rd, s4.1 ≤ l.length → s4.2 = 0 → kindR (numR l (vecR l (placeR l (0, 0)).2).2).1 (numR l (vecR l (placeR l (0, 0)).2).2).2 = s4 → s4 = (numR l (vecR l (placeR l (0, 0)).2).2).2 ∧ l.take s4.1 = encS (placeR l (0, 0)).1 ++ (encV (vecR l (placeR l (0, 0)).2).1 ++ enc (numR l (vecR l (placeR l (0, 0)).2).2).1.toNat) := by
    intro s4 l4 h4 hk
    have hs : s4 = (numR l (vecR l (placeR l (0, 0)).2).2).2 := by
      unfold kindR at hk
      split at hk
      · exact hk.symm
      · split at hk
        · exact hk.symm
        · unfold partR at hk
          split at hk
          · rw [← hk] at h4; cases h4
          · rename_i hne; rw [hk] at hne; exact absurd h4 hne
    refine ⟨hs, ?_⟩
    rw [hs] at h4 ⊢
    obtain ⟨a1, a2, a3, a4, a5⟩ := goodN.step hl l2 h4
    obtain ⟨b1, b2, b3, b4, b5⟩ := goodV.step hl l1 a1
    obtain ⟨lc1, lc2, lc3, lc4, lc5⟩ := goodS.step (s := (0, 0)) hl l0 b1
    have q1 : (placeR l (0, 0)).2.1 = 0 + (tkS (l.drop 0)).2.1 := lc4
    have q2 : (vecR l (placeR l (0, 0)).2).2.1 = (placeR l (0, 0)).2.1 + (tkV (l.drop (placeR l (0, 0)).2.1)).2.1 := b4
    have q3 : (numR l (vecR l (placeR l (0, 0)).2).2).2.1 = (vecR l (placeR l (0, 0)).2).2.1 + (tkN (l.drop (vecR l (placeR l (0, 0)).2).2.1)).2.1 := a4
    rw [q3, a5]
    conv => lhs; arg 1; rw [q2, b5]
    conv => lhs; arg 1; arg 1; rw [q1, lc5]
    simp only [List.take_zero, List.nil_append, List.append_assoc]
    rfl
  have l4 := kindR_len (k := (numR l (vecR l (placeR l (0, 0)).2).2).1) l3
  generalize hs4 : kindR (numR l (vecR l (placeR l (0, 0)).2).2).1 (numR l (vecR l (placeR l (0, 0)).2).2).2 = s4 at h l4 ⊢
  have l5 := placeR_len l4
  unfold bodyR at h ⊢
  by_cases k1 : (numR l (vecR l (placeR l (0, 0)).2).2).1 = 1
  · rw [if_pos k1] at h ⊢
    have l6 := placeR_len l5
    obtain ⟨a1, a2, a3, a4, a5⟩ := goodT.step hl l6 h
    obtain ⟨b1, b2, b3, b4, b5⟩ := goodS.step hl l5 a1
    obtain ⟨lc1, lc2, lc3, lc4, lc5⟩ := goodS.step hl l4 b1
    obtain ⟨_, m2⟩ := main s4 l4 lc1 hs4
    refine ⟨?_, textR_len l6, a3.2⟩
    have q1 : (placeR l s4).2.1 = s4.1 + (tkS (l.drop s4.1)).2.1 := lc4
    have q2 : (placeR l (placeR l s4).2).2.1 = (placeR l s4).2.1 + (tkS (l.drop (placeR l s4).2.1)).2.1 := b4
    have q3 : (textR l (placeR l (placeR l s4).2).2).2.1 = (placeR l (placeR l s4).2).2.1 + (tkT (l.drop (placeR l (placeR l s4).2).2.1)).2.1 := a4
    show l.take (textR l (placeR l (placeR l s4).2).2).2.1 = _
    rw [q3, a5]
    conv => lhs; arg 1; rw [q2, b5]
    conv => lhs; arg 1; arg 1; rw [q1, lc5]
    rw [m2, opE_eq]
    simp only [k1, if_true, List.append_assoc]
    rfl
  · rw [if_neg k1] at h ⊢
    have l6 := numR_len l5
    obtain ⟨a1, a2, a3, a4, a5⟩ := goodN.step hl l6 h
    obtain ⟨b1, b2, b3, b4, b5⟩ := goodN.step hl l5 a1
    obtain ⟨lc1, lc2, lc3, lc4, lc5⟩ := goodS.step hl l4 b1
    obtain ⟨_, m2⟩ := main s4 l4 lc1 hs4
    refine ⟨?_, numR_len l6, fun x hx => by cases hx⟩
    have q1 : (placeR l s4).2.1 = s4.1 + (tkS (l.drop s4.1)).2.1 := lc4
    have q2 : (numR l (placeR l s4).2).2.1 = (placeR l s4).2.1 + (tkN (l.drop (placeR l s4).2.1)).2.1 := b4
    have q3 : (numR l (numR l (placeR l s4).2).2).2.1 = (numR l (placeR l s4).2).2.1 + (tkN (l.drop (numR l (placeR l s4).2).2.1)).2.1 := a4
    show l.take (numR l (numR l (placeR l s4).2).2).2.1 = _
    rw [q3, a5]
    conv => lhs; arg 1; rw [q2, b5]
    conv => lhs; arg 1; arg 1; rw [q1, lc5]
    rw [m2, opE_eq]
    simp only [k1, if_false, List.append_assoc, Int.sub_add_cancel]
    rfl
theorem takeO_was {l : List Nat} (hl : Bytes8 l) (h : (takeO l).2.2 = 0) : mayO (takeO l).1 = true ∧ l.take (takeO l).2.1 = opE (takeO l).1 ∧ (takeO l).2.1 ≤ l.length ∧ Bytes8 (takeO l).1.key := by
  unfold takeO at h ⊢
  by_cases h1 : (readR l).2.2 = 0
  · rw [if_pos h1] at h ⊢
    obtain ⟨w1, w2, w3⟩ := readR_was hl h1
    cases hx : (readR l).1.deps[(readR l).1.stamp.rep.toNat]? with
    | none => rw [hx] at h; cases h
    | some x =>
      rw [hx] at h
      simp only at h ⊢
      by_cases h2 : mayO { (readR l).1 with seq := x + 1 } = true
      · rw [if_pos h2]
        exact ⟨h2, w1, w2, w3⟩
      · rw [if_neg h2] at h; cases h
  · rw [if_neg h1] at h; exact absurd h h1
section
variable {h : Hp} {a b : AV} {l : List Nat} {Post : AV → Hp → Prop}
theorem onTup.opii {o : D.Op} {d : AV} (hd : d.sc = true) {n m : Int} {K : Int → Int → Int → AV → Int → Int → Int → Int → Int → List Nat → Int → Int → Int → Int → Prop} (q : K o.stamp.time o.stamp.rep o.seq d o.kind o.node.time o.node.rep o.parent.time o.parent.rep o.key o.prop o.value n m) :
    onTup [Sh.agg [Kd.int .i64, Kd.int .i64, Kd.int .i64, Kd.ref, Kd.int .i64, Kd.int .i64, Kd.int .i64, Kd.int .i64, Kd.int .i64, Kd.str, Kd.int .i64, Kd.int .i64], Sh.one (Kd.int .i64), Sh.one (Kd.int .i64)] (.tup [.agg (opC o d), .i .i64 n, .i .i64 m]) K := by
  show onS [Sh.agg [Kd.int .i64, Kd.int .i64, Kd.int .i64, Kd.ref, Kd.int .i64, Kd.int .i64, Kd.int .i64, Kd.int .i64, Kd.int .i64, Kd.str, Kd.int .i64, Kd.int .i64], Sh.one (Kd.int .i64), Sh.one (Kd.int .i64)] [.agg (opC o d), .i .i64 n, .i .i64 m] K
  unfold onS
  have e : flatV [Sh.agg [Kd.int .i64, Kd.int .i64, Kd.int .i64, Kd.ref, Kd.int .i64, Kd.int .i64, Kd.int .i64, Kd.int .i64, Kd.int .i64, Kd.str, Kd.int .i64, Kd.int .i64], Sh.one (Kd.int .i64), Sh.one (Kd.int .i64)] [.agg (opC o d), .i .i64 n, .i .i64 m] = some (opC o d ++ [.i .i64 n, .i .i64 m]) := rfl
  rw [e]
  exact onRef.mk (K := fun d => K o.stamp.time o.stamp.rep o.seq d o.kind o.node.time o.node.rep o.parent.time o.parent.rep o.key o.prop o.value n m) hd q
/-- the law's own operation -/
def theO : D.Op := ⟨⟨1, 0⟩, 1, [0], 1, ⟨1, 0⟩, ⟨0, 0⟩, [107], 0, 0⟩
theorem theO_may : mayO theO = true := by decide
theorem c7 (k : ∀ d h', Kn.int.Own h h' d theO.deps → Post (.agg (opC theO d)) h') : wpC Try.prog 7 [] Post h := by
  refine call_sound (args := []) (cuts := []) trivial ?_
  rw [vc7]
  refine fun _ p e1 e2 => k _ _ ⟨h, intC [0], Hp.le_refl h, rfl, Fresh.put (css := intC [0]) (sz := 1) (len := 1) (cs := [.i .i64 0]) (Hp.le_refl h) rfl e1 e2 true (fun c hc => by simp [intC] at hc; subst hc; rfl) rfl rfl, .cons ⟨rfl, by omega, by omega⟩ .nil⟩
theorem opE_len {o : D.Op} (h : mayO o = true) : (opE o).length ≤ 400 := by
  obtain ⟨s1, s2, s3, s4, s5⟩ := mayO_nums h
  have t1 := enc_len10 (n := o.stamp.time.toNat) (by omega)
  have t2 := enc_len10 (n := o.stamp.rep.toNat) (by omega)
  have t3 := enc_len10 (n := o.deps.length) (by omega)
  have t4 := encs_len (v := o.deps) fun x hx => by have := s2 x hx; omega
  have t5 : 0 ≤ o.kind ∧ o.kind ≤ 2 := by rcases s5 with s | s <;> omega
  have t6 := enc_len10 (n := o.kind.toNat) (by omega)
  have t7 := enc_len10 (n := o.node.time.toNat) (by omega)
  have t8 := enc_len10 (n := o.node.rep.toNat) (by omega)
  unfold opE
  rcases s5 with ⟨k1, k2, k3, k4, k5, k6⟩ | ⟨k1, k2, k3, k4⟩
  · rw [if_pos k1]
    have t9 := enc_len10 (n := o.parent.time.toNat) (by omega)
    have t10 := enc_len10 (n := o.parent.rep.toNat) (by omega)
    have t11 := enc_len10 (n := o.key.length) (by omega)
    simp only [List.length_append]; omega
  · rw [if_neg (by omega)]
    have t9 := enc_len10 (n := o.prop.toNat) (by omega)
    have t10 := enc_len10 (n := (o.value + 1).toNat) (by omega)
    simp only [List.length_append]; omega
theorem Kn.Row.upto {α : Type} {d : Kn α} {h : Hp} {a : AV} {l : List α} (r : d.Row h a l) {j sz : Nat} (hsz : d.sz = sz) (h1 : j ≤ l.length) {K : AV → Prop} (k : ∀ r', d.Row h r' (l.take j) → K r') : onO (slV a none (some (j : Int)) none sz) K := by
  obtain ⟨r', e1, e2⟩ := r.cut (lo := none) (hi := some (j : Int)) (i := 0) (j := j) hsz rfl rfl (Nat.zero_le _) h1
  exact onO.mk e1 (k r' (by simpa using e2))
end
/- arras/sum.Sum -/
theorem vc50 (a : Int) (b : AV) (h : Hp) (Post : AV → Hp → Prop) : vcCall Try.prog [0] 50 [(SV.ii .u32 a), (SV.vv b)] h Post = (
  onO (unO UnOp.xor IntKind.u32 a) fun n0 =>
  ∃ I0 : Nat → Int → Int → Int → Int → Hp → Prop,
    (∃ p0, I0 p0 n0 0 8 0 h) ∧
      ∀ (p1 : Nat) (h0 : Hp) (n1 n2 n3 n4 : Int),
        I0 p1 n1 n2 n3 n4 h0 →
          Dup
            (onB (decide (n3 < 8))
              (onO (shO BinOp.shr IntKind.u32 n1 1) fun n5 =>
                onO (intO BinOp.and IntKind.u32 n1 1) fun n6 =>
                  onO (intO BinOp.mul IntKind.u32 3988292384 n6) fun n7 =>
                    onO (intO BinOp.xor IntKind.u32 n5 n7) fun n8 => onO (intO BinOp.add IntKind.i64 n3 1) fun n9 => ∃ p2, ltN p2 p1 ∧ I0 p2 n8 n2 n9 n4 h0)
              (onO (lenV b) fun p3 =>
                onB (decide (n2 < ↑p3))
                  (onO (idxV b n2 1) fun r0 =>
                    onO (rdH h0 r0.fst r0.snd 1) fun l0 =>
                      onL [Kd.int IntKind.u8] l0 fun n10 =>
                        onO (wrO IntKind.u32 n10) fun n11 =>
                          onO (intO BinOp.xor IntKind.u32 n1 n11) fun n12 => onO (intO BinOp.add IntKind.i64 n2 1) fun n13 => ∃ p4, ltN p4 p1 ∧ I0 p4 n12 n13 0 n4 h0)
                  (onO (unO UnOp.xor IntKind.u32 n1) fun n14 => Post (AV.i IntKind.u32 n14) h0)))) := by kernel_rfl
/-! ### plain -/
def bit1 (s : Nat) : Nat := if s % 2 = 1 then Nat.xor (s / 2) 3988292384 else s / 2
def bitn : Nat → Nat → Nat
  | 0, s => s
  | n + 1, s => bitn n (bit1 s)
def crcF : Nat → List Nat → Nat
  | s, [] => s
  | s, b :: l => crcF (bitn 8 (Nat.xor s b)) l
def crc (s : Nat) (l : List Nat) : Nat := Nat.xor (crcF (Nat.xor s 4294967295) l) 4294967295
theorem xor_lt32 {a b : Nat} (h1 : a < 4294967296) (h2 : b < 4294967296) : Nat.xor a b < 4294967296 := Nat.xor_lt_two_pow (n := 32) h1 h2
theorem bit1_lt {s : Nat} (h : s < 4294967296) : bit1 s < 4294967296 := by
  unfold bit1
  split
  · exact xor_lt32 (by omega) (by omega)
  · omega
theorem bitn_lt : ∀ {n s : Nat}, s < 4294967296 → bitn n s < 4294967296
  | 0, s, h => h
  | n + 1, s, h => bitn_lt (n := n) (bit1_lt h)
theorem crcF_lt : ∀ {l : List Nat} {s : Nat}, Bytes8 l → s < 4294967296 → crcF s l < 4294967296
  | [], s, _, h => h
  | b :: l, s, hl, h => crcF_lt (l := l) (fun x hx => hl x (by simp [hx])) (bitn_lt (xor_lt32 h (by have := hl b (by simp); omega)))
theorem crc_lt {l : List Nat} {s : Nat} (hl : Bytes8 l) (h : s < 4294967296) : crc s l < 4294967296 := xor_lt32 (crcF_lt hl (xor_lt32 h (by omega))) (by omega)
/-! ### words of 32 bits -/
theorem wr32n {n : Nat} (h : n < 4294967296) : wrO .u32 (n : Int) = some (n : Int) := by rw [wr32]; congr 1; omega
theorem xor32 {a b : Nat} (h1 : a < 4294967296) (h2 : b < 4294967296) : intO .xor .u32 (a : Int) (b : Int) = some ((Nat.xor a b : Nat) : Int) := by
  unfold intO
  have e : intA .xor .u32 (a : Int) (b : Int) = some (.i .u32 (wrapA .u32 (.ofNat (Nat.xor a b)))) := by
    show (cond (Nat.blt a 4294967296 && Nat.blt b 4294967296) _ none : Option AV) = _
    rw [blt_of h1, blt_of h2]; rfl
  rw [e]
  have := xor_lt32 h1 h2
  show some (wrapA .u32 ((Nat.xor a b : Nat) : Int)) = _
  rw [wrap_mod rfl]
  congr 1
  show ((Nat.xor a b : Nat) : Int) % 4294967296 = _
  omega
theorem and1 {a : Nat} (h1 : a < 4294967296) : intO .and .u32 (a : Int) 1 = some ((a % 2 : Nat) : Int) := by
  unfold intO
  have e : intA .and .u32 (a : Int) 1 = some (.i .u32 (wrapA .u32 (.ofNat (Nat.land a 1)))) := by
    show (cond (Nat.blt a 4294967296 && Nat.blt 1 4294967296) _ none : Option AV) = _
    rw [blt_of h1]; rfl
  rw [e]
  have h2 : Nat.land a 1 = a % 2 := Nat.and_two_pow_sub_one_eq_mod a 1
  rw [h2]
  show some (wrapA .u32 ((a % 2 : Nat) : Int)) = _
  rw [wrap_mod rfl]
  congr 1
  show ((a % 2 : Nat) : Int) % 4294967296 = _
  omega
theorem shr32 {a : Nat} (k : Nat) (hk : k ≤ 32) : shO .shr .u32 (a : Int) (k : Int) = some ((a / 2 ^ k : Nat) : Int) := by
  unfold shO
  have e : shiftA .shr .u32 (a : Int) (k : Int) = some (.i .u32 (Int.fdiv (a : Int) (.ofNat (Nat.pow 2 (cond (Nat.ble k 32) k 32))))) := rfl
  rw [e, Nat.ble_eq_true_of_le hk, cond_true]
  show some (Int.fdiv (a : Int) ((2 ^ k : Nat) : Int)) = _
  rw [Int.fdiv_eq_ediv_of_nonneg _ (Int.natCast_nonneg _)]; rfl
theorem mulp {a : Nat} (h : a < 2) : intO .mul .u32 3988292384 (a : Int) = some ((3988292384 * a : Nat) : Int) := by
  unfold intO intA
  show some (wrapA .u32 (3988292384 * (a : Int))) = _
  rw [wrap_mod rfl]
  congr 1
  show (3988292384 * (a : Int)) % 4294967296 = _
  omega
theorem not32 {a : Nat} (h : a < 4294967296) : unO .xor .u32 (a : Int) = some ((Nat.xor a 4294967295 : Nat) : Int) := by
  unfold unO
  have e : unA .xor (.i .u32 (a : Int)) = some (.i .u32 (wrapA .u32 (.ofNat (Nat.xor 4294967295 a)))) := by
    show (cond (Nat.beq 0 0 && Nat.blt a 4294967296) _ none : Option AV) = _
    rw [blt_of h]; rfl
  rw [e]
  have hc : Nat.xor 4294967295 a = Nat.xor a 4294967295 := Nat.xor_comm _ _
  rw [hc]
  have := xor_lt32 h (show 4294967295 < 4294967296 by omega)
  show some (wrapA .u32 ((Nat.xor a 4294967295 : Nat) : Int)) = _
  rw [wrap_mod rfl]
  congr 1
  show ((Nat.xor a 4294967295 : Nat) : Int) % 4294967296 = _
  omega
theorem bit1_mul {s : Nat} : Nat.xor (s / 2) (3988292384 * (s % 2)) = bit1 s := by
  unfold bit1
  split
  · rename_i h; rw [h]
  · rename_i h
    have : s % 2 = 0 := by omega
    rw [this, Nat.mul_zero]; exact Nat.xor_zero _
section
variable {h : Hp} {a b : AV} {l : List Nat} {Post : AV → Hp → Prop}
theorem c50 {s : Nat} (r : BR h a l) (hs : s < 4294967296) (hb : l.length < 32000000) (k : Post (.i .u32 (crc s l : Nat)) h) : wpC Try.prog 50 [.i .u32 (s : Int), a] Post h := by
  have hl : Bytes8 l := fun x hx => byte_lt r hx
  refine call_sound (args := [.ii .u32 s, .vv a]) (cuts := [0]) ⟨trivial, r.sc, trivial⟩ ?_
  rw [vc50]
  have hx := xor_lt32 hs (show 4294967295 < 4294967296 by omega)
  refine onO.mk (not32 hs) ⟨fun q n1 n2 n3 _ h' => h' = h ∧ ∃ S i j : Nat, n1 = S ∧ n2 = i ∧ n3 = j ∧ i ≤ l.length ∧ j ≤ 8 ∧ q = (l.length - i) * 10 + (8 - j) ∧ S < 4294967296 ∧ crcF (Nat.xor s 4294967295) l = crcF (bitn (8 - j) S) (l.drop i), ⟨_, rfl, Nat.xor s 4294967295, 0, 8, rfl, rfl, rfl, by omega, by omega, rfl, hx, rfl⟩, ?_⟩
  rintro q h0 _ _ _ n4 ⟨rfl, S, i, j, rfl, rfl, rfl, hi, hj, rfl, hS, hp⟩
  have hsh : shO .shr .u32 (S : Int) 1 = some ((S / 2 : Nat) : Int) := shr32 1 (by omega)
  refine Dup.mk (onB.dec (fun e => ?_) (fun e => ?_))
  · have h2 : S % 2 < 2 := Nat.mod_lt _ (by omega)
    have hm : 3988292384 * (S % 2) < 4294967296 := by omega
    refine onO.mk hsh (onO.mk (and1 hS) (onO.mk (mulp h2) (onO.mk (xor32 (by omega) hm) (onO.mk (inc64 (by omega)) ⟨_, by show (l.length - i) * 10 + (8 - (j + 1)) < (l.length - i) * 10 + (8 - j); omega, rfl, _, i, j + 1, rfl, rfl, rfl, hi, by omega, rfl, ?_, ?_⟩))))
    · exact xor_lt32 (by omega) hm
    · rw [bit1_mul, hp, show 8 - j = (8 - (j + 1)) + 1 by omega]; rfl
  · have hj8 : j = 8 := by omega
    subst hj8
    have hp : crcF (Nat.xor s 4294967295) l = crcF S (l.drop i) := hp
    refine onO.mk r.len (onB.dec (fun e1 => ?_) (fun e1 => ?_))
    · obtain ⟨x, hx⟩ := get_lt (l := l) (k := i) (by omega)
      have hx8 := hl x (List.mem_of_getElem? hx)
      rw [drop_of hx] at hp
      refine byte0 r hx (onO.mk (wr32n (by omega)) (onO.mk (xor32 hS (by omega)) (onO.mk (inc64 (by omega)) ⟨_, by show (l.length - (i + 1)) * 10 + (8 - 0) < (l.length - i) * 10 + (8 - 8); omega, rfl, _, i + 1, 0, rfl, rfl, rfl, by omega, by omega, rfl, xor_lt32 hS (by omega), hp⟩)))
    · have : i = l.length := by omega
      subst this
      rw [List.drop_length] at hp
      have hp : crcF (Nat.xor s 4294967295) l = S := hp
      refine onO.mk (not32 hS) ?_
      unfold crc at k
      rw [hp] at k; exact k
end
/-- a sum's four bytes -/
def four (s : Nat) : List Nat := [s / 16777216 % 256, s / 65536 % 256, s / 256 % 256, s % 256]
section
variable {g h : Hp} {a b : AV} {l m : List Nat} {Post : AV → Hp → Prop}
theorem BO.set (o : BO g h a l) {i : Nat} {x : Nat} (hi : i < l.length) (hx : x < 256) {Q : Option AV → Hp → Prop} (k : ∀ h', BO g h' a (l.set i x) → Q none h') : onO (idxV a (i : Int) 1) fun r => wpE (.w r.1 r.2 (.lit [.i .u8 (x : Int)]) none) Q h := by
  obtain ⟨p, css, h0, h01, f, h1⟩ := o
  have hl := h1.length
  obtain ⟨c, hc⟩ := get_lt (l := css) (k := i) (by omega)
  have hcl : c.length = 1 := f.row.1 c (List.mem_of_getElem? hc)
  refine f.set (sz := 1) hc 0 (new := [.i .u8 (x : Int)]) (by simp) rfl fun h' f' => k h' ⟨p, _, h0, h01, f', ?_⟩
  refine All2.of_get (by simp [hl]) fun j y d hy hd => ?_
  by_cases e : j = i
  · subst e
    rw [List.getElem?_set_self (by omega)] at hy hd
    injection hy with hy; injection hd with hd
    subst hy; subst hd
    refine ⟨?_, hx⟩
    match c, hcl with
    | [w], _ => rfl
  · rw [List.getElem?_set_ne (Ne.symm e)] at hy hd
    exact h1.get2 hy hd
end
/- arras/disk.New -/
theorem vc13 (a : AV) (h : Hp) (Post : AV → Hp → Prop) : vcCall Try.prog [] 13 [(SV.vv a)] h Post = (
  ∀ (p0 : Nat),
  onO (lenV a) fun p1 =>
    onB (!decide ((↑p1 : Int) = 0))
      (onO (lenV a) fun p2 =>
        onB (!decide ((↑p2 : Int) = 3)) (Post (AV.tup [AV.np, AV.i IntKind.i64 1]) h)
          (onO (lenV a) fun p3 =>
            ∃ I0 : Nat → AV → Int → Int → AV → AV → AV → AV → AV → AV → AV → AV → AV → Bool → Bool → Int → Hp → Prop,
              (∃ p4, I0 p4 AV.np 0 0 AV.ns AV.ns AV.ns AV.ns AV.ns AV.ns AV.ns AV.ns AV.ns false false 0 h) ∧
                ∀ (p5 : Nat) (h0 : Hp) (a0 : AV),
                  a0.sc = true →
                    ∀ (n0 n1 : Int) (a1 : AV),
                      a1.sc = true →
                        ∀ (a2 : AV),
                          a2.sc = true →
                            ∀ (a3 : AV),
                              a3.sc = true →
                                ∀ (a4 : AV),
                                  a4.sc = true →
                                    ∀ (a5 : AV),
                                      a5.sc = true →
                                        ∀ (a6 : AV),
                                          a6.sc = true →
                                            ∀ (a7 : AV),
                                              a7.sc = true →
                                                ∀ (a8 : AV),
                                                  a8.sc = true →
                                                    ∀ (a9 : AV),
                                                      a9.sc = true →
                                                        ∀ (lc0 lc1 : Bool) (n2 : Int),
                                                          I0 p5 a0 n0 n1 a1 a2 a3 a4 a5 a6 a7 a8 a9 lc0 lc1 n2 h0 →
                                                            onB (decide (n1 < ↑p3))
                                                              (onO (idxV a n1 1) fun r0 =>
                                                                onO (rdH h0 r0.fst r0.snd 1) fun l0 =>
                                                                  onL [Kd.ref] l0 fun a10 =>
                                                                    onO (lenV a10) fun p6 =>
                                                                      onB (decide ((4194304 : Int) < ↑p6)) (Post (AV.tup [AV.np, AV.i IntKind.i64 1]) h0)
                                                                        (wpC Try.prog 23 [a10]
                                                                          (fun a11 h1 =>
                                                                            onRet [Sh.one Kd.ref] a11 fun a12 =>
                                                                              wpC Try.prog 23 [a10]
                                                                                (fun a13 h2 =>
                                                                                  onRet [Sh.one Kd.ref] a13 fun a14 =>
                                                                                    onO (natLt n1 3) fun p7 =>
                                                                                      ((True ∧
                                                                                            (p7 = 0 →
                                                                                              onO (natLt n1 3) fun p8 =>
                                                                                                ((True ∧
                                                                                                      (p8 = 0 →
                                                                                                        onO (intO BinOp.add IntKind.i64 n1 1) fun n3 =>
                                                                                                          ∃ p9, ltN p9 p5 ∧ I0 p9 a0 n0 n3 a12 a14 a3 a4 a5 a6 a7 a8 a9 lc0 lc1 n2 h2)) ∧
                                                                                                    (p8 = 1 →
                                                                                                      onO (intO BinOp.add IntKind.i64 n1 1) fun n4 =>
                                                                                                        ∃ p10, ltN p10 p5 ∧ I0 p10 a0 n0 n4 a12 a2 a3 a4 a14 a6 a7 a8 a9 lc0 lc1 n2 h2)) ∧
                                                                                                  (p8 = 2 →
                                                                                                    onO (intO BinOp.add IntKind.i64 n1 1) fun n5 =>
                                                                                                      ∃ p11, ltN p11 p5 ∧ I0 p11 a0 n0 n5 a12 a2 a3 a4 a5 a6 a7 a14 a9 lc0 lc1 n2 h2))) ∧
                                                                                          (p7 = 1 →
                                                                                            onO (natLt n1 3) fun p12 =>
                                                                                              ((True ∧
                                                                                                    (p12 = 0 →
                                                                                                      onO (intO BinOp.add IntKind.i64 n1 1) fun n6 =>
                                                                                                        ∃ p13, ltN p13 p5 ∧ I0 p13 a0 n0 n6 a1 a14 a3 a12 a5 a6 a7 a8 a9 lc0 lc1 n2 h2)) ∧
                                                                                                  (p12 = 1 →
                                                                                                    onO (intO BinOp.add IntKind.i64 n1 1) fun n7 =>
                                                                                                      ∃ p14, ltN p14 p5 ∧ I0 p14 a0 n0 n7 a1 a2 a3 a12 a14 a6 a7 a8 a9 lc0 lc1 n2 h2)) ∧
                                                                                                (p12 = 2 →
                                                                                                  onO (intO BinOp.add IntKind.i64 n1 1) fun n8 =>
                                                                                                    ∃ p15, ltN p15 p5 ∧ I0 p15 a0 n0 n8 a1 a2 a3 a12 a5 a6 a7 a14 a9 lc0 lc1 n2 h2))) ∧
                                                                                        (p7 = 2 →
                                                                                          onO (natLt n1 3) fun p16 =>
                                                                                            ((True ∧
                                                                                                  (p16 = 0 →
                                                                                                    onO (intO BinOp.add IntKind.i64 n1 1) fun n9 =>
                                                                                                      ∃ p17, ltN p17 p5 ∧ I0 p17 a0 n0 n9 a1 a14 a3 a4 a5 a6 a12 a8 a9 lc0 lc1 n2 h2)) ∧
                                                                                                (p16 = 1 →
                                                                                                  onO (intO BinOp.add IntKind.i64 n1 1) fun n10 =>
                                                                                                    ∃ p18, ltN p18 p5 ∧ I0 p18 a0 n0 n10 a1 a2 a3 a4 a14 a6 a12 a8 a9 lc0 lc1 n2 h2)) ∧
                                                                                              (p16 = 2 →
                                                                                                onO (intO BinOp.add IntKind.i64 n1 1) fun n11 =>
                                                                                                  ∃ p19, ltN p19 p5 ∧ I0 p19 a0 n0 n11 a1 a2 a3 a4 a5 a6 a12 a14 a9 lc0 lc1 n2 h2)))
                                                                                h1)
                                                                          h0))
                                                              (h0.g p0 = none →
                                                                h0.lo.le p0 →
                                                                  Post (AV.tup [AV.p p0 0, AV.i IntKind.i64 0])
                                                                    (h0.put p0 [a1, a2, a3, a4, a5, a6, a7, a8, a9, AV.b lc0, AV.b lc1, AV.i IntKind.i64 n2]))))
      (onO (lenV a) fun p20 =>
        ∃ I1 : Nat → AV → Int → Int → AV → AV → AV → AV → AV → AV → AV → AV → AV → Bool → Bool → Int → Hp → Prop,
          (∃ p21, I1 p21 AV.np 0 0 AV.ns AV.ns AV.ns AV.ns AV.ns AV.ns AV.ns AV.ns AV.ns false false 0 h) ∧
            ∀ (p22 : Nat) (h3 : Hp) (a15 : AV),
              a15.sc = true →
                ∀ (n12 n13 : Int) (a16 : AV),
                  a16.sc = true →
                    ∀ (a17 : AV),
                      a17.sc = true →
                        ∀ (a18 : AV),
                          a18.sc = true →
                            ∀ (a19 : AV),
                              a19.sc = true →
                                ∀ (a20 : AV),
                                  a20.sc = true →
                                    ∀ (a21 : AV),
                                      a21.sc = true →
                                        ∀ (a22 : AV),
                                          a22.sc = true →
                                            ∀ (a23 : AV),
                                              a23.sc = true →
                                                ∀ (a24 : AV),
                                                  a24.sc = true →
                                                    ∀ (lc2 lc3 : Bool) (n14 : Int),
                                                      I1 p22 a15 n12 n13 a16 a17 a18 a19 a20 a21 a22 a23 a24 lc2 lc3 n14 h3 →
                                                        onB (decide (n13 < ↑p20))
                                                          (onO (idxV a n13 1) fun r1 =>
                                                            onO (rdH h3 r1.fst r1.snd 1) fun l1 =>
                                                              onL [Kd.ref] l1 fun a25 =>
                                                                onO (lenV a25) fun p23 =>
                                                                  onB (decide ((4194304 : Int) < ↑p23)) (Post (AV.tup [AV.np, AV.i IntKind.i64 1]) h3)
                                                                    (wpC Try.prog 23 [a25]
                                                                      (fun a26 h4 =>
                                                                        onRet [Sh.one Kd.ref] a26 fun a27 =>
                                                                          wpC Try.prog 23 [a25]
                                                                            (fun a28 h5 =>
                                                                              onRet [Sh.one Kd.ref] a28 fun a29 =>
                                                                                onO (natLt n13 3) fun p24 =>
                                                                                  ((True ∧
                                                                                        (p24 = 0 →
                                                                                          onO (natLt n13 3) fun p25 =>
                                                                                            ((True ∧
                                                                                                  (p25 = 0 →
                                                                                                    onO (intO BinOp.add IntKind.i64 n13 1) fun n15 =>
                                                                                                      ∃ p26, ltN p26 p22 ∧ I1 p26 a15 n12 n15 a27 a29 a18 a19 a20 a21 a22 a23 a24 lc2 lc3 n14 h5)) ∧
                                                                                                (p25 = 1 →
                                                                                                  onO (intO BinOp.add IntKind.i64 n13 1) fun n16 =>
                                                                                                    ∃ p27, ltN p27 p22 ∧ I1 p27 a15 n12 n16 a27 a17 a18 a19 a29 a21 a22 a23 a24 lc2 lc3 n14 h5)) ∧
                                                                                              (p25 = 2 →
                                                                                                onO (intO BinOp.add IntKind.i64 n13 1) fun n17 =>
                                                                                                  ∃ p28, ltN p28 p22 ∧ I1 p28 a15 n12 n17 a27 a17 a18 a19 a20 a21 a22 a29 a24 lc2 lc3 n14 h5))) ∧
                                                                                      (p24 = 1 →
                                                                                        onO (natLt n13 3) fun p29 =>
                                                                                          ((True ∧
                                                                                                (p29 = 0 →
                                                                                                  onO (intO BinOp.add IntKind.i64 n13 1) fun n18 =>
                                                                                                    ∃ p30, ltN p30 p22 ∧ I1 p30 a15 n12 n18 a16 a29 a18 a27 a20 a21 a22 a23 a24 lc2 lc3 n14 h5)) ∧
                                                                                              (p29 = 1 →
                                                                                                onO (intO BinOp.add IntKind.i64 n13 1) fun n19 =>
                                                                                                  ∃ p31, ltN p31 p22 ∧ I1 p31 a15 n12 n19 a16 a17 a18 a27 a29 a21 a22 a23 a24 lc2 lc3 n14 h5)) ∧
                                                                                            (p29 = 2 →
                                                                                              onO (intO BinOp.add IntKind.i64 n13 1) fun n20 =>
                                                                                                ∃ p32, ltN p32 p22 ∧ I1 p32 a15 n12 n20 a16 a17 a18 a27 a20 a21 a22 a29 a24 lc2 lc3 n14 h5))) ∧
                                                                                    (p24 = 2 →
                                                                                      onO (natLt n13 3) fun p33 =>
                                                                                        ((True ∧
                                                                                              (p33 = 0 →
                                                                                                onO (intO BinOp.add IntKind.i64 n13 1) fun n21 =>
                                                                                                  ∃ p34, ltN p34 p22 ∧ I1 p34 a15 n12 n21 a16 a29 a18 a19 a20 a21 a27 a23 a24 lc2 lc3 n14 h5)) ∧
                                                                                            (p33 = 1 →
                                                                                              onO (intO BinOp.add IntKind.i64 n13 1) fun n22 =>
                                                                                                ∃ p35, ltN p35 p22 ∧ I1 p35 a15 n12 n22 a16 a17 a18 a19 a29 a21 a27 a23 a24 lc2 lc3 n14 h5)) ∧
                                                                                          (p33 = 2 →
                                                                                            onO (intO BinOp.add IntKind.i64 n13 1) fun n23 =>
                                                                                              ∃ p36, ltN p36 p22 ∧ I1 p36 a15 n12 n23 a16 a17 a18 a19 a20 a21 a27 a29 a24 lc2 lc3 n14 h5)))
                                                                            h4)
                                                                      h3))
                                                          (h3.g p0 = none →
                                                            h3.lo.le p0 →
                                                              Post (AV.tup [AV.p p0 0, AV.i IntKind.i64 0])
                                                                (h3.put p0 [a16, a17, a18, a19, a20, a21, a22, a23, a24, AV.b lc2, AV.b lc3, AV.i IntKind.i64 n14])))) := by kernel_rfl
/- (*arras/disk.Disk).Write -/
theorem vc45 (a : AV) (b : Int) (c : Int) (d : AV) (h : Hp) (Post : AV → Hp → Prop) : vcCall Try.prog [] 45 [(SV.vv a), (SV.ii .i64 b), (SV.ii .i64 c), (SV.vv d)] h Post = (
  wpC Try.prog 51 [a, AV.i IntKind.i64 b]
  (fun a0 h0 =>
    onRet [Sh.one (Kd.int IntKind.i64)] a0 fun n0 =>
      onB (!decide (n0 = 0)) (Post (AV.i IntKind.i64 n0) h0)
        (onB (decide (c < 0)) (Post (AV.i IntKind.i64 2) h0)
          (onO (ptrV a) fun r0 =>
            onO (natLt b 3) fun p0 =>
              onO (rdH h0 r0.fst (r0.snd + 0 + p0 * 3 + 1) 1) fun l0 =>
                onL [Kd.ref] l0 fun a1 =>
                  onO (lenV a1) fun p1 =>
                    onB (decide ((↑p1 : Int) < c)) (Post (AV.i IntKind.i64 2) h0)
                      (onO (lenV d) fun p2 =>
                        onO (intO BinOp.sub IntKind.i64 4194304 c) fun n1 =>
                          onB (decide (n1 < ↑p2)) (Post (AV.i IntKind.i64 2) h0)
                            (wpC Try.prog 23 [d]
                              (fun a2 h1 =>
                                onRet [Sh.one Kd.ref] a2 fun a3 =>
                                  wpC Try.prog 52 [a, AV.i IntKind.i64 b, AV.agg [AV.b false, AV.i IntKind.i64 c, a3]]
                                    (fun a4 h2 => onRet [Sh.one (Kd.int IntKind.i64)] a4 fun n2 => Post (AV.i IntKind.i64 n2) h2) h1)
                              h0)))))
  h) := by kernel_rfl
/- (*arras/disk.Disk).Sync -/
theorem vc39 (a : AV) (b : Int) (h : Hp) (Post : AV → Hp → Prop) : vcCall Try.prog [] 39 [(SV.vv a), (SV.ii .i64 b)] h Post = (
  wpC Try.prog 51 [a, AV.i IntKind.i64 b]
  (fun a0 h0 =>
    onRet [Sh.one (Kd.int IntKind.i64)] a0 fun n0 =>
      onB (!decide (n0 = 0)) (Post (AV.i IntKind.i64 n0) h0)
        (onO (ptrV a) fun r0 => onO (natLt b 3) fun p0 => wpC Try.prog 53 [AV.p r0.fst (r0.snd + 0 + p0 * 3)] (fun a1 h1 => onTup [] a1 (Post (AV.i IntKind.i64 0) h1)) h0))
  h) := by kernel_rfl
/- (*arras/disk.Disk).Crash -/
theorem vc21 (a : AV) (b : AV) (h : Hp) (Post : AV → Hp → Prop) : vcCall Try.prog [] 21 [(SV.vv a), (SV.vv b)] h Post = (
  ∀ (p0 : Nat),
  h.g p0 = none →
    h.lo.le p0 →
      ∃ I0 : Nat → AV → Int → Hp → Prop,
        (∃ p1, I0 p1 AV.ns 0 (h.put p0 [b])) ∧
          ∀ (p2 : Nat) (h0 : Hp) (a0 : AV),
            a0.sc = true →
              ∀ (n0 : Int),
                I0 p2 a0 n0 h0 →
                  onB (decide (n0 < 3))
                    (onO (ptrV a) fun r0 =>
                      onO (natLt n0 3) fun p3 =>
                        onO (rdH h0 r0.fst (r0.snd + 0 + p3 * 3 + 0) 1) fun l0 =>
                          onL [Kd.ref] l0 fun a1 =>
                            wpC Try.prog 23 [a1]
                              (fun a2 h1 =>
                                onRet [Sh.one Kd.ref] a2 fun a3 =>
                                  onO (ptrV a) fun r1 =>
                                    onO (natLt n0 3) fun p4 =>
                                      onO (rdH h1 r1.fst (r1.snd + 0 + p4 * 3 + 2) 1) fun l1 =>
                                        onL [Kd.ref] l1 fun a4 =>
                                          sameH h0 h1 r1.fst (r1.snd + 0 + p4 * 3 + 2) 1 ∧
                                            onO (lenV a4) fun p5 =>
                                              onO (intO BinOp.add IntKind.i64 (↑p5) 1) fun n1 =>
                                                wpC Try.prog 32 [AV.i IntKind.i64 n1, AV.p p0 0]
                                                  (fun a5 h2 =>
                                                    onRet [Sh.one (Kd.int IntKind.i64)] a5 fun n2 =>
                                                      onO (slV a4 none (some n2) none 3) fun a6 =>
                                                        onO (lenV a6) fun p6 =>
                                                          ∃ I1 : Nat → AV → Int → Hp → Prop,
                                                            (∃ p7, I1 p7 a3 0 h2) ∧
                                                              ∀ (p8 : Nat) (h3 : Hp) (a7 : AV),
                                                                a7.sc = true →
                                                                  ∀ (n3 : Int),
                                                                    I1 p8 a7 n3 h3 →
                                                                      onB (decide (n3 < ↑p6))
                                                                        (onO (idxV a6 n3 3) fun r2 =>
                                                                          onO (rdH h3 r2.fst r2.snd 3) fun l2 =>
                                                                            onL [Kd.bool, Kd.int IntKind.i64, Kd.ref] l2 fun lc0 n4 a8 =>
                                                                              ∀ (p9 : Nat),
                                                                                wpC Try.prog 34 [AV.agg [AV.b lc0, AV.i IntKind.i64 n4, a8], a7]
                                                                                  (fun a9 h4 =>
                                                                                    onRet [Sh.one Kd.ref] a9 fun a10 =>
                                                                                      onO (intO BinOp.add IntKind.i64 n3 1) fun n5 => ∃ p10, ltN p10 p8 ∧ I1 p10 a10 n5 h4)
                                                                                  h3)
                                                                        (onO (lenV a4) fun p11 =>
                                                                          onB (decide (n2 < ↑p11))
                                                                            (onO (idxV a4 n2 3) fun r3 =>
                                                                              onO (rdH h3 r3.fst (r3.snd + 0) 1) fun l3 =>
                                                                                onL [Kd.bool] l3 fun lc1 =>
                                                                                  onB (!lc1)
                                                                                    (onO (idxV a4 n2 3) fun r4 =>
                                                                                      onO (rdH h3 r4.fst r4.snd 3) fun l4 =>
                                                                                        onL [Kd.bool, Kd.int IntKind.i64, Kd.ref] l4 fun lc2 n6 a11 =>
                                                                                          ∀ (p12 : Nat),
                                                                                            onO (lenV a11) fun p13 =>
                                                                                              onO (intO BinOp.add IntKind.i64 (↑p13) 1) fun n7 =>
                                                                                                wpC Try.prog 32 [AV.i IntKind.i64 n7, AV.p p0 0]
                                                                                                  (fun a12 h5 =>
                                                                                                    onRet [Sh.one (Kd.int IntKind.i64)] a12 fun n8 =>
                                                                                                      onO (slV a11 none (some n8) none 1) fun a13 =>
                                                                                                        wpC Try.prog 34 [AV.agg [AV.b lc2, AV.i IntKind.i64 n6, a13], a7]
                                                                                                          (fun a14 h6 =>
                                                                                                            onRet [Sh.one Kd.ref] a14 fun a15 =>
                                                                                                              ∀ (p14 : Nat),
                                                                                                                wpE (Eff.app a0 1 (Src.lit [a15]) 1)
                                                                                                                  (fun x0 h7 =>
                                                                                                                    onO x0 fun a16 =>
                                                                                                                      onO (intO BinOp.add IntKind.i64 n0 1) fun n9 =>
                                                                                                                        ∃ p15, ltN p15 p2 ∧ I0 p15 a16 n9 h7)
                                                                                                                  h6)
                                                                                                          h5)
                                                                                                  h3)
                                                                                    (∀ (p16 : Nat),
                                                                                      wpE (Eff.app a0 1 (Src.lit [a7]) 1)
                                                                                        (fun x1 h8 =>
                                                                                          onO x1 fun a17 => onO (intO BinOp.add IntKind.i64 n0 1) fun n10 => ∃ p17, ltN p17 p2 ∧ I0 p17 a17 n10 h8)
                                                                                        h3))
                                                                            (∀ (p18 : Nat),
                                                                              wpE (Eff.app a0 1 (Src.lit [a7]) 1)
                                                                                (fun x2 h9 => onO x2 fun a18 => onO (intO BinOp.add IntKind.i64 n0 1) fun n11 => ∃ p19, ltN p19 p2 ∧ I0 p19 a18 n11 h9)
                                                                                h3)))
                                                  h1)
                              h0)
                    (onO (ptrV a) fun r5 => wpE (Eff.w r5.fst (r5.snd + 9) (Src.lit [AV.b true]) none) (fun x3 h10 => Post a0 h10) h0)) := by kernel_rfl
/- (*arras/disk.Disk).Size -/
theorem vc47 (a : AV) (b : Int) (h : Hp) (Post : AV → Hp → Prop) : vcCall Try.prog [] 47 [(SV.vv a), (SV.ii .i64 b)] h Post = (
  wpC Try.prog 67 [a, AV.i IntKind.i64 b]
  (fun a0 h0 =>
    onRet [Sh.one (Kd.int IntKind.i64)] a0 fun n0 =>
      onB (!decide (n0 = 0)) (Post (AV.tup [AV.i IntKind.i64 0, AV.i IntKind.i64 n0]) h0)
        (onO (ptrV a) fun r0 =>
          onO (natLt b 3) fun p0 =>
            onO (rdH h0 r0.fst (r0.snd + 0 + p0 * 3 + 1) 1) fun l0 => onL [Kd.ref] l0 fun a1 => onO (lenV a1) fun p1 => Post (AV.tup [AV.i IntKind.i64 ↑p1, AV.i IntKind.i64 0]) h0))
  h) := by kernel_rfl
/- slices.Clone[[]byte,byte] -/
theorem vc23 (a : AV) (h : Hp) (Post : AV → Hp → Prop) : vcCall Try.prog [] 23 [(SV.vv a)] h Post = (
  onO (nilSl a) fun lc0 =>
  onB lc0 (Post AV.ns h)
    (∀ (p0 : Nat),
      h.g p0 = none →
        h.lo.le p0 →
          onO (srcV 1 a) fun r0 =>
            onC (((4 * r0.fst + 4000) * 1).ble (OfNat.ofNat 17179869184)) (wpE (Eff.app (AV.sl p0 0 0 0 true 1) r0.fst r0.snd 1) (fun x0 h0 => onO x0 fun a0 => Post a0 h0) (h.put p0 [])))) := by kernel_rfl
/- (*arras/disk.Disk).call -/
theorem vc51 (a : AV) (b : Int) (h : Hp) (Post : AV → Hp → Prop) : vcCall Try.prog [] 51 [(SV.vv a), (SV.ii .i64 b)] h Post = (
  onO (ptrV a) fun r0 =>
  onO (rdH h r0.fst (r0.snd + 10) 1) fun l0 =>
    onL [Kd.bool] l0 fun lc0 =>
      onB lc0
        (onO (ptrV a) fun r1 =>
          onO (rdH h r1.fst (r1.snd + 9) 1) fun l1 =>
            onL [Kd.bool] l1 fun lc1 =>
              onB (!lc1)
                (onO (ptrV a) fun r2 =>
                  onO (rdH h r2.fst (r2.snd + 11) 1) fun l2 =>
                    onL [Kd.int IntKind.i64] l2 fun n0 =>
                      onO (intO BinOp.sub IntKind.i64 n0 1) fun n1 =>
                        onO (ptrV a) fun r3 =>
                          wpE (Eff.w r3.fst (r3.snd + 11) (Src.lit [AV.i IntKind.i64 n1]) none)
                            (fun x0 h0 =>
                              onO (ptrV a) fun r4 =>
                                onO (rdH h0 r4.fst (r4.snd + 11) 1) fun l3 =>
                                  onL [Kd.int IntKind.i64] l3 fun n2 =>
                                    onO (ptrV a) fun r5 =>
                                      wpE (Eff.w r5.fst (r5.snd + 9) (Src.lit [AV.b (decide (n2 < 1))]) none)
                                        (fun x1 h1 => wpC Try.prog 67 [a, AV.i IntKind.i64 b] (fun a0 h2 => onRet [Sh.one (Kd.int IntKind.i64)] a0 fun n3 => Post (AV.i IntKind.i64 n3) h2) h1) h0)
                            h)
                (wpC Try.prog 67 [a, AV.i IntKind.i64 b] (fun a1 h3 => onRet [Sh.one (Kd.int IntKind.i64)] a1 fun n4 => Post (AV.i IntKind.i64 n4) h3) h))
        (wpC Try.prog 67 [a, AV.i IntKind.i64 b] (fun a2 h4 => onRet [Sh.one (Kd.int IntKind.i64)] a2 fun n5 => Post (AV.i IntKind.i64 n5) h4) h)) := by kernel_rfl
/- (*arras/disk.Disk).does -/
theorem vc52 (a : AV) (b : Int) (lc0 : Bool) (lc1 : Int) (lc2 : AV) (h : Hp) (Post : AV → Hp → Prop) : vcCall Try.prog [] 52 [(SV.vv a), (SV.ii .i64 b), (SV.ag [(SV.bb lc0), (SV.ii .i64 lc1), (SV.vv lc2)])] h Post = (
  ∀ (p0 : Nat),
  onO (ptrV a) fun r0 =>
    onO (natLt b 3) fun p1 =>
      onO (rdH h r0.fst (r0.snd + 0 + p1 * 3 + 1) 1) fun l0 =>
        onL [Kd.ref] l0 fun a0 =>
          wpC Try.prog 34 [AV.agg [AV.b lc0, AV.i IntKind.i64 lc1, lc2], a0]
            (fun a1 h0 =>
              onRet [Sh.one Kd.ref] a1 fun a2 =>
                wpE (Eff.w r0.fst (r0.snd + 0 + p1 * 3 + 1) (Src.lit [a2]) none)
                  (fun x0 h1 =>
                    onO (rdH h1 r0.fst (r0.snd + 0 + p1 * 3 + 2) 1) fun l1 =>
                      onL [Kd.ref] l1 fun a3 =>
                        ∀ (p2 : Nat),
                          wpE (Eff.app a3 1 (Src.lit [AV.b lc0, AV.i IntKind.i64 lc1, lc2]) 3)
                            (fun x1 h2 => onO x1 fun a4 => wpE (Eff.w r0.fst (r0.snd + 0 + p1 * 3 + 2) (Src.lit [a4]) none) (fun x2 h3 => Post (AV.i IntKind.i64 0) h3) h2) h1)
                  h0)
            h) := by kernel_rfl
end Go.Proofs.YthnhdgcaolgdnaaAn
