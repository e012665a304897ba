/- What the functions that the law reaches come to, down to the law itself. -/
import Derived.Test.YtfadhndblgbcnaaBnF
import Derived.Test.YtfadhndblgbcnaaProg
set_option linter.unusedVariables false
set_option linter.unusedSimpArgs false
set_option maxRecDepth 100000
namespace Go.Proofs.YtfadhndblgbcnaaAn
open Go
/-- what 64 bits hold -/
def In64 (n : Int) : Prop := -9223372036854775808 ≤ n ∧ n < 9223372036854775808
namespace D
structure Stamp where
  time : Int
  rep : Int
deriving DecidableEq
def kStamp : Kn Stamp := Kn.iso (Kn.pair Kn.int Kn.int) fun s => (s.time, s.rep)
structure Op where
  stamp : Stamp
  seq : Int
  deps : List (Int)
  kind : Int
  node : Stamp
  parent : Stamp
  key : List Nat
  prop : Int
  value : Int
deriving DecidableEq
def kOp : Kn Op := Kn.iso (Kn.pair kStamp (Kn.pair Kn.int (Kn.pair (Kn.slice Kn.int 8) (Kn.pair Kn.int (Kn.pair kStamp (Kn.pair kStamp (Kn.pair Kn.str (Kn.pair Kn.int Kn.int)))))))) fun s => (s.stamp, s.seq, s.deps, s.kind, s.node, s.parent, s.key, s.prop, s.value)
structure SyncA where
  l : List (Op)
  v : List (Int)
  rep : Int
  dst : Int
  reps : Int
  next : Int
deriving DecidableEq
def kSyncA : Kn SyncA := Kn.iso (Kn.pair (Kn.slice kOp 120) (Kn.pair (Kn.slice Kn.int 8) (Kn.pair Kn.int (Kn.pair Kn.int (Kn.pair Kn.int Kn.int))))) fun s => (s.l, s.v, s.rep, s.dst, s.reps, s.next)
theorem oStamp : Opens Try.prog 28 kStamp := opens_struct (P := Try.prog) (t := 28) Try.underlying28 (by kernel_rfl) (by kernel_rfl) (opens_cons (opens_int (P := Try.prog) Try.underlying3) (opens_one (opens_int (P := Try.prog) Try.underlying3))) _ (fun a => ⟨a.1, a.2⟩) fun _ => rfl
theorem oOp : Opens Try.prog 30 kOp := opens_struct (P := Try.prog) (t := 30) Try.underlying30 (by kernel_rfl) (by kernel_rfl) (opens_cons oStamp (opens_cons (opens_int (P := Try.prog) Try.underlying3) (opens_cons (opens_slice (P := Try.prog) 8 Try.underlying23 (by kernel_rfl) (by decide) (by kernel_rfl) (opens_int (P := Try.prog) Try.underlying3)) (opens_cons (opens_int (P := Try.prog) Try.underlying3) (opens_cons oStamp (opens_cons oStamp (opens_cons (opens_string (P := Try.prog) Try.underlying9) (opens_cons (opens_int (P := Try.prog) Try.underlying3) (opens_one (opens_int (P := Try.prog) Try.underlying3)))))))))) _ (fun a => ⟨a.1, a.2.1, a.2.2.1, a.2.2.2.1, a.2.2.2.2.1, a.2.2.2.2.2.1, a.2.2.2.2.2.2.1, a.2.2.2.2.2.2.2.1, a.2.2.2.2.2.2.2.2⟩) fun _ => rfl
theorem oSyncA : Opens Try.prog 25 kSyncA := opens_struct (P := Try.prog) (t := 25) Try.underlying25 (by kernel_rfl) (by kernel_rfl) (opens_cons (opens_slice (P := Try.prog) 120 Try.underlying22 (by kernel_rfl) (by decide) (by kernel_rfl) oOp) (opens_cons (opens_slice (P := Try.prog) 8 Try.underlying23 (by kernel_rfl) (by decide) (by kernel_rfl) (opens_int (P := Try.prog) Try.underlying3)) (opens_cons (opens_int (P := Try.prog) Try.underlying3) (opens_cons (opens_int (P := Try.prog) Try.underlying3) (opens_cons (opens_int (P := Try.prog) Try.underlying3) (opens_one (opens_int (P := Try.prog) Try.underlying3))))))) _ (fun a => ⟨a.1, a.2.1, a.2.2.1, a.2.2.2.1, a.2.2.2.2.1, a.2.2.2.2.2⟩) fun _ => rfl
theorem kStamp_open {h : Hp} {s : Stamp} {cs : List AV} (k : kStamp.K h s cs) : cs = [.i .i64 s.time, .i .i64 s.rep] ∧ In64 s.time ∧ In64 s.rep := by
  obtain ⟨c0, r0, e0, q0, q1⟩ := k
  obtain ⟨z0, f0⟩ := q0
  obtain ⟨z1, f1⟩ := q1
  refine ⟨?_, f0, f1⟩
  rw [e0, z0, z1]; rfl
theorem kOp_open {h : Hp} {s : Op} {cs : List AV} (k : kOp.K h s cs) : ∃ a0, cs = [.i .i64 s.stamp.time, .i .i64 s.stamp.rep, .i .i64 s.seq, a0, .i .i64 s.kind, .i .i64 s.node.time, .i .i64 s.node.rep, .i .i64 s.parent.time, .i .i64 s.parent.rep, .s s.key, .i .i64 s.prop, .i .i64 s.value] ∧ In64 s.stamp.time ∧ In64 s.stamp.rep ∧ In64 s.seq ∧ (Kn.int.Row h a0 s.deps ∧ s.deps.length * 8 ≤ 140737488351232) ∧ In64 s.kind ∧ In64 s.node.time ∧ In64 s.node.rep ∧ In64 s.parent.time ∧ In64 s.parent.rep ∧ (s.key.length ≤ 140737488351232 ∧ ∀ x ∈ s.key, x < 256) ∧ In64 s.prop ∧ In64 s.value := by
  obtain ⟨c0, r0, e0, q0, c1, r1, e1, q1, c2, r2, e2, q2, c3, r3, e3, q3, c4, r4, e4, q4, c5, r5, e5, q5, c6, r6, e6, q6, c7, r7, e7, q7, q8⟩ := k
  obtain ⟨z0, f0_0, f0_1⟩ := kStamp_open q0
  obtain ⟨z1, f1⟩ := q1
  obtain ⟨b2, z2, f2⟩ := q2
  obtain ⟨z3, f3⟩ := q3
  obtain ⟨z4, f4_0, f4_1⟩ := kStamp_open q4
  obtain ⟨z5, f5_0, f5_1⟩ := kStamp_open q5
  obtain ⟨z6, f6⟩ := q6
  obtain ⟨z7, f7⟩ := q7
  obtain ⟨z8, f8⟩ := q8
  refine ⟨b2, ?_, f0_0, f0_1, f1, f2, f3, f4_0, f4_1, f5_0, f5_1, f6, f7, f8⟩
  rw [e0, z0, e1, z1, e2, z2, e3, z3, e4, z4, e5, z5, e6, z6, e7, z7, z8]; rfl
theorem kSyncA_open {h : Hp} {s : SyncA} {cs : List AV} (k : kSyncA.K h s cs) : ∃ a0 a1, cs = [a0, a1, .i .i64 s.rep, .i .i64 s.dst, .i .i64 s.reps, .i .i64 s.next] ∧ (kOp.Row h a0 s.l ∧ s.l.length * 120 ≤ 140737488351232) ∧ (Kn.int.Row h a1 s.v ∧ s.v.length * 8 ≤ 140737488351232) ∧ In64 s.rep ∧ In64 s.dst ∧ In64 s.reps ∧ In64 s.next := by
  obtain ⟨c0, r0, e0, q0, c1, r1, e1, q1, c2, r2, e2, q2, c3, r3, e3, q3, c4, r4, e4, q4, q5⟩ := k
  obtain ⟨b0, z0, f0⟩ := q0
  obtain ⟨b1, z1, f1⟩ := q1
  obtain ⟨z2, f2⟩ := q2
  obtain ⟨z3, f3⟩ := q3
  obtain ⟨z4, f4⟩ := q4
  obtain ⟨z5, f5⟩ := q5
  refine ⟨b0, b1, ?_, f0, f1, f2, f3, f4, f5⟩
  rw [e0, z0, e1, z1, e2, z2, e3, z3, e4, z4, z5]; rfl
end D
/- arras/prop.May -/
theorem vc52 (a : Int) (b : Int) (h : Hp) (Post : AV → Hp → Prop) : vcCall Try.prog [] 52 [(SV.ii .i64 a), (SV.ii .i64 b)] h Post = (
  wpC Try.prog 55 [AV.i IntKind.i64 a]
  (fun a0 h0 =>
    onRet [Sh.one Kd.bool] a0 fun c0 =>
      onB c0
        (wpC Try.prog 56 [AV.i IntKind.i64 a]
          (fun a1 h1 =>
            onRet [Sh.agg [Kd.int IntKind.i64, Kd.int IntKind.i64, Kd.int IntKind.i64, Kd.bool]] a1 fun n0 n1 n2 c1 =>
              onB (decide (n0 ≤ b))
                (wpC Try.prog 56 [AV.i IntKind.i64 a]
                  (fun a2 h2 => onRet [Sh.agg [Kd.int IntKind.i64, Kd.int IntKind.i64, Kd.int IntKind.i64, Kd.bool]] a2 fun n3 n4 n5 c2 => Post (AV.b (decide (b ≤ n4))) h2) h1)
                (Post (AV.b false) h1))
          h0)
        (Post (AV.b false) h0))
  h) := by kernel_rfl
/- arras/prop.Is -/
theorem vc55 (a : Int) (h : Hp) (Post : AV → Hp → Prop) : vcCall Try.prog [] 55 [(SV.ii .i64 a)] h Post = (
  onB (decide (0 ≤ a)) (Post (AV.b (decide (a < 19))) h) (Post (AV.b false) h)) := by kernel_rfl
/- arras/stamp.Is -/
theorem vc45 (a0 : Int) (a1 : Int) (h : Hp) (Post : AV → Hp → Prop) : vcCall Try.prog [] 45 [(SV.ag [(SV.ii .i64 a0), (SV.ii .i64 a1)])] h Post = (
  ∀ (p0 : Nat), onB (decide (1 ≤ a0)) (onB (decide (a0 ≤ 1099511627776)) (onB (decide (0 ≤ a1)) (Post (AV.b (decide (a1 < 16))) h) (Post (AV.b false) h)) (Post (AV.b false) h)) (Post (AV.b false) h)) := by kernel_rfl
/- arras/prop.ruleOf -/
theorem vc56 (a : Int) (h : Hp) (Post : AV → Hp → Prop) : vcCall Try.prog [] 56 [(SV.ii .i64 a)] h Post = (
  ∀ (p0 : Nat),
  onB (decide (a = 0)) (Post (AV.agg [AV.i IntKind.i64 0, AV.i IntKind.i64 2, AV.i IntKind.i64 0, AV.b false]) h)
    (onB (decide (a = 1))
      (onB (decide (a = 1)) (Post (AV.agg [AV.i IntKind.i64 0, AV.i IntKind.i64 1, AV.i IntKind.i64 0, AV.b false]) h)
        (onB (decide (a = 3))
          (onB (decide (a = 3)) (Post (AV.agg [AV.i IntKind.i64 (-1), AV.i IntKind.i64 1099511627776, AV.i IntKind.i64 (-1), AV.b false]) h)
            (onB (decide (a = 5))
              (onB (decide (a = 5)) (Post (AV.agg [AV.i IntKind.i64 0, AV.i IntKind.i64 1099511627776, AV.i IntKind.i64 0, AV.b false]) h)
                (onB (decide (a = 9)) (Post (AV.agg [AV.i IntKind.i64 0, AV.i IntKind.i64 1048576, AV.i IntKind.i64 0, AV.b false]) h)
                  (onB (decide (a = 10)) (Post (AV.agg [AV.i IntKind.i64 0, AV.i IntKind.i64 1048576, AV.i IntKind.i64 1, AV.b false]) h)
                    (onB (decide (a = 15)) (Post (AV.agg [AV.i IntKind.i64 0, AV.i IntKind.i64 4, AV.i IntKind.i64 0, AV.b false]) h)
                      (onB (decide (a = 16)) (Post (AV.agg [AV.i IntKind.i64 0, AV.i IntKind.i64 3, AV.i IntKind.i64 0, AV.b false]) h)
                        (onB (decide (a = 17)) (Post (AV.agg [AV.i IntKind.i64 0, AV.i IntKind.i64 16777215, AV.i IntKind.i64 0, AV.b true]) h)
                          (onB (decide (a = 18)) (Post (AV.agg [AV.i IntKind.i64 64, AV.i IntKind.i64 64000, AV.i IntKind.i64 1024, AV.b true]) h)
                            (Post (AV.agg [AV.i IntKind.i64 0, AV.i IntKind.i64 1073741824, AV.i IntKind.i64 0, AV.b false]) h))))))))
              (onB (decide (a = 7)) (Post (AV.agg [AV.i IntKind.i64 0, AV.i IntKind.i64 1099511627776, AV.i IntKind.i64 0, AV.b false]) h)
                (onB (decide (a = 9)) (Post (AV.agg [AV.i IntKind.i64 0, AV.i IntKind.i64 1048576, AV.i IntKind.i64 0, AV.b false]) h)
                  (onB (decide (a = 10)) (Post (AV.agg [AV.i IntKind.i64 0, AV.i IntKind.i64 1048576, AV.i IntKind.i64 1, AV.b false]) h)
                    (onB (decide (a = 15)) (Post (AV.agg [AV.i IntKind.i64 0, AV.i IntKind.i64 4, AV.i IntKind.i64 0, AV.b false]) h)
                      (onB (decide (a = 16)) (Post (AV.agg [AV.i IntKind.i64 0, AV.i IntKind.i64 3, AV.i IntKind.i64 0, AV.b false]) h)
                        (onB (decide (a = 17)) (Post (AV.agg [AV.i IntKind.i64 0, AV.i IntKind.i64 16777215, AV.i IntKind.i64 0, AV.b true]) h)
                          (onB (decide (a = 18)) (Post (AV.agg [AV.i IntKind.i64 64, AV.i IntKind.i64 64000, AV.i IntKind.i64 1024, AV.b true]) h)
                            (Post (AV.agg [AV.i IntKind.i64 0, AV.i IntKind.i64 1073741824, AV.i IntKind.i64 0, AV.b false]) h))))))))))
          (onB (decide (a = 4))
            (onB (decide (a = 4)) (Post (AV.agg [AV.i IntKind.i64 (-1), AV.i IntKind.i64 1099511627776, AV.i IntKind.i64 (-1), AV.b false]) h)
              (onB (decide (a = 5))
                (onB (decide (a = 5)) (Post (AV.agg [AV.i IntKind.i64 0, AV.i IntKind.i64 1099511627776, AV.i IntKind.i64 0, AV.b false]) h)
                  (onB (decide (a = 9)) (Post (AV.agg [AV.i IntKind.i64 0, AV.i IntKind.i64 1048576, AV.i IntKind.i64 0, AV.b false]) h)
                    (onB (decide (a = 10)) (Post (AV.agg [AV.i IntKind.i64 0, AV.i IntKind.i64 1048576, AV.i IntKind.i64 1, AV.b false]) h)
                      (onB (decide (a = 15)) (Post (AV.agg [AV.i IntKind.i64 0, AV.i IntKind.i64 4, AV.i IntKind.i64 0, AV.b false]) h)
                        (onB (decide (a = 16)) (Post (AV.agg [AV.i IntKind.i64 0, AV.i IntKind.i64 3, AV.i IntKind.i64 0, AV.b false]) h)
                          (onB (decide (a = 17)) (Post (AV.agg [AV.i IntKind.i64 0, AV.i IntKind.i64 16777215, AV.i IntKind.i64 0, AV.b true]) h)
                            (onB (decide (a = 18)) (Post (AV.agg [AV.i IntKind.i64 64, AV.i IntKind.i64 64000, AV.i IntKind.i64 1024, AV.b true]) h)
                              (Post (AV.agg [AV.i IntKind.i64 0, AV.i IntKind.i64 1073741824, AV.i IntKind.i64 0, AV.b false]) h))))))))
                (onB (decide (a = 7)) (Post (AV.agg [AV.i IntKind.i64 0, AV.i IntKind.i64 1099511627776, AV.i IntKind.i64 0, AV.b false]) h)
                  (onB (decide (a = 9)) (Post (AV.agg [AV.i IntKind.i64 0, AV.i IntKind.i64 1048576, AV.i IntKind.i64 0, AV.b false]) h)
                    (onB (decide (a = 10)) (Post (AV.agg [AV.i IntKind.i64 0, AV.i IntKind.i64 1048576, AV.i IntKind.i64 1, AV.b false]) h)
                      (onB (decide (a = 15)) (Post (AV.agg [AV.i IntKind.i64 0, AV.i IntKind.i64 4, AV.i IntKind.i64 0, AV.b false]) h)
                        (onB (decide (a = 16)) (Post (AV.agg [AV.i IntKind.i64 0, AV.i IntKind.i64 3, AV.i IntKind.i64 0, AV.b false]) h)
                          (onB (decide (a = 17)) (Post (AV.agg [AV.i IntKind.i64 0, AV.i IntKind.i64 16777215, AV.i IntKind.i64 0, AV.b true]) h)
                            (onB (decide (a = 18)) (Post (AV.agg [AV.i IntKind.i64 64, AV.i IntKind.i64 64000, AV.i IntKind.i64 1024, AV.b true]) h)
                              (Post (AV.agg [AV.i IntKind.i64 0, AV.i IntKind.i64 1073741824, AV.i IntKind.i64 0, AV.b false]) h))))))))))
            (onB (decide (a = 6))
              (onB (decide (a = 6)) (Post (AV.agg [AV.i IntKind.i64 (-1), AV.i IntKind.i64 1099511627776, AV.i IntKind.i64 (-1), AV.b false]) h)
                (onB (decide (a = 5))
                  (onB (decide (a = 5)) (Post (AV.agg [AV.i IntKind.i64 0, AV.i IntKind.i64 1099511627776, AV.i IntKind.i64 0, AV.b false]) h)
                    (onB (decide (a = 9)) (Post (AV.agg [AV.i IntKind.i64 0, AV.i IntKind.i64 1048576, AV.i IntKind.i64 0, AV.b false]) h)
                      (onB (decide (a = 10)) (Post (AV.agg [AV.i IntKind.i64 0, AV.i IntKind.i64 1048576, AV.i IntKind.i64 1, AV.b false]) h)
                        (onB (decide (a = 15)) (Post (AV.agg [AV.i IntKind.i64 0, AV.i IntKind.i64 4, AV.i IntKind.i64 0, AV.b false]) h)
                          (onB (decide (a = 16)) (Post (AV.agg [AV.i IntKind.i64 0, AV.i IntKind.i64 3, AV.i IntKind.i64 0, AV.b false]) h)
                            (onB (decide (a = 17)) (Post (AV.agg [AV.i IntKind.i64 0, AV.i IntKind.i64 16777215, AV.i IntKind.i64 0, AV.b true]) h)
                              (onB (decide (a = 18)) (Post (AV.agg [AV.i IntKind.i64 64, AV.i IntKind.i64 64000, AV.i IntKind.i64 1024, AV.b true]) h)
                                (Post (AV.agg [AV.i IntKind.i64 0, AV.i IntKind.i64 1073741824, AV.i IntKind.i64 0, AV.b false]) h))))))))
                  (onB (decide (a = 7)) (Post (AV.agg [AV.i IntKind.i64 0, AV.i IntKind.i64 1099511627776, AV.i IntKind.i64 0, AV.b false]) h)
                    (onB (decide (a = 9)) (Post (AV.agg [AV.i IntKind.i64 0, AV.i IntKind.i64 1048576, AV.i IntKind.i64 0, AV.b false]) h)
                      (onB (decide (a = 10)) (Post (AV.agg [AV.i IntKind.i64 0, AV.i IntKind.i64 1048576, AV.i IntKind.i64 1, AV.b false]) h)
                        (onB (decide (a = 15)) (Post (AV.agg [AV.i IntKind.i64 0, AV.i IntKind.i64 4, AV.i IntKind.i64 0, AV.b false]) h)
                          (onB (decide (a = 16)) (Post (AV.agg [AV.i IntKind.i64 0, AV.i IntKind.i64 3, AV.i IntKind.i64 0, AV.b false]) h)
                            (onB (decide (a = 17)) (Post (AV.agg [AV.i IntKind.i64 0, AV.i IntKind.i64 16777215, AV.i IntKind.i64 0, AV.b true]) h)
                              (onB (decide (a = 18)) (Post (AV.agg [AV.i IntKind.i64 64, AV.i IntKind.i64 64000, AV.i IntKind.i64 1024, AV.b true]) h)
                                (Post (AV.agg [AV.i IntKind.i64 0, AV.i IntKind.i64 1073741824, AV.i IntKind.i64 0, AV.b false]) h))))))))))
              (onB (decide (a = 8))
                (onB (decide (a = 8)) (Post (AV.agg [AV.i IntKind.i64 (-1), AV.i IntKind.i64 1099511627776, AV.i IntKind.i64 (-1), AV.b false]) h)
                  (onB (decide (a = 5))
                    (onB (decide (a = 5)) (Post (AV.agg [AV.i IntKind.i64 0, AV.i IntKind.i64 1099511627776, AV.i IntKind.i64 0, AV.b false]) h)
                      (onB (decide (a = 9)) (Post (AV.agg [AV.i IntKind.i64 0, AV.i IntKind.i64 1048576, AV.i IntKind.i64 0, AV.b false]) h)
                        (onB (decide (a = 10)) (Post (AV.agg [AV.i IntKind.i64 0, AV.i IntKind.i64 1048576, AV.i IntKind.i64 1, AV.b false]) h)
                          (onB (decide (a = 15)) (Post (AV.agg [AV.i IntKind.i64 0, AV.i IntKind.i64 4, AV.i IntKind.i64 0, AV.b false]) h)
                            (onB (decide (a = 16)) (Post (AV.agg [AV.i IntKind.i64 0, AV.i IntKind.i64 3, AV.i IntKind.i64 0, AV.b false]) h)
                              (onB (decide (a = 17)) (Post (AV.agg [AV.i IntKind.i64 0, AV.i IntKind.i64 16777215, AV.i IntKind.i64 0, AV.b true]) h)
                                (onB (decide (a = 18)) (Post (AV.agg [AV.i IntKind.i64 64, AV.i IntKind.i64 64000, AV.i IntKind.i64 1024, AV.b true]) h)
                                  (Post (AV.agg [AV.i IntKind.i64 0, AV.i IntKind.i64 1073741824, AV.i IntKind.i64 0, AV.b false]) h))))))))
                    (onB (decide (a = 7)) (Post (AV.agg [AV.i IntKind.i64 0, AV.i IntKind.i64 1099511627776, AV.i IntKind.i64 0, AV.b false]) h)
                      (onB (decide (a = 9)) (Post (AV.agg [AV.i IntKind.i64 0, AV.i IntKind.i64 1048576, AV.i IntKind.i64 0, AV.b false]) h)
                        (onB (decide (a = 10)) (Post (AV.agg [AV.i IntKind.i64 0, AV.i IntKind.i64 1048576, AV.i IntKind.i64 1, AV.b false]) h)
                          (onB (decide (a = 15)) (Post (AV.agg [AV.i IntKind.i64 0, AV.i IntKind.i64 4, AV.i IntKind.i64 0, AV.b false]) h)
                            (onB (decide (a = 16)) (Post (AV.agg [AV.i IntKind.i64 0, AV.i IntKind.i64 3, AV.i IntKind.i64 0, AV.b false]) h)
                              (onB (decide (a = 17)) (Post (AV.agg [AV.i IntKind.i64 0, AV.i IntKind.i64 16777215, AV.i IntKind.i64 0, AV.b true]) h)
                                (onB (decide (a = 18)) (Post (AV.agg [AV.i IntKind.i64 64, AV.i IntKind.i64 64000, AV.i IntKind.i64 1024, AV.b true]) h)
                                  (Post (AV.agg [AV.i IntKind.i64 0, AV.i IntKind.i64 1073741824, AV.i IntKind.i64 0, AV.b false]) h))))))))))
                (onB (decide (a = 11)) (Post (AV.agg [AV.i IntKind.i64 (-1), AV.i IntKind.i64 1099511627776, AV.i IntKind.i64 (-1), AV.b false]) h)
                  (onB (decide (a = 5))
                    (onB (decide (a = 5)) (Post (AV.agg [AV.i IntKind.i64 0, AV.i IntKind.i64 1099511627776, AV.i IntKind.i64 0, AV.b false]) h)
                      (onB (decide (a = 9)) (Post (AV.agg [AV.i IntKind.i64 0, AV.i IntKind.i64 1048576, AV.i IntKind.i64 0, AV.b false]) h)
                        (onB (decide (a = 10)) (Post (AV.agg [AV.i IntKind.i64 0, AV.i IntKind.i64 1048576, AV.i IntKind.i64 1, AV.b false]) h)
                          (onB (decide (a = 15)) (Post (AV.agg [AV.i IntKind.i64 0, AV.i IntKind.i64 4, AV.i IntKind.i64 0, AV.b false]) h)
                            (onB (decide (a = 16)) (Post (AV.agg [AV.i IntKind.i64 0, AV.i IntKind.i64 3, AV.i IntKind.i64 0, AV.b false]) h)
                              (onB (decide (a = 17)) (Post (AV.agg [AV.i IntKind.i64 0, AV.i IntKind.i64 16777215, AV.i IntKind.i64 0, AV.b true]) h)
                                (onB (decide (a = 18)) (Post (AV.agg [AV.i IntKind.i64 64, AV.i IntKind.i64 64000, AV.i IntKind.i64 1024, AV.b true]) h)
                                  (Post (AV.agg [AV.i IntKind.i64 0, AV.i IntKind.i64 1073741824, AV.i IntKind.i64 0, AV.b false]) h))))))))
                    (onB (decide (a = 7)) (Post (AV.agg [AV.i IntKind.i64 0, AV.i IntKind.i64 1099511627776, AV.i IntKind.i64 0, AV.b false]) h)
                      (onB (decide (a = 9)) (Post (AV.agg [AV.i IntKind.i64 0, AV.i IntKind.i64 1048576, AV.i IntKind.i64 0, AV.b false]) h)
                        (onB (decide (a = 10)) (Post (AV.agg [AV.i IntKind.i64 0, AV.i IntKind.i64 1048576, AV.i IntKind.i64 1, AV.b false]) h)
                          (onB (decide (a = 15)) (Post (AV.agg [AV.i IntKind.i64 0, AV.i IntKind.i64 4, AV.i IntKind.i64 0, AV.b false]) h)
                            (onB (decide (a = 16)) (Post (AV.agg [AV.i IntKind.i64 0, AV.i IntKind.i64 3, AV.i IntKind.i64 0, AV.b false]) h)
                              (onB (decide (a = 17)) (Post (AV.agg [AV.i IntKind.i64 0, AV.i IntKind.i64 16777215, AV.i IntKind.i64 0, AV.b true]) h)
                                (onB (decide (a = 18)) (Post (AV.agg [AV.i IntKind.i64 64, AV.i IntKind.i64 64000, AV.i IntKind.i64 1024, AV.b true]) h)
                                  (Post (AV.agg [AV.i IntKind.i64 0, AV.i IntKind.i64 1073741824, AV.i IntKind.i64 0, AV.b false]) h)))))))))))))))
      (onB (decide (a = 2)) (Post (AV.agg [AV.i IntKind.i64 0, AV.i IntKind.i64 1, AV.i IntKind.i64 0, AV.b false]) h)
        (onB (decide (a = 3))
          (onB (decide (a = 3)) (Post (AV.agg [AV.i IntKind.i64 (-1), AV.i IntKind.i64 1099511627776, AV.i IntKind.i64 (-1), AV.b false]) h)
            (onB (decide (a = 5))
              (onB (decide (a = 5)) (Post (AV.agg [AV.i IntKind.i64 0, AV.i IntKind.i64 1099511627776, AV.i IntKind.i64 0, AV.b false]) h)
                (onB (decide (a = 9)) (Post (AV.agg [AV.i IntKind.i64 0, AV.i IntKind.i64 1048576, AV.i IntKind.i64 0, AV.b false]) h)
                  (onB (decide (a = 10)) (Post (AV.agg [AV.i IntKind.i64 0, AV.i IntKind.i64 1048576, AV.i IntKind.i64 1, AV.b false]) h)
                    (onB (decide (a = 15)) (Post (AV.agg [AV.i IntKind.i64 0, AV.i IntKind.i64 4, AV.i IntKind.i64 0, AV.b false]) h)
                      (onB (decide (a = 16)) (Post (AV.agg [AV.i IntKind.i64 0, AV.i IntKind.i64 3, AV.i IntKind.i64 0, AV.b false]) h)
                        (onB (decide (a = 17)) (Post (AV.agg [AV.i IntKind.i64 0, AV.i IntKind.i64 16777215, AV.i IntKind.i64 0, AV.b true]) h)
                          (onB (decide (a = 18)) (Post (AV.agg [AV.i IntKind.i64 64, AV.i IntKind.i64 64000, AV.i IntKind.i64 1024, AV.b true]) h)
                            (Post (AV.agg [AV.i IntKind.i64 0, AV.i IntKind.i64 1073741824, AV.i IntKind.i64 0, AV.b false]) h))))))))
              (onB (decide (a = 7)) (Post (AV.agg [AV.i IntKind.i64 0, AV.i IntKind.i64 1099511627776, AV.i IntKind.i64 0, AV.b false]) h)
                (onB (decide (a = 9)) (Post (AV.agg [AV.i IntKind.i64 0, AV.i IntKind.i64 1048576, AV.i IntKind.i64 0, AV.b false]) h)
                  (onB (decide (a = 10)) (Post (AV.agg [AV.i IntKind.i64 0, AV.i IntKind.i64 1048576, AV.i IntKind.i64 1, AV.b false]) h)
                    (onB (decide (a = 15)) (Post (AV.agg [AV.i IntKind.i64 0, AV.i IntKind.i64 4, AV.i IntKind.i64 0, AV.b false]) h)
                      (onB (decide (a = 16)) (Post (AV.agg [AV.i IntKind.i64 0, AV.i IntKind.i64 3, AV.i IntKind.i64 0, AV.b false]) h)
                        (onB (decide (a = 17)) (Post (AV.agg [AV.i IntKind.i64 0, AV.i IntKind.i64 16777215, AV.i IntKind.i64 0, AV.b true]) h)
                          (onB (decide (a = 18)) (Post (AV.agg [AV.i IntKind.i64 64, AV.i IntKind.i64 64000, AV.i IntKind.i64 1024, AV.b true]) h)
                            (Post (AV.agg [AV.i IntKind.i64 0, AV.i IntKind.i64 1073741824, AV.i IntKind.i64 0, AV.b false]) h))))))))))
          (onB (decide (a = 4))
            (onB (decide (a = 4)) (Post (AV.agg [AV.i IntKind.i64 (-1), AV.i IntKind.i64 1099511627776, AV.i IntKind.i64 (-1), AV.b false]) h)
              (onB (decide (a = 5))
                (onB (decide (a = 5)) (Post (AV.agg [AV.i IntKind.i64 0, AV.i IntKind.i64 1099511627776, AV.i IntKind.i64 0, AV.b false]) h)
                  (onB (decide (a = 9)) (Post (AV.agg [AV.i IntKind.i64 0, AV.i IntKind.i64 1048576, AV.i IntKind.i64 0, AV.b false]) h)
                    (onB (decide (a = 10)) (Post (AV.agg [AV.i IntKind.i64 0, AV.i IntKind.i64 1048576, AV.i IntKind.i64 1, AV.b false]) h)
                      (onB (decide (a = 15)) (Post (AV.agg [AV.i IntKind.i64 0, AV.i IntKind.i64 4, AV.i IntKind.i64 0, AV.b false]) h)
                        (onB (decide (a = 16)) (Post (AV.agg [AV.i IntKind.i64 0, AV.i IntKind.i64 3, AV.i IntKind.i64 0, AV.b false]) h)
                          (onB (decide (a = 17)) (Post (AV.agg [AV.i IntKind.i64 0, AV.i IntKind.i64 16777215, AV.i IntKind.i64 0, AV.b true]) h)
                            (onB (decide (a = 18)) (Post (AV.agg [AV.i IntKind.i64 64, AV.i IntKind.i64 64000, AV.i IntKind.i64 1024, AV.b true]) h)
                              (Post (AV.agg [AV.i IntKind.i64 0, AV.i IntKind.i64 1073741824, AV.i IntKind.i64 0, AV.b false]) h))))))))
                (onB (decide (a = 7)) (Post (AV.agg [AV.i IntKind.i64 0, AV.i IntKind.i64 1099511627776, AV.i IntKind.i64 0, AV.b false]) h)
                  (onB (decide (a = 9)) (Post (AV.agg [AV.i IntKind.i64 0, AV.i IntKind.i64 1048576, AV.i IntKind.i64 0, AV.b false]) h)
                    (onB (decide (a = 10)) (Post (AV.agg [AV.i IntKind.i64 0, AV.i IntKind.i64 1048576, AV.i IntKind.i64 1, AV.b false]) h)
                      (onB (decide (a = 15)) (Post (AV.agg [AV.i IntKind.i64 0, AV.i IntKind.i64 4, AV.i IntKind.i64 0, AV.b false]) h)
                        (onB (decide (a = 16)) (Post (AV.agg [AV.i IntKind.i64 0, AV.i IntKind.i64 3, AV.i IntKind.i64 0, AV.b false]) h)
                          (onB (decide (a = 17)) (Post (AV.agg [AV.i IntKind.i64 0, AV.i IntKind.i64 16777215, AV.i IntKind.i64 0, AV.b true]) h)
                            (onB (decide (a = 18)) (Post (AV.agg [AV.i IntKind.i64 64, AV.i IntKind.i64 64000, AV.i IntKind.i64 1024, AV.b true]) h)
                              (Post (AV.agg [AV.i IntKind.i64 0, AV.i IntKind.i64 1073741824, AV.i IntKind.i64 0, AV.b false]) h))))))))))
            (onB (decide (a = 6))
              (onB (decide (a = 6)) (Post (AV.agg [AV.i IntKind.i64 (-1), AV.i IntKind.i64 1099511627776, AV.i IntKind.i64 (-1), AV.b false]) h)
                (onB (decide (a = 5))
                  (onB (decide (a = 5)) (Post (AV.agg [AV.i IntKind.i64 0, AV.i IntKind.i64 1099511627776, AV.i IntKind.i64 0, AV.b false]) h)
                    (onB (decide (a = 9)) (Post (AV.agg [AV.i IntKind.i64 0, AV.i IntKind.i64 1048576, AV.i IntKind.i64 0, AV.b false]) h)
                      (onB (decide (a = 10)) (Post (AV.agg [AV.i IntKind.i64 0, AV.i IntKind.i64 1048576, AV.i IntKind.i64 1, AV.b false]) h)
                        (onB (decide (a = 15)) (Post (AV.agg [AV.i IntKind.i64 0, AV.i IntKind.i64 4, AV.i IntKind.i64 0, AV.b false]) h)
                          (onB (decide (a = 16)) (Post (AV.agg [AV.i IntKind.i64 0, AV.i IntKind.i64 3, AV.i IntKind.i64 0, AV.b false]) h)
                            (onB (decide (a = 17)) (Post (AV.agg [AV.i IntKind.i64 0, AV.i IntKind.i64 16777215, AV.i IntKind.i64 0, AV.b true]) h)
                              (onB (decide (a = 18)) (Post (AV.agg [AV.i IntKind.i64 64, AV.i IntKind.i64 64000, AV.i IntKind.i64 1024, AV.b true]) h)
                                (Post (AV.agg [AV.i IntKind.i64 0, AV.i IntKind.i64 1073741824, AV.i IntKind.i64 0, AV.b false]) h))))))))
                  (onB (decide (a = 7)) (Post (AV.agg [AV.i IntKind.i64 0, AV.i IntKind.i64 1099511627776, AV.i IntKind.i64 0, AV.b false]) h)
                    (onB (decide (a = 9)) (Post (AV.agg [AV.i IntKind.i64 0, AV.i IntKind.i64 1048576, AV.i IntKind.i64 0, AV.b false]) h)
                      (onB (decide (a = 10)) (Post (AV.agg [AV.i IntKind.i64 0, AV.i IntKind.i64 1048576, AV.i IntKind.i64 1, AV.b false]) h)
                        (onB (decide (a = 15)) (Post (AV.agg [AV.i IntKind.i64 0, AV.i IntKind.i64 4, AV.i IntKind.i64 0, AV.b false]) h)
                          (onB (decide (a = 16)) (Post (AV.agg [AV.i IntKind.i64 0, AV.i IntKind.i64 3, AV.i IntKind.i64 0, AV.b false]) h)
                            (onB (decide (a = 17)) (Post (AV.agg [AV.i IntKind.i64 0, AV.i IntKind.i64 16777215, AV.i IntKind.i64 0, AV.b true]) h)
                              (onB (decide (a = 18)) (Post (AV.agg [AV.i IntKind.i64 64, AV.i IntKind.i64 64000, AV.i IntKind.i64 1024, AV.b true]) h)
                                (Post (AV.agg [AV.i IntKind.i64 0, AV.i IntKind.i64 1073741824, AV.i IntKind.i64 0, AV.b false]) h))))))))))
              (onB (decide (a = 8))
                (onB (decide (a = 8)) (Post (AV.agg [AV.i IntKind.i64 (-1), AV.i IntKind.i64 1099511627776, AV.i IntKind.i64 (-1), AV.b false]) h)
                  (onB (decide (a = 5))
                    (onB (decide (a = 5)) (Post (AV.agg [AV.i IntKind.i64 0, AV.i IntKind.i64 1099511627776, AV.i IntKind.i64 0, AV.b false]) h)
                      (onB (decide (a = 9)) (Post (AV.agg [AV.i IntKind.i64 0, AV.i IntKind.i64 1048576, AV.i IntKind.i64 0, AV.b false]) h)
                        (onB (decide (a = 10)) (Post (AV.agg [AV.i IntKind.i64 0, AV.i IntKind.i64 1048576, AV.i IntKind.i64 1, AV.b false]) h)
                          (onB (decide (a = 15)) (Post (AV.agg [AV.i IntKind.i64 0, AV.i IntKind.i64 4, AV.i IntKind.i64 0, AV.b false]) h)
                            (onB (decide (a = 16)) (Post (AV.agg [AV.i IntKind.i64 0, AV.i IntKind.i64 3, AV.i IntKind.i64 0, AV.b false]) h)
                              (onB (decide (a = 17)) (Post (AV.agg [AV.i IntKind.i64 0, AV.i IntKind.i64 16777215, AV.i IntKind.i64 0, AV.b true]) h)
                                (onB (decide (a = 18)) (Post (AV.agg [AV.i IntKind.i64 64, AV.i IntKind.i64 64000, AV.i IntKind.i64 1024, AV.b true]) h)
                                  (Post (AV.agg [AV.i IntKind.i64 0, AV.i IntKind.i64 1073741824, AV.i IntKind.i64 0, AV.b false]) h))))))))
                    (onB (decide (a = 7)) (Post (AV.agg [AV.i IntKind.i64 0, AV.i IntKind.i64 1099511627776, AV.i IntKind.i64 0, AV.b false]) h)
                      (onB (decide (a = 9)) (Post (AV.agg [AV.i IntKind.i64 0, AV.i IntKind.i64 1048576, AV.i IntKind.i64 0, AV.b false]) h)
                        (onB (decide (a = 10)) (Post (AV.agg [AV.i IntKind.i64 0, AV.i IntKind.i64 1048576, AV.i IntKind.i64 1, AV.b false]) h)
                          (onB (decide (a = 15)) (Post (AV.agg [AV.i IntKind.i64 0, AV.i IntKind.i64 4, AV.i IntKind.i64 0, AV.b false]) h)
                            (onB (decide (a = 16)) (Post (AV.agg [AV.i IntKind.i64 0, AV.i IntKind.i64 3, AV.i IntKind.i64 0, AV.b false]) h)
                              (onB (decide (a = 17)) (Post (AV.agg [AV.i IntKind.i64 0, AV.i IntKind.i64 16777215, AV.i IntKind.i64 0, AV.b true]) h)
                                (onB (decide (a = 18)) (Post (AV.agg [AV.i IntKind.i64 64, AV.i IntKind.i64 64000, AV.i IntKind.i64 1024, AV.b true]) h)
                                  (Post (AV.agg [AV.i IntKind.i64 0, AV.i IntKind.i64 1073741824, AV.i IntKind.i64 0, AV.b false]) h))))))))))
                (onB (decide (a = 11)) (Post (AV.agg [AV.i IntKind.i64 (-1), AV.i IntKind.i64 1099511627776, AV.i IntKind.i64 (-1), AV.b false]) h)
                  (onB (decide (a = 5))
                    (onB (decide (a = 5)) (Post (AV.agg [AV.i IntKind.i64 0, AV.i IntKind.i64 1099511627776, AV.i IntKind.i64 0, AV.b false]) h)
                      (onB (decide (a = 9)) (Post (AV.agg [AV.i IntKind.i64 0, AV.i IntKind.i64 1048576, AV.i IntKind.i64 0, AV.b false]) h)
                        (onB (decide (a = 10)) (Post (AV.agg [AV.i IntKind.i64 0, AV.i IntKind.i64 1048576, AV.i IntKind.i64 1, AV.b false]) h)
                          (onB (decide (a = 15)) (Post (AV.agg [AV.i IntKind.i64 0, AV.i IntKind.i64 4, AV.i IntKind.i64 0, AV.b false]) h)
                            (onB (decide (a = 16)) (Post (AV.agg [AV.i IntKind.i64 0, AV.i IntKind.i64 3, AV.i IntKind.i64 0, AV.b false]) h)
                              (onB (decide (a = 17)) (Post (AV.agg [AV.i IntKind.i64 0, AV.i IntKind.i64 16777215, AV.i IntKind.i64 0, AV.b true]) h)
                                (onB (decide (a = 18)) (Post (AV.agg [AV.i IntKind.i64 64, AV.i IntKind.i64 64000, AV.i IntKind.i64 1024, AV.b true]) h)
                                  (Post (AV.agg [AV.i IntKind.i64 0, AV.i IntKind.i64 1073741824, AV.i IntKind.i64 0, AV.b false]) h))))))))
                    (onB (decide (a = 7)) (Post (AV.agg [AV.i IntKind.i64 0, AV.i IntKind.i64 1099511627776, AV.i IntKind.i64 0, AV.b false]) h)
                      (onB (decide (a = 9)) (Post (AV.agg [AV.i IntKind.i64 0, AV.i IntKind.i64 1048576, AV.i IntKind.i64 0, AV.b false]) h)
                        (onB (decide (a = 10)) (Post (AV.agg [AV.i IntKind.i64 0, AV.i IntKind.i64 1048576, AV.i IntKind.i64 1, AV.b false]) h)
                          (onB (decide (a = 15)) (Post (AV.agg [AV.i IntKind.i64 0, AV.i IntKind.i64 4, AV.i IntKind.i64 0, AV.b false]) h)
                            (onB (decide (a = 16)) (Post (AV.agg [AV.i IntKind.i64 0, AV.i IntKind.i64 3, AV.i IntKind.i64 0, AV.b false]) h)
                              (onB (decide (a = 17)) (Post (AV.agg [AV.i IntKind.i64 0, AV.i IntKind.i64 16777215, AV.i IntKind.i64 0, AV.b true]) h)
                                (onB (decide (a = 18)) (Post (AV.agg [AV.i IntKind.i64 64, AV.i IntKind.i64 64000, AV.i IntKind.i64 1024, AV.b true]) h)
                                  (Post (AV.agg [AV.i IntKind.i64 0, AV.i IntKind.i64 1073741824, AV.i IntKind.i64 0, AV.b false]) h))))))))))))))))) := by kernel_rfl
def isS (s : D.Stamp) : Bool := decide (1 ≤ s.time) && (decide (s.time ≤ 1099511627776) && (decide (0 ≤ s.rep) && decide (s.rep < 16)))
def propP (a : Int) : Bool := decide (0 ≤ a) && decide (a < 19)
def lowP : Nat → Int
  | 3 | 4 | 6 | 8 | 11 => -1
  | 18 => 64
  | _ => 0
def highP : Nat → Int
  | 0 => 2 | 1 | 2 => 1
  | 3 | 4 | 5 | 6 | 7 | 8 | 11 => 1099511627776
  | 9 | 10 => 1048576
  | 12 | 13 | 14 => 1073741824
  | 15 => 4 | 16 => 3 | 17 => 16777215 | 18 => 64000
  | _ => 0
def plainP : Nat → Int
  | 3 | 4 | 6 | 8 | 11 => -1
  | 10 => 1
  | 18 => 1024
  | _ => 0
def goesP : Nat → Bool
  | 17 | 18 => true
  | _ => false
def mayP (a b : Int) : Bool := propP a && (decide (lowP a.toNat ≤ b) && decide (b ≤ highP a.toNat))
section
variable {h : Hp} {Post : AV → Hp → Prop}
theorem c45 {s : D.Stamp} (k : Post (.b (isS s)) h) : wpC Try.prog 45 [.agg [.i .i64 s.time, .i .i64 s.rep]] Post h := by
  refine call_sound (args := [.ag [.ii .i64 s.time, .ii .i64 s.rep]]) (cuts := []) ⟨⟨trivial, trivial, trivial⟩, trivial⟩ ?_
  rw [vc45]
  intro _
  unfold isS at k
  refine onB.dec (fun e => onB.dec (fun e1 => onB.dec (fun e2 => ?_) (fun e2 => ?_)) (fun e1 => ?_)) (fun e => ?_)
  · simpa only [e, e1, e2, decide_true, Bool.true_and] using k
  · simpa only [e, e1, e2, decide_true, decide_false, Bool.true_and, Bool.false_and] using k
  · simpa only [e, e1, decide_true, decide_false, Bool.true_and, Bool.false_and] using k
  · simpa only [e, decide_false, Bool.false_and] using k
end
section
variable {h : Hp} {Post : AV → Hp → Prop}
theorem c55 {a : Int} (k : Post (.b (propP a)) h) : wpC Try.prog 55 [.i .i64 a] Post h := by
  refine call_sound (args := [.ii .i64 a]) (cuts := []) ⟨trivial, trivial⟩ ?_
  rw [vc55]
  unfold propP at k
  refine onB.dec (fun e => ?_) (fun e => ?_)
  · simpa only [e, decide_true, Bool.true_and] using k
  · simpa only [e, decide_false, Bool.false_and] using k
theorem prop_cases {a : Int} (h0 : 0 ≤ a) (h1 : a < 19) : a = 0 ∨ a = 1 ∨ a = 2 ∨ a = 3 ∨ a = 4 ∨ a = 5 ∨ a = 6 ∨ a = 7 ∨ a = 8 ∨ a = 9 ∨ a = 10 ∨ a = 11 ∨ a = 12 ∨ a = 13 ∨ a = 14 ∨ a = 15 ∨ a = 16 ∨ a = 17 ∨ a = 18 := by omega
theorem c56 {a : Int} (h0 : 0 ≤ a) (h1 : a < 19) (k : Post (.agg [.i .i64 (lowP a.toNat), .i .i64 (highP a.toNat), .i .i64 (plainP a.toNat), .b (goesP a.toNat)]) h) : wpC Try.prog 56 [.i .i64 a] Post h := by
  refine call_sound (args := [.ii .i64 a]) (cuts := []) ⟨trivial, trivial⟩ ?_
  rw [vc56]
  intro _
  rcases prop_cases h0 h1 with rfl | rfl | rfl | rfl | rfl | rfl | rfl | rfl | rfl | rfl | rfl | rfl | rfl | rfl | rfl | rfl | rfl | rfl | rfl
  all_goals repeat' first
    | exact k
    | refine onB.pos rfl ?_
    | refine onB.neg rfl ?_
theorem c52 {a b : Int} (k : Post (.b (mayP a b)) h) : wpC Try.prog 52 [.i .i64 a, .i .i64 b] Post h := by
  refine call_sound (args := [.ii .i64 a, .ii .i64 b]) (cuts := []) ⟨trivial, trivial, trivial⟩ ?_
  rw [vc52]
  refine c55 (onRet.b ?_)
  unfold mayP at k
  refine onB.mk (fun e => ?_) (fun e => ?_)
  · have hr : 0 ≤ a ∧ a < 19 := by simpa [propP] using e
    refine c56 hr.1 hr.2 ?_
    refine onB.dec (fun e1 => c56 hr.1 hr.2 ?_) (fun e1 => ?_)
    · rw [e, decide_eq_true e1, Bool.true_and, Bool.true_and] at k; exact k
    · rw [e, decide_eq_false e1] at k; exact k
  · rw [e] at k; exact k
end
theorem drop_of {α : Type} {l : List α} {k : Nat} {x : α} (h : l[k]? = some x) : l.drop k = x :: l.drop (k + 1) := by
  obtain ⟨hk, e⟩ := List.getElem?_eq_some_iff.1 h
  rw [List.drop_eq_getElem_cons hk, e]
theorem get_lt {α : Type} {l : List α} {k : Nat} (h : k < l.length) : ∃ x, l[k]? = some x := ⟨_, List.getElem?_eq_getElem h⟩
theorem take_succ' {α : Type} {l : List α} {k : Nat} {x : α} (h : l[k]? = some x) : l.take (k + 1) = l.take k ++ [x] := by
  rw [List.take_add_one, h]; rfl
section
variable {h : Hp} {a : AV}
theorem Kn.Row.all {α : Type} {d : Kn α} {h : Hp} {a : AV} {l : List α} (r : d.Row h a l) {x : α} (hx : x ∈ l) : ∃ c, d.K h x c := by
  obtain ⟨css, _, r2⟩ := r
  obtain ⟨i, hi, rfl⟩ := List.getElem_of_mem hx
  obtain ⟨c, _, k⟩ := r2.get (List.getElem?_eq_getElem hi)
  exact ⟨c, k⟩
theorem inc64 {k : Nat} (h : k < 1000000000000) : intO .add .i64 (k : Int) 1 = some ((k + 1 : Nat) : Int) := by
  rw [add64 (by omega) (by omega)]; rfl
end
/- arras/key.Is -/
theorem vc51 (a : List Nat) (h : Hp) (Post : AV → Hp → Prop) : vcCall Try.prog [] 51 [(SV.ss a)] h Post = (
  onB (decide ((1 : Int) ≤ ↑a.length))
  (onB (decide ((↑a.length : Int) ≤ 64))
    (onO (intO BinOp.sub IntKind.i64 (↑a.length) 1) fun n0 => onO ((natI n0).bind fun j => nthL a j) fun p1 => Post (AV.b !decide ((↑p1 : Int) = 0)) h)
    (Post (AV.b false) h))
  (Post (AV.b false) h)) := by kernel_rfl
/- arras/stamp.Place -/
theorem vc50 (a0 : Int) (a1 : Int) (h : Hp) (Post : AV → Hp → Prop) : vcCall Try.prog [] 50 [(SV.ag [(SV.ii .i64 a0), (SV.ii .i64 a1)])] h Post = (
  ∀ (p0 : Nat),
  wpC Try.prog 45 [AV.agg [AV.i IntKind.i64 a0, AV.i IntKind.i64 a1]]
    (fun a0_1 h0 =>
      onRet [Sh.one Kd.bool] a0_1 fun c0 =>
        onB c0 (Post (AV.b true) h0)
          (wpC Try.prog 53 []
            (fun a1_1 h1 =>
              onRet [Sh.agg [Kd.int IntKind.i64, Kd.int IntKind.i64]] a1_1 fun n0 n1 =>
                onB (decide (a0 = n0) && decide (a1 = n1)) (Post (AV.b true) h1)
                  (wpC Try.prog 54 [] (fun a2 h2 => onRet [Sh.agg [Kd.int IntKind.i64, Kd.int IntKind.i64]] a2 fun n2 n3 => Post (AV.b (decide (a0 = n2) && decide (a1 = n3))) h2) h1))
            h0))
    h) := by kernel_rfl
/- arras/stamp.Root -/
theorem vc53  (h : Hp) (Post : AV → Hp → Prop) : vcCall Try.prog [] 53 [] h Post = (
  ∀ (p0 : Nat), Post (AV.agg [AV.i IntKind.i64 0, AV.i IntKind.i64 0]) h) := by kernel_rfl
/- arras/stamp.Trash -/
theorem vc54  (h : Hp) (Post : AV → Hp → Prop) : vcCall Try.prog [] 54 [] h Post = (
  ∀ (p0 : Nat), Post (AV.agg [AV.i IntKind.i64 0, AV.i IntKind.i64 1]) h) := by kernel_rfl
/- arras/op.May -/
theorem vc37 (a0 : Int) (a1 : Int) (a2 : Int) (a3 : AV) (a4 : Int) (a5 : Int) (a6 : Int) (a7 : Int) (a8 : Int) (a9 : List Nat) (a10 : Int) (a11 : Int) (h : Hp) (Post : AV → Hp → Prop) : vcCall Try.prog [] 37 [(SV.ag [(SV.ii .i64 a0), (SV.ii .i64 a1), (SV.ii .i64 a2), (SV.vv a3), (SV.ii .i64 a4), (SV.ii .i64 a5), (SV.ii .i64 a6), (SV.ii .i64 a7), (SV.ii .i64 a8), (SV.ss a9), (SV.ii .i64 a10), (SV.ii .i64 a11)])] h Post = (
  ∀ (p0 : Nat),
  wpC Try.prog 45 [AV.agg [AV.i IntKind.i64 a0, AV.i IntKind.i64 a1]]
    (fun a0_1 h0 =>
      onRet [Sh.one Kd.bool] a0_1 fun c0 =>
        onB (!c0) (Post (AV.b false) h0)
          (wpC Try.prog 36 [a3]
            (fun a1_1 h1 =>
              onRet [Sh.one Kd.bool] a1_1 fun c1 =>
                onB (!c1) (Post (AV.b false) h1)
                  (onO (lenV a3) fun p1 =>
                    onB (decide ((↑p1 : Int) ≤ a1)) (Post (AV.b false) h1)
                      (wpC Try.prog 45 [AV.agg [AV.i IntKind.i64 a5, AV.i IntKind.i64 a6]]
                        (fun a2_1 h2 =>
                          onRet [Sh.one Kd.bool] a2_1 fun c2 =>
                            onB (!c2) (Post (AV.b false) h2)
                              (onO (idxV a3 a1 1) fun r0 =>
                                onO (rdH h2 r0.fst r0.snd 1) fun l0 =>
                                  onL [Kd.int IntKind.i64] l0 fun n0 =>
                                    onO (intO BinOp.add IntKind.i64 n0 1) fun n1 =>
                                      onB (decide (a2 = n1))
                                        (onB (decide (a2 ≤ 1099511627776))
                                          (wpC Try.prog 46
                                            [AV.agg
                                                [AV.i IntKind.i64 a0, AV.i IntKind.i64 a1, AV.i IntKind.i64 a2, a3, AV.i IntKind.i64 a4, AV.i IntKind.i64 a5, AV.i IntKind.i64 a6, AV.i IntKind.i64 a7,
                                                  AV.i IntKind.i64 a8, AV.s a9, AV.i IntKind.i64 a10, AV.i IntKind.i64 a11]]
                                            (fun a3 h3 => onRet [Sh.one Kd.bool] a3 fun c3 => Post (AV.b c3) h3) h2)
                                          (Post (AV.b false) h2))
                                        (Post (AV.b false) h2)))
                        h1)))
            h0))
    h) := by kernel_rfl
/- arras/op.kind -/
theorem vc46 (a0 : Int) (a1 : Int) (a2 : Int) (a3 : AV) (a4 : Int) (a5 : Int) (a6 : Int) (a7 : Int) (a8 : Int) (a9 : List Nat) (a10 : Int) (a11 : Int) (h : Hp) (Post : AV → Hp → Prop) : vcCall Try.prog [] 46 [(SV.ag [(SV.ii .i64 a0), (SV.ii .i64 a1), (SV.ii .i64 a2), (SV.vv a3), (SV.ii .i64 a4), (SV.ii .i64 a5), (SV.ii .i64 a6), (SV.ii .i64 a7), (SV.ii .i64 a8), (SV.ss a9), (SV.ii .i64 a10), (SV.ii .i64 a11)])] h Post = (
  ∀ (p0 : Nat),
  onB (decide (a4 = 1))
    (wpC Try.prog 50 [AV.agg [AV.i IntKind.i64 a7, AV.i IntKind.i64 a8]]
      (fun a0 h0 =>
        onRet [Sh.one Kd.bool] a0 fun c0 =>
          onB c0
            (wpC Try.prog 51 [AV.s a9]
              (fun a1 h1 => onRet [Sh.one Kd.bool] a1 fun c1 => onB c1 (onB (decide (a10 = 0)) (Post (AV.b (decide (a11 = 0))) h1) (Post (AV.b false) h1)) (Post (AV.b false) h1)) h0)
            (Post (AV.b false) h0))
      h)
    (onB (decide (a4 = 2))
      (wpC Try.prog 52 [AV.i IntKind.i64 a10, AV.i IntKind.i64 a11]
        (fun a2 h2 =>
          onRet [Sh.one Kd.bool] a2 fun c2 =>
            onB c2
              (wpC Try.prog 53 []
                (fun a3 h3 =>
                  onRet [Sh.agg [Kd.int IntKind.i64, Kd.int IntKind.i64]] a3 fun n0 n1 =>
                    onB (decide (a7 = n0) && decide (a8 = n1)) (Post (AV.b (decide (a9 = bytesL { data := #[] }))) h3) (Post (AV.b false) h3))
                h2)
              (Post (AV.b false) h2))
        h)
      (Post (AV.b false) h))) := by kernel_rfl
/- arras/have.Is -/
theorem vc36 (a : AV) (h : Hp) (Post : AV → Hp → Prop) : vcCall Try.prog [0] 36 [(SV.vv a)] h Post = (
  ∃ I0 : Nat → Int → Bool → Hp → Prop,
  (∃ p0, I0 p0 0 false h) ∧
    ∀ (p1 : Nat) (h0 : Hp) (n0 : Int) (c0 : Bool),
      I0 p1 n0 c0 h0 →
        Dup
          (onO (lenV a) fun p2 =>
            onB (decide (n0 = ↑p2)) (onB (decide (1 ≤ n0)) (Post (AV.b (decide (n0 ≤ 16))) h0) (Post (AV.b false) h0))
              (onO (idxV a n0 1) fun r0 =>
                onO (rdH h0 r0.fst r0.snd 1) fun l0 =>
                  onL [Kd.int IntKind.i64] l0 fun n1 =>
                    onB (decide (0 ≤ n1))
                      (onO (idxV a n0 1) fun r1 =>
                        onO (rdH h0 r1.fst r1.snd 1) fun l1 =>
                          onL [Kd.int IntKind.i64] l1 fun n2 =>
                            onB (decide (n2 ≤ 1099511627776)) (onO (intO BinOp.add IntKind.i64 n0 1) fun n3 => ∃ p3, ltN p3 p1 ∧ I0 p3 n3 c0 h0) (Post (AV.b false) h0))
                      (Post (AV.b false) h0)))) := by kernel_rfl
/- slices.Clone[[]int,int] -/
theorem vc29 (a : AV) (h : Hp) (Post : AV → Hp → Prop) : vcCall Try.prog [] 29 [(SV.vv a)] h Post = (
  onO (nilSl a) fun c0 =>
  onB c0 (Post AV.ns h)
    (∀ (p0 : Nat),
      h.g p0 = none →
        h.lo.le p0 →
          onO (srcV 1 a) fun r0 =>
            onC (((4 * r0.fst + 4000) * 8).ble (OfNat.ofNat 17179869184)) (wpE (Eff.app (AV.sl p0 0 0 0 true 1) r0.fst r0.snd 1) (fun x0 h0 => onO x0 fun a0 => Post a0 h0) (h.put p0 [])))) := by kernel_rfl
/- arras/op.Own -/
theorem vc38 (a0 : Int) (a1 : Int) (a2 : Int) (a3 : AV) (a4 : Int) (a5 : Int) (a6 : Int) (a7 : Int) (a8 : Int) (a9 : List Nat) (a10 : Int) (a11 : Int) (h : Hp) (Post : AV → Hp → Prop) : vcCall Try.prog [] 38 [(SV.ag [(SV.ii .i64 a0), (SV.ii .i64 a1), (SV.ii .i64 a2), (SV.vv a3), (SV.ii .i64 a4), (SV.ii .i64 a5), (SV.ii .i64 a6), (SV.ii .i64 a7), (SV.ii .i64 a8), (SV.ss a9), (SV.ii .i64 a10), (SV.ii .i64 a11)])] h Post = (
  ∀ (p0 p1 : Nat),
  wpC Try.prog 29 [a3]
    (fun a0_1 h0 =>
      onRet [Sh.one Kd.ref] a0_1 fun a1_1 =>
        Post
          (AV.agg
            [AV.i IntKind.i64 a0, AV.i IntKind.i64 a1, AV.i IntKind.i64 a2, a1_1, AV.i IntKind.i64 a4, AV.i IntKind.i64 a5, AV.i IntKind.i64 a6, AV.i IntKind.i64 a7, AV.i IntKind.i64 a8, AV.s a9,
              AV.i IntKind.i64 a10, AV.i IntKind.i64 a11])
          h0)
    h) := by kernel_rfl
/-! ### plain -/
def numV (x : Int) : Bool := decide (0 ≤ x) && decide (x ≤ 1099511627776)
def vecV (l : List Int) : Bool := l.all numV && (decide (1 ≤ l.length) && decide (l.length ≤ 16))
abbrev IR := Kn.int.Row
theorem int_cells {h : Hp} {x : Int} : ∀ c, Kn.int.K h x c → c = [.i .i64 x] := fun c k => k.1
theorem int_flat : Kn.int.Flat := fun h h' x c k => k
section
variable {h : Hp} {a b : AV} {l la lb : List Int} {Post : AV → Hp → Prop}
theorem int0 (r : IR h a l) {k : Nat} {x : Int} (e : l[k]? = some x) {K : Int → Prop} (q : K x) : onO (idxV a (k : Int) 1) fun r0 => onO (rdH h r0.1 r0.2 1) fun l0 => onL [Kd.int .i64] l0 K :=
  r.whole (Int.natCast_nonneg k) (by simpa using e) int_cells rfl (onL.i1 q)
theorem c36 (r : IR h a l) (hb : l.length < 1000000) (k : Post (.b (vecV l)) h) : wpC Try.prog 36 [a] Post h := by
  refine call_sound (args := [.vv a]) (cuts := [0]) ⟨r.sc, trivial⟩ ?_
  rw [vc36]
  refine ⟨fun m i _ h' => h' = h ∧ ∃ k : Nat, i = k ∧ k ≤ l.length ∧ m = l.length - k ∧ l.all numV = (l.drop k).all numV, ⟨l.length, rfl, 0, rfl, by omega, rfl, rfl⟩, ?_⟩
  rintro m h0 _ _ ⟨rfl, j, rfl, hj, rfl, hp⟩
  refine Dup.mk (onO.mk r.len (onB.dec (fun e => ?_) (fun e => ?_)))
  · have : j = l.length := by omega
    subst this
    rw [List.drop_length] at hp
    unfold vecV at k
    rw [hp, List.all_nil, Bool.true_and] at k
    refine onB.dec (fun e1 => ?_) (fun e1 => ?_)
    · have e2 : decide ((l.length : Int) ≤ 16) = decide (l.length ≤ 16) := by rw [decide_eq_decide]; omega
      rw [e2]
      rw [decide_eq_true (show 1 ≤ l.length by omega), Bool.true_and] at k; exact k
    · rw [decide_eq_false (show ¬ 1 ≤ l.length by omega), Bool.false_and] at k; exact k
  · obtain ⟨x, hx⟩ := get_lt (l := l) (k := j) (by omega)
    rw [drop_of hx, List.all_cons] at hp
    have bad : numV x = false → Post (.b false) h0 := fun e1 => by
      rw [e1, Bool.false_and] at hp
      unfold vecV at k
      rw [hp, Bool.false_and] at k; exact k
    refine int0 r hx (onB.dec (fun e1 => int0 r hx (onB.dec (fun e2 => ?_) (fun e2 => bad (by simp [numV, e2])))) (fun e1 => bad (by simp [numV, e1])))
    have e1 : numV x = true := by simp [numV, e1, e2]
    rw [e1, Bool.true_and] at hp
    exact onO.mk (inc64 (by omega)) ⟨_, by show l.length - (j + 1) < l.length - j; omega, rfl, j + 1, rfl, by omega, rfl, hp⟩
end
/-! ### keys, places -/
def keyV (l : List Nat) : Bool := decide (1 ≤ l.length) && (decide (l.length ≤ 64) && !decide (l.getLast? = some 0))
section
variable {h : Hp} {Post : AV → Hp → Prop}
theorem nthL_get : ∀ {α : Type} (l : List α) (i : Nat), nthL l i = l[i]?
  | _, [], _ => rfl
  | _, _ :: _, 0 => rfl
  | _, _ :: l, i + 1 => (nthL_get l i).trans (by simp)
theorem key_body {l : List Nat} (k : Post (.b (keyV l)) h) : onB (decide ((1 : Int) ≤ ↑l.length))
    (onB (decide ((↑l.length : Int) ≤ 64))
      (onO (intO BinOp.sub IntKind.i64 (↑l.length) 1) fun n0 => onO ((natI n0).bind fun j => nthL l j) fun p1 => Post (AV.b !decide ((↑p1 : Int) = 0)) h)
      (Post (AV.b false) h))
    (Post (AV.b false) h) := by
  unfold keyV at k
  refine onB.dec (fun e => onB.dec (fun e1 => ?_) (fun e1 => ?_)) (fun e => ?_)
  · rw [decide_eq_true (show 1 ≤ l.length by omega), decide_eq_true (show l.length ≤ 64 by omega), Bool.true_and, Bool.true_and] at k
    have hs : intO .sub .i64 (l.length : Int) 1 = some ((l.length - 1 : Nat) : Int) := by rw [sub64 (by omega) (by omega)]; congr 1; omega
    obtain ⟨x, hx⟩ := get_lt (l := l) (k := l.length - 1) (by omega)
    refine onO.mk hs (onO.mk (a := x) (by show nthL l (l.length - 1) = some x; rw [nthL_get]; exact hx) ?_)
    have : l.getLast? = some x := by rw [List.getLast?_eq_getElem?]; exact hx
    rw [this] at k
    have e3 : decide ((x : Int) = 0) = decide (some x = some 0) := by rw [decide_eq_decide, Option.some.injEq]; omega
    rw [e3]; exact k
  · rw [decide_eq_false (show ¬ l.length ≤ 64 by omega), Bool.false_and, Bool.and_false] at k; exact k
  · rw [decide_eq_false (show ¬ 1 ≤ l.length by omega), Bool.false_and] at k; exact k
theorem c51 {l : List Nat} (k : Post (.b (keyV l)) h) : wpC Try.prog 51 [.s l] Post h := by
  refine call_sound (args := [.ss l]) (cuts := []) ⟨trivial, trivial⟩ ?_
  rw [vc51]
  exact key_body k
end
/-! ### plain -/
def placeV (s : D.Stamp) : Bool := isS s || (decide (s = ⟨0, 0⟩) || decide (s = ⟨0, 1⟩))
def kindV (o : D.Op) : Bool :=
  if o.kind = 1 then placeV o.parent && (keyV o.key && (decide (o.prop = 0) && decide (o.value = 0)))
  else if o.kind = 2 then mayP o.prop o.value && (decide (o.parent = ⟨0, 0⟩) && decide (o.key = [])) else false
def seqV (o : D.Op) : Bool := match o.deps[o.stamp.rep.toNat]? with
  | some x => decide (o.seq = x + 1) && decide (o.seq ≤ 1099511627776)
  | none => false
def mayO (o : D.Op) : Bool := isS o.stamp && (vecV o.deps && (isS o.node && (seqV o && kindV o)))
def opC (o : D.Op) (a : AV) : List AV := [.i .i64 o.stamp.time, .i .i64 o.stamp.rep, .i .i64 o.seq, a, .i .i64 o.kind, .i .i64 o.node.time, .i .i64 o.node.rep, .i .i64 o.parent.time, .i .i64 o.parent.rep, .s o.key, .i .i64 o.prop, .i .i64 o.value]
def opS (o : D.Op) (a : AV) : SV := .ag [.ii .i64 o.stamp.time, .ii .i64 o.stamp.rep, .ii .i64 o.seq, .vv a, .ii .i64 o.kind, .ii .i64 o.node.time, .ii .i64 o.node.rep, .ii .i64 o.parent.time, .ii .i64 o.parent.rep, .ss o.key, .ii .i64 o.prop, .ii .i64 o.value]
theorem opS_good {o : D.Op} {a : AV} (ha : a.sc = true) : (opS o a).Good (fun _ => 0) 0 := ⟨trivial, trivial, trivial, ha, trivial, trivial, trivial, trivial, trivial, trivial, trivial, trivial, trivial⟩
theorem onRet.a2 {n m : Int} {K : Int → Int → Prop} (k : K n m) : onRet [Sh.agg [Kd.int .i64, Kd.int .i64]] (.agg [.i .i64 n, .i .i64 m]) K := k
theorem stamp_eq {a : D.Stamp} {x y : Int} : (decide (a.time = x) && decide (a.rep = y)) = decide (a = ⟨x, y⟩) := by
  cases a with
  | mk t r =>
    rw [← Bool.decide_and, decide_eq_decide]
    simp
theorem vecV_at {l : List Int} (h : vecV l = true) {k : Nat} {x : Int} (e : l[k]? = some x) : 0 ≤ x ∧ x ≤ 1099511627776 := by
  unfold vecV at h
  simp only [Bool.and_eq_true, List.all_eq_true] at h
  have := h.1 x (List.mem_of_getElem? e)
  simpa [numV] using this
theorem isS_rep {s : D.Stamp} (h : isS s = true) : 0 ≤ s.rep ∧ s.rep < 16 := by
  unfold isS at h
  simp only [Bool.and_eq_true, decide_eq_true_eq] at h
  exact h.2.2
section
variable {h : Hp} {Post : AV → Hp → Prop}
theorem c53 (k : Post (.agg [.i .i64 0, .i .i64 0]) h) : wpC Try.prog 53 [] Post h := by
  refine call_sound (args := []) (cuts := []) trivial ?_
  rw [vc53]; exact fun _ => k
theorem c54 (k : Post (.agg [.i .i64 0, .i .i64 1]) h) : wpC Try.prog 54 [] Post h := by
  refine call_sound (args := []) (cuts := []) trivial ?_
  rw [vc54]; exact fun _ => k
theorem c50 {s : D.Stamp} (k : Post (.b (placeV s)) h) : wpC Try.prog 50 [.agg [.i .i64 s.time, .i .i64 s.rep]] Post h := by
  refine call_sound (args := [.ag [.ii .i64 s.time, .ii .i64 s.rep]]) (cuts := []) ⟨⟨trivial, trivial, trivial⟩, trivial⟩ ?_
  rw [vc50]
  intro _
  unfold placeV at k
  refine c45 (onRet.b (onB.mk (fun e => ?_) (fun e => c53 (onRet.a2 ?_))))
  · rw [e] at k; exact k
  · rw [e, Bool.false_or] at k
    rw [stamp_eq]
    refine onB.mk (fun e1 => ?_) (fun e1 => c54 (onRet.a2 ?_))
    · rw [e1] at k; exact k
    · rw [e1, Bool.false_or] at k
      rw [stamp_eq]; exact k
theorem c46 {o : D.Op} {a : AV} (ha : a.sc = true) (k : Post (.b (kindV o)) h) : wpC Try.prog 46 [.agg (opC o a)] Post h := by
  refine call_sound (args := [opS o a]) (cuts := []) ⟨opS_good ha, trivial⟩ ?_
  unfold opS
  rw [vc46]
  intro _
  unfold kindV at k
  refine onB.dec (fun e => c50 (onRet.b (onB.mk (fun e1 => c51 (onRet.b (onB.mk (fun e2 => onB.dec (fun e3 => ?_) (fun e3 => ?_)) (fun e2 => ?_)))) (fun e1 => ?_)))) (fun e => onB.dec (fun e0 => c52 (onRet.b (onB.mk (fun e1 => c53 (onRet.a2 ?_)) (fun e1 => ?_)))) (fun e0 => ?_))
  · rw [if_pos e, e1, e2, decide_eq_true e3] at k; exact k
  · rw [if_pos e, e1, e2, decide_eq_false e3] at k; exact k
  · rw [if_pos e, e1, e2] at k; exact k
  · rw [if_pos e, e1] at k; exact k
  · rw [if_neg e, if_pos e0, e1, Bool.true_and] at k
    rw [stamp_eq]
    refine onB.mk (fun e2 => ?_) (fun e2 => ?_)
    · rw [e2, Bool.true_and] at k; exact k
    · rw [e2, Bool.false_and] at k; exact k
  · rw [if_neg e, if_pos e0, e1] at k; exact k
  · rw [if_neg e, if_neg e0] at k; exact k
theorem c37 {o : D.Op} {a : AV} (r : IR h a o.deps) (hb : o.deps.length < 1000000) (k : Post (.b (mayO o)) h) : wpC Try.prog 37 [.agg (opC o a)] Post h := by
  refine call_sound (args := [opS o a]) (cuts := []) ⟨opS_good r.sc, trivial⟩ ?_
  unfold opS
  rw [vc37]
  intro _
  unfold mayO at k
  refine c45 (onRet.b (onB.not (fun e1 => ?_) (fun e1 => c36 r hb (onRet.b (onB.not (fun e2 => ?_) (fun e2 => onO.mk r.len (onB.dec (fun e3 => ?_) (fun e3 => c45 (onRet.b (onB.not (fun e4 => ?_) (fun e4 => ?_)))))))))))
  · rw [e1] at k; exact k
  · rw [e1, e2] at k; exact k
  · have hs : seqV o = false := by
      unfold seqV
      rw [List.getElem?_eq_none (by have := isS_rep e1; omega)]
    rw [hs, Bool.false_and, Bool.and_false, Bool.and_false, Bool.and_false] at k; exact k
  · rw [e1, e2, e4] at k; exact k
  · obtain ⟨g0, g1⟩ := isS_rep e1
    obtain ⟨j, hj⟩ := Int.eq_ofNat_of_zero_le g0
    obtain ⟨x, hx⟩ := get_lt (l := o.deps) (k := j) (by omega)
    have hx2 := vecV_at e2 hx
    have hjt : o.stamp.rep.toNat = j := by omega
    rw [e1, e2, e4, Bool.true_and, Bool.true_and, Bool.true_and] at k
    unfold seqV at k
    rw [hjt, hx] at k
    rw [hj]
    refine int0 r hx (onO.mk (add64 (by omega) (by omega)) (onB.dec (fun e5 => onB.dec (fun e6 => ?_) (fun e6 => ?_)) (fun e5 => ?_)))
    · rw [← hj]
      refine c46 (o := o) r.sc (onRet.b ?_)
      simpa only [decide_eq_true e5, decide_eq_true e6, Bool.true_and] using k
    · simpa only [decide_eq_true e5, decide_eq_false e6, Bool.true_and, Bool.false_and] using k
    · simpa only [decide_eq_false e5, Bool.false_and] using k
end
/-! ### Clone -/
theorem Raw.src {h : Hp} {a : AV} {sz : Nat} {css : List (List AV)} (r : Raw h a sz css) : ∃ s, srcV sz a = some (css.length, s) ∧ srcH h s = some css.flatten := by
  obtain ⟨hc, r⟩ := r
  cases a <;> first | exact r.elim | skip
  · rename_i b o len lo ex z
    obtain ⟨r1, r2, r3, r4⟩ := r
    subst r1; subst r2
    refine ⟨_, by show cond (Nat.beq z z) _ _ = _; rw [Nat.beq_refl, cond_true], ?_⟩
    cases hl : Nat.beq css.length 0 with
    | true =>
      have : css = [] := List.length_eq_zero_iff.1 (beq_eq' hl)
      subst this; rfl
    | false =>
      rcases r4 with r4 | r4
      · subst r4; cases hl
      · exact r4
  all_goals
    have r : css = [] := r
    subst r
    exact ⟨.lit [], rfl, rfl⟩
theorem Raw.nil {h : Hp} {a : AV} {sz : Nat} {css : List (List AV)} (r : Raw h a sz css) : ∃ c, nilSl a = some c ∧ (c = true → css = []) := by
  obtain ⟨hc, r⟩ := r
  cases a <;> first | exact r.elim | skip
  · exact ⟨false, rfl, fun e => by cases e⟩
  · exact ⟨true, rfl, fun _ => r⟩
  · exact ⟨false, rfl, fun e => by cases e⟩
/-- a copy by append to an empty row of its own -/
theorem clone_body {α : Type} {d : Kn α} {h : Hp} {a : AV} {l : List α} {sz nb : Nat} {Post : AV → Hp → Prop} (r : d.Row h a l) (hsz : d.sz = sz) (fl : d.Flat) (hb : l.length < 1000000) (hm : Nat.ble ((4 * l.length + 4000) * nb) 17179869184 = true) (k : ∀ r' h', d.Own h h' r' l → Post r' h') :
    onO (nilSl a) fun c0 => onB c0 (Post AV.ns h) (∀ (p0 : Nat), h.g p0 = none → h.lo.le p0 → onO (srcV sz a) fun r0 =>
      onC (((4 * r0.fst + 4000) * nb).ble (OfNat.ofNat 17179869184)) (wpE (Eff.app (AV.sl p0 0 0 0 true sz) r0.fst r0.snd sz) (fun x0 h0 => onO x0 fun a0 => Post a0 h0) (h.put p0 []))) := by
  subst hsz
  obtain ⟨css, r1, r2⟩ := r
  obtain ⟨c, e1, e2⟩ := r1.nil
  have hl := r2.length
  refine onO.mk e1 (onB.mk (fun e => ?_) (fun _ p hp hlo => ?_))
  · have := e2 e
    subst this
    have : l = [] := List.length_eq_zero_iff.1 hl
    subst this
    exact k _ _ (Kn.Own.nil d h)
  · obtain ⟨s, s1, s2⟩ := r1.src
    refine onO.mk s1 (onC.mk (by rw [← hl]; exact hm) ?_)
    have f := Fresh.put (Hp.le_refl h) rfl hp hlo (css := []) (sz := d.sz) (len := 0) true (fun c hc => by cases hc) rfl (cs := []) rfl
    have ow : d.Own h (h.put p []) (.sl p 0 0 0 true d.sz) [] := ⟨h, [], Hp.le_refl h, rfl, f, .nil⟩
    have s3 : srcH (h.put p []) s = some css.flatten := by
      cases s with
      | lit l => exact s2
      | mem b o n => exact rdH_le (Hp.le_put hp) s2
    exact ow.app rfl fl (r2.mono fun _ _ q => fl _ _ _ _ q) s3 hl (by simp; omega) fun r' h' o' => onO.mk rfl (k _ _ (by simpa using o'))
section
variable {h : Hp} {a : AV} {l : List Int} {Post : AV → Hp → Prop}
theorem c29 (r : IR h a l) (hb : l.length < 1000000) (k : ∀ r' h', Kn.int.Own h h' r' l → Post r' h') : wpC Try.prog 29 [a] Post h := by
  refine call_sound (args := [.vv a]) (cuts := []) ⟨r.sc, trivial⟩ ?_
  rw [vc29]
  exact clone_body r rfl int_flat hb (Nat.ble_eq_true_of_le (by omega)) k
theorem c38 {o : D.Op} (r : IR h a o.deps) (hb : o.deps.length < 1000000) (k : ∀ r' h', Kn.int.Own h h' r' o.deps → Post (.agg (opC o r')) h') : wpC Try.prog 38 [.agg (opC o a)] Post h := by
  refine call_sound (args := [opS o a]) (cuts := []) ⟨opS_good r.sc, trivial⟩ ?_
  unfold opS
  rw [vc38]
  intro _ _
  exact c29 r hb fun r' h' ow => onRet.r ow.sc (k _ _ ow)
end
abbrev OpRow := D.kOp.Row
/-- deps that are not too many -/
def opOk (o : D.Op) : Prop := o.deps.length < 1000000
section
variable {h : Hp} {a b : AV} {l la lb : List D.Op} {Post : AV → Hp → Prop}
theorem op_cells {o : D.Op} {c : List AV} (k : D.kOp.K h o c) : ∃ d, c = opC o d ∧ IR h d o.deps := by
  obtain ⟨d, e, f⟩ := D.kOp_open k
  exact ⟨d, e, f.2.2.2.1.1⟩
theorem onL.op {o : D.Op} {d : AV} (hd : d.sc = true) {K : Int → Int → Int → AV → Int → Int → Int → Int → Int → List Nat → Int → Int → Prop} (q : K o.stamp.time o.stamp.rep o.seq d o.kind o.node.time o.node.rep o.parent.time o.parent.rep o.key o.prop o.value) :
    onL [Kd.int .i64, Kd.int .i64, Kd.int .i64, Kd.ref, Kd.int .i64, Kd.int .i64, Kd.int .i64, Kd.int .i64, Kd.int .i64, Kd.str, Kd.int .i64, Kd.int .i64] (opC o d) K :=
  onRef.mk (K := fun d => K o.stamp.time o.stamp.rep o.seq d o.kind o.node.time o.node.rep o.parent.time o.parent.rep o.key o.prop o.value) hd q
theorem onRet.op {o : D.Op} {d : AV} (hd : d.sc = true) {K : Int → Int → Int → AV → Int → Int → Int → Int → Int → List Nat → Int → Int → Prop} (q : K o.stamp.time o.stamp.rep o.seq d o.kind o.node.time o.node.rep o.parent.time o.parent.rep o.key o.prop o.value) :
    onRet [Sh.agg [Kd.int .i64, Kd.int .i64, Kd.int .i64, Kd.ref, Kd.int .i64, Kd.int .i64, Kd.int .i64, Kd.int .i64, Kd.int .i64, Kd.str, Kd.int .i64, Kd.int .i64]] (.agg (opC o d)) K := by
  unfold onRet onS
  have e : flatV [Sh.agg [Kd.int .i64, Kd.int .i64, Kd.int .i64, Kd.ref, Kd.int .i64, Kd.int .i64, Kd.int .i64, Kd.int .i64, Kd.int .i64, Kd.str, Kd.int .i64, Kd.int .i64]] [.agg (opC o d)] = some (opC o d) := rfl
  rw [e]
  exact onL.op hd q
theorem opW {h1 : Hp} (r : OpRow h a l) (le : h.le h1) {k : Nat} {o : D.Op} (e : l[k]? = some o) {K : Int → Int → Int → AV → Int → Int → Int → Int → Int → List Nat → Int → Int → Prop}
    (q : ∀ d, IR h d o.deps → D.kOp.K h o (opC o d) → K o.stamp.time o.stamp.rep o.seq d o.kind o.node.time o.node.rep o.parent.time o.parent.rep o.key o.prop o.value) :
    onO (idxV a (k : Int) 12) fun r0 => onO (rdH h1 r0.1 r0.2 12) fun l0 => onL [Kd.int .i64, Kd.int .i64, Kd.int .i64, Kd.ref, Kd.int .i64, Kd.int .i64, Kd.int .i64, Kd.int .i64, Kd.int .i64, Kd.str, Kd.int .i64, Kd.int .i64] l0 K := by
  obtain ⟨b, p, c, e1, e2, e3⟩ := r.idx (i := (k : Int)) (Int.natCast_nonneg k) (by simpa using e)
  obtain ⟨d, rfl, e4⟩ := op_cells e3
  exact onO.mk e1 (onO.mk (rdH_le le e2) (onL.op e4.sc (q d e4 e3)))
theorem in64_of {n : Int} (k : In64 n) : Kn.int.K h n [.i .i64 n] := ⟨rfl, k⟩
/-- an operation's cells, with another row of the same deps -/
theorem op_again {o : D.Op} {d d' : AV} (k : D.kOp.K h o (opC o d)) {h' : Hp} (r : IR h' d' o.deps) : D.kOp.K h' o (opC o d') := by
  obtain ⟨d0, e, f1, f2, f3, f4, f5, f6, f7, f8, f9, f10, f11, f12⟩ := D.kOp_open k
  refine ⟨_, _, rfl, ⟨_, _, rfl, in64_of f1, in64_of f2⟩, _, _, rfl, in64_of f3, _, _, rfl, ⟨d', rfl, r, f4.2⟩, _, _, rfl, in64_of f5, _, _, rfl, ⟨_, _, rfl, in64_of f6, in64_of f7⟩, _, _, rfl, ⟨_, _, rfl, in64_of f8, in64_of f9⟩, _, _, rfl, ⟨rfl, f10⟩, _, _, rfl, in64_of f11, in64_of f12⟩
end
/- arras/sync.Lacking -/
theorem vc7 (a : AV) (b : AV) (h : Hp) (Post : AV → Hp → Prop) : vcCall Try.prog [] 7 [(SV.vv a), (SV.vv b)] h Post = (
  wpC Try.prog 24 [a, b]
  (fun a0 h0 =>
    onRet [Sh.one Kd.bool] a0 fun c0 =>
      onB (!c0) (Post (AV.tup [AV.ns, AV.i IntKind.i64 1]) h0) (wpC Try.prog 25 [a, b] (fun a1 h1 => onRet [Sh.one Kd.ref] a1 fun a2 => Post (AV.tup [a2, AV.i IntKind.i64 0]) h1) h0))
  h) := by kernel_rfl
/- arras/sync.may -/
theorem vc24 (a : AV) (b : AV) (h : Hp) (Post : AV → Hp → Prop) : vcCall Try.prog [0] 24 [(SV.vv a), (SV.vv b)] h Post = (
  ∃ I0 : Nat → Int → Bool → Hp → Prop,
  (∃ p0, I0 p0 0 false h) ∧
    ∀ (p1 : Nat) (h0 : Hp) (n0 : Int) (c0 : Bool),
      I0 p1 n0 c0 h0 →
        Dup
          (onO (lenV a) fun p2 =>
            onB (decide (n0 = ↑p2)) (wpC Try.prog 36 [b] (fun a0 h1 => onRet [Sh.one Kd.bool] a0 fun c1 => Post (AV.b c1) h1) h0)
              (onO (idxV a n0 12) fun r0 =>
                onO (rdH h0 r0.fst r0.snd 12) fun l0 =>
                  onL
                    [Kd.int IntKind.i64, Kd.int IntKind.i64, Kd.int IntKind.i64, Kd.ref, Kd.int IntKind.i64, Kd.int IntKind.i64, Kd.int IntKind.i64, Kd.int IntKind.i64, Kd.int IntKind.i64, Kd.str,
                      Kd.int IntKind.i64, Kd.int IntKind.i64]
                    l0 fun n1 n2 n3 a1 n4 n5 n6 n7 n8 l1 n9 n10 =>
                    wpC Try.prog 37
                      [AV.agg
                          [AV.i IntKind.i64 n1, AV.i IntKind.i64 n2, AV.i IntKind.i64 n3, a1, AV.i IntKind.i64 n4, AV.i IntKind.i64 n5, AV.i IntKind.i64 n6, AV.i IntKind.i64 n7, AV.i IntKind.i64 n8,
                            AV.s l1, AV.i IntKind.i64 n9, AV.i IntKind.i64 n10]]
                      (fun a2 h2 =>
                        onRet [Sh.one Kd.bool] a2 fun c2 =>
                          onB c2
                            (onO (idxV a n0 12) fun r1 =>
                              onO (rdH h2 r1.fst (r1.snd + 3) 1) fun l2 =>
                                onL [Kd.ref] l2 fun a3 =>
                                  onO (lenV a3) fun p3 =>
                                    onO (lenV b) fun p4 => onB (decide ((↑p3 : Int) = ↑p4)) (onO (intO BinOp.add IntKind.i64 n0 1) fun n11 => ∃ p5, ltN p5 p1 ∧ I0 p5 n11 c0 h2) (Post (AV.b false) h2))
                            (Post (AV.b false) h2))
                      h0))) := by kernel_rfl
/- arras/sync.Behind -/
theorem vc25 (a : AV) (b : AV) (h : Hp) (Post : AV → Hp → Prop) : vcCall Try.prog [] 25 [(SV.vv a), (SV.vv b)] h Post = (
  onO (lenV a) fun p0 =>
  ∃ I0 : Nat → AV → Int → Hp → Prop,
    (∃ p1, I0 p1 AV.ns 0 h) ∧
      ∀ (p2 : Nat) (h0 : Hp) (a0 : AV),
        a0.sc = true →
          ∀ (n0 : Int),
            I0 p2 a0 n0 h0 →
              onB (decide (n0 < ↑p0))
                (onO (idxV a n0 12) fun r0 =>
                  onO (rdH h0 r0.fst r0.snd 12) fun l0 =>
                    onL
                      [Kd.int IntKind.i64, Kd.int IntKind.i64, Kd.int IntKind.i64, Kd.ref, Kd.int IntKind.i64, Kd.int IntKind.i64, Kd.int IntKind.i64, Kd.int IntKind.i64, Kd.int IntKind.i64, Kd.str,
                        Kd.int IntKind.i64, Kd.int IntKind.i64]
                      l0 fun n1 n2 n3 a1 n4 n5 n6 n7 n8 l1 n9 n10 =>
                      ∀ (p3 : Nat),
                        onO (idxV b n2 1) fun r1 =>
                          onO (rdH h0 r1.fst r1.snd 1) fun l2 =>
                            onL [Kd.int IntKind.i64] l2 fun n11 =>
                              onB (decide (n11 < n3))
                                (onO (lenV a0) fun p4 =>
                                  onB (decide ((↑p4 : Int) < 8))
                                    (wpC Try.prog 38
                                      [AV.agg
                                          [AV.i IntKind.i64 n1, AV.i IntKind.i64 n2, AV.i IntKind.i64 n3, a1, AV.i IntKind.i64 n4, AV.i IntKind.i64 n5, AV.i IntKind.i64 n6, AV.i IntKind.i64 n7,
                                            AV.i IntKind.i64 n8, AV.s l1, AV.i IntKind.i64 n9, AV.i IntKind.i64 n10]]
                                      (fun a2 h1 =>
                                        onRet
                                          [Sh.agg
                                              [Kd.int IntKind.i64, Kd.int IntKind.i64, Kd.int IntKind.i64, Kd.ref, Kd.int IntKind.i64, Kd.int IntKind.i64, Kd.int IntKind.i64, Kd.int IntKind.i64,
                                                Kd.int IntKind.i64, Kd.str, Kd.int IntKind.i64, Kd.int IntKind.i64]]
                                          a2 fun n12 n13 n14 a3 n15 n16 n17 n18 n19 l3 n20 n21 =>
                                          ∀ (p5 : Nat),
                                            wpE
                                              (Eff.app a0 1
                                                (Src.lit
                                                  [AV.i IntKind.i64 n12, AV.i IntKind.i64 n13, AV.i IntKind.i64 n14, a3, AV.i IntKind.i64 n15, AV.i IntKind.i64 n16, AV.i IntKind.i64 n17,
                                                    AV.i IntKind.i64 n18, AV.i IntKind.i64 n19, AV.s l3, AV.i IntKind.i64 n20, AV.i IntKind.i64 n21])
                                                12)
                                              (fun x0 h2 => onO x0 fun a4 => onO (intO BinOp.add IntKind.i64 n0 1) fun n22 => ∃ p6, ltN p6 p2 ∧ I0 p6 a4 n22 h2) h1)
                                      h0)
                                    (onO (intO BinOp.add IntKind.i64 n0 1) fun n23 => ∃ p7, ltN p7 p2 ∧ I0 p7 a0 n23 h0))
                                (onO (intO BinOp.add IntKind.i64 n0 1) fun n24 => ∃ p8, ltN p8 p2 ∧ I0 p8 a0 n24 h0))
                (Post a0 h0)) := by kernel_rfl
/- arras/arraslaw0.Within -/
theorem vc5 (a : Int) (b : Int) (h : Hp) (Post : AV → Hp → Prop) : vcCall Try.prog [] 5 [(SV.ii .i64 a), (SV.ii .i64 b)] h Post = (
  onO (wrO IntKind.u64 a) fun n0 => onO (wrO IntKind.u64 b) fun n1 => onO (intO BinOp.rem IntKind.u64 n0 n1) fun n2 => onO (wrO IntKind.i64 n2) fun n3 => Post (AV.i IntKind.i64 n3) h) := by kernel_rfl
/- arras/arraslaw25.num -/
theorem vc8 (a : Int) (h : Hp) (Post : AV → Hp → Prop) : vcCall Try.prog [] 8 [(SV.ii .i64 a)] h Post = (
  Post (AV.i IntKind.i64 a) h) := by kernel_rfl
/- arras/arraslaw25.wakes -/
theorem vc9  (h : Hp) (Post : AV → Hp → Prop) : vcCall Try.prog [] 9 [] h Post = (
  wpC Try.prog 26 [AV.i IntKind.i64 1, AV.i IntKind.i64 1, AV.i IntKind.i64 2]
  (fun a0 h0 =>
    onTup [Sh.one (Kd.int IntKind.i64), Sh.one (Kd.int IntKind.i64), Sh.one (Kd.int IntKind.i64)] a0 fun n0 n1 n2 =>
      wpC Try.prog 8 [AV.i IntKind.i64 n2]
        (fun a1 h1 => onRet [Sh.one (Kd.int IntKind.i64)] a1 fun n3 => onB (decide (n3 = 0)) (onB (decide (n0 = 0)) (Post (AV.b (decide (n1 = 1))) h1) (Post (AV.b false) h1)) (Post (AV.b false) h1))
        h0)
  h) := by kernel_rfl
/- arras/arraslaw10.O -/
theorem vc6  (h : Hp) (Post : AV → Hp → Prop) : vcCall Try.prog [] 6 [] h Post = (
  ∀ (p0 p1 : Nat),
  h.g p1 = none →
    h.lo.le p1 →
      Post
        (AV.agg
          [AV.i IntKind.i64 1, AV.i IntKind.i64 0, AV.i IntKind.i64 1, AV.sl p1 0 1 1 true 1, AV.i IntKind.i64 1, AV.i IntKind.i64 1, AV.i IntKind.i64 0, AV.i IntKind.i64 0, AV.i IntKind.i64 0,
            AV.s [107], AV.i IntKind.i64 0, AV.i IntKind.i64 0])
        (h.put p1 [AV.i IntKind.i64 0])) := by kernel_rfl
/- arras/sync.Whom -/
theorem vc26 (a : Int) (b : Int) (c : Int) (h : Hp) (Post : AV → Hp → Prop) : vcCall Try.prog [] 26 [(SV.ii .i64 a), (SV.ii .i64 b), (SV.ii .i64 c)] h Post = (
  onB (decide (c < 1)) (Post (AV.tup [AV.i IntKind.i64 0, AV.i IntKind.i64 0, AV.i IntKind.i64 1]) h)
  (onB (decide (16 < c)) (Post (AV.tup [AV.i IntKind.i64 0, AV.i IntKind.i64 0, AV.i IntKind.i64 1]) h)
    (onB (decide (b < 0)) (Post (AV.tup [AV.i IntKind.i64 0, AV.i IntKind.i64 0, AV.i IntKind.i64 1]) h)
      (onB (decide (c ≤ b)) (Post (AV.tup [AV.i IntKind.i64 0, AV.i IntKind.i64 0, AV.i IntKind.i64 1]) h)
        (onB (decide (a < 0)) (Post (AV.tup [AV.i IntKind.i64 0, AV.i IntKind.i64 0, AV.i IntKind.i64 1]) h)
          (onB (decide (c ≤ a)) (Post (AV.tup [AV.i IntKind.i64 0, AV.i IntKind.i64 0, AV.i IntKind.i64 1]) h)
            (onB (decide (c = 1)) (Post (AV.tup [AV.i IntKind.i64 0, AV.i IntKind.i64 0, AV.i IntKind.i64 3]) h)
              (onB (decide (a = b))
                (onO (intO BinOp.add IntKind.i64 a 1) fun n0 =>
                  onO (intO BinOp.rem IntKind.i64 n0 c) fun n1 =>
                    onO (intO BinOp.add IntKind.i64 n1 1) fun n2 => onO (intO BinOp.rem IntKind.i64 n2 c) fun n3 => Post (AV.tup [AV.i IntKind.i64 n1, AV.i IntKind.i64 n3, AV.i IntKind.i64 0]) h)
                (onO (intO BinOp.add IntKind.i64 a 1) fun n4 => onO (intO BinOp.rem IntKind.i64 n4 c) fun n5 => Post (AV.tup [AV.i IntKind.i64 a, AV.i IntKind.i64 n5, AV.i IntKind.i64 0]) h))))))))) := by kernel_rfl
/- arras/arraslaw25.SyncRounds -/
theorem vc3 (a0 : AV) (a1 : AV) (a2 : Int) (a3 : Int) (a4 : Int) (a5 : Int) (h : Hp) (Post : AV → Hp → Prop) : vcCall Try.prog [] 3 [(SV.ag [(SV.vv a0), (SV.vv a1), (SV.ii .i64 a2), (SV.ii .i64 a3), (SV.ii .i64 a4), (SV.ii .i64 a5)])] h Post = (
  ∀ (p0 : Nat),
  wpC Try.prog 5 [AV.i IntKind.i64 a5, AV.i IntKind.i64 40]
    (fun a0 h0 =>
      onRet [Sh.one (Kd.int IntKind.i64)] a0 fun n0 =>
        ∃ I0 : Nat → AV → Int → Hp → Prop,
          (∃ p1, I0 p1 AV.ns 0 h0) ∧
            ∀ (p2 : Nat) (h1 : Hp) (a1 : AV),
              a1.sc = true →
                ∀ (n1 : Int),
                  I0 p2 a1 n1 h1 →
                    onB (decide (n1 < n0))
                      (wpC Try.prog 6 []
                        (fun a2 h2 =>
                          onRet
                            [Sh.agg
                                [Kd.int IntKind.i64, Kd.int IntKind.i64, Kd.int IntKind.i64, Kd.ref, Kd.int IntKind.i64, Kd.int IntKind.i64, Kd.int IntKind.i64, Kd.int IntKind.i64, Kd.int IntKind.i64,
                                  Kd.str, Kd.int IntKind.i64, Kd.int IntKind.i64]]
                            a2 fun n2 n3 n4 a3 n5 n6 n7 n8 n9 l0 n10 n11 =>
                            ∀ (p3 : Nat),
                              onO (intO BinOp.add IntKind.i64 n1 1) fun n12 =>
                                onO (intO BinOp.add IntKind.i64 n1 1) fun n13 =>
                                  onO (intO BinOp.add IntKind.i64 n1 1) fun n14 =>
                                    ∀ (p4 p5 : Nat),
                                      h2.g p4 = none →
                                        h2.lo.le p4 →
                                          wpE
                                            (Eff.app a1 1
                                              (Src.lit
                                                [AV.i IntKind.i64 n12, AV.i IntKind.i64 n3, AV.i IntKind.i64 n14, AV.sl p4 0 2 2 true 1, AV.i IntKind.i64 n5, AV.i IntKind.i64 n13, AV.i IntKind.i64 0,
                                                  AV.i IntKind.i64 n8, AV.i IntKind.i64 n9, AV.s l0, AV.i IntKind.i64 n10, AV.i IntKind.i64 n11])
                                              12)
                                            (fun x0 h3 => onO x0 fun a4 => onO (intO BinOp.add IntKind.i64 n1 1) fun n15 => ∃ p6, ltN p6 p2 ∧ I0 p6 a4 n15 h3)
                                            (h2.put p4 [AV.i IntKind.i64 n1, AV.i IntKind.i64 0]))
                        h1)
                      (onO (intO BinOp.add IntKind.i64 n0 1) fun n16 =>
                        wpC Try.prog 5 [AV.i IntKind.i64 a4, AV.i IntKind.i64 n16]
                          (fun a5 h4 =>
                            onRet [Sh.one (Kd.int IntKind.i64)] a5 fun n17 =>
                              ∀ (p7 : Nat),
                                h4.g p7 = none →
                                  h4.lo.le p7 →
                                    ∃ I1 : Nat → Int → Bool → Hp → Prop,
                                      (∃ p8, I1 p8 0 false (h4.put p7 [AV.i IntKind.i64 n17, AV.i IntKind.i64 5])) ∧
                                        ∀ (p9 : Nat) (h5 : Hp) (n18 : Int) (c0 : Bool),
                                          I1 p9 n18 c0 h5 →
                                            onO (rdH h5 p7 0 1) fun l1 =>
                                              onL [Kd.int IntKind.i64] l1 fun n19 =>
                                                onB (decide (n19 < n0))
                                                  (wpC Try.prog 7 [a1, AV.sl p7 0 2 2 true 1]
                                                    (fun a6 h6 =>
                                                      onTup [Sh.one Kd.ref, Sh.one (Kd.int IntKind.i64)] a6 fun a7 n20 =>
                                                        wpC Try.prog 8 [AV.i IntKind.i64 n20]
                                                          (fun a8 h7 =>
                                                            onRet [Sh.one (Kd.int IntKind.i64)] a8 fun n21 =>
                                                              onB (!decide (n21 = 0)) (Post (AV.b false) h7)
                                                                (onO (lenV a7) fun p10 =>
                                                                  onO (rdH h7 p7 0 1) fun l2 =>
                                                                    onL [Kd.int IntKind.i64] l2 fun n22 =>
                                                                      onO (intO BinOp.sub IntKind.i64 n0 n22) fun n23 =>
                                                                        onB (!decide ((↑p10 : Int) = min 8 n23)) (Post (AV.b false) h7)
                                                                          (∃ I2 : Nat → Bool → Int → Hp → Prop,
                                                                            (∃ p11, I2 p11 c0 0 h7) ∧
                                                                              ∀ (p12 : Nat) (h8 : Hp) (c1 : Bool) (n24 : Int),
                                                                                I2 p12 c1 n24 h8 →
                                                                                  onO (lenV a7) fun p13 =>
                                                                                    onB (decide (n24 < ↑p13))
                                                                                      (onO (idxV a7 n24 12) fun r0 =>
                                                                                        onO (rdH h8 r0.fst (r0.snd + 2) 1) fun l3 =>
                                                                                          onL [Kd.int IntKind.i64] l3 fun n25 =>
                                                                                            onO (rdH h8 p7 0 1) fun l4 =>
                                                                                              onL [Kd.int IntKind.i64] l4 fun n26 =>
                                                                                                onO (intO BinOp.add IntKind.i64 n26 1) fun n27 =>
                                                                                                  onB (!decide (n25 = n27)) (Post (AV.b false) h8)
                                                                                                    (onO (rdH h8 p7 0 1) fun l5 =>
                                                                                                      onL [Kd.int IntKind.i64] l5 fun n28 =>
                                                                                                        onO (intO BinOp.add IntKind.i64 n28 1) fun n29 =>
                                                                                                          wpE (Eff.w p7 0 (Src.lit [AV.i IntKind.i64 n29]) none)
                                                                                                            (fun x1 h9 =>
                                                                                                              onO (intO BinOp.add IntKind.i64 n24 1) fun n30 => ∃ p14, ltN p14 p12 ∧ I2 p14 c1 n30 h9)
                                                                                                            h8))
                                                                                      (onO (intO BinOp.add IntKind.i64 n18 1) fun n31 =>
                                                                                        onB (decide (50 < n31)) (Post (AV.b false) h8) (∃ p15, ltN p15 p9 ∧ I1 p15 n31 c1 h8)))))
                                                          h6)
                                                    h5)
                                                  (wpC Try.prog 7 [a1, AV.sl p7 0 2 2 true 1]
                                                    (fun a9 h10 =>
                                                      onTup [Sh.one Kd.ref, Sh.one (Kd.int IntKind.i64)] a9 fun a10 n32 =>
                                                        wpC Try.prog 8 [AV.i IntKind.i64 n32]
                                                          (fun a11 h11 =>
                                                            onRet [Sh.one (Kd.int IntKind.i64)] a11 fun n33 =>
                                                              onB (decide (n33 = 0))
                                                                (onO (lenV a10) fun p16 =>
                                                                  onB (decide ((↑p16 : Int) = 0))
                                                                    (onO (intO BinOp.sub IntKind.i64 n0 n17) fun n34 =>
                                                                      onO (intO BinOp.add IntKind.i64 n34 8) fun n35 =>
                                                                        onO (intO BinOp.sub IntKind.i64 n35 1) fun n36 =>
                                                                          onO (intO BinOp.quo IntKind.i64 n36 8) fun n37 =>
                                                                            onB (decide (n18 = n37)) (wpC Try.prog 9 [] (fun a12 h12 => onRet [Sh.one Kd.bool] a12 fun c2 => Post (AV.b c2) h12) h11)
                                                                              (Post (AV.b false) h11))
                                                                    (Post (AV.b false) h11))
                                                                (Post (AV.b false) h11))
                                                          h10)
                                                    h5))
                          h1))
    h) := by kernel_rfl
/-! ### operations with memory of their own -/
def intC (l : List Int) : List (List AV) := l.map fun x => [.i .i64 x]
/-- an operation whose deps stand in this part, in a row of its own -/
def eOp (q : Hp) (o : D.Op) (c : List AV) : Prop := D.kOp.K q o c ∧ ∃ d, c = opC o d ∧ Fresh (Hp.none q.lo) q d 1 (intC o.deps)
abbrev OpOwn (g h : Hp) (a : AV) (l : List D.Op) : Prop := OwnD eOp 12 g h a l
theorem OpOwn.kn {g h : Hp} {a : AV} {l : List D.Op} (o : OpOwn g h a l) : D.kOp.Own g h a l := OwnD.own o rfl fun _ _ _ e => e.1
theorem ints_css {h : Hp} : ∀ {l : List Int} {css : List (List AV)}, All2 (Kn.int.K h) l css → css = intC l
  | [], _, .nil => rfl
  | _ :: _, _, .cons k t => by rw [k.1, ints_css t]; rfl
theorem Kn.Own.part {g h : Hp} {a : AV} {l : List Int} (o : Kn.int.Own g h a l) : ∃ q, q.le h ∧ Disj q g ∧ q.lo = g.lo ∧ (∀ b, q.g b ≠ none → g.lo ≤ b) ∧ Fresh (Hp.none g.lo) q a 1 (intC l) ∧ IR q a l := by
  obtain ⟨p, css, h0, h1, f, h2⟩ := o
  obtain ⟨q, q1, q2, q3, q4, q5⟩ := f.part
  have e := ints_css h2
  subst e
  rw [h1] at q3 q4 q5
  exact ⟨q, q1, q2.le_right h0, q3, q4, q5, _, q5.row, h2.mono fun _ _ k => k⟩
/-- one more operation, copied -/
theorem OpOwn.snoc {g p p' h' : Hp} {a : AV} {l : List D.Op} {css : List (List AV)} {qs : Nat → Hp} {h : Hp} (o : OwnE eOp 12 g h a l p css qs) (fr : Fresh p' h' a 12 css) (hl : p'.lo = p.lo) {x : D.Op} {d : AV} {h0 : Hp} (kx : D.kOp.K h0 x (opC x d)) {r : AV} (ow : Kn.int.Own p p' r x.deps)
    (hbig : l.length + 1 < 1000000) {Post : Option AV → Hp → Prop} (k : ∀ r h2, OpOwn g h2 r (l ++ [x]) → Post (some r) h2) : wpE (.app a 1 (.lit (opC x r)) 12) Post h' := by
  obtain ⟨q, q1, q2, q3, q4, q5, q6⟩ := ow.part
  have kk := op_again kx q6
  exact OwnE.snoc o fr ow.le hl q1 q2 q3 q4 ⟨kk, r, rfl, by rw [q3]; exact q5⟩ rfl (D.kOp.sc kk) hbig k
/-! ### plain -/
def mayL (n : Nat) (l : List D.Op) : Bool := l.all fun o => mayO o && decide (o.deps.length = n)
def lacks (v : List Int) (o : D.Op) : Bool := match v[o.stamp.rep.toNat]? with
  | some x => decide (x < o.seq)
  | none => false
def behind (v : List Int) (l : List D.Op) : List D.Op := (l.filter (lacks v)).take 8
theorem mayO_rep {o : D.Op} (h : mayO o = true) : 0 ≤ o.stamp.rep ∧ o.stamp.rep < o.deps.length := by
  unfold mayO at h
  simp only [Bool.and_eq_true] at h
  obtain ⟨h1, h2, h3, h4, h5⟩ := h
  have := isS_rep h1
  refine ⟨this.1, ?_⟩
  unfold seqV at h4
  cases hx : o.deps[o.stamp.rep.toNat]? with
  | none => rw [hx] at h4; cases h4
  | some x => have := (List.getElem?_eq_some_iff.1 hx).1; omega
section
variable {h : Hp} {a b : AV} {l : List D.Op} {v : List Int} {Post : AV → Hp → Prop}
theorem op3 {h1 : Hp} (r : OpRow h a l) (le : h.le h1) {k : Nat} {o : D.Op} (e : l[k]? = some o) {K : AV → Prop} (q : ∀ d, IR h d o.deps → K d) : onO (idxV a (k : Int) 12) fun r0 => onO (rdH h1 r0.1 (r0.2 + 3) 1) fun l0 => onL [Kd.ref] l0 K := by
  obtain ⟨b, p, c, e1, e2, e3⟩ := r.idx (i := (k : Int)) (Int.natCast_nonneg k) (by simpa using e)
  obtain ⟨d, rfl, e4⟩ := op_cells e3
  exact onO.mk e1 (onO.mk (rdH_sub (rdH_le le e2) (o' := 3) (n' := 1) rfl) (onL.r1 e4.sc (q d e4)))
theorem c24 (ra : OpRow h a l) (rb : IR h b v) (hb : l.length < 1000000) (ho : ∀ o ∈ l, opOk o) (hv : v.length < 1000000) (k : Post (.b (mayL v.length l && vecV v)) h) : wpC Try.prog 24 [a, b] Post h := by
  refine call_sound (args := [.vv a, .vv b]) (cuts := [0]) ⟨ra.sc, rb.sc, trivial⟩ ?_
  rw [vc24]
  refine ⟨fun m i _ h' => h' = h ∧ ∃ k : Nat, i = k ∧ k ≤ l.length ∧ m = l.length - k ∧ mayL v.length l = mayL v.length (l.drop k), ⟨l.length, rfl, 0, rfl, by omega, rfl, rfl⟩, ?_⟩
  rintro m h0 _ _ ⟨rfl, j, rfl, hj, rfl, hp⟩
  refine Dup.mk (onO.mk ra.len (onB.dec (fun e => ?_) (fun e => ?_)))
  · have : j = l.length := by omega
    subst this
    rw [List.drop_length] at hp
    rw [hp] at k
    exact c36 rb hv (onRet.b k)
  · obtain ⟨x, hx⟩ := get_lt (l := l) (k := j) (by omega)
    rw [drop_of hx] at hp
    have bad : (mayO x && decide (x.deps.length = v.length)) = false → Post (.b false) h0 := fun e1 => by
      rw [hp] at k
      simp only [mayL, List.all_cons, e1, Bool.false_and] at k
      exact k
    refine opW ra (Hp.le_refl _) hx fun d rd _ => c37 (o := x) rd (ho x (List.mem_of_getElem? hx)) (onRet.b (onB.mk (fun e1 => ?_) (fun e1 => bad (by rw [e1]; rfl))))
    refine op3 ra (Hp.le_refl _) hx fun d rd => onO.mk rd.len (onO.mk rb.len (onB.dec (fun e2 => ?_) (fun e2 => bad (by rw [decide_eq_false (by omega), Bool.and_false]))))
    refine onO.mk (inc64 (by omega)) ⟨_, by show l.length - (j + 1) < l.length - j; omega, rfl, j + 1, rfl, by omega, rfl, ?_⟩
    rw [hp]
    simp only [mayL, List.all_cons, e1, decide_eq_true (show x.deps.length = v.length by omega), Bool.and_self, Bool.true_and]
end
/-! ### what is lacked -/
theorem behind_take {v : List Int} {l : List D.Op} {k : Nat} {x : D.Op} (h : l[k]? = some x) : behind v (l.take (k + 1)) = if lacks v x = true ∧ (behind v (l.take k)).length < 8 then behind v (l.take k) ++ [x] else behind v (l.take k) := by
  unfold behind
  rw [take_succ' h, List.filter_append]
  by_cases h1 : lacks v x = true
  · have e : [x].filter (lacks v) = [x] := by simp [h1]
    rw [e, List.take_append, List.length_take]
    by_cases h2 : ((l.take k).filter (lacks v)).length < 8
    · rw [if_pos ⟨h1, by omega⟩]
      congr 1
      rw [List.take_of_length_le (by simp; omega)]
    · rw [if_neg (by omega), show 8 - ((l.take k).filter (lacks v)).length = 0 by omega]
      simp
  · have e : [x].filter (lacks v) = [] := by simp [h1]
    rw [e, if_neg (by simp [h1]), List.append_nil]
theorem behind_len (v : List Int) (l : List D.Op) : (behind v l).length ≤ 8 := by unfold behind; simp; omega
section
variable {h : Hp} {a b : AV} {l : List D.Op} {v : List Int} {Post : AV → Hp → Prop}
theorem c25 (ra : OpRow h a l) (rb : IR h b v) (hb : l.length < 1000000) (ho : ∀ o ∈ l, opOk o) (hr : ∀ o ∈ l, 0 ≤ o.stamp.rep ∧ o.stamp.rep < v.length) (k : ∀ r h', OpOwn h h' r (behind v l) → Post r h') : wpC Try.prog 25 [a, b] Post h := by
  refine call_sound (args := [.vv a, .vv b]) (cuts := []) ⟨ra.sc, rb.sc, trivial⟩ ?_
  rw [vc25]
  refine onO.mk ra.len ⟨fun m r i h' => ∃ k : Nat, i = k ∧ k ≤ l.length ∧ m = l.length - k ∧ OpOwn h h' r (behind v (l.take k)), ⟨l.length, 0, rfl, by omega, rfl, OwnD.nil _⟩, ?_⟩
  rintro m h0 r _ _ ⟨j, rfl, hj, rfl, ow⟩
  refine onB.dec (fun e => ?_) (fun e => ?_)
  · obtain ⟨x, hx⟩ := get_lt (l := l) (k := j) (by omega)
    have hm := List.mem_of_getElem? hx
    have hbt := behind_take (v := v) hx
    have hle := ow.kn.le
    have hlen := ow.kn.row.len
    obtain ⟨hr1, hr2⟩ := hr x hm
    obtain ⟨jr, hjr⟩ := Int.eq_ofNat_of_zero_le hr1
    obtain ⟨y, hy⟩ := get_lt (l := v) (k := jr) (by omega)
    have hlk : lacks v x = decide (y < x.seq) := by unfold lacks; rw [show x.stamp.rep.toNat = jr by omega, hy]
    refine opW ra hle hx fun d rd kx p3 => ?_
    rw [hjr]
    refine int0 (rb.mono hle) hy (onB.dec (fun e1 => onO.mk hlen (onB.dec (fun e2 => ?_) (fun e2 => ?_))) (fun e1 => ?_))
    · obtain ⟨p, css, qs, oe⟩ := ow
      rw [← hjr]
      refine (oe.fr.call (Q := fun w p' => ∃ r', w = .agg (opC x r') ∧ Kn.int.Own p p' r' x.deps) (c38 (o := x) (rd.mono oe.le) (ho x hm) fun r' h' ow' => ⟨r', rfl, ow'⟩)).mono ?_
      rintro w h1 ⟨p', fr', hlo, r', rfl, ow'⟩
      refine onRet.op ow'.sc fun _ => OpOwn.snoc oe fr' hlo kx ow' (by have := behind_len v (l.take j); omega) fun r2 h2 o2 => onO.mk rfl (onO.mk (inc64 (by omega)) ⟨_, by show l.length - (j + 1) < l.length - j; omega, j + 1, rfl, by omega, rfl, ?_⟩)
      rw [hbt, if_pos ⟨by rw [hlk]; exact decide_eq_true e1, by omega⟩]; exact o2
    · refine onO.mk (inc64 (by omega)) ⟨_, by show l.length - (j + 1) < l.length - j; omega, j + 1, rfl, by omega, rfl, ?_⟩
      rw [hbt, if_neg (by omega)]; exact ow
    · refine onO.mk (inc64 (by omega)) ⟨_, by show l.length - (j + 1) < l.length - j; omega, j + 1, rfl, by omega, rfl, ?_⟩
      rw [hbt, if_neg (by rw [hlk, decide_eq_false e1]; simp)]; exact ow
  · have : j = l.length := by omega
    subst this
    rw [List.take_length] at ow
    exact k _ _ ow
theorem c7 (ra : OpRow h a l) (rb : IR h b v) (hb : l.length < 1000000) (ho : ∀ o ∈ l, opOk o) (hv : v.length < 1000000)
    (k1 : (mayL v.length l && vecV v) = false → Post (.tup [.ns, .i .i64 1]) h) (k2 : (mayL v.length l && vecV v) = true → ∀ r h', OpOwn h h' r (behind v l) → Post (.tup [r, .i .i64 0]) h') : wpC Try.prog 7 [a, b] Post h := by
  refine call_sound (args := [.vv a, .vv b]) (cuts := []) ⟨ra.sc, rb.sc, trivial⟩ ?_
  rw [vc7]
  refine c24 ra rb hb ho hv (onRet.b (onB.not k1 (fun e => ?_)))
  have hm := (Bool.and_eq_true _ _ ▸ e).1
  refine c25 ra rb hb ho (fun o hm' => ?_) fun r h' ow => onRet.r ow.kn.sc (k2 e _ _ ow)
  unfold mayL at hm
  have := List.all_eq_true.1 hm o hm'
  simp only [Bool.and_eq_true, decide_eq_true_eq] at this
  have h2 := mayO_rep this.1
  omega
end
section
variable {h : Hp} {Post : AV → Hp → Prop}
theorem rem64 {a b : Int} (h : b ≠ 0) : intO .rem .u64 a b = some (a.tmod b) := by
  have : eqI b 0 = false := by
    cases b with
    | ofNat n => cases n with
      | zero => exact absurd rfl h
      | succ n => rfl
    | negSucc n => rfl
  unfold intO intA
  simp only [this, cond_false]
theorem wru64 (n : Int) : wrO .u64 n = some (n % 18446744073709551616) := by unfold wrO; rw [wrap_mod rfl]; rfl
theorem c5 {a b : Int} (h0 : 0 < b) (h1 : b < 9223372036854775808) (k : ∀ n, 0 ≤ n → n < b → Post (.i .i64 n) h) : wpC Try.prog 5 [.i .i64 a, .i .i64 b] Post h := by
  refine call_sound (args := [.ii .i64 a, .ii .i64 b]) (cuts := []) ⟨trivial, trivial, trivial⟩ ?_
  rw [vc5]
  have e : b % 18446744073709551616 = b := by omega
  have h2 := Int.emod_nonneg a (show (18446744073709551616 : Int) ≠ 0 by omega)
  refine onO.mk (wru64 _) (onO.mk (wru64 _) ?_)
  rw [e]
  have h3 : (a % 18446744073709551616).tmod b = (a % 18446744073709551616) % b := Int.tmod_eq_emod_of_nonneg h2
  have h4 := Int.emod_nonneg (a % 18446744073709551616) (show b ≠ 0 by omega)
  have h5 := Int.emod_lt_of_pos (a % 18446744073709551616) h0
  refine onO.mk (rem64 (by omega)) ?_
  rw [h3]
  exact onO.mk (wr64 (by omega) (by omega)) (k _ h4 h5)
theorem c8 {a : Int} (k : Post (.i .i64 a) h) : wpC Try.prog 8 [.i .i64 a] Post h := by
  refine call_sound (args := [.ii .i64 a]) (cuts := []) ⟨trivial, trivial⟩ ?_
  rw [vc8]; exact k
theorem onTup.iii {n m p : Int} {K : Int → Int → Int → Prop} (k : K n m p) : onTup [Sh.one (Kd.int .i64), Sh.one (Kd.int .i64), Sh.one (Kd.int .i64)] (.tup [.i .i64 n, .i .i64 m, .i .i64 p]) K := k
theorem c9 (k : Post (.b true) h) : wpC Try.prog 9 [] Post h := by
  refine call_sound (args := []) (cuts := []) trivial ?_
  rw [vc9]
  have w : wpC Try.prog 26 [.i .i64 1, .i .i64 1, .i .i64 2] (fun v h' => v = .tup [.i .i64 0, .i .i64 1, .i .i64 0] ∧ h' = h) h := by
    refine call_sound (args := [.ii .i64 1, .ii .i64 1, .ii .i64 2]) (cuts := []) ⟨trivial, trivial, trivial, trivial⟩ ?_
    rw [vc26]
    refine onB.neg rfl (onB.neg rfl (onB.neg rfl (onB.neg rfl (onB.neg rfl (onB.neg rfl (onB.neg rfl (onB.pos rfl ?_)))))))
    exact onO.mk (a := 2) rfl (onO.mk (a := 0) rfl (onO.mk (a := 1) rfl (onO.mk (a := 1) rfl ⟨rfl, rfl⟩)))
  refine w.mono ?_
  rintro _ _ ⟨rfl, rfl⟩
  exact onTup.iii (c8 (onRet.i (onB.pos rfl (onB.pos rfl k))))
/-! ### the operations of SyncRounds -/
def rO (i : Nat) : D.Op := ⟨⟨(i + 1 : Nat), 0⟩, (i + 1 : Nat), [(i : Int), 0], 1, ⟨(i + 1 : Nat), 0⟩, ⟨0, 0⟩, [107], 0, 0⟩
def rOs (n : Nat) : List D.Op := (List.range n).map rO
theorem rOs_len (n : Nat) : (rOs n).length = n := by simp [rOs]
theorem rOs_succ (n : Nat) : rOs (n + 1) = rOs n ++ [rO n] := by simp [rOs, List.range_succ]
theorem rO_may {i : Nat} (h : i < 100) : mayO (rO i) = true := by
  have h1 : isS ⟨((i + 1 : Nat) : Int), 0⟩ = true := by
    unfold isS
    simp only [Bool.and_eq_true, decide_eq_true_eq]
    omega
  have h2 : vecV [(i : Int), 0] = true := by
    unfold vecV numV
    simp only [List.all_cons, List.all_nil, Bool.and_true, Bool.and_eq_true, decide_eq_true_eq, List.length_cons, List.length_nil]
    omega
  have h3 : seqV (rO i) = true := by
    show (decide (((i + 1 : Nat) : Int) = (i : Int) + 1) && decide (((i + 1 : Nat) : Int) ≤ 1099511627776)) = true
    simp only [Bool.and_eq_true, decide_eq_true_eq]
    omega
  have h4 : kindV (rO i) = true := rfl
  unfold mayO
  rw [h3, h4]
  show (isS ⟨((i + 1 : Nat) : Int), 0⟩ && (vecV [(i : Int), 0] && (isS ⟨((i + 1 : Nat) : Int), 0⟩ && (true && true)))) = true
  rw [h1, h2]; rfl
theorem rOs_may {n : Nat} (h : n < 100) : mayL 2 (rOs n) = true := by
  unfold mayL rOs
  rw [List.all_map, List.all_eq_true]
  intro i hi
  have := List.mem_range.1 hi
  simp only [Function.comp, rO_may (show i < 100 by omega), Bool.true_and]
  rfl
theorem filter_range {n v : Nat} (h : v ≤ n) : (List.range n).filter (fun i => decide (v ≤ i)) = (List.range n).drop v := by
  conv => lhs; rw [← List.take_append_drop v (List.range n), List.filter_append]
  have e1 : ((List.range n).take v).filter (fun i => decide (v ≤ i)) = [] := by
    rw [List.filter_eq_nil_iff]
    intro i hi
    obtain ⟨k, hk, rfl⟩ := List.getElem_of_mem hi
    simp at hk ⊢
    omega
  have e2 : ((List.range n).drop v).filter (fun i => decide (v ≤ i)) = (List.range n).drop v := by
    rw [List.filter_eq_self]
    intro i hi
    obtain ⟨k, hk, rfl⟩ := List.getElem_of_mem hi
    simp
  rw [e1, e2, List.nil_append]
theorem rOs_behind {n v : Nat} (h : v ≤ n) (x : Int) : behind [(v : Int), x] (rOs n) = (((List.range n).drop v).take 8).map rO := by
  unfold behind rOs
  rw [List.filter_map, ← List.map_take]
  congr 2
  rw [← filter_range h]
  apply List.filter_congr
  intro i _
  show decide ((v : Int) < ((i + 1 : Nat) : Int)) = decide (v ≤ i)
  rw [decide_eq_decide]; omega
theorem rOs_behind_len {n v : Nat} (h : v ≤ n) (x : Int) : (behind [(v : Int), x] (rOs n)).length = min 8 (n - v) := by rw [rOs_behind h]; simp
theorem rOs_behind_get {n v k : Nat} (h : v ≤ n) (x : Int) (hk : k < min 8 (n - v)) : (behind [(v : Int), x] (rOs n))[k]? = some (rO (v + k)) := by
  rw [rOs_behind h, List.getElem?_map, List.getElem?_take_of_lt (by omega), List.getElem?_drop, List.getElem?_range (by omega)]; rfl
end
section
variable {h : Hp} {Post : AV → Hp → Prop}
theorem Fresh.raw1 {g h : Hp} {a : AV} {l : List Int} (f : Fresh g h a 1 (intC l)) (hl : ∀ x ∈ l, In64 x) : IR h a l :=
  ⟨_, f.row, All2.of_get (by simp [intC]) fun i x c hx hc => by
    simp [intC, hx] at hc
    subst hc
    exact ⟨rfl, hl x (List.mem_of_getElem? hx)⟩⟩
/-- a new block of two numbers -/
theorem ir_two {h : Hp} {p : Nat} {x y : Int} (e : h.g p = some [.i .i64 x, .i .i64 y]) (hx : In64 x) (hy : In64 y) : IR h (.sl p 0 2 2 true 1) [x, y] := by
  refine ⟨[[.i .i64 x], [.i .i64 y]], ⟨fun c hc => ?_, rfl, rfl, Nat.le_refl _, .inr ?_⟩, .cons ⟨rfl, hx⟩ (.cons ⟨rfl, hy⟩ .nil)⟩
  · simp at hc; rcases hc with rfl | rfl <;> rfl
  · unfold rdH; rw [e]; rfl
theorem op_mk {h : Hp} {o : D.Op} {d : AV} (k1 : In64 o.stamp.time) (k2 : In64 o.stamp.rep) (k3 : In64 o.seq) (r : IR h d o.deps) (k4 : o.deps.length * 8 ≤ 140737488351232) (k5 : In64 o.kind) (k6 : In64 o.node.time) (k7 : In64 o.node.rep) (k8 : In64 o.parent.time) (k9 : In64 o.parent.rep)
    (k10 : o.key.length ≤ 140737488351232) (k11 : ∀ x ∈ o.key, x < 256) (k12 : In64 o.prop) (k13 : In64 o.value) : D.kOp.K h o (opC o d) :=
  ⟨_, _, rfl, ⟨_, _, rfl, in64_of k1, in64_of k2⟩, _, _, rfl, in64_of k3, _, _, rfl, ⟨d, rfl, r, k4⟩, _, _, rfl, in64_of k5, _, _, rfl, ⟨_, _, rfl, in64_of k6, in64_of k7⟩, _, _, rfl, ⟨_, _, rfl, in64_of k8, in64_of k9⟩, _, _, rfl, ⟨rfl, k10, k11⟩, _, _, rfl, in64_of k12, in64_of k13⟩
theorem in64_lit {n : Int} (h1 : -1000000 ≤ n) (h2 : n ≤ 1000000) : In64 n := ⟨by omega, by omega⟩
theorem rO_k {h : Hp} {d : AV} {i : Nat} (hi : i < 100) (r : IR h d [(i : Int), 0]) : D.kOp.K h (rO i) (opC (rO i) d) :=
  have f : In64 ((i + 1 : Nat) : Int) := in64_lit (by omega) (by omega)
  have z : In64 0 := in64_lit (by omega) (by omega)
  have y : In64 1 := in64_lit (by omega) (by omega)
  op_mk (o := rO i) f z f r (by show 2 * 8 ≤ 140737488351232; omega) y f z z z (by show 1 ≤ 140737488351232; omega) (fun x hx => by
    have hx : x ∈ [107] := hx
    simp at hx; omega) z z
end
theorem Fresh.putn {g h : Hp} {a : AV} {sz : Nat} {css : List (List AV)} (f : Fresh g h a sz css) {b : Nat} (hb : h.g b = none) (cs : List AV) : Fresh (g.put b cs) (h.put b cs) a sz css := by
  have key : ∀ b' o len lo ex z, a = .sl b' o len lo ex z → b' ≠ b := fun b' o len lo ex z e e' => by
    obtain ⟨_, _, c, n3, _⟩ := f.new _ _ _ _ _ _ e
    rw [e', hb] at n3; cases n3
  refine ⟨fun k c' e => ?_, f.lo, ⟨f.row.1, ?_⟩, fun b' o len lo ex z e => ?_⟩
  · by_cases hk : k = b
    · subst hk; rw [Hp.put_same] at e ⊢; exact e
    · rw [Hp.put_ne _ _ hk] at e ⊢; exact f.le k c' e
  · have r := f.row.2
    cases a <;> first | exact r | skip
    obtain ⟨r1, r2, r3, r4⟩ := r
    refine ⟨r1, r2, r3, r4.imp id fun e => ?_⟩
    unfold rdH at e ⊢
    rw [Hp.put_ne _ _ (key _ _ _ _ _ _ rfl)]; exact e
  · obtain ⟨n1, n2, cs', n3, n4⟩ := f.new _ _ _ _ _ _ e
    have := key _ _ _ _ _ _ e
    exact ⟨by rw [Hp.put_ne _ _ this]; exact n1, n2, cs', by rw [Hp.put_ne _ _ this]; exact n3, n4⟩
theorem quo64 {a b : Int} (h0 : 0 ≤ a) (h1 : a < 9223372036854775808) (hb : 0 < b) : intO .quo .i64 a b = some (a / b) := by
  have : eqI b 0 = false := by
    cases b with
    | ofNat n => cases n with
      | zero => exact absurd hb (by simp)
      | succ n => rfl
    | negSucc n => rfl
  unfold intO intA
  simp only [this, cond_false]
  have e : Int.tdiv a b = a / b := Int.tdiv_eq_ediv_of_nonneg h0
  have h2 : 0 ≤ a / b := Int.ediv_nonneg h0 (by omega)
  have h3 : a / b ≤ a := Int.ediv_le_self b h0
  rw [e, wrap64 (by omega) (by omega)]
section
variable {h : Hp} {Post : AV → Hp → Prop}
theorem rd_two {h : Hp} {p : Nat} {x y : AV} (e : h.g p = some [x, y]) : rdH h p 0 1 = some [x] := by unfold rdH; rw [e]; rfl
theorem D.lawSyncRounds {x : D.SyncA} {cells : List AV} (kx : D.kSyncA.K h x cells) : wpC Try.prog 3 [.agg cells] (fun v _ => v = .b true) h := by
  obtain ⟨a0, a1, rfl, ⟨ra, _⟩, ⟨rb, _⟩, _⟩ := D.kSyncA_open kx
  refine call_sound (args := [.ag [.vv a0, .vv a1, .ii .i64 x.rep, .ii .i64 x.dst, .ii .i64 x.reps, .ii .i64 x.next]]) (cuts := []) ⟨⟨ra.sc, rb.sc, trivial, trivial, trivial, trivial, trivial⟩, trivial⟩ ?_
  rw [vc3]
  intro _
  refine c5 (by omega) (by omega) fun n hn0 hn1 => onRet.i ?_
  obtain ⟨N, rfl⟩ := Int.eq_ofNat_of_zero_le hn0
  refine ⟨fun m r i h' => ∃ k : Nat, i = k ∧ k ≤ N ∧ m = N - k ∧ OpOwn h h' r (rOs k), ⟨N, 0, rfl, by omega, rfl, OwnD.nil _⟩, ?_⟩
  rintro m h1 r _ _ ⟨k, rfl, hk, rfl, ow⟩
  refine onB.dec (fun e => ?_) (fun e => ?_)
  · obtain ⟨p, css, qs, oe⟩ := ow
    have c34 : wpC Try.prog 6 [] (fun w p' => ∃ b, w = .agg (opC (⟨⟨1, 0⟩, 1, [], 1, ⟨1, 0⟩, ⟨0, 0⟩, [107], 0, 0⟩ : D.Op) (.sl b 0 1 1 true 1)) ∧ p.le p' ∧ p'.lo = p.lo) p := by
      refine call_sound (args := []) (cuts := []) trivial ?_
      rw [vc6]
      exact fun _ b e1 e2 => ⟨b, rfl, Hp.le_put e1, rfl⟩
    refine (oe.fr.call c34).mono ?_
    rintro w h2 ⟨p', fr, _, b, rfl, le, hl⟩
    refine onRet.op (o := ⟨⟨1, 0⟩, 1, [], 1, ⟨1, 0⟩, ⟨0, 0⟩, [107], 0, 0⟩) rfl fun _ => onO.mk (inc64 (by omega)) (onO.mk (inc64 (by omega)) (onO.mk (inc64 (by omega)) fun p4 _ e1 e2 => ?_))
    have hp' : p'.g p4 = none := le_none fr.le e1
    have f1 := Fresh.put (g := Hp.none p.lo) (h := Hp.none p.lo) (Hp.le_refl _) rfl (b := p4) rfl (by show p.lo ≤ p4; rw [← hl, ← fr.lo]; exact e2) (css := intC [(k : Int), 0]) (sz := 1) (len := 2) true (fun c hc => by simp [intC] at hc; rcases hc with rfl | rfl <;> rfl) rfl rfl
    have r1 := f1.raw1 (fun y hy => by
      simp at hy
      rcases hy with rfl | rfl
      · exact in64_lit (by omega) (by omega)
      · exact in64_lit (by omega) (by omega))
    refine OwnE.snoc (q' := (Hp.none p.lo).put p4 (intC [(k : Int), 0]).flatten) (x := rO k) (c := opC (rO k) (.sl p4 0 2 2 true 1)) oe (fr.putn e1 [.i .i64 k, .i .i64 0]) (Hp.le_trans le (Hp.le_put hp')) hl (fun i c hc => ?_) (fun i c hc => ?_) rfl (fun i hi => ?_) ⟨rO_k (by omega) r1, _, rfl, f1⟩ rfl rfl (by rw [rOs_len]; omega) fun r2 h3 o2 => onO.mk rfl (onO.mk (inc64 (by omega)) ⟨_, by show N - (k + 1) < N - k; omega, k + 1, rfl, by omega, rfl, by rw [rOs_succ]; exact o2⟩)
    · have hc : (if i = p4 then some (intC [(k : Int), 0]).flatten else none) = some c := hc
      by_cases hi : i = p4
      · rw [if_pos hi] at hc; rw [hi, Hp.put_same]; exact hc
      · rw [if_neg hi] at hc; cases hc
    · have hc : (if i = p4 then some (intC [(k : Int), 0]).flatten else none) = some c := hc
      by_cases hi : i = p4
      · rw [hi]; exact le_none le hp'
      · rw [if_neg hi] at hc; cases hc
    · have hi : (if i = p4 then some (intC [(k : Int), 0]).flatten else none) ≠ none := hi
      by_cases hj : i = p4
      · rw [hj, ← hl, ← fr.lo]; exact e2
      · rw [if_neg hj] at hi; exact absurd rfl hi
  · have : k = N := by omega
    subst this
    have orow := ow.kn.row
    have hok : ∀ o ∈ rOs k, opOk o := fun o ho => by
      simp only [rOs, List.mem_map] at ho
      obtain ⟨i, _, rfl⟩ := ho
      show 2 < 1000000
      omega
    refine onO.mk (inc64 (by omega)) (c5 (by omega) (by omega) fun from_ hf0 hf1 => onRet.i ?_)
    obtain ⟨F, rfl⟩ := Int.eq_ofNat_of_zero_le hf0
    intro p7 e7 e7'
    have good : ∀ V : Nat, V ≤ k → (mayL 2 (rOs k) && vecV [(V : Int), 5]) = true := fun V hV => by
      rw [rOs_may (by omega), Bool.true_and]
      unfold vecV numV
      simp only [List.all_cons, List.all_nil, Bool.and_true, Bool.and_eq_true, decide_eq_true_eq, List.length_cons, List.length_nil]
      omega
    refine ⟨fun m rounds c h5 => ∃ V R : Nat, rounds = R ∧ F ≤ V ∧ V ≤ k ∧ m = k - V ∧ h1.le h5 ∧ h5.lo = h1.lo ∧ h5.g p7 = some [.i .i64 V, .i .i64 5] ∧ (V = F + 8 * R ∨ (V = k ∧ k < F + 8 * R ∧ F + 8 * R < k + 8)), ⟨_, F, 0, rfl, by omega, by omega, rfl, Hp.le_put e7, rfl, Hp.put_same _ _ _, .inl (by omega)⟩, ?_⟩
    rintro m h5 _ c0 ⟨V, R, rfl, hFV, hV, rfl, le5, lo5, g5, hVR⟩
    have irv : IR h5 (.sl p7 0 2 2 true 1) [(V : Int), 5] := ir_two g5 (in64_lit (by omega) (by omega)) (in64_lit (by omega) (by omega))
    refine onO.mk (rd_two g5) (onL.i1 (onB.dec (fun e3 => ?_) (fun e3 => ?_)))
    · refine c7 (orow.mono le5) irv (by rw [rOs_len]; omega) hok (by show 2 < 1000000; omega) (fun e4 => by cases (good V hV).symm.trans e4) fun _ r2 h6 ow2 => ?_
      have hlen : (behind [(V : Int), 5] (rOs k)).length = min 8 (k - V) := rOs_behind_len hV 5
      have g6 := ow2.kn.le _ _ g5
      have hmin : (min 8 ((k : Int) - V)) = ((min 8 (k - V) : Nat) : Int) := by omega
      refine onTup.ri ow2.kn.sc (c8 (onRet.i (onB.neg rfl (onO.mk ow2.kn.row.len (onO.mk (rd_two g6) (onL.i1 (onO.mk (sub64 (by omega) (by omega)) (onB.ndec (fun e4 => ?_) (fun e4 => ?_))))))))) 
      · rw [hlen] at e4; exact absurd hmin.symm (by rw [hmin] at e4; exact absurd rfl e4)
      · obtain ⟨p, css, qs, oe⟩ := ow2
        refine ⟨fun m _ i h8 => ∃ j : Nat, i = j ∧ j ≤ min 8 (k - V) ∧ m = min 8 (k - V) - j ∧ ∃ p, Fresh p h8 r2 12 css ∧ h1.le p ∧ p.lo = h1.lo ∧ p.g p7 = some [.i .i64 ((V + j : Nat) : Int), .i .i64 5], ⟨_, 0, rfl, by omega, rfl, p, oe.fr, Hp.le_trans le5 oe.le, oe.lo.trans lo5, oe.le _ _ g5⟩, ?_⟩
        rintro m h8 _ _ ⟨j, rfl, hj, rfl, p2, fr2, le2, lo2, g2⟩
        have g8 := fr2.le _ _ g2
        have hl2 := fr2.row.len
        rw [oe.len, hlen] at hl2
        refine onO.mk hl2 (onB.dec (fun e5 => ?_) (fun e5 => ?_))
        · have hjl : j < css.length := by rw [oe.len, hlen]; omega
          have hget := rOs_behind_get hV 5 (k := j) (by omega)
          have hcj : css[j]? = some css[j] := List.getElem?_eq_getElem hjl
          obtain ⟨_, d, hd, _⟩ := oe.el j _ _ hget hcj
          refine fr2.idx hcj (off := 2) (n := 1) (p := [.i .i64 ((V + j + 1 : Nat) : Int)]) (by rw [hd]; rfl) (onL.i1 (onO.mk (rd_two g8) (onL.i1 (onO.mk (inc64 (by omega)) (onB.ndec (fun e6 => absurd rfl e6) (fun _ => ?_))))))
          refine onO.mk (rd_two g8) (onL.i1 (onO.mk (inc64 (by omega)) (wpE.w g8 (by rw [fr2.lo, lo2]; exact e7') rfl (by show 0 + 1 ≤ 2; omega) rfl ?_)))
          exact onO.mk (inc64 (by omega)) ⟨_, by show min 8 (k - V) - (j + 1) < min 8 (k - V) - j; omega, j + 1, rfl, by omega, rfl, p2.put p7 _, fr2.putg g2 _, fun i c hc => by rw [Hp.put_ne _ _ (fun hi => by rw [hi, e7] at hc; cases hc)]; exact le2 i c hc, lo2, Hp.put_same _ _ _⟩
        · have hj' : j = min 8 (k - V) := by omega
          refine onO.mk (inc64 (by omega)) (onB.dec (fun e6 => by omega) (fun e6 => ?_))
          refine ⟨_, by show k - (V + j) < k - V; omega, V + j, R + 1, rfl, by omega, by omega, rfl, Hp.le_trans le2 fr2.le, fr2.lo.trans lo2, g8, by omega⟩
    · have : V = k := by omega
      subst this
      refine c7 (orow.mono le5) irv (by rw [rOs_len]; omega) hok (by show 2 < 1000000; omega) (fun e4 => by cases (good V hV).symm.trans e4) fun _ r2 h6 ow2 => ?_
      have hlen : (behind [(V : Int), 5] (rOs V)).length = 0 := by rw [rOs_behind_len hV 5]; omega
      refine onTup.ri ow2.kn.sc (c8 (onRet.i (onB.pos rfl (onO.mk ow2.kn.row.len (onB.dec (fun _ => ?_) (fun e4 => by rw [hlen] at e4; exact absurd rfl e4))))))
      refine onO.mk (sub64 (by omega) (by omega)) (onO.mk (add64 (by omega) (by omega)) (onO.mk (sub64 (by omega) (by omega)) (onO.mk (quo64 (by omega) (by omega) (by omega)) (onB.dec (fun _ => ?_) (fun e4 => ?_)))))
      · exact c9 (onRet.b rfl)
      · exact absurd (by omega) e4
end
end Go.Proofs.YtfadhndblgbcnaaAn
