/- What the functions that the law reaches come to, down to the law itself. -/
import Derived.Test.YtfadhndblgbcnaaBnF
import Derived.Test.YtfadhndblgbcnaaProg
set_option linter.unusedVariables false
set_option linter.unusedSimpArgs false
set_option maxRecDepth 100000
namespace Go.Proofs.YtfadhndblgbcnaaAn
open Go
/-- what 64 bits hold -/
def In64 (n : Int) : Prop := -9223372036854775808 ≤ n ∧ n < 9223372036854775808
namespace D
structure Stamp where
  time : Int
  rep : Int
deriving DecidableEq
def kStamp : Kn Stamp := Kn.iso (Kn.pair Kn.int Kn.int) fun s => (s.time, s.rep)
structure Op where
  stamp : Stamp
  seq : Int
  deps : List (Int)
  kind : Int
  node : Stamp
  parent : Stamp
  key : List Nat
  prop : Int
  value : Int
deriving DecidableEq
def kOp : Kn Op := Kn.iso (Kn.pair kStamp (Kn.pair Kn.int (Kn.pair (Kn.slice Kn.int 8) (Kn.pair Kn.int (Kn.pair kStamp (Kn.pair kStamp (Kn.pair Kn.str (Kn.pair Kn.int Kn.int)))))))) fun s => (s.stamp, s.seq, s.deps, s.kind, s.node, s.parent, s.key, s.prop, s.value)
structure SyncA where
  l : List (Op)
  v : List (Int)
  rep : Int
  dst : Int
  reps : Int
  next : Int
deriving DecidableEq
def kSyncA : Kn SyncA := Kn.iso (Kn.pair (Kn.slice kOp 120) (Kn.pair (Kn.slice Kn.int 8) (Kn.pair Kn.int (Kn.pair Kn.int (Kn.pair Kn.int Kn.int))))) fun s => (s.l, s.v, s.rep, s.dst, s.reps, s.next)
theorem oStamp : Opens Try.prog 28 kStamp := opens_struct (P := Try.prog) (t := 28) Try.underlying28 (by kernel_rfl) (by kernel_rfl) (opens_cons (opens_int (P := Try.prog) Try.underlying3) (opens_one (opens_int (P := Try.prog) Try.underlying3))) _ (fun a => ⟨a.1, a.2⟩) fun _ => rfl
theorem oOp : Opens Try.prog 30 kOp := opens_struct (P := Try.prog) (t := 30) Try.underlying30 (by kernel_rfl) (by kernel_rfl) (opens_cons oStamp (opens_cons (opens_int (P := Try.prog) Try.underlying3) (opens_cons (opens_slice (P := Try.prog) 8 Try.underlying23 (by kernel_rfl) (by decide) (by kernel_rfl) (opens_int (P := Try.prog) Try.underlying3)) (opens_cons (opens_int (P := Try.prog) Try.underlying3) (opens_cons oStamp (opens_cons oStamp (opens_cons (opens_string (P := Try.prog) Try.underlying9) (opens_cons (opens_int (P := Try.prog) Try.underlying3) (opens_one (opens_int (P := Try.prog) Try.underlying3)))))))))) _ (fun a => ⟨a.1, a.2.1, a.2.2.1, a.2.2.2.1, a.2.2.2.2.1, a.2.2.2.2.2.1, a.2.2.2.2.2.2.1, a.2.2.2.2.2.2.2.1, a.2.2.2.2.2.2.2.2⟩) fun _ => rfl
theorem oSyncA : Opens Try.prog 25 kSyncA := opens_struct (P := Try.prog) (t := 25) Try.underlying25 (by kernel_rfl) (by kernel_rfl) (opens_cons (opens_slice (P := Try.prog) 120 Try.underlying22 (by kernel_rfl) (by decide) (by kernel_rfl) oOp) (opens_cons (opens_slice (P := Try.prog) 8 Try.underlying23 (by kernel_rfl) (by decide) (by kernel_rfl) (opens_int (P := Try.prog) Try.underlying3)) (opens_cons (opens_int (P := Try.prog) Try.underlying3) (opens_cons (opens_int (P := Try.prog) Try.underlying3) (opens_cons (opens_int (P := Try.prog) Try.underlying3) (opens_one (opens_int (P := Try.prog) Try.underlying3))))))) _ (fun a => ⟨a.1, a.2.1, a.2.2.1, a.2.2.2.1, a.2.2.2.2.1, a.2.2.2.2.2⟩) fun _ => rfl
theorem kStamp_open {h : Hp} {s : Stamp} {cs : List AV} (k : kStamp.K h s cs) : cs = [.i .i64 s.time, .i .i64 s.rep] ∧ In64 s.time ∧ In64 s.rep := by
  obtain ⟨c0, r0, e0, q0, q1⟩ := k
  obtain ⟨z0, f0⟩ := q0
  obtain ⟨z1, f1⟩ := q1
  refine ⟨?_, f0, f1⟩
  rw [e0, z0, z1]; rfl
theorem kOp_open {h : Hp} {s : Op} {cs : List AV} (k : kOp.K h s cs) : ∃ a0, cs = [.i .i64 s.stamp.time, .i .i64 s.stamp.rep, .i .i64 s.seq, a0, .i .i64 s.kind, .i .i64 s.node.time, .i .i64 s.node.rep, .i .i64 s.parent.time, .i .i64 s.parent.rep, .s s.key, .i .i64 s.prop, .i .i64 s.value] ∧ In64 s.stamp.time ∧ In64 s.stamp.rep ∧ In64 s.seq ∧ (Kn.int.Row h a0 s.deps ∧ s.deps.length * 8 ≤ 140737488351232) ∧ In64 s.kind ∧ In64 s.node.time ∧ In64 s.node.rep ∧ In64 s.parent.time ∧ In64 s.parent.rep ∧ (s.key.length ≤ 140737488351232 ∧ ∀ x ∈ s.key, x < 256) ∧ In64 s.prop ∧ In64 s.value := by
  obtain ⟨c0, r0, e0, q0, c1, r1, e1, q1, c2, r2, e2, q2, c3, r3, e3, q3, c4, r4, e4, q4, c5, r5, e5, q5, c6, r6, e6, q6, c7, r7, e7, q7, q8⟩ := k
  obtain ⟨z0, f0_0, f0_1⟩ := kStamp_open q0
  obtain ⟨z1, f1⟩ := q1
  obtain ⟨b2, z2, f2⟩ := q2
  obtain ⟨z3, f3⟩ := q3
  obtain ⟨z4, f4_0, f4_1⟩ := kStamp_open q4
  obtain ⟨z5, f5_0, f5_1⟩ := kStamp_open q5
  obtain ⟨z6, f6⟩ := q6
  obtain ⟨z7, f7⟩ := q7
  obtain ⟨z8, f8⟩ := q8
  refine ⟨b2, ?_, f0_0, f0_1, f1, f2, f3, f4_0, f4_1, f5_0, f5_1, f6, f7, f8⟩
  rw [e0, z0, e1, z1, e2, z2, e3, z3, e4, z4, e5, z5, e6, z6, e7, z7, z8]; rfl
theorem kSyncA_open {h : Hp} {s : SyncA} {cs : List AV} (k : kSyncA.K h s cs) : ∃ a0 a1, cs = [a0, a1, .i .i64 s.rep, .i .i64 s.dst, .i .i64 s.reps, .i .i64 s.next] ∧ (kOp.Row h a0 s.l ∧ s.l.length * 120 ≤ 140737488351232) ∧ (Kn.int.Row h a1 s.v ∧ s.v.length * 8 ≤ 140737488351232) ∧ In64 s.rep ∧ In64 s.dst ∧ In64 s.reps ∧ In64 s.next := by
  obtain ⟨c0, r0, e0, q0, c1, r1, e1, q1, c2, r2, e2, q2, c3, r3, e3, q3, c4, r4, e4, q4, q5⟩ := k
  obtain ⟨b0, z0, f0⟩ := q0
  obtain ⟨b1, z1, f1⟩ := q1
  obtain ⟨z2, f2⟩ := q2
  obtain ⟨z3, f3⟩ := q3
  obtain ⟨z4, f4⟩ := q4
  obtain ⟨z5, f5⟩ := q5
  refine ⟨b0, b1, ?_, f0, f1, f2, f3, f4, f5⟩
  rw [e0, z0, e1, z1, e2, z2, e3, z3, e4, z4, z5]; rfl
end D
/- arras/prop.May -/
theorem vc52 (a : Int) (b : Int) (h : Hp) (Post : AV → Hp → Prop) : vcCall Try.prog [] 52 [(SV.ii .i64 a), (SV.ii .i64 b)] h Post = (
  wpC Try.prog 55 [AV.i IntKind.i64 a]
  (fun a0 h0 =>
    onRet [Sh.one Kd.bool] a0 fun c0 =>
      onB c0
        (wpC Try.prog 56 [AV.i IntKind.i64 a]
          (fun a1 h1 =>
            onRet [Sh.agg [Kd.int IntKind.i64, Kd.int IntKind.i64, Kd.int IntKind.i64, Kd.bool]] a1 fun n0 n1 n2 c1 =>
              onB (decide (n0 ≤ b))
                (wpC Try.prog 56 [AV.i IntKind.i64 a]
                  (fun a2 h2 => onRet [Sh.agg [Kd.int IntKind.i64, Kd.int IntKind.i64, Kd.int IntKind.i64, Kd.bool]] a2 fun n3 n4 n5 c2 => Post (AV.b (decide (b ≤ n4))) h2) h1)
                (Post (AV.b false) h1))
          h0)
        (Post (AV.b false) h0))
  h) := by kernel_rfl
/- arras/prop.Is -/
theorem vc55 (a : Int) (h : Hp) (Post : AV → Hp → Prop) : vcCall Try.prog [] 55 [(SV.ii .i64 a)] h Post = (
  onB (decide (0 ≤ a)) (Post (AV.b (decide (a < 19))) h) (Post (AV.b false) h)) := by kernel_rfl
/- arras/stamp.Is -/
theorem vc45 (a0 : Int) (a1 : Int) (h : Hp) (Post : AV → Hp → Prop) : vcCall Try.prog [] 45 [(SV.ag [(SV.ii .i64 a0), (SV.ii .i64 a1)])] h Post = (
  ∀ (p0 : Nat), onB (decide (1 ≤ a0)) (onB (decide (a0 ≤ 1099511627776)) (onB (decide (0 ≤ a1)) (Post (AV.b (decide (a1 < 16))) h) (Post (AV.b false) h)) (Post (AV.b false) h)) (Post (AV.b false) h)) := by kernel_rfl
/- arras/arrasref8.Check -/
theorem vc44 (a : Int) (b : Int) (h : Hp) (Post : AV → Hp → Prop) : vcCall Try.prog [] 44 [(SV.ii .i64 a), (SV.ii .i64 b)] h Post = (
  wpC Try.prog 49 [AV.i IntKind.i64 a]
  (fun a0 h0 =>
    onTup [Sh.one (Kd.int IntKind.i64), Sh.one (Kd.int IntKind.i64), Sh.one (Kd.int IntKind.i64), Sh.one Kd.bool] a0 fun n0 n1 n2 c0 =>
      onB (!c0) (Post (AV.i IntKind.i64 3) h0) (onB (decide (b < n0)) (Post (AV.i IntKind.i64 9) h0) (onB (decide (n1 < b)) (Post (AV.i IntKind.i64 9) h0) (Post (AV.i IntKind.i64 0) h0))))
  h) := by kernel_rfl
/- arras/arrasref6.Stamp -/
theorem vc41 (a0 : Int) (a1 : Int) (h : Hp) (Post : AV → Hp → Prop) : vcCall Try.prog [] 41 [(SV.ag [(SV.ii .i64 a0), (SV.ii .i64 a1)])] h Post = (
  ∀ (p0 : Nat),
  onB (decide (1 ≤ a0))
    (onB (decide (a0 ≤ 1099511627776)) (wpC Try.prog 31 [AV.i IntKind.i64 a1, AV.i IntKind.i64 15] (fun a0 h0 => onRet [Sh.one Kd.bool] a0 fun c0 => Post (AV.b c0) h0) h) (Post (AV.b false) h))
    (Post (AV.b false) h)) := by kernel_rfl
/- arras/arrasref0.Num -/
theorem vc31 (a : Int) (b : Int) (h : Hp) (Post : AV → Hp → Prop) : vcCall Try.prog [] 31 [(SV.ii .i64 a), (SV.ii .i64 b)] h Post = (
  onB (decide (0 ≤ a)) (Post (AV.b (decide (a ≤ b))) h) (Post (AV.b false) h)) := by kernel_rfl
/- arras/arrasref8.value -/
theorem vc49 (a : Int) (h : Hp) (Post : AV → Hp → Prop) : vcCall Try.prog [] 49 [(SV.ii .i64 a)] h Post = (
  onB (decide (a = 0)) (Post (AV.tup [AV.i IntKind.i64 0, AV.i IntKind.i64 2, AV.i IntKind.i64 0, AV.b true]) h)
  (onB (decide (a = 1))
    (onB (decide (a = 1)) (Post (AV.tup [AV.i IntKind.i64 0, AV.i IntKind.i64 1, AV.i IntKind.i64 0, AV.b true]) h)
      (onB (decide (a = 3))
        (onB (decide (a = 3)) (Post (AV.tup [AV.i IntKind.i64 (-1), AV.i IntKind.i64 1099511627776, AV.i IntKind.i64 (-1), AV.b true]) h)
          (onB (decide (a = 5))
            (onB (decide (a = 5)) (Post (AV.tup [AV.i IntKind.i64 0, AV.i IntKind.i64 1099511627776, AV.i IntKind.i64 0, AV.b true]) h)
              (onB (decide (a = 9)) (Post (AV.tup [AV.i IntKind.i64 0, AV.i IntKind.i64 1048576, AV.i IntKind.i64 0, AV.b true]) h)
                (onB (decide (a = 10)) (Post (AV.tup [AV.i IntKind.i64 0, AV.i IntKind.i64 1048576, AV.i IntKind.i64 1, AV.b true]) h)
                  (onB (decide (a = 12))
                    (onB (decide (a = 12)) (Post (AV.tup [AV.i IntKind.i64 0, AV.i IntKind.i64 1073741824, AV.i IntKind.i64 0, AV.b true]) h)
                      (onB (decide (a = 15)) (Post (AV.tup [AV.i IntKind.i64 0, AV.i IntKind.i64 4, AV.i IntKind.i64 0, AV.b true]) h)
                        (onB (decide (a = 16)) (Post (AV.tup [AV.i IntKind.i64 0, AV.i IntKind.i64 3, AV.i IntKind.i64 0, AV.b true]) h)
                          (onB (decide (a = 17)) (Post (AV.tup [AV.i IntKind.i64 0, AV.i IntKind.i64 16777215, AV.i IntKind.i64 0, AV.b true]) h)
                            (onB (decide (a = 18)) (Post (AV.tup [AV.i IntKind.i64 64, AV.i IntKind.i64 64000, AV.i IntKind.i64 1024, AV.b true]) h)
                              (Post (AV.tup [AV.i IntKind.i64 0, AV.i IntKind.i64 0, AV.i IntKind.i64 0, AV.b false]) h))))))
                    (onB (decide (a = 13))
                      (onB (decide (a = 13)) (Post (AV.tup [AV.i IntKind.i64 0, AV.i IntKind.i64 1073741824, AV.i IntKind.i64 0, AV.b true]) h)
                        (onB (decide (a = 15)) (Post (AV.tup [AV.i IntKind.i64 0, AV.i IntKind.i64 4, AV.i IntKind.i64 0, AV.b true]) h)
                          (onB (decide (a = 16)) (Post (AV.tup [AV.i IntKind.i64 0, AV.i IntKind.i64 3, AV.i IntKind.i64 0, AV.b true]) h)
                            (onB (decide (a = 17)) (Post (AV.tup [AV.i IntKind.i64 0, AV.i IntKind.i64 16777215, AV.i IntKind.i64 0, AV.b true]) h)
                              (onB (decide (a = 18)) (Post (AV.tup [AV.i IntKind.i64 64, AV.i IntKind.i64 64000, AV.i IntKind.i64 1024, AV.b true]) h)
                                (Post (AV.tup [AV.i IntKind.i64 0, AV.i IntKind.i64 0, AV.i IntKind.i64 0, AV.b false]) h))))))
                      (onB (decide (a = 14)) (Post (AV.tup [AV.i IntKind.i64 0, AV.i IntKind.i64 1073741824, AV.i IntKind.i64 0, AV.b true]) h)
                        (onB (decide (a = 15)) (Post (AV.tup [AV.i IntKind.i64 0, AV.i IntKind.i64 4, AV.i IntKind.i64 0, AV.b true]) h)
                          (onB (decide (a = 16)) (Post (AV.tup [AV.i IntKind.i64 0, AV.i IntKind.i64 3, AV.i IntKind.i64 0, AV.b true]) h)
                            (onB (decide (a = 17)) (Post (AV.tup [AV.i IntKind.i64 0, AV.i IntKind.i64 16777215, AV.i IntKind.i64 0, AV.b true]) h)
                              (onB (decide (a = 18)) (Post (AV.tup [AV.i IntKind.i64 64, AV.i IntKind.i64 64000, AV.i IntKind.i64 1024, AV.b true]) h)
                                (Post (AV.tup [AV.i IntKind.i64 0, AV.i IntKind.i64 0, AV.i IntKind.i64 0, AV.b false]) h)))))))))))
            (onB (decide (a = 7)) (Post (AV.tup [AV.i IntKind.i64 0, AV.i IntKind.i64 1099511627776, AV.i IntKind.i64 0, AV.b true]) h)
              (onB (decide (a = 9)) (Post (AV.tup [AV.i IntKind.i64 0, AV.i IntKind.i64 1048576, AV.i IntKind.i64 0, AV.b true]) h)
                (onB (decide (a = 10)) (Post (AV.tup [AV.i IntKind.i64 0, AV.i IntKind.i64 1048576, AV.i IntKind.i64 1, AV.b true]) h)
                  (onB (decide (a = 12))
                    (onB (decide (a = 12)) (Post (AV.tup [AV.i IntKind.i64 0, AV.i IntKind.i64 1073741824, AV.i IntKind.i64 0, AV.b true]) h)
                      (onB (decide (a = 15)) (Post (AV.tup [AV.i IntKind.i64 0, AV.i IntKind.i64 4, AV.i IntKind.i64 0, AV.b true]) h)
                        (onB (decide (a = 16)) (Post (AV.tup [AV.i IntKind.i64 0, AV.i IntKind.i64 3, AV.i IntKind.i64 0, AV.b true]) h)
                          (onB (decide (a = 17)) (Post (AV.tup [AV.i IntKind.i64 0, AV.i IntKind.i64 16777215, AV.i IntKind.i64 0, AV.b true]) h)
                            (onB (decide (a = 18)) (Post (AV.tup [AV.i IntKind.i64 64, AV.i IntKind.i64 64000, AV.i IntKind.i64 1024, AV.b true]) h)
                              (Post (AV.tup [AV.i IntKind.i64 0, AV.i IntKind.i64 0, AV.i IntKind.i64 0, AV.b false]) h))))))
                    (onB (decide (a = 13))
                      (onB (decide (a = 13)) (Post (AV.tup [AV.i IntKind.i64 0, AV.i IntKind.i64 1073741824, AV.i IntKind.i64 0, AV.b true]) h)
                        (onB (decide (a = 15)) (Post (AV.tup [AV.i IntKind.i64 0, AV.i IntKind.i64 4, AV.i IntKind.i64 0, AV.b true]) h)
                          (onB (decide (a = 16)) (Post (AV.tup [AV.i IntKind.i64 0, AV.i IntKind.i64 3, AV.i IntKind.i64 0, AV.b true]) h)
                            (onB (decide (a = 17)) (Post (AV.tup [AV.i IntKind.i64 0, AV.i IntKind.i64 16777215, AV.i IntKind.i64 0, AV.b true]) h)
                              (onB (decide (a = 18)) (Post (AV.tup [AV.i IntKind.i64 64, AV.i IntKind.i64 64000, AV.i IntKind.i64 1024, AV.b true]) h)
                                (Post (AV.tup [AV.i IntKind.i64 0, AV.i IntKind.i64 0, AV.i IntKind.i64 0, AV.b false]) h))))))
                      (onB (decide (a = 14)) (Post (AV.tup [AV.i IntKind.i64 0, AV.i IntKind.i64 1073741824, AV.i IntKind.i64 0, AV.b true]) h)
                        (onB (decide (a = 15)) (Post (AV.tup [AV.i IntKind.i64 0, AV.i IntKind.i64 4, AV.i IntKind.i64 0, AV.b true]) h)
                          (onB (decide (a = 16)) (Post (AV.tup [AV.i IntKind.i64 0, AV.i IntKind.i64 3, AV.i IntKind.i64 0, AV.b true]) h)
                            (onB (decide (a = 17)) (Post (AV.tup [AV.i IntKind.i64 0, AV.i IntKind.i64 16777215, AV.i IntKind.i64 0, AV.b true]) h)
                              (onB (decide (a = 18)) (Post (AV.tup [AV.i IntKind.i64 64, AV.i IntKind.i64 64000, AV.i IntKind.i64 1024, AV.b true]) h)
                                (Post (AV.tup [AV.i IntKind.i64 0, AV.i IntKind.i64 0, AV.i IntKind.i64 0, AV.b false]) h)))))))))))))
        (onB (decide (a = 4))
          (onB (decide (a = 4)) (Post (AV.tup [AV.i IntKind.i64 (-1), AV.i IntKind.i64 1099511627776, AV.i IntKind.i64 (-1), AV.b true]) h)
            (onB (decide (a = 5))
              (onB (decide (a = 5)) (Post (AV.tup [AV.i IntKind.i64 0, AV.i IntKind.i64 1099511627776, AV.i IntKind.i64 0, AV.b true]) h)
                (onB (decide (a = 9)) (Post (AV.tup [AV.i IntKind.i64 0, AV.i IntKind.i64 1048576, AV.i IntKind.i64 0, AV.b true]) h)
                  (onB (decide (a = 10)) (Post (AV.tup [AV.i IntKind.i64 0, AV.i IntKind.i64 1048576, AV.i IntKind.i64 1, AV.b true]) h)
                    (onB (decide (a = 12))
                      (onB (decide (a = 12)) (Post (AV.tup [AV.i IntKind.i64 0, AV.i IntKind.i64 1073741824, AV.i IntKind.i64 0, AV.b true]) h)
                        (onB (decide (a = 15)) (Post (AV.tup [AV.i IntKind.i64 0, AV.i IntKind.i64 4, AV.i IntKind.i64 0, AV.b true]) h)
                          (onB (decide (a = 16)) (Post (AV.tup [AV.i IntKind.i64 0, AV.i IntKind.i64 3, AV.i IntKind.i64 0, AV.b true]) h)
                            (onB (decide (a = 17)) (Post (AV.tup [AV.i IntKind.i64 0, AV.i IntKind.i64 16777215, AV.i IntKind.i64 0, AV.b true]) h)
                              (onB (decide (a = 18)) (Post (AV.tup [AV.i IntKind.i64 64, AV.i IntKind.i64 64000, AV.i IntKind.i64 1024, AV.b true]) h)
                                (Post (AV.tup [AV.i IntKind.i64 0, AV.i IntKind.i64 0, AV.i IntKind.i64 0, AV.b false]) h))))))
                      (onB (decide (a = 13))
                        (onB (decide (a = 13)) (Post (AV.tup [AV.i IntKind.i64 0, AV.i IntKind.i64 1073741824, AV.i IntKind.i64 0, AV.b true]) h)
                          (onB (decide (a = 15)) (Post (AV.tup [AV.i IntKind.i64 0, AV.i IntKind.i64 4, AV.i IntKind.i64 0, AV.b true]) h)
                            (onB (decide (a = 16)) (Post (AV.tup [AV.i IntKind.i64 0, AV.i IntKind.i64 3, AV.i IntKind.i64 0, AV.b true]) h)
                              (onB (decide (a = 17)) (Post (AV.tup [AV.i IntKind.i64 0, AV.i IntKind.i64 16777215, AV.i IntKind.i64 0, AV.b true]) h)
                                (onB (decide (a = 18)) (Post (AV.tup [AV.i IntKind.i64 64, AV.i IntKind.i64 64000, AV.i IntKind.i64 1024, AV.b true]) h)
                                  (Post (AV.tup [AV.i IntKind.i64 0, AV.i IntKind.i64 0, AV.i IntKind.i64 0, AV.b false]) h))))))
                        (onB (decide (a = 14)) (Post (AV.tup [AV.i IntKind.i64 0, AV.i IntKind.i64 1073741824, AV.i IntKind.i64 0, AV.b true]) h)
                          (onB (decide (a = 15)) (Post (AV.tup [AV.i IntKind.i64 0, AV.i IntKind.i64 4, AV.i IntKind.i64 0, AV.b true]) h)
                            (onB (decide (a = 16)) (Post (AV.tup [AV.i IntKind.i64 0, AV.i IntKind.i64 3, AV.i IntKind.i64 0, AV.b true]) h)
                              (onB (decide (a = 17)) (Post (AV.tup [AV.i IntKind.i64 0, AV.i IntKind.i64 16777215, AV.i IntKind.i64 0, AV.b true]) h)
                                (onB (decide (a = 18)) (Post (AV.tup [AV.i IntKind.i64 64, AV.i IntKind.i64 64000, AV.i IntKind.i64 1024, AV.b true]) h)
                                  (Post (AV.tup [AV.i IntKind.i64 0, AV.i IntKind.i64 0, AV.i IntKind.i64 0, AV.b false]) h)))))))))))
              (onB (decide (a = 7)) (Post (AV.tup [AV.i IntKind.i64 0, AV.i IntKind.i64 1099511627776, AV.i IntKind.i64 0, AV.b true]) h)
                (onB (decide (a = 9)) (Post (AV.tup [AV.i IntKind.i64 0, AV.i IntKind.i64 1048576, AV.i IntKind.i64 0, AV.b true]) h)
                  (onB (decide (a = 10)) (Post (AV.tup [AV.i IntKind.i64 0, AV.i IntKind.i64 1048576, AV.i IntKind.i64 1, AV.b true]) h)
                    (onB (decide (a = 12))
                      (onB (decide (a = 12)) (Post (AV.tup [AV.i IntKind.i64 0, AV.i IntKind.i64 1073741824, AV.i IntKind.i64 0, AV.b true]) h)
                        (onB (decide (a = 15)) (Post (AV.tup [AV.i IntKind.i64 0, AV.i IntKind.i64 4, AV.i IntKind.i64 0, AV.b true]) h)
                          (onB (decide (a = 16)) (Post (AV.tup [AV.i IntKind.i64 0, AV.i IntKind.i64 3, AV.i IntKind.i64 0, AV.b true]) h)
                            (onB (decide (a = 17)) (Post (AV.tup [AV.i IntKind.i64 0, AV.i IntKind.i64 16777215, AV.i IntKind.i64 0, AV.b true]) h)
                              (onB (decide (a = 18)) (Post (AV.tup [AV.i IntKind.i64 64, AV.i IntKind.i64 64000, AV.i IntKind.i64 1024, AV.b true]) h)
                                (Post (AV.tup [AV.i IntKind.i64 0, AV.i IntKind.i64 0, AV.i IntKind.i64 0, AV.b false]) h))))))
                      (onB (decide (a = 13))
                        (onB (decide (a = 13)) (Post (AV.tup [AV.i IntKind.i64 0, AV.i IntKind.i64 1073741824, AV.i IntKind.i64 0, AV.b true]) h)
                          (onB (decide (a = 15)) (Post (AV.tup [AV.i IntKind.i64 0, AV.i IntKind.i64 4, AV.i IntKind.i64 0, AV.b true]) h)
                            (onB (decide (a = 16)) (Post (AV.tup [AV.i IntKind.i64 0, AV.i IntKind.i64 3, AV.i IntKind.i64 0, AV.b true]) h)
                              (onB (decide (a = 17)) (Post (AV.tup [AV.i IntKind.i64 0, AV.i IntKind.i64 16777215, AV.i IntKind.i64 0, AV.b true]) h)
                                (onB (decide (a = 18)) (Post (AV.tup [AV.i IntKind.i64 64, AV.i IntKind.i64 64000, AV.i IntKind.i64 1024, AV.b true]) h)
                                  (Post (AV.tup [AV.i IntKind.i64 0, AV.i IntKind.i64 0, AV.i IntKind.i64 0, AV.b false]) h))))))
                        (onB (decide (a = 14)) (Post (AV.tup [AV.i IntKind.i64 0, AV.i IntKind.i64 1073741824, AV.i IntKind.i64 0, AV.b true]) h)
                          (onB (decide (a = 15)) (Post (AV.tup [AV.i IntKind.i64 0, AV.i IntKind.i64 4, AV.i IntKind.i64 0, AV.b true]) h)
                            (onB (decide (a = 16)) (Post (AV.tup [AV.i IntKind.i64 0, AV.i IntKind.i64 3, AV.i IntKind.i64 0, AV.b true]) h)
                              (onB (decide (a = 17)) (Post (AV.tup [AV.i IntKind.i64 0, AV.i IntKind.i64 16777215, AV.i IntKind.i64 0, AV.b true]) h)
                                (onB (decide (a = 18)) (Post (AV.tup [AV.i IntKind.i64 64, AV.i IntKind.i64 64000, AV.i IntKind.i64 1024, AV.b true]) h)
                                  (Post (AV.tup [AV.i IntKind.i64 0, AV.i IntKind.i64 0, AV.i IntKind.i64 0, AV.b false]) h)))))))))))))
          (onB (decide (a = 6))
            (onB (decide (a = 6)) (Post (AV.tup [AV.i IntKind.i64 (-1), AV.i IntKind.i64 1099511627776, AV.i IntKind.i64 (-1), AV.b true]) h)
              (onB (decide (a = 5))
                (onB (decide (a = 5)) (Post (AV.tup [AV.i IntKind.i64 0, AV.i IntKind.i64 1099511627776, AV.i IntKind.i64 0, AV.b true]) h)
                  (onB (decide (a = 9)) (Post (AV.tup [AV.i IntKind.i64 0, AV.i IntKind.i64 1048576, AV.i IntKind.i64 0, AV.b true]) h)
                    (onB (decide (a = 10)) (Post (AV.tup [AV.i IntKind.i64 0, AV.i IntKind.i64 1048576, AV.i IntKind.i64 1, AV.b true]) h)
                      (onB (decide (a = 12))
                        (onB (decide (a = 12)) (Post (AV.tup [AV.i IntKind.i64 0, AV.i IntKind.i64 1073741824, AV.i IntKind.i64 0, AV.b true]) h)
                          (onB (decide (a = 15)) (Post (AV.tup [AV.i IntKind.i64 0, AV.i IntKind.i64 4, AV.i IntKind.i64 0, AV.b true]) h)
                            (onB (decide (a = 16)) (Post (AV.tup [AV.i IntKind.i64 0, AV.i IntKind.i64 3, AV.i IntKind.i64 0, AV.b true]) h)
                              (onB (decide (a = 17)) (Post (AV.tup [AV.i IntKind.i64 0, AV.i IntKind.i64 16777215, AV.i IntKind.i64 0, AV.b true]) h)
                                (onB (decide (a = 18)) (Post (AV.tup [AV.i IntKind.i64 64, AV.i IntKind.i64 64000, AV.i IntKind.i64 1024, AV.b true]) h)
                                  (Post (AV.tup [AV.i IntKind.i64 0, AV.i IntKind.i64 0, AV.i IntKind.i64 0, AV.b false]) h))))))
                        (onB (decide (a = 13))
                          (onB (decide (a = 13)) (Post (AV.tup [AV.i IntKind.i64 0, AV.i IntKind.i64 1073741824, AV.i IntKind.i64 0, AV.b true]) h)
                            (onB (decide (a = 15)) (Post (AV.tup [AV.i IntKind.i64 0, AV.i IntKind.i64 4, AV.i IntKind.i64 0, AV.b true]) h)
                              (onB (decide (a = 16)) (Post (AV.tup [AV.i IntKind.i64 0, AV.i IntKind.i64 3, AV.i IntKind.i64 0, AV.b true]) h)
                                (onB (decide (a = 17)) (Post (AV.tup [AV.i IntKind.i64 0, AV.i IntKind.i64 16777215, AV.i IntKind.i64 0, AV.b true]) h)
                                  (onB (decide (a = 18)) (Post (AV.tup [AV.i IntKind.i64 64, AV.i IntKind.i64 64000, AV.i IntKind.i64 1024, AV.b true]) h)
                                    (Post (AV.tup [AV.i IntKind.i64 0, AV.i IntKind.i64 0, AV.i IntKind.i64 0, AV.b false]) h))))))
                          (onB (decide (a = 14)) (Post (AV.tup [AV.i IntKind.i64 0, AV.i IntKind.i64 1073741824, AV.i IntKind.i64 0, AV.b true]) h)
                            (onB (decide (a = 15)) (Post (AV.tup [AV.i IntKind.i64 0, AV.i IntKind.i64 4, AV.i IntKind.i64 0, AV.b true]) h)
                              (onB (decide (a = 16)) (Post (AV.tup [AV.i IntKind.i64 0, AV.i IntKind.i64 3, AV.i IntKind.i64 0, AV.b true]) h)
                                (onB (decide (a = 17)) (Post (AV.tup [AV.i IntKind.i64 0, AV.i IntKind.i64 16777215, AV.i IntKind.i64 0, AV.b true]) h)
                                  (onB (decide (a = 18)) (Post (AV.tup [AV.i IntKind.i64 64, AV.i IntKind.i64 64000, AV.i IntKind.i64 1024, AV.b true]) h)
                                    (Post (AV.tup [AV.i IntKind.i64 0, AV.i IntKind.i64 0, AV.i IntKind.i64 0, AV.b false]) h)))))))))))
                (onB (decide (a = 7)) (Post (AV.tup [AV.i IntKind.i64 0, AV.i IntKind.i64 1099511627776, AV.i IntKind.i64 0, AV.b true]) h)
                  (onB (decide (a = 9)) (Post (AV.tup [AV.i IntKind.i64 0, AV.i IntKind.i64 1048576, AV.i IntKind.i64 0, AV.b true]) h)
                    (onB (decide (a = 10)) (Post (AV.tup [AV.i IntKind.i64 0, AV.i IntKind.i64 1048576, AV.i IntKind.i64 1, AV.b true]) h)
                      (onB (decide (a = 12))
                        (onB (decide (a = 12)) (Post (AV.tup [AV.i IntKind.i64 0, AV.i IntKind.i64 1073741824, AV.i IntKind.i64 0, AV.b true]) h)
                          (onB (decide (a = 15)) (Post (AV.tup [AV.i IntKind.i64 0, AV.i IntKind.i64 4, AV.i IntKind.i64 0, AV.b true]) h)
                            (onB (decide (a = 16)) (Post (AV.tup [AV.i IntKind.i64 0, AV.i IntKind.i64 3, AV.i IntKind.i64 0, AV.b true]) h)
                              (onB (decide (a = 17)) (Post (AV.tup [AV.i IntKind.i64 0, AV.i IntKind.i64 16777215, AV.i IntKind.i64 0, AV.b true]) h)
                                (onB (decide (a = 18)) (Post (AV.tup [AV.i IntKind.i64 64, AV.i IntKind.i64 64000, AV.i IntKind.i64 1024, AV.b true]) h)
                                  (Post (AV.tup [AV.i IntKind.i64 0, AV.i IntKind.i64 0, AV.i IntKind.i64 0, AV.b false]) h))))))
                        (onB (decide (a = 13))
                          (onB (decide (a = 13)) (Post (AV.tup [AV.i IntKind.i64 0, AV.i IntKind.i64 1073741824, AV.i IntKind.i64 0, AV.b true]) h)
                            (onB (decide (a = 15)) (Post (AV.tup [AV.i IntKind.i64 0, AV.i IntKind.i64 4, AV.i IntKind.i64 0, AV.b true]) h)
                              (onB (decide (a = 16)) (Post (AV.tup [AV.i IntKind.i64 0, AV.i IntKind.i64 3, AV.i IntKind.i64 0, AV.b true]) h)
                                (onB (decide (a = 17)) (Post (AV.tup [AV.i IntKind.i64 0, AV.i IntKind.i64 16777215, AV.i IntKind.i64 0, AV.b true]) h)
                                  (onB (decide (a = 18)) (Post (AV.tup [AV.i IntKind.i64 64, AV.i IntKind.i64 64000, AV.i IntKind.i64 1024, AV.b true]) h)
                                    (Post (AV.tup [AV.i IntKind.i64 0, AV.i IntKind.i64 0, AV.i IntKind.i64 0, AV.b false]) h))))))
                          (onB (decide (a = 14)) (Post (AV.tup [AV.i IntKind.i64 0, AV.i IntKind.i64 1073741824, AV.i IntKind.i64 0, AV.b true]) h)
                            (onB (decide (a = 15)) (Post (AV.tup [AV.i IntKind.i64 0, AV.i IntKind.i64 4, AV.i IntKind.i64 0, AV.b true]) h)
                              (onB (decide (a = 16)) (Post (AV.tup [AV.i IntKind.i64 0, AV.i IntKind.i64 3, AV.i IntKind.i64 0, AV.b true]) h)
                                (onB (decide (a = 17)) (Post (AV.tup [AV.i IntKind.i64 0, AV.i IntKind.i64 16777215, AV.i IntKind.i64 0, AV.b true]) h)
                                  (onB (decide (a = 18)) (Post (AV.tup [AV.i IntKind.i64 64, AV.i IntKind.i64 64000, AV.i IntKind.i64 1024, AV.b true]) h)
                                    (Post (AV.tup [AV.i IntKind.i64 0, AV.i IntKind.i64 0, AV.i IntKind.i64 0, AV.b false]) h)))))))))))))
            (onB (decide (a = 8))
              (onB (decide (a = 8)) (Post (AV.tup [AV.i IntKind.i64 (-1), AV.i IntKind.i64 1099511627776, AV.i IntKind.i64 (-1), AV.b true]) h)
                (onB (decide (a = 5))
                  (onB (decide (a = 5)) (Post (AV.tup [AV.i IntKind.i64 0, AV.i IntKind.i64 1099511627776, AV.i IntKind.i64 0, AV.b true]) h)
                    (onB (decide (a = 9)) (Post (AV.tup [AV.i IntKind.i64 0, AV.i IntKind.i64 1048576, AV.i IntKind.i64 0, AV.b true]) h)
                      (onB (decide (a = 10)) (Post (AV.tup [AV.i IntKind.i64 0, AV.i IntKind.i64 1048576, AV.i IntKind.i64 1, AV.b true]) h)
                        (onB (decide (a = 12))
                          (onB (decide (a = 12)) (Post (AV.tup [AV.i IntKind.i64 0, AV.i IntKind.i64 1073741824, AV.i IntKind.i64 0, AV.b true]) h)
                            (onB (decide (a = 15)) (Post (AV.tup [AV.i IntKind.i64 0, AV.i IntKind.i64 4, AV.i IntKind.i64 0, AV.b true]) h)
                              (onB (decide (a = 16)) (Post (AV.tup [AV.i IntKind.i64 0, AV.i IntKind.i64 3, AV.i IntKind.i64 0, AV.b true]) h)
                                (onB (decide (a = 17)) (Post (AV.tup [AV.i IntKind.i64 0, AV.i IntKind.i64 16777215, AV.i IntKind.i64 0, AV.b true]) h)
                                  (onB (decide (a = 18)) (Post (AV.tup [AV.i IntKind.i64 64, AV.i IntKind.i64 64000, AV.i IntKind.i64 1024, AV.b true]) h)
                                    (Post (AV.tup [AV.i IntKind.i64 0, AV.i IntKind.i64 0, AV.i IntKind.i64 0, AV.b false]) h))))))
                          (onB (decide (a = 13))
                            (onB (decide (a = 13)) (Post (AV.tup [AV.i IntKind.i64 0, AV.i IntKind.i64 1073741824, AV.i IntKind.i64 0, AV.b true]) h)
                              (onB (decide (a = 15)) (Post (AV.tup [AV.i IntKind.i64 0, AV.i IntKind.i64 4, AV.i IntKind.i64 0, AV.b true]) h)
                                (onB (decide (a = 16)) (Post (AV.tup [AV.i IntKind.i64 0, AV.i IntKind.i64 3, AV.i IntKind.i64 0, AV.b true]) h)
                                  (onB (decide (a = 17)) (Post (AV.tup [AV.i IntKind.i64 0, AV.i IntKind.i64 16777215, AV.i IntKind.i64 0, AV.b true]) h)
                                    (onB (decide (a = 18)) (Post (AV.tup [AV.i IntKind.i64 64, AV.i IntKind.i64 64000, AV.i IntKind.i64 1024, AV.b true]) h)
                                      (Post (AV.tup [AV.i IntKind.i64 0, AV.i IntKind.i64 0, AV.i IntKind.i64 0, AV.b false]) h))))))
                            (onB (decide (a = 14)) (Post (AV.tup [AV.i IntKind.i64 0, AV.i IntKind.i64 1073741824, AV.i IntKind.i64 0, AV.b true]) h)
                              (onB (decide (a = 15)) (Post (AV.tup [AV.i IntKind.i64 0, AV.i IntKind.i64 4, AV.i IntKind.i64 0, AV.b true]) h)
                                (onB (decide (a = 16)) (Post (AV.tup [AV.i IntKind.i64 0, AV.i IntKind.i64 3, AV.i IntKind.i64 0, AV.b true]) h)
                                  (onB (decide (a = 17)) (Post (AV.tup [AV.i IntKind.i64 0, AV.i IntKind.i64 16777215, AV.i IntKind.i64 0, AV.b true]) h)
                                    (onB (decide (a = 18)) (Post (AV.tup [AV.i IntKind.i64 64, AV.i IntKind.i64 64000, AV.i IntKind.i64 1024, AV.b true]) h)
                                      (Post (AV.tup [AV.i IntKind.i64 0, AV.i IntKind.i64 0, AV.i IntKind.i64 0, AV.b false]) h)))))))))))
                  (onB (decide (a = 7)) (Post (AV.tup [AV.i IntKind.i64 0, AV.i IntKind.i64 1099511627776, AV.i IntKind.i64 0, AV.b true]) h)
                    (onB (decide (a = 9)) (Post (AV.tup [AV.i IntKind.i64 0, AV.i IntKind.i64 1048576, AV.i IntKind.i64 0, AV.b true]) h)
                      (onB (decide (a = 10)) (Post (AV.tup [AV.i IntKind.i64 0, AV.i IntKind.i64 1048576, AV.i IntKind.i64 1, AV.b true]) h)
                        (onB (decide (a = 12))
                          (onB (decide (a = 12)) (Post (AV.tup [AV.i IntKind.i64 0, AV.i IntKind.i64 1073741824, AV.i IntKind.i64 0, AV.b true]) h)
                            (onB (decide (a = 15)) (Post (AV.tup [AV.i IntKind.i64 0, AV.i IntKind.i64 4, AV.i IntKind.i64 0, AV.b true]) h)
                              (onB (decide (a = 16)) (Post (AV.tup [AV.i IntKind.i64 0, AV.i IntKind.i64 3, AV.i IntKind.i64 0, AV.b true]) h)
                                (onB (decide (a = 17)) (Post (AV.tup [AV.i IntKind.i64 0, AV.i IntKind.i64 16777215, AV.i IntKind.i64 0, AV.b true]) h)
                                  (onB (decide (a = 18)) (Post (AV.tup [AV.i IntKind.i64 64, AV.i IntKind.i64 64000, AV.i IntKind.i64 1024, AV.b true]) h)
                                    (Post (AV.tup [AV.i IntKind.i64 0, AV.i IntKind.i64 0, AV.i IntKind.i64 0, AV.b false]) h))))))
                          (onB (decide (a = 13))
                            (onB (decide (a = 13)) (Post (AV.tup [AV.i IntKind.i64 0, AV.i IntKind.i64 1073741824, AV.i IntKind.i64 0, AV.b true]) h)
                              (onB (decide (a = 15)) (Post (AV.tup [AV.i IntKind.i64 0, AV.i IntKind.i64 4, AV.i IntKind.i64 0, AV.b true]) h)
                                (onB (decide (a = 16)) (Post (AV.tup [AV.i IntKind.i64 0, AV.i IntKind.i64 3, AV.i IntKind.i64 0, AV.b true]) h)
                                  (onB (decide (a = 17)) (Post (AV.tup [AV.i IntKind.i64 0, AV.i IntKind.i64 16777215, AV.i IntKind.i64 0, AV.b true]) h)
                                    (onB (decide (a = 18)) (Post (AV.tup [AV.i IntKind.i64 64, AV.i IntKind.i64 64000, AV.i IntKind.i64 1024, AV.b true]) h)
                                      (Post (AV.tup [AV.i IntKind.i64 0, AV.i IntKind.i64 0, AV.i IntKind.i64 0, AV.b false]) h))))))
                            (onB (decide (a = 14)) (Post (AV.tup [AV.i IntKind.i64 0, AV.i IntKind.i64 1073741824, AV.i IntKind.i64 0, AV.b true]) h)
                              (onB (decide (a = 15)) (Post (AV.tup [AV.i IntKind.i64 0, AV.i IntKind.i64 4, AV.i IntKind.i64 0, AV.b true]) h)
                                (onB (decide (a = 16)) (Post (AV.tup [AV.i IntKind.i64 0, AV.i IntKind.i64 3, AV.i IntKind.i64 0, AV.b true]) h)
                                  (onB (decide (a = 17)) (Post (AV.tup [AV.i IntKind.i64 0, AV.i IntKind.i64 16777215, AV.i IntKind.i64 0, AV.b true]) h)
                                    (onB (decide (a = 18)) (Post (AV.tup [AV.i IntKind.i64 64, AV.i IntKind.i64 64000, AV.i IntKind.i64 1024, AV.b true]) h)
                                      (Post (AV.tup [AV.i IntKind.i64 0, AV.i IntKind.i64 0, AV.i IntKind.i64 0, AV.b false]) h)))))))))))))
              (onB (decide (a = 11)) (Post (AV.tup [AV.i IntKind.i64 (-1), AV.i IntKind.i64 1099511627776, AV.i IntKind.i64 (-1), AV.b true]) h)
                (onB (decide (a = 5))
                  (onB (decide (a = 5)) (Post (AV.tup [AV.i IntKind.i64 0, AV.i IntKind.i64 1099511627776, AV.i IntKind.i64 0, AV.b true]) h)
                    (onB (decide (a = 9)) (Post (AV.tup [AV.i IntKind.i64 0, AV.i IntKind.i64 1048576, AV.i IntKind.i64 0, AV.b true]) h)
                      (onB (decide (a = 10)) (Post (AV.tup [AV.i IntKind.i64 0, AV.i IntKind.i64 1048576, AV.i IntKind.i64 1, AV.b true]) h)
                        (onB (decide (a = 12))
                          (onB (decide (a = 12)) (Post (AV.tup [AV.i IntKind.i64 0, AV.i IntKind.i64 1073741824, AV.i IntKind.i64 0, AV.b true]) h)
                            (onB (decide (a = 15)) (Post (AV.tup [AV.i IntKind.i64 0, AV.i IntKind.i64 4, AV.i IntKind.i64 0, AV.b true]) h)
                              (onB (decide (a = 16)) (Post (AV.tup [AV.i IntKind.i64 0, AV.i IntKind.i64 3, AV.i IntKind.i64 0, AV.b true]) h)
                                (onB (decide (a = 17)) (Post (AV.tup [AV.i IntKind.i64 0, AV.i IntKind.i64 16777215, AV.i IntKind.i64 0, AV.b true]) h)
                                  (onB (decide (a = 18)) (Post (AV.tup [AV.i IntKind.i64 64, AV.i IntKind.i64 64000, AV.i IntKind.i64 1024, AV.b true]) h)
                                    (Post (AV.tup [AV.i IntKind.i64 0, AV.i IntKind.i64 0, AV.i IntKind.i64 0, AV.b false]) h))))))
                          (onB (decide (a = 13))
                            (onB (decide (a = 13)) (Post (AV.tup [AV.i IntKind.i64 0, AV.i IntKind.i64 1073741824, AV.i IntKind.i64 0, AV.b true]) h)
                              (onB (decide (a = 15)) (Post (AV.tup [AV.i IntKind.i64 0, AV.i IntKind.i64 4, AV.i IntKind.i64 0, AV.b true]) h)
                                (onB (decide (a = 16)) (Post (AV.tup [AV.i IntKind.i64 0, AV.i IntKind.i64 3, AV.i IntKind.i64 0, AV.b true]) h)
                                  (onB (decide (a = 17)) (Post (AV.tup [AV.i IntKind.i64 0, AV.i IntKind.i64 16777215, AV.i IntKind.i64 0, AV.b true]) h)
                                    (onB (decide (a = 18)) (Post (AV.tup [AV.i IntKind.i64 64, AV.i IntKind.i64 64000, AV.i IntKind.i64 1024, AV.b true]) h)
                                      (Post (AV.tup [AV.i IntKind.i64 0, AV.i IntKind.i64 0, AV.i IntKind.i64 0, AV.b false]) h))))))
                            (onB (decide (a = 14)) (Post (AV.tup [AV.i IntKind.i64 0, AV.i IntKind.i64 1073741824, AV.i IntKind.i64 0, AV.b true]) h)
                              (onB (decide (a = 15)) (Post (AV.tup [AV.i IntKind.i64 0, AV.i IntKind.i64 4, AV.i IntKind.i64 0, AV.b true]) h)
                                (onB (decide (a = 16)) (Post (AV.tup [AV.i IntKind.i64 0, AV.i IntKind.i64 3, AV.i IntKind.i64 0, AV.b true]) h)
                                  (onB (decide (a = 17)) (Post (AV.tup [AV.i IntKind.i64 0, AV.i IntKind.i64 16777215, AV.i IntKind.i64 0, AV.b true]) h)
                                    (onB (decide (a = 18)) (Post (AV.tup [AV.i IntKind.i64 64, AV.i IntKind.i64 64000, AV.i IntKind.i64 1024, AV.b true]) h)
                                      (Post (AV.tup [AV.i IntKind.i64 0, AV.i IntKind.i64 0, AV.i IntKind.i64 0, AV.b false]) h)))))))))))
                  (onB (decide (a = 7)) (Post (AV.tup [AV.i IntKind.i64 0, AV.i IntKind.i64 1099511627776, AV.i IntKind.i64 0, AV.b true]) h)
                    (onB (decide (a = 9)) (Post (AV.tup [AV.i IntKind.i64 0, AV.i IntKind.i64 1048576, AV.i IntKind.i64 0, AV.b true]) h)
                      (onB (decide (a = 10)) (Post (AV.tup [AV.i IntKind.i64 0, AV.i IntKind.i64 1048576, AV.i IntKind.i64 1, AV.b true]) h)
                        (onB (decide (a = 12))
                          (onB (decide (a = 12)) (Post (AV.tup [AV.i IntKind.i64 0, AV.i IntKind.i64 1073741824, AV.i IntKind.i64 0, AV.b true]) h)
                            (onB (decide (a = 15)) (Post (AV.tup [AV.i IntKind.i64 0, AV.i IntKind.i64 4, AV.i IntKind.i64 0, AV.b true]) h)
                              (onB (decide (a = 16)) (Post (AV.tup [AV.i IntKind.i64 0, AV.i IntKind.i64 3, AV.i IntKind.i64 0, AV.b true]) h)
                                (onB (decide (a = 17)) (Post (AV.tup [AV.i IntKind.i64 0, AV.i IntKind.i64 16777215, AV.i IntKind.i64 0, AV.b true]) h)
                                  (onB (decide (a = 18)) (Post (AV.tup [AV.i IntKind.i64 64, AV.i IntKind.i64 64000, AV.i IntKind.i64 1024, AV.b true]) h)
                                    (Post (AV.tup [AV.i IntKind.i64 0, AV.i IntKind.i64 0, AV.i IntKind.i64 0, AV.b false]) h))))))
                          (onB (decide (a = 13))
                            (onB (decide (a = 13)) (Post (AV.tup [AV.i IntKind.i64 0, AV.i IntKind.i64 1073741824, AV.i IntKind.i64 0, AV.b true]) h)
                              (onB (decide (a = 15)) (Post (AV.tup [AV.i IntKind.i64 0, AV.i IntKind.i64 4, AV.i IntKind.i64 0, AV.b true]) h)
                                (onB (decide (a = 16)) (Post (AV.tup [AV.i IntKind.i64 0, AV.i IntKind.i64 3, AV.i IntKind.i64 0, AV.b true]) h)
                                  (onB (decide (a = 17)) (Post (AV.tup [AV.i IntKind.i64 0, AV.i IntKind.i64 16777215, AV.i IntKind.i64 0, AV.b true]) h)
                                    (onB (decide (a = 18)) (Post (AV.tup [AV.i IntKind.i64 64, AV.i IntKind.i64 64000, AV.i IntKind.i64 1024, AV.b true]) h)
                                      (Post (AV.tup [AV.i IntKind.i64 0, AV.i IntKind.i64 0, AV.i IntKind.i64 0, AV.b false]) h))))))
                            (onB (decide (a = 14)) (Post (AV.tup [AV.i IntKind.i64 0, AV.i IntKind.i64 1073741824, AV.i IntKind.i64 0, AV.b true]) h)
                              (onB (decide (a = 15)) (Post (AV.tup [AV.i IntKind.i64 0, AV.i IntKind.i64 4, AV.i IntKind.i64 0, AV.b true]) h)
                                (onB (decide (a = 16)) (Post (AV.tup [AV.i IntKind.i64 0, AV.i IntKind.i64 3, AV.i IntKind.i64 0, AV.b true]) h)
                                  (onB (decide (a = 17)) (Post (AV.tup [AV.i IntKind.i64 0, AV.i IntKind.i64 16777215, AV.i IntKind.i64 0, AV.b true]) h)
                                    (onB (decide (a = 18)) (Post (AV.tup [AV.i IntKind.i64 64, AV.i IntKind.i64 64000, AV.i IntKind.i64 1024, AV.b true]) h)
                                      (Post (AV.tup [AV.i IntKind.i64 0, AV.i IntKind.i64 0, AV.i IntKind.i64 0, AV.b false]) h))))))))))))))))))
    (onB (decide (a = 2)) (Post (AV.tup [AV.i IntKind.i64 0, AV.i IntKind.i64 1, AV.i IntKind.i64 0, AV.b true]) h)
      (onB (decide (a = 3))
        (onB (decide (a = 3)) (Post (AV.tup [AV.i IntKind.i64 (-1), AV.i IntKind.i64 1099511627776, AV.i IntKind.i64 (-1), AV.b true]) h)
          (onB (decide (a = 5))
            (onB (decide (a = 5)) (Post (AV.tup [AV.i IntKind.i64 0, AV.i IntKind.i64 1099511627776, AV.i IntKind.i64 0, AV.b true]) h)
              (onB (decide (a = 9)) (Post (AV.tup [AV.i IntKind.i64 0, AV.i IntKind.i64 1048576, AV.i IntKind.i64 0, AV.b true]) h)
                (onB (decide (a = 10)) (Post (AV.tup [AV.i IntKind.i64 0, AV.i IntKind.i64 1048576, AV.i IntKind.i64 1, AV.b true]) h)
                  (onB (decide (a = 12))
                    (onB (decide (a = 12)) (Post (AV.tup [AV.i IntKind.i64 0, AV.i IntKind.i64 1073741824, AV.i IntKind.i64 0, AV.b true]) h)
                      (onB (decide (a = 15)) (Post (AV.tup [AV.i IntKind.i64 0, AV.i IntKind.i64 4, AV.i IntKind.i64 0, AV.b true]) h)
                        (onB (decide (a = 16)) (Post (AV.tup [AV.i IntKind.i64 0, AV.i IntKind.i64 3, AV.i IntKind.i64 0, AV.b true]) h)
                          (onB (decide (a = 17)) (Post (AV.tup [AV.i IntKind.i64 0, AV.i IntKind.i64 16777215, AV.i IntKind.i64 0, AV.b true]) h)
                            (onB (decide (a = 18)) (Post (AV.tup [AV.i IntKind.i64 64, AV.i IntKind.i64 64000, AV.i IntKind.i64 1024, AV.b true]) h)
                              (Post (AV.tup [AV.i IntKind.i64 0, AV.i IntKind.i64 0, AV.i IntKind.i64 0, AV.b false]) h))))))
                    (onB (decide (a = 13))
                      (onB (decide (a = 13)) (Post (AV.tup [AV.i IntKind.i64 0, AV.i IntKind.i64 1073741824, AV.i IntKind.i64 0, AV.b true]) h)
                        (onB (decide (a = 15)) (Post (AV.tup [AV.i IntKind.i64 0, AV.i IntKind.i64 4, AV.i IntKind.i64 0, AV.b true]) h)
                          (onB (decide (a = 16)) (Post (AV.tup [AV.i IntKind.i64 0, AV.i IntKind.i64 3, AV.i IntKind.i64 0, AV.b true]) h)
                            (onB (decide (a = 17)) (Post (AV.tup [AV.i IntKind.i64 0, AV.i IntKind.i64 16777215, AV.i IntKind.i64 0, AV.b true]) h)
                              (onB (decide (a = 18)) (Post (AV.tup [AV.i IntKind.i64 64, AV.i IntKind.i64 64000, AV.i IntKind.i64 1024, AV.b true]) h)
                                (Post (AV.tup [AV.i IntKind.i64 0, AV.i IntKind.i64 0, AV.i IntKind.i64 0, AV.b false]) h))))))
                      (onB (decide (a = 14)) (Post (AV.tup [AV.i IntKind.i64 0, AV.i IntKind.i64 1073741824, AV.i IntKind.i64 0, AV.b true]) h)
                        (onB (decide (a = 15)) (Post (AV.tup [AV.i IntKind.i64 0, AV.i IntKind.i64 4, AV.i IntKind.i64 0, AV.b true]) h)
                          (onB (decide (a = 16)) (Post (AV.tup [AV.i IntKind.i64 0, AV.i IntKind.i64 3, AV.i IntKind.i64 0, AV.b true]) h)
                            (onB (decide (a = 17)) (Post (AV.tup [AV.i IntKind.i64 0, AV.i IntKind.i64 16777215, AV.i IntKind.i64 0, AV.b true]) h)
                              (onB (decide (a = 18)) (Post (AV.tup [AV.i IntKind.i64 64, AV.i IntKind.i64 64000, AV.i IntKind.i64 1024, AV.b true]) h)
                                (Post (AV.tup [AV.i IntKind.i64 0, AV.i IntKind.i64 0, AV.i IntKind.i64 0, AV.b false]) h)))))))))))
            (onB (decide (a = 7)) (Post (AV.tup [AV.i IntKind.i64 0, AV.i IntKind.i64 1099511627776, AV.i IntKind.i64 0, AV.b true]) h)
              (onB (decide (a = 9)) (Post (AV.tup [AV.i IntKind.i64 0, AV.i IntKind.i64 1048576, AV.i IntKind.i64 0, AV.b true]) h)
                (onB (decide (a = 10)) (Post (AV.tup [AV.i IntKind.i64 0, AV.i IntKind.i64 1048576, AV.i IntKind.i64 1, AV.b true]) h)
                  (onB (decide (a = 12))
                    (onB (decide (a = 12)) (Post (AV.tup [AV.i IntKind.i64 0, AV.i IntKind.i64 1073741824, AV.i IntKind.i64 0, AV.b true]) h)
                      (onB (decide (a = 15)) (Post (AV.tup [AV.i IntKind.i64 0, AV.i IntKind.i64 4, AV.i IntKind.i64 0, AV.b true]) h)
                        (onB (decide (a = 16)) (Post (AV.tup [AV.i IntKind.i64 0, AV.i IntKind.i64 3, AV.i IntKind.i64 0, AV.b true]) h)
                          (onB (decide (a = 17)) (Post (AV.tup [AV.i IntKind.i64 0, AV.i IntKind.i64 16777215, AV.i IntKind.i64 0, AV.b true]) h)
                            (onB (decide (a = 18)) (Post (AV.tup [AV.i IntKind.i64 64, AV.i IntKind.i64 64000, AV.i IntKind.i64 1024, AV.b true]) h)
                              (Post (AV.tup [AV.i IntKind.i64 0, AV.i IntKind.i64 0, AV.i IntKind.i64 0, AV.b false]) h))))))
                    (onB (decide (a = 13))
                      (onB (decide (a = 13)) (Post (AV.tup [AV.i IntKind.i64 0, AV.i IntKind.i64 1073741824, AV.i IntKind.i64 0, AV.b true]) h)
                        (onB (decide (a = 15)) (Post (AV.tup [AV.i IntKind.i64 0, AV.i IntKind.i64 4, AV.i IntKind.i64 0, AV.b true]) h)
                          (onB (decide (a = 16)) (Post (AV.tup [AV.i IntKind.i64 0, AV.i IntKind.i64 3, AV.i IntKind.i64 0, AV.b true]) h)
                            (onB (decide (a = 17)) (Post (AV.tup [AV.i IntKind.i64 0, AV.i IntKind.i64 16777215, AV.i IntKind.i64 0, AV.b true]) h)
                              (onB (decide (a = 18)) (Post (AV.tup [AV.i IntKind.i64 64, AV.i IntKind.i64 64000, AV.i IntKind.i64 1024, AV.b true]) h)
                                (Post (AV.tup [AV.i IntKind.i64 0, AV.i IntKind.i64 0, AV.i IntKind.i64 0, AV.b false]) h))))))
                      (onB (decide (a = 14)) (Post (AV.tup [AV.i IntKind.i64 0, AV.i IntKind.i64 1073741824, AV.i IntKind.i64 0, AV.b true]) h)
                        (onB (decide (a = 15)) (Post (AV.tup [AV.i IntKind.i64 0, AV.i IntKind.i64 4, AV.i IntKind.i64 0, AV.b true]) h)
                          (onB (decide (a = 16)) (Post (AV.tup [AV.i IntKind.i64 0, AV.i IntKind.i64 3, AV.i IntKind.i64 0, AV.b true]) h)
                            (onB (decide (a = 17)) (Post (AV.tup [AV.i IntKind.i64 0, AV.i IntKind.i64 16777215, AV.i IntKind.i64 0, AV.b true]) h)
                              (onB (decide (a = 18)) (Post (AV.tup [AV.i IntKind.i64 64, AV.i IntKind.i64 64000, AV.i IntKind.i64 1024, AV.b true]) h)
                                (Post (AV.tup [AV.i IntKind.i64 0, AV.i IntKind.i64 0, AV.i IntKind.i64 0, AV.b false]) h)))))))))))))
        (onB (decide (a = 4))
          (onB (decide (a = 4)) (Post (AV.tup [AV.i IntKind.i64 (-1), AV.i IntKind.i64 1099511627776, AV.i IntKind.i64 (-1), AV.b true]) h)
            (onB (decide (a = 5))
              (onB (decide (a = 5)) (Post (AV.tup [AV.i IntKind.i64 0, AV.i IntKind.i64 1099511627776, AV.i IntKind.i64 0, AV.b true]) h)
                (onB (decide (a = 9)) (Post (AV.tup [AV.i IntKind.i64 0, AV.i IntKind.i64 1048576, AV.i IntKind.i64 0, AV.b true]) h)
                  (onB (decide (a = 10)) (Post (AV.tup [AV.i IntKind.i64 0, AV.i IntKind.i64 1048576, AV.i IntKind.i64 1, AV.b true]) h)
                    (onB (decide (a = 12))
                      (onB (decide (a = 12)) (Post (AV.tup [AV.i IntKind.i64 0, AV.i IntKind.i64 1073741824, AV.i IntKind.i64 0, AV.b true]) h)
                        (onB (decide (a = 15)) (Post (AV.tup [AV.i IntKind.i64 0, AV.i IntKind.i64 4, AV.i IntKind.i64 0, AV.b true]) h)
                          (onB (decide (a = 16)) (Post (AV.tup [AV.i IntKind.i64 0, AV.i IntKind.i64 3, AV.i IntKind.i64 0, AV.b true]) h)
                            (onB (decide (a = 17)) (Post (AV.tup [AV.i IntKind.i64 0, AV.i IntKind.i64 16777215, AV.i IntKind.i64 0, AV.b true]) h)
                              (onB (decide (a = 18)) (Post (AV.tup [AV.i IntKind.i64 64, AV.i IntKind.i64 64000, AV.i IntKind.i64 1024, AV.b true]) h)
                                (Post (AV.tup [AV.i IntKind.i64 0, AV.i IntKind.i64 0, AV.i IntKind.i64 0, AV.b false]) h))))))
                      (onB (decide (a = 13))
                        (onB (decide (a = 13)) (Post (AV.tup [AV.i IntKind.i64 0, AV.i IntKind.i64 1073741824, AV.i IntKind.i64 0, AV.b true]) h)
                          (onB (decide (a = 15)) (Post (AV.tup [AV.i IntKind.i64 0, AV.i IntKind.i64 4, AV.i IntKind.i64 0, AV.b true]) h)
                            (onB (decide (a = 16)) (Post (AV.tup [AV.i IntKind.i64 0, AV.i IntKind.i64 3, AV.i IntKind.i64 0, AV.b true]) h)
                              (onB (decide (a = 17)) (Post (AV.tup [AV.i IntKind.i64 0, AV.i IntKind.i64 16777215, AV.i IntKind.i64 0, AV.b true]) h)
                                (onB (decide (a = 18)) (Post (AV.tup [AV.i IntKind.i64 64, AV.i IntKind.i64 64000, AV.i IntKind.i64 1024, AV.b true]) h)
                                  (Post (AV.tup [AV.i IntKind.i64 0, AV.i IntKind.i64 0, AV.i IntKind.i64 0, AV.b false]) h))))))
                        (onB (decide (a = 14)) (Post (AV.tup [AV.i IntKind.i64 0, AV.i IntKind.i64 1073741824, AV.i IntKind.i64 0, AV.b true]) h)
                          (onB (decide (a = 15)) (Post (AV.tup [AV.i IntKind.i64 0, AV.i IntKind.i64 4, AV.i IntKind.i64 0, AV.b true]) h)
                            (onB (decide (a = 16)) (Post (AV.tup [AV.i IntKind.i64 0, AV.i IntKind.i64 3, AV.i IntKind.i64 0, AV.b true]) h)
                              (onB (decide (a = 17)) (Post (AV.tup [AV.i IntKind.i64 0, AV.i IntKind.i64 16777215, AV.i IntKind.i64 0, AV.b true]) h)
                                (onB (decide (a = 18)) (Post (AV.tup [AV.i IntKind.i64 64, AV.i IntKind.i64 64000, AV.i IntKind.i64 1024, AV.b true]) h)
                                  (Post (AV.tup [AV.i IntKind.i64 0, AV.i IntKind.i64 0, AV.i IntKind.i64 0, AV.b false]) h)))))))))))
              (onB (decide (a = 7)) (Post (AV.tup [AV.i IntKind.i64 0, AV.i IntKind.i64 1099511627776, AV.i IntKind.i64 0, AV.b true]) h)
                (onB (decide (a = 9)) (Post (AV.tup [AV.i IntKind.i64 0, AV.i IntKind.i64 1048576, AV.i IntKind.i64 0, AV.b true]) h)
                  (onB (decide (a = 10)) (Post (AV.tup [AV.i IntKind.i64 0, AV.i IntKind.i64 1048576, AV.i IntKind.i64 1, AV.b true]) h)
                    (onB (decide (a = 12))
                      (onB (decide (a = 12)) (Post (AV.tup [AV.i IntKind.i64 0, AV.i IntKind.i64 1073741824, AV.i IntKind.i64 0, AV.b true]) h)
                        (onB (decide (a = 15)) (Post (AV.tup [AV.i IntKind.i64 0, AV.i IntKind.i64 4, AV.i IntKind.i64 0, AV.b true]) h)
                          (onB (decide (a = 16)) (Post (AV.tup [AV.i IntKind.i64 0, AV.i IntKind.i64 3, AV.i IntKind.i64 0, AV.b true]) h)
                            (onB (decide (a = 17)) (Post (AV.tup [AV.i IntKind.i64 0, AV.i IntKind.i64 16777215, AV.i IntKind.i64 0, AV.b true]) h)
                              (onB (decide (a = 18)) (Post (AV.tup [AV.i IntKind.i64 64, AV.i IntKind.i64 64000, AV.i IntKind.i64 1024, AV.b true]) h)
                                (Post (AV.tup [AV.i IntKind.i64 0, AV.i IntKind.i64 0, AV.i IntKind.i64 0, AV.b false]) h))))))
                      (onB (decide (a = 13))
                        (onB (decide (a = 13)) (Post (AV.tup [AV.i IntKind.i64 0, AV.i IntKind.i64 1073741824, AV.i IntKind.i64 0, AV.b true]) h)
                          (onB (decide (a = 15)) (Post (AV.tup [AV.i IntKind.i64 0, AV.i IntKind.i64 4, AV.i IntKind.i64 0, AV.b true]) h)
                            (onB (decide (a = 16)) (Post (AV.tup [AV.i IntKind.i64 0, AV.i IntKind.i64 3, AV.i IntKind.i64 0, AV.b true]) h)
                              (onB (decide (a = 17)) (Post (AV.tup [AV.i IntKind.i64 0, AV.i IntKind.i64 16777215, AV.i IntKind.i64 0, AV.b true]) h)
                                (onB (decide (a = 18)) (Post (AV.tup [AV.i IntKind.i64 64, AV.i IntKind.i64 64000, AV.i IntKind.i64 1024, AV.b true]) h)
                                  (Post (AV.tup [AV.i IntKind.i64 0, AV.i IntKind.i64 0, AV.i IntKind.i64 0, AV.b false]) h))))))
                        (onB (decide (a = 14)) (Post (AV.tup [AV.i IntKind.i64 0, AV.i IntKind.i64 1073741824, AV.i IntKind.i64 0, AV.b true]) h)
                          (onB (decide (a = 15)) (Post (AV.tup [AV.i IntKind.i64 0, AV.i IntKind.i64 4, AV.i IntKind.i64 0, AV.b true]) h)
                            (onB (decide (a = 16)) (Post (AV.tup [AV.i IntKind.i64 0, AV.i IntKind.i64 3, AV.i IntKind.i64 0, AV.b true]) h)
                              (onB (decide (a = 17)) (Post (AV.tup [AV.i IntKind.i64 0, AV.i IntKind.i64 16777215, AV.i IntKind.i64 0, AV.b true]) h)
                                (onB (decide (a = 18)) (Post (AV.tup [AV.i IntKind.i64 64, AV.i IntKind.i64 64000, AV.i IntKind.i64 1024, AV.b true]) h)
                                  (Post (AV.tup [AV.i IntKind.i64 0, AV.i IntKind.i64 0, AV.i IntKind.i64 0, AV.b false]) h)))))))))))))
          (onB (decide (a = 6))
            (onB (decide (a = 6)) (Post (AV.tup [AV.i IntKind.i64 (-1), AV.i IntKind.i64 1099511627776, AV.i IntKind.i64 (-1), AV.b true]) h)
              (onB (decide (a = 5))
                (onB (decide (a = 5)) (Post (AV.tup [AV.i IntKind.i64 0, AV.i IntKind.i64 1099511627776, AV.i IntKind.i64 0, AV.b true]) h)
                  (onB (decide (a = 9)) (Post (AV.tup [AV.i IntKind.i64 0, AV.i IntKind.i64 1048576, AV.i IntKind.i64 0, AV.b true]) h)
                    (onB (decide (a = 10)) (Post (AV.tup [AV.i IntKind.i64 0, AV.i IntKind.i64 1048576, AV.i IntKind.i64 1, AV.b true]) h)
                      (onB (decide (a = 12))
                        (onB (decide (a = 12)) (Post (AV.tup [AV.i IntKind.i64 0, AV.i IntKind.i64 1073741824, AV.i IntKind.i64 0, AV.b true]) h)
                          (onB (decide (a = 15)) (Post (AV.tup [AV.i IntKind.i64 0, AV.i IntKind.i64 4, AV.i IntKind.i64 0, AV.b true]) h)
                            (onB (decide (a = 16)) (Post (AV.tup [AV.i IntKind.i64 0, AV.i IntKind.i64 3, AV.i IntKind.i64 0, AV.b true]) h)
                              (onB (decide (a = 17)) (Post (AV.tup [AV.i IntKind.i64 0, AV.i IntKind.i64 16777215, AV.i IntKind.i64 0, AV.b true]) h)
                                (onB (decide (a = 18)) (Post (AV.tup [AV.i IntKind.i64 64, AV.i IntKind.i64 64000, AV.i IntKind.i64 1024, AV.b true]) h)
                                  (Post (AV.tup [AV.i IntKind.i64 0, AV.i IntKind.i64 0, AV.i IntKind.i64 0, AV.b false]) h))))))
                        (onB (decide (a = 13))
                          (onB (decide (a = 13)) (Post (AV.tup [AV.i IntKind.i64 0, AV.i IntKind.i64 1073741824, AV.i IntKind.i64 0, AV.b true]) h)
                            (onB (decide (a = 15)) (Post (AV.tup [AV.i IntKind.i64 0, AV.i IntKind.i64 4, AV.i IntKind.i64 0, AV.b true]) h)
                              (onB (decide (a = 16)) (Post (AV.tup [AV.i IntKind.i64 0, AV.i IntKind.i64 3, AV.i IntKind.i64 0, AV.b true]) h)
                                (onB (decide (a = 17)) (Post (AV.tup [AV.i IntKind.i64 0, AV.i IntKind.i64 16777215, AV.i IntKind.i64 0, AV.b true]) h)
                                  (onB (decide (a = 18)) (Post (AV.tup [AV.i IntKind.i64 64, AV.i IntKind.i64 64000, AV.i IntKind.i64 1024, AV.b true]) h)
                                    (Post (AV.tup [AV.i IntKind.i64 0, AV.i IntKind.i64 0, AV.i IntKind.i64 0, AV.b false]) h))))))
                          (onB (decide (a = 14)) (Post (AV.tup [AV.i IntKind.i64 0, AV.i IntKind.i64 1073741824, AV.i IntKind.i64 0, AV.b true]) h)
                            (onB (decide (a = 15)) (Post (AV.tup [AV.i IntKind.i64 0, AV.i IntKind.i64 4, AV.i IntKind.i64 0, AV.b true]) h)
                              (onB (decide (a = 16)) (Post (AV.tup [AV.i IntKind.i64 0, AV.i IntKind.i64 3, AV.i IntKind.i64 0, AV.b true]) h)
                                (onB (decide (a = 17)) (Post (AV.tup [AV.i IntKind.i64 0, AV.i IntKind.i64 16777215, AV.i IntKind.i64 0, AV.b true]) h)
                                  (onB (decide (a = 18)) (Post (AV.tup [AV.i IntKind.i64 64, AV.i IntKind.i64 64000, AV.i IntKind.i64 1024, AV.b true]) h)
                                    (Post (AV.tup [AV.i IntKind.i64 0, AV.i IntKind.i64 0, AV.i IntKind.i64 0, AV.b false]) h)))))))))))
                (onB (decide (a = 7)) (Post (AV.tup [AV.i IntKind.i64 0, AV.i IntKind.i64 1099511627776, AV.i IntKind.i64 0, AV.b true]) h)
                  (onB (decide (a = 9)) (Post (AV.tup [AV.i IntKind.i64 0, AV.i IntKind.i64 1048576, AV.i IntKind.i64 0, AV.b true]) h)
                    (onB (decide (a = 10)) (Post (AV.tup [AV.i IntKind.i64 0, AV.i IntKind.i64 1048576, AV.i IntKind.i64 1, AV.b true]) h)
                      (onB (decide (a = 12))
                        (onB (decide (a = 12)) (Post (AV.tup [AV.i IntKind.i64 0, AV.i IntKind.i64 1073741824, AV.i IntKind.i64 0, AV.b true]) h)
                          (onB (decide (a = 15)) (Post (AV.tup [AV.i IntKind.i64 0, AV.i IntKind.i64 4, AV.i IntKind.i64 0, AV.b true]) h)
                            (onB (decide (a = 16)) (Post (AV.tup [AV.i IntKind.i64 0, AV.i IntKind.i64 3, AV.i IntKind.i64 0, AV.b true]) h)
                              (onB (decide (a = 17)) (Post (AV.tup [AV.i IntKind.i64 0, AV.i IntKind.i64 16777215, AV.i IntKind.i64 0, AV.b true]) h)
                                (onB (decide (a = 18)) (Post (AV.tup [AV.i IntKind.i64 64, AV.i IntKind.i64 64000, AV.i IntKind.i64 1024, AV.b true]) h)
                                  (Post (AV.tup [AV.i IntKind.i64 0, AV.i IntKind.i64 0, AV.i IntKind.i64 0, AV.b false]) h))))))
                        (onB (decide (a = 13))
                          (onB (decide (a = 13)) (Post (AV.tup [AV.i IntKind.i64 0, AV.i IntKind.i64 1073741824, AV.i IntKind.i64 0, AV.b true]) h)
                            (onB (decide (a = 15)) (Post (AV.tup [AV.i IntKind.i64 0, AV.i IntKind.i64 4, AV.i IntKind.i64 0, AV.b true]) h)
                              (onB (decide (a = 16)) (Post (AV.tup [AV.i IntKind.i64 0, AV.i IntKind.i64 3, AV.i IntKind.i64 0, AV.b true]) h)
                                (onB (decide (a = 17)) (Post (AV.tup [AV.i IntKind.i64 0, AV.i IntKind.i64 16777215, AV.i IntKind.i64 0, AV.b true]) h)
                                  (onB (decide (a = 18)) (Post (AV.tup [AV.i IntKind.i64 64, AV.i IntKind.i64 64000, AV.i IntKind.i64 1024, AV.b true]) h)
                                    (Post (AV.tup [AV.i IntKind.i64 0, AV.i IntKind.i64 0, AV.i IntKind.i64 0, AV.b false]) h))))))
                          (onB (decide (a = 14)) (Post (AV.tup [AV.i IntKind.i64 0, AV.i IntKind.i64 1073741824, AV.i IntKind.i64 0, AV.b true]) h)
                            (onB (decide (a = 15)) (Post (AV.tup [AV.i IntKind.i64 0, AV.i IntKind.i64 4, AV.i IntKind.i64 0, AV.b true]) h)
                              (onB (decide (a = 16)) (Post (AV.tup [AV.i IntKind.i64 0, AV.i IntKind.i64 3, AV.i IntKind.i64 0, AV.b true]) h)
                                (onB (decide (a = 17)) (Post (AV.tup [AV.i IntKind.i64 0, AV.i IntKind.i64 16777215, AV.i IntKind.i64 0, AV.b true]) h)
                                  (onB (decide (a = 18)) (Post (AV.tup [AV.i IntKind.i64 64, AV.i IntKind.i64 64000, AV.i IntKind.i64 1024, AV.b true]) h)
                                    (Post (AV.tup [AV.i IntKind.i64 0, AV.i IntKind.i64 0, AV.i IntKind.i64 0, AV.b false]) h)))))))))))))
            (onB (decide (a = 8))
              (onB (decide (a = 8)) (Post (AV.tup [AV.i IntKind.i64 (-1), AV.i IntKind.i64 1099511627776, AV.i IntKind.i64 (-1), AV.b true]) h)
                (onB (decide (a = 5))
                  (onB (decide (a = 5)) (Post (AV.tup [AV.i IntKind.i64 0, AV.i IntKind.i64 1099511627776, AV.i IntKind.i64 0, AV.b true]) h)
                    (onB (decide (a = 9)) (Post (AV.tup [AV.i IntKind.i64 0, AV.i IntKind.i64 1048576, AV.i IntKind.i64 0, AV.b true]) h)
                      (onB (decide (a = 10)) (Post (AV.tup [AV.i IntKind.i64 0, AV.i IntKind.i64 1048576, AV.i IntKind.i64 1, AV.b true]) h)
                        (onB (decide (a = 12))
                          (onB (decide (a = 12)) (Post (AV.tup [AV.i IntKind.i64 0, AV.i IntKind.i64 1073741824, AV.i IntKind.i64 0, AV.b true]) h)
                            (onB (decide (a = 15)) (Post (AV.tup [AV.i IntKind.i64 0, AV.i IntKind.i64 4, AV.i IntKind.i64 0, AV.b true]) h)
                              (onB (decide (a = 16)) (Post (AV.tup [AV.i IntKind.i64 0, AV.i IntKind.i64 3, AV.i IntKind.i64 0, AV.b true]) h)
                                (onB (decide (a = 17)) (Post (AV.tup [AV.i IntKind.i64 0, AV.i IntKind.i64 16777215, AV.i IntKind.i64 0, AV.b true]) h)
                                  (onB (decide (a = 18)) (Post (AV.tup [AV.i IntKind.i64 64, AV.i IntKind.i64 64000, AV.i IntKind.i64 1024, AV.b true]) h)
                                    (Post (AV.tup [AV.i IntKind.i64 0, AV.i IntKind.i64 0, AV.i IntKind.i64 0, AV.b false]) h))))))
                          (onB (decide (a = 13))
                            (onB (decide (a = 13)) (Post (AV.tup [AV.i IntKind.i64 0, AV.i IntKind.i64 1073741824, AV.i IntKind.i64 0, AV.b true]) h)
                              (onB (decide (a = 15)) (Post (AV.tup [AV.i IntKind.i64 0, AV.i IntKind.i64 4, AV.i IntKind.i64 0, AV.b true]) h)
                                (onB (decide (a = 16)) (Post (AV.tup [AV.i IntKind.i64 0, AV.i IntKind.i64 3, AV.i IntKind.i64 0, AV.b true]) h)
                                  (onB (decide (a = 17)) (Post (AV.tup [AV.i IntKind.i64 0, AV.i IntKind.i64 16777215, AV.i IntKind.i64 0, AV.b true]) h)
                                    (onB (decide (a = 18)) (Post (AV.tup [AV.i IntKind.i64 64, AV.i IntKind.i64 64000, AV.i IntKind.i64 1024, AV.b true]) h)
                                      (Post (AV.tup [AV.i IntKind.i64 0, AV.i IntKind.i64 0, AV.i IntKind.i64 0, AV.b false]) h))))))
                            (onB (decide (a = 14)) (Post (AV.tup [AV.i IntKind.i64 0, AV.i IntKind.i64 1073741824, AV.i IntKind.i64 0, AV.b true]) h)
                              (onB (decide (a = 15)) (Post (AV.tup [AV.i IntKind.i64 0, AV.i IntKind.i64 4, AV.i IntKind.i64 0, AV.b true]) h)
                                (onB (decide (a = 16)) (Post (AV.tup [AV.i IntKind.i64 0, AV.i IntKind.i64 3, AV.i IntKind.i64 0, AV.b true]) h)
                                  (onB (decide (a = 17)) (Post (AV.tup [AV.i IntKind.i64 0, AV.i IntKind.i64 16777215, AV.i IntKind.i64 0, AV.b true]) h)
                                    (onB (decide (a = 18)) (Post (AV.tup [AV.i IntKind.i64 64, AV.i IntKind.i64 64000, AV.i IntKind.i64 1024, AV.b true]) h)
                                      (Post (AV.tup [AV.i IntKind.i64 0, AV.i IntKind.i64 0, AV.i IntKind.i64 0, AV.b false]) h)))))))))))
                  (onB (decide (a = 7)) (Post (AV.tup [AV.i IntKind.i64 0, AV.i IntKind.i64 1099511627776, AV.i IntKind.i64 0, AV.b true]) h)
                    (onB (decide (a = 9)) (Post (AV.tup [AV.i IntKind.i64 0, AV.i IntKind.i64 1048576, AV.i IntKind.i64 0, AV.b true]) h)
                      (onB (decide (a = 10)) (Post (AV.tup [AV.i IntKind.i64 0, AV.i IntKind.i64 1048576, AV.i IntKind.i64 1, AV.b true]) h)
                        (onB (decide (a = 12))
                          (onB (decide (a = 12)) (Post (AV.tup [AV.i IntKind.i64 0, AV.i IntKind.i64 1073741824, AV.i IntKind.i64 0, AV.b true]) h)
                            (onB (decide (a = 15)) (Post (AV.tup [AV.i IntKind.i64 0, AV.i IntKind.i64 4, AV.i IntKind.i64 0, AV.b true]) h)
                              (onB (decide (a = 16)) (Post (AV.tup [AV.i IntKind.i64 0, AV.i IntKind.i64 3, AV.i IntKind.i64 0, AV.b true]) h)
                                (onB (decide (a = 17)) (Post (AV.tup [AV.i IntKind.i64 0, AV.i IntKind.i64 16777215, AV.i IntKind.i64 0, AV.b true]) h)
                                  (onB (decide (a = 18)) (Post (AV.tup [AV.i IntKind.i64 64, AV.i IntKind.i64 64000, AV.i IntKind.i64 1024, AV.b true]) h)
                                    (Post (AV.tup [AV.i IntKind.i64 0, AV.i IntKind.i64 0, AV.i IntKind.i64 0, AV.b false]) h))))))
                          (onB (decide (a = 13))
                            (onB (decide (a = 13)) (Post (AV.tup [AV.i IntKind.i64 0, AV.i IntKind.i64 1073741824, AV.i IntKind.i64 0, AV.b true]) h)
                              (onB (decide (a = 15)) (Post (AV.tup [AV.i IntKind.i64 0, AV.i IntKind.i64 4, AV.i IntKind.i64 0, AV.b true]) h)
                                (onB (decide (a = 16)) (Post (AV.tup [AV.i IntKind.i64 0, AV.i IntKind.i64 3, AV.i IntKind.i64 0, AV.b true]) h)
                                  (onB (decide (a = 17)) (Post (AV.tup [AV.i IntKind.i64 0, AV.i IntKind.i64 16777215, AV.i IntKind.i64 0, AV.b true]) h)
                                    (onB (decide (a = 18)) (Post (AV.tup [AV.i IntKind.i64 64, AV.i IntKind.i64 64000, AV.i IntKind.i64 1024, AV.b true]) h)
                                      (Post (AV.tup [AV.i IntKind.i64 0, AV.i IntKind.i64 0, AV.i IntKind.i64 0, AV.b false]) h))))))
                            (onB (decide (a = 14)) (Post (AV.tup [AV.i IntKind.i64 0, AV.i IntKind.i64 1073741824, AV.i IntKind.i64 0, AV.b true]) h)
                              (onB (decide (a = 15)) (Post (AV.tup [AV.i IntKind.i64 0, AV.i IntKind.i64 4, AV.i IntKind.i64 0, AV.b true]) h)
                                (onB (decide (a = 16)) (Post (AV.tup [AV.i IntKind.i64 0, AV.i IntKind.i64 3, AV.i IntKind.i64 0, AV.b true]) h)
                                  (onB (decide (a = 17)) (Post (AV.tup [AV.i IntKind.i64 0, AV.i IntKind.i64 16777215, AV.i IntKind.i64 0, AV.b true]) h)
                                    (onB (decide (a = 18)) (Post (AV.tup [AV.i IntKind.i64 64, AV.i IntKind.i64 64000, AV.i IntKind.i64 1024, AV.b true]) h)
                                      (Post (AV.tup [AV.i IntKind.i64 0, AV.i IntKind.i64 0, AV.i IntKind.i64 0, AV.b false]) h)))))))))))))
              (onB (decide (a = 11)) (Post (AV.tup [AV.i IntKind.i64 (-1), AV.i IntKind.i64 1099511627776, AV.i IntKind.i64 (-1), AV.b true]) h)
                (onB (decide (a = 5))
                  (onB (decide (a = 5)) (Post (AV.tup [AV.i IntKind.i64 0, AV.i IntKind.i64 1099511627776, AV.i IntKind.i64 0, AV.b true]) h)
                    (onB (decide (a = 9)) (Post (AV.tup [AV.i IntKind.i64 0, AV.i IntKind.i64 1048576, AV.i IntKind.i64 0, AV.b true]) h)
                      (onB (decide (a = 10)) (Post (AV.tup [AV.i IntKind.i64 0, AV.i IntKind.i64 1048576, AV.i IntKind.i64 1, AV.b true]) h)
                        (onB (decide (a = 12))
                          (onB (decide (a = 12)) (Post (AV.tup [AV.i IntKind.i64 0, AV.i IntKind.i64 1073741824, AV.i IntKind.i64 0, AV.b true]) h)
                            (onB (decide (a = 15)) (Post (AV.tup [AV.i IntKind.i64 0, AV.i IntKind.i64 4, AV.i IntKind.i64 0, AV.b true]) h)
                              (onB (decide (a = 16)) (Post (AV.tup [AV.i IntKind.i64 0, AV.i IntKind.i64 3, AV.i IntKind.i64 0, AV.b true]) h)
                                (onB (decide (a = 17)) (Post (AV.tup [AV.i IntKind.i64 0, AV.i IntKind.i64 16777215, AV.i IntKind.i64 0, AV.b true]) h)
                                  (onB (decide (a = 18)) (Post (AV.tup [AV.i IntKind.i64 64, AV.i IntKind.i64 64000, AV.i IntKind.i64 1024, AV.b true]) h)
                                    (Post (AV.tup [AV.i IntKind.i64 0, AV.i IntKind.i64 0, AV.i IntKind.i64 0, AV.b false]) h))))))
                          (onB (decide (a = 13))
                            (onB (decide (a = 13)) (Post (AV.tup [AV.i IntKind.i64 0, AV.i IntKind.i64 1073741824, AV.i IntKind.i64 0, AV.b true]) h)
                              (onB (decide (a = 15)) (Post (AV.tup [AV.i IntKind.i64 0, AV.i IntKind.i64 4, AV.i IntKind.i64 0, AV.b true]) h)
                                (onB (decide (a = 16)) (Post (AV.tup [AV.i IntKind.i64 0, AV.i IntKind.i64 3, AV.i IntKind.i64 0, AV.b true]) h)
                                  (onB (decide (a = 17)) (Post (AV.tup [AV.i IntKind.i64 0, AV.i IntKind.i64 16777215, AV.i IntKind.i64 0, AV.b true]) h)
                                    (onB (decide (a = 18)) (Post (AV.tup [AV.i IntKind.i64 64, AV.i IntKind.i64 64000, AV.i IntKind.i64 1024, AV.b true]) h)
                                      (Post (AV.tup [AV.i IntKind.i64 0, AV.i IntKind.i64 0, AV.i IntKind.i64 0, AV.b false]) h))))))
                            (onB (decide (a = 14)) (Post (AV.tup [AV.i IntKind.i64 0, AV.i IntKind.i64 1073741824, AV.i IntKind.i64 0, AV.b true]) h)
                              (onB (decide (a = 15)) (Post (AV.tup [AV.i IntKind.i64 0, AV.i IntKind.i64 4, AV.i IntKind.i64 0, AV.b true]) h)
                                (onB (decide (a = 16)) (Post (AV.tup [AV.i IntKind.i64 0, AV.i IntKind.i64 3, AV.i IntKind.i64 0, AV.b true]) h)
                                  (onB (decide (a = 17)) (Post (AV.tup [AV.i IntKind.i64 0, AV.i IntKind.i64 16777215, AV.i IntKind.i64 0, AV.b true]) h)
                                    (onB (decide (a = 18)) (Post (AV.tup [AV.i IntKind.i64 64, AV.i IntKind.i64 64000, AV.i IntKind.i64 1024, AV.b true]) h)
                                      (Post (AV.tup [AV.i IntKind.i64 0, AV.i IntKind.i64 0, AV.i IntKind.i64 0, AV.b false]) h)))))))))))
                  (onB (decide (a = 7)) (Post (AV.tup [AV.i IntKind.i64 0, AV.i IntKind.i64 1099511627776, AV.i IntKind.i64 0, AV.b true]) h)
                    (onB (decide (a = 9)) (Post (AV.tup [AV.i IntKind.i64 0, AV.i IntKind.i64 1048576, AV.i IntKind.i64 0, AV.b true]) h)
                      (onB (decide (a = 10)) (Post (AV.tup [AV.i IntKind.i64 0, AV.i IntKind.i64 1048576, AV.i IntKind.i64 1, AV.b true]) h)
                        (onB (decide (a = 12))
                          (onB (decide (a = 12)) (Post (AV.tup [AV.i IntKind.i64 0, AV.i IntKind.i64 1073741824, AV.i IntKind.i64 0, AV.b true]) h)
                            (onB (decide (a = 15)) (Post (AV.tup [AV.i IntKind.i64 0, AV.i IntKind.i64 4, AV.i IntKind.i64 0, AV.b true]) h)
                              (onB (decide (a = 16)) (Post (AV.tup [AV.i IntKind.i64 0, AV.i IntKind.i64 3, AV.i IntKind.i64 0, AV.b true]) h)
                                (onB (decide (a = 17)) (Post (AV.tup [AV.i IntKind.i64 0, AV.i IntKind.i64 16777215, AV.i IntKind.i64 0, AV.b true]) h)
                                  (onB (decide (a = 18)) (Post (AV.tup [AV.i IntKind.i64 64, AV.i IntKind.i64 64000, AV.i IntKind.i64 1024, AV.b true]) h)
                                    (Post (AV.tup [AV.i IntKind.i64 0, AV.i IntKind.i64 0, AV.i IntKind.i64 0, AV.b false]) h))))))
                          (onB (decide (a = 13))
                            (onB (decide (a = 13)) (Post (AV.tup [AV.i IntKind.i64 0, AV.i IntKind.i64 1073741824, AV.i IntKind.i64 0, AV.b true]) h)
                              (onB (decide (a = 15)) (Post (AV.tup [AV.i IntKind.i64 0, AV.i IntKind.i64 4, AV.i IntKind.i64 0, AV.b true]) h)
                                (onB (decide (a = 16)) (Post (AV.tup [AV.i IntKind.i64 0, AV.i IntKind.i64 3, AV.i IntKind.i64 0, AV.b true]) h)
                                  (onB (decide (a = 17)) (Post (AV.tup [AV.i IntKind.i64 0, AV.i IntKind.i64 16777215, AV.i IntKind.i64 0, AV.b true]) h)
                                    (onB (decide (a = 18)) (Post (AV.tup [AV.i IntKind.i64 64, AV.i IntKind.i64 64000, AV.i IntKind.i64 1024, AV.b true]) h)
                                      (Post (AV.tup [AV.i IntKind.i64 0, AV.i IntKind.i64 0, AV.i IntKind.i64 0, AV.b false]) h))))))
                            (onB (decide (a = 14)) (Post (AV.tup [AV.i IntKind.i64 0, AV.i IntKind.i64 1073741824, AV.i IntKind.i64 0, AV.b true]) h)
                              (onB (decide (a = 15)) (Post (AV.tup [AV.i IntKind.i64 0, AV.i IntKind.i64 4, AV.i IntKind.i64 0, AV.b true]) h)
                                (onB (decide (a = 16)) (Post (AV.tup [AV.i IntKind.i64 0, AV.i IntKind.i64 3, AV.i IntKind.i64 0, AV.b true]) h)
                                  (onB (decide (a = 17)) (Post (AV.tup [AV.i IntKind.i64 0, AV.i IntKind.i64 16777215, AV.i IntKind.i64 0, AV.b true]) h)
                                    (onB (decide (a = 18)) (Post (AV.tup [AV.i IntKind.i64 64, AV.i IntKind.i64 64000, AV.i IntKind.i64 1024, AV.b true]) h)
                                      (Post (AV.tup [AV.i IntKind.i64 0, AV.i IntKind.i64 0, AV.i IntKind.i64 0, AV.b false]) h)))))))))))))))))))) := by kernel_rfl
/- arras/prop.ruleOf -/
theorem vc56 (a : Int) (h : Hp) (Post : AV → Hp → Prop) : vcCall Try.prog [] 56 [(SV.ii .i64 a)] h Post = (
  ∀ (p0 : Nat),
  onB (decide (a = 0)) (Post (AV.agg [AV.i IntKind.i64 0, AV.i IntKind.i64 2, AV.i IntKind.i64 0, AV.b false]) h)
    (onB (decide (a = 1))
      (onB (decide (a = 1)) (Post (AV.agg [AV.i IntKind.i64 0, AV.i IntKind.i64 1, AV.i IntKind.i64 0, AV.b false]) h)
        (onB (decide (a = 3))
          (onB (decide (a = 3)) (Post (AV.agg [AV.i IntKind.i64 (-1), AV.i IntKind.i64 1099511627776, AV.i IntKind.i64 (-1), AV.b false]) h)
            (onB (decide (a = 5))
              (onB (decide (a = 5)) (Post (AV.agg [AV.i IntKind.i64 0, AV.i IntKind.i64 1099511627776, AV.i IntKind.i64 0, AV.b false]) h)
                (onB (decide (a = 9)) (Post (AV.agg [AV.i IntKind.i64 0, AV.i IntKind.i64 1048576, AV.i IntKind.i64 0, AV.b false]) h)
                  (onB (decide (a = 10)) (Post (AV.agg [AV.i IntKind.i64 0, AV.i IntKind.i64 1048576, AV.i IntKind.i64 1, AV.b false]) h)
                    (onB (decide (a = 15)) (Post (AV.agg [AV.i IntKind.i64 0, AV.i IntKind.i64 4, AV.i IntKind.i64 0, AV.b false]) h)
                      (onB (decide (a = 16)) (Post (AV.agg [AV.i IntKind.i64 0, AV.i IntKind.i64 3, AV.i IntKind.i64 0, AV.b false]) h)
                        (onB (decide (a = 17)) (Post (AV.agg [AV.i IntKind.i64 0, AV.i IntKind.i64 16777215, AV.i IntKind.i64 0, AV.b true]) h)
                          (onB (decide (a = 18)) (Post (AV.agg [AV.i IntKind.i64 64, AV.i IntKind.i64 64000, AV.i IntKind.i64 1024, AV.b true]) h)
                            (Post (AV.agg [AV.i IntKind.i64 0, AV.i IntKind.i64 1073741824, AV.i IntKind.i64 0, AV.b false]) h))))))))
              (onB (decide (a = 7)) (Post (AV.agg [AV.i IntKind.i64 0, AV.i IntKind.i64 1099511627776, AV.i IntKind.i64 0, AV.b false]) h)
                (onB (decide (a = 9)) (Post (AV.agg [AV.i IntKind.i64 0, AV.i IntKind.i64 1048576, AV.i IntKind.i64 0, AV.b false]) h)
                  (onB (decide (a = 10)) (Post (AV.agg [AV.i IntKind.i64 0, AV.i IntKind.i64 1048576, AV.i IntKind.i64 1, AV.b false]) h)
                    (onB (decide (a = 15)) (Post (AV.agg [AV.i IntKind.i64 0, AV.i IntKind.i64 4, AV.i IntKind.i64 0, AV.b false]) h)
                      (onB (decide (a = 16)) (Post (AV.agg [AV.i IntKind.i64 0, AV.i IntKind.i64 3, AV.i IntKind.i64 0, AV.b false]) h)
                        (onB (decide (a = 17)) (Post (AV.agg [AV.i IntKind.i64 0, AV.i IntKind.i64 16777215, AV.i IntKind.i64 0, AV.b true]) h)
                          (onB (decide (a = 18)) (Post (AV.agg [AV.i IntKind.i64 64, AV.i IntKind.i64 64000, AV.i IntKind.i64 1024, AV.b true]) h)
                            (Post (AV.agg [AV.i IntKind.i64 0, AV.i IntKind.i64 1073741824, AV.i IntKind.i64 0, AV.b false]) h))))))))))
          (onB (decide (a = 4))
            (onB (decide (a = 4)) (Post (AV.agg [AV.i IntKind.i64 (-1), AV.i IntKind.i64 1099511627776, AV.i IntKind.i64 (-1), AV.b false]) h)
              (onB (decide (a = 5))
                (onB (decide (a = 5)) (Post (AV.agg [AV.i IntKind.i64 0, AV.i IntKind.i64 1099511627776, AV.i IntKind.i64 0, AV.b false]) h)
                  (onB (decide (a = 9)) (Post (AV.agg [AV.i IntKind.i64 0, AV.i IntKind.i64 1048576, AV.i IntKind.i64 0, AV.b false]) h)
                    (onB (decide (a = 10)) (Post (AV.agg [AV.i IntKind.i64 0, AV.i IntKind.i64 1048576, AV.i IntKind.i64 1, AV.b false]) h)
                      (onB (decide (a = 15)) (Post (AV.agg [AV.i IntKind.i64 0, AV.i IntKind.i64 4, AV.i IntKind.i64 0, AV.b false]) h)
                        (onB (decide (a = 16)) (Post (AV.agg [AV.i IntKind.i64 0, AV.i IntKind.i64 3, AV.i IntKind.i64 0, AV.b false]) h)
                          (onB (decide (a = 17)) (Post (AV.agg [AV.i IntKind.i64 0, AV.i IntKind.i64 16777215, AV.i IntKind.i64 0, AV.b true]) h)
                            (onB (decide (a = 18)) (Post (AV.agg [AV.i IntKind.i64 64, AV.i IntKind.i64 64000, AV.i IntKind.i64 1024, AV.b true]) h)
                              (Post (AV.agg [AV.i IntKind.i64 0, AV.i IntKind.i64 1073741824, AV.i IntKind.i64 0, AV.b false]) h))))))))
                (onB (decide (a = 7)) (Post (AV.agg [AV.i IntKind.i64 0, AV.i IntKind.i64 1099511627776, AV.i IntKind.i64 0, AV.b false]) h)
                  (onB (decide (a = 9)) (Post (AV.agg [AV.i IntKind.i64 0, AV.i IntKind.i64 1048576, AV.i IntKind.i64 0, AV.b false]) h)
                    (onB (decide (a = 10)) (Post (AV.agg [AV.i IntKind.i64 0, AV.i IntKind.i64 1048576, AV.i IntKind.i64 1, AV.b false]) h)
                      (onB (decide (a = 15)) (Post (AV.agg [AV.i IntKind.i64 0, AV.i IntKind.i64 4, AV.i IntKind.i64 0, AV.b false]) h)
                        (onB (decide (a = 16)) (Post (AV.agg [AV.i IntKind.i64 0, AV.i IntKind.i64 3, AV.i IntKind.i64 0, AV.b false]) h)
                          (onB (decide (a = 17)) (Post (AV.agg [AV.i IntKind.i64 0, AV.i IntKind.i64 16777215, AV.i IntKind.i64 0, AV.b true]) h)
                            (onB (decide (a = 18)) (Post (AV.agg [AV.i IntKind.i64 64, AV.i IntKind.i64 64000, AV.i IntKind.i64 1024, AV.b true]) h)
                              (Post (AV.agg [AV.i IntKind.i64 0, AV.i IntKind.i64 1073741824, AV.i IntKind.i64 0, AV.b false]) h))))))))))
            (onB (decide (a = 6))
              (onB (decide (a = 6)) (Post (AV.agg [AV.i IntKind.i64 (-1), AV.i IntKind.i64 1099511627776, AV.i IntKind.i64 (-1), AV.b false]) h)
                (onB (decide (a = 5))
                  (onB (decide (a = 5)) (Post (AV.agg [AV.i IntKind.i64 0, AV.i IntKind.i64 1099511627776, AV.i IntKind.i64 0, AV.b false]) h)
                    (onB (decide (a = 9)) (Post (AV.agg [AV.i IntKind.i64 0, AV.i IntKind.i64 1048576, AV.i IntKind.i64 0, AV.b false]) h)
                      (onB (decide (a = 10)) (Post (AV.agg [AV.i IntKind.i64 0, AV.i IntKind.i64 1048576, AV.i IntKind.i64 1, AV.b false]) h)
                        (onB (decide (a = 15)) (Post (AV.agg [AV.i IntKind.i64 0, AV.i IntKind.i64 4, AV.i IntKind.i64 0, AV.b false]) h)
                          (onB (decide (a = 16)) (Post (AV.agg [AV.i IntKind.i64 0, AV.i IntKind.i64 3, AV.i IntKind.i64 0, AV.b false]) h)
                            (onB (decide (a = 17)) (Post (AV.agg [AV.i IntKind.i64 0, AV.i IntKind.i64 16777215, AV.i IntKind.i64 0, AV.b true]) h)
                              (onB (decide (a = 18)) (Post (AV.agg [AV.i IntKind.i64 64, AV.i IntKind.i64 64000, AV.i IntKind.i64 1024, AV.b true]) h)
                                (Post (AV.agg [AV.i IntKind.i64 0, AV.i IntKind.i64 1073741824, AV.i IntKind.i64 0, AV.b false]) h))))))))
                  (onB (decide (a = 7)) (Post (AV.agg [AV.i IntKind.i64 0, AV.i IntKind.i64 1099511627776, AV.i IntKind.i64 0, AV.b false]) h)
                    (onB (decide (a = 9)) (Post (AV.agg [AV.i IntKind.i64 0, AV.i IntKind.i64 1048576, AV.i IntKind.i64 0, AV.b false]) h)
                      (onB (decide (a = 10)) (Post (AV.agg [AV.i IntKind.i64 0, AV.i IntKind.i64 1048576, AV.i IntKind.i64 1, AV.b false]) h)
                        (onB (decide (a = 15)) (Post (AV.agg [AV.i IntKind.i64 0, AV.i IntKind.i64 4, AV.i IntKind.i64 0, AV.b false]) h)
                          (onB (decide (a = 16)) (Post (AV.agg [AV.i IntKind.i64 0, AV.i IntKind.i64 3, AV.i IntKind.i64 0, AV.b false]) h)
                            (onB (decide (a = 17)) (Post (AV.agg [AV.i IntKind.i64 0, AV.i IntKind.i64 16777215, AV.i IntKind.i64 0, AV.b true]) h)
                              (onB (decide (a = 18)) (Post (AV.agg [AV.i IntKind.i64 64, AV.i IntKind.i64 64000, AV.i IntKind.i64 1024, AV.b true]) h)
                                (Post (AV.agg [AV.i IntKind.i64 0, AV.i IntKind.i64 1073741824, AV.i IntKind.i64 0, AV.b false]) h))))))))))
              (onB (decide (a = 8))
                (onB (decide (a = 8)) (Post (AV.agg [AV.i IntKind.i64 (-1), AV.i IntKind.i64 1099511627776, AV.i IntKind.i64 (-1), AV.b false]) h)
                  (onB (decide (a = 5))
                    (onB (decide (a = 5)) (Post (AV.agg [AV.i IntKind.i64 0, AV.i IntKind.i64 1099511627776, AV.i IntKind.i64 0, AV.b false]) h)
                      (onB (decide (a = 9)) (Post (AV.agg [AV.i IntKind.i64 0, AV.i IntKind.i64 1048576, AV.i IntKind.i64 0, AV.b false]) h)
                        (onB (decide (a = 10)) (Post (AV.agg [AV.i IntKind.i64 0, AV.i IntKind.i64 1048576, AV.i IntKind.i64 1, AV.b false]) h)
                          (onB (decide (a = 15)) (Post (AV.agg [AV.i IntKind.i64 0, AV.i IntKind.i64 4, AV.i IntKind.i64 0, AV.b false]) h)
                            (onB (decide (a = 16)) (Post (AV.agg [AV.i IntKind.i64 0, AV.i IntKind.i64 3, AV.i IntKind.i64 0, AV.b false]) h)
                              (onB (decide (a = 17)) (Post (AV.agg [AV.i IntKind.i64 0, AV.i IntKind.i64 16777215, AV.i IntKind.i64 0, AV.b true]) h)
                                (onB (decide (a = 18)) (Post (AV.agg [AV.i IntKind.i64 64, AV.i IntKind.i64 64000, AV.i IntKind.i64 1024, AV.b true]) h)
                                  (Post (AV.agg [AV.i IntKind.i64 0, AV.i IntKind.i64 1073741824, AV.i IntKind.i64 0, AV.b false]) h))))))))
                    (onB (decide (a = 7)) (Post (AV.agg [AV.i IntKind.i64 0, AV.i IntKind.i64 1099511627776, AV.i IntKind.i64 0, AV.b false]) h)
                      (onB (decide (a = 9)) (Post (AV.agg [AV.i IntKind.i64 0, AV.i IntKind.i64 1048576, AV.i IntKind.i64 0, AV.b false]) h)
                        (onB (decide (a = 10)) (Post (AV.agg [AV.i IntKind.i64 0, AV.i IntKind.i64 1048576, AV.i IntKind.i64 1, AV.b false]) h)
                          (onB (decide (a = 15)) (Post (AV.agg [AV.i IntKind.i64 0, AV.i IntKind.i64 4, AV.i IntKind.i64 0, AV.b false]) h)
                            (onB (decide (a = 16)) (Post (AV.agg [AV.i IntKind.i64 0, AV.i IntKind.i64 3, AV.i IntKind.i64 0, AV.b false]) h)
                              (onB (decide (a = 17)) (Post (AV.agg [AV.i IntKind.i64 0, AV.i IntKind.i64 16777215, AV.i IntKind.i64 0, AV.b true]) h)
                                (onB (decide (a = 18)) (Post (AV.agg [AV.i IntKind.i64 64, AV.i IntKind.i64 64000, AV.i IntKind.i64 1024, AV.b true]) h)
                                  (Post (AV.agg [AV.i IntKind.i64 0, AV.i IntKind.i64 1073741824, AV.i IntKind.i64 0, AV.b false]) h))))))))))
                (onB (decide (a = 11)) (Post (AV.agg [AV.i IntKind.i64 (-1), AV.i IntKind.i64 1099511627776, AV.i IntKind.i64 (-1), AV.b false]) h)
                  (onB (decide (a = 5))
                    (onB (decide (a = 5)) (Post (AV.agg [AV.i IntKind.i64 0, AV.i IntKind.i64 1099511627776, AV.i IntKind.i64 0, AV.b false]) h)
                      (onB (decide (a = 9)) (Post (AV.agg [AV.i IntKind.i64 0, AV.i IntKind.i64 1048576, AV.i IntKind.i64 0, AV.b false]) h)
                        (onB (decide (a = 10)) (Post (AV.agg [AV.i IntKind.i64 0, AV.i IntKind.i64 1048576, AV.i IntKind.i64 1, AV.b false]) h)
                          (onB (decide (a = 15)) (Post (AV.agg [AV.i IntKind.i64 0, AV.i IntKind.i64 4, AV.i IntKind.i64 0, AV.b false]) h)
                            (onB (decide (a = 16)) (Post (AV.agg [AV.i IntKind.i64 0, AV.i IntKind.i64 3, AV.i IntKind.i64 0, AV.b false]) h)
                              (onB (decide (a = 17)) (Post (AV.agg [AV.i IntKind.i64 0, AV.i IntKind.i64 16777215, AV.i IntKind.i64 0, AV.b true]) h)
                                (onB (decide (a = 18)) (Post (AV.agg [AV.i IntKind.i64 64, AV.i IntKind.i64 64000, AV.i IntKind.i64 1024, AV.b true]) h)
                                  (Post (AV.agg [AV.i IntKind.i64 0, AV.i IntKind.i64 1073741824, AV.i IntKind.i64 0, AV.b false]) h))))))))
                    (onB (decide (a = 7)) (Post (AV.agg [AV.i IntKind.i64 0, AV.i IntKind.i64 1099511627776, AV.i IntKind.i64 0, AV.b false]) h)
                      (onB (decide (a = 9)) (Post (AV.agg [AV.i IntKind.i64 0, AV.i IntKind.i64 1048576, AV.i IntKind.i64 0, AV.b false]) h)
                        (onB (decide (a = 10)) (Post (AV.agg [AV.i IntKind.i64 0, AV.i IntKind.i64 1048576, AV.i IntKind.i64 1, AV.b false]) h)
                          (onB (decide (a = 15)) (Post (AV.agg [AV.i IntKind.i64 0, AV.i IntKind.i64 4, AV.i IntKind.i64 0, AV.b false]) h)
                            (onB (decide (a = 16)) (Post (AV.agg [AV.i IntKind.i64 0, AV.i IntKind.i64 3, AV.i IntKind.i64 0, AV.b false]) h)
                              (onB (decide (a = 17)) (Post (AV.agg [AV.i IntKind.i64 0, AV.i IntKind.i64 16777215, AV.i IntKind.i64 0, AV.b true]) h)
                                (onB (decide (a = 18)) (Post (AV.agg [AV.i IntKind.i64 64, AV.i IntKind.i64 64000, AV.i IntKind.i64 1024, AV.b true]) h)
                                  (Post (AV.agg [AV.i IntKind.i64 0, AV.i IntKind.i64 1073741824, AV.i IntKind.i64 0, AV.b false]) h)))))))))))))))
      (onB (decide (a = 2)) (Post (AV.agg [AV.i IntKind.i64 0, AV.i IntKind.i64 1, AV.i IntKind.i64 0, AV.b false]) h)
        (onB (decide (a = 3))
          (onB (decide (a = 3)) (Post (AV.agg [AV.i IntKind.i64 (-1), AV.i IntKind.i64 1099511627776, AV.i IntKind.i64 (-1), AV.b false]) h)
            (onB (decide (a = 5))
              (onB (decide (a = 5)) (Post (AV.agg [AV.i IntKind.i64 0, AV.i IntKind.i64 1099511627776, AV.i IntKind.i64 0, AV.b false]) h)
                (onB (decide (a = 9)) (Post (AV.agg [AV.i IntKind.i64 0, AV.i IntKind.i64 1048576, AV.i IntKind.i64 0, AV.b false]) h)
                  (onB (decide (a = 10)) (Post (AV.agg [AV.i IntKind.i64 0, AV.i IntKind.i64 1048576, AV.i IntKind.i64 1, AV.b false]) h)
                    (onB (decide (a = 15)) (Post (AV.agg [AV.i IntKind.i64 0, AV.i IntKind.i64 4, AV.i IntKind.i64 0, AV.b false]) h)
                      (onB (decide (a = 16)) (Post (AV.agg [AV.i IntKind.i64 0, AV.i IntKind.i64 3, AV.i IntKind.i64 0, AV.b false]) h)
                        (onB (decide (a = 17)) (Post (AV.agg [AV.i IntKind.i64 0, AV.i IntKind.i64 16777215, AV.i IntKind.i64 0, AV.b true]) h)
                          (onB (decide (a = 18)) (Post (AV.agg [AV.i IntKind.i64 64, AV.i IntKind.i64 64000, AV.i IntKind.i64 1024, AV.b true]) h)
                            (Post (AV.agg [AV.i IntKind.i64 0, AV.i IntKind.i64 1073741824, AV.i IntKind.i64 0, AV.b false]) h))))))))
              (onB (decide (a = 7)) (Post (AV.agg [AV.i IntKind.i64 0, AV.i IntKind.i64 1099511627776, AV.i IntKind.i64 0, AV.b false]) h)
                (onB (decide (a = 9)) (Post (AV.agg [AV.i IntKind.i64 0, AV.i IntKind.i64 1048576, AV.i IntKind.i64 0, AV.b false]) h)
                  (onB (decide (a = 10)) (Post (AV.agg [AV.i IntKind.i64 0, AV.i IntKind.i64 1048576, AV.i IntKind.i64 1, AV.b false]) h)
                    (onB (decide (a = 15)) (Post (AV.agg [AV.i IntKind.i64 0, AV.i IntKind.i64 4, AV.i IntKind.i64 0, AV.b false]) h)
                      (onB (decide (a = 16)) (Post (AV.agg [AV.i IntKind.i64 0, AV.i IntKind.i64 3, AV.i IntKind.i64 0, AV.b false]) h)
                        (onB (decide (a = 17)) (Post (AV.agg [AV.i IntKind.i64 0, AV.i IntKind.i64 16777215, AV.i IntKind.i64 0, AV.b true]) h)
                          (onB (decide (a = 18)) (Post (AV.agg [AV.i IntKind.i64 64, AV.i IntKind.i64 64000, AV.i IntKind.i64 1024, AV.b true]) h)
                            (Post (AV.agg [AV.i IntKind.i64 0, AV.i IntKind.i64 1073741824, AV.i IntKind.i64 0, AV.b false]) h))))))))))
          (onB (decide (a = 4))
            (onB (decide (a = 4)) (Post (AV.agg [AV.i IntKind.i64 (-1), AV.i IntKind.i64 1099511627776, AV.i IntKind.i64 (-1), AV.b false]) h)
              (onB (decide (a = 5))
                (onB (decide (a = 5)) (Post (AV.agg [AV.i IntKind.i64 0, AV.i IntKind.i64 1099511627776, AV.i IntKind.i64 0, AV.b false]) h)
                  (onB (decide (a = 9)) (Post (AV.agg [AV.i IntKind.i64 0, AV.i IntKind.i64 1048576, AV.i IntKind.i64 0, AV.b false]) h)
                    (onB (decide (a = 10)) (Post (AV.agg [AV.i IntKind.i64 0, AV.i IntKind.i64 1048576, AV.i IntKind.i64 1, AV.b false]) h)
                      (onB (decide (a = 15)) (Post (AV.agg [AV.i IntKind.i64 0, AV.i IntKind.i64 4, AV.i IntKind.i64 0, AV.b false]) h)
                        (onB (decide (a = 16)) (Post (AV.agg [AV.i IntKind.i64 0, AV.i IntKind.i64 3, AV.i IntKind.i64 0, AV.b false]) h)
                          (onB (decide (a = 17)) (Post (AV.agg [AV.i IntKind.i64 0, AV.i IntKind.i64 16777215, AV.i IntKind.i64 0, AV.b true]) h)
                            (onB (decide (a = 18)) (Post (AV.agg [AV.i IntKind.i64 64, AV.i IntKind.i64 64000, AV.i IntKind.i64 1024, AV.b true]) h)
                              (Post (AV.agg [AV.i IntKind.i64 0, AV.i IntKind.i64 1073741824, AV.i IntKind.i64 0, AV.b false]) h))))))))
                (onB (decide (a = 7)) (Post (AV.agg [AV.i IntKind.i64 0, AV.i IntKind.i64 1099511627776, AV.i IntKind.i64 0, AV.b false]) h)
                  (onB (decide (a = 9)) (Post (AV.agg [AV.i IntKind.i64 0, AV.i IntKind.i64 1048576, AV.i IntKind.i64 0, AV.b false]) h)
                    (onB (decide (a = 10)) (Post (AV.agg [AV.i IntKind.i64 0, AV.i IntKind.i64 1048576, AV.i IntKind.i64 1, AV.b false]) h)
                      (onB (decide (a = 15)) (Post (AV.agg [AV.i IntKind.i64 0, AV.i IntKind.i64 4, AV.i IntKind.i64 0, AV.b false]) h)
                        (onB (decide (a = 16)) (Post (AV.agg [AV.i IntKind.i64 0, AV.i IntKind.i64 3, AV.i IntKind.i64 0, AV.b false]) h)
                          (onB (decide (a = 17)) (Post (AV.agg [AV.i IntKind.i64 0, AV.i IntKind.i64 16777215, AV.i IntKind.i64 0, AV.b true]) h)
                            (onB (decide (a = 18)) (Post (AV.agg [AV.i IntKind.i64 64, AV.i IntKind.i64 64000, AV.i IntKind.i64 1024, AV.b true]) h)
                              (Post (AV.agg [AV.i IntKind.i64 0, AV.i IntKind.i64 1073741824, AV.i IntKind.i64 0, AV.b false]) h))))))))))
            (onB (decide (a = 6))
              (onB (decide (a = 6)) (Post (AV.agg [AV.i IntKind.i64 (-1), AV.i IntKind.i64 1099511627776, AV.i IntKind.i64 (-1), AV.b false]) h)
                (onB (decide (a = 5))
                  (onB (decide (a = 5)) (Post (AV.agg [AV.i IntKind.i64 0, AV.i IntKind.i64 1099511627776, AV.i IntKind.i64 0, AV.b false]) h)
                    (onB (decide (a = 9)) (Post (AV.agg [AV.i IntKind.i64 0, AV.i IntKind.i64 1048576, AV.i IntKind.i64 0, AV.b false]) h)
                      (onB (decide (a = 10)) (Post (AV.agg [AV.i IntKind.i64 0, AV.i IntKind.i64 1048576, AV.i IntKind.i64 1, AV.b false]) h)
                        (onB (decide (a = 15)) (Post (AV.agg [AV.i IntKind.i64 0, AV.i IntKind.i64 4, AV.i IntKind.i64 0, AV.b false]) h)
                          (onB (decide (a = 16)) (Post (AV.agg [AV.i IntKind.i64 0, AV.i IntKind.i64 3, AV.i IntKind.i64 0, AV.b false]) h)
                            (onB (decide (a = 17)) (Post (AV.agg [AV.i IntKind.i64 0, AV.i IntKind.i64 16777215, AV.i IntKind.i64 0, AV.b true]) h)
                              (onB (decide (a = 18)) (Post (AV.agg [AV.i IntKind.i64 64, AV.i IntKind.i64 64000, AV.i IntKind.i64 1024, AV.b true]) h)
                                (Post (AV.agg [AV.i IntKind.i64 0, AV.i IntKind.i64 1073741824, AV.i IntKind.i64 0, AV.b false]) h))))))))
                  (onB (decide (a = 7)) (Post (AV.agg [AV.i IntKind.i64 0, AV.i IntKind.i64 1099511627776, AV.i IntKind.i64 0, AV.b false]) h)
                    (onB (decide (a = 9)) (Post (AV.agg [AV.i IntKind.i64 0, AV.i IntKind.i64 1048576, AV.i IntKind.i64 0, AV.b false]) h)
                      (onB (decide (a = 10)) (Post (AV.agg [AV.i IntKind.i64 0, AV.i IntKind.i64 1048576, AV.i IntKind.i64 1, AV.b false]) h)
                        (onB (decide (a = 15)) (Post (AV.agg [AV.i IntKind.i64 0, AV.i IntKind.i64 4, AV.i IntKind.i64 0, AV.b false]) h)
                          (onB (decide (a = 16)) (Post (AV.agg [AV.i IntKind.i64 0, AV.i IntKind.i64 3, AV.i IntKind.i64 0, AV.b false]) h)
                            (onB (decide (a = 17)) (Post (AV.agg [AV.i IntKind.i64 0, AV.i IntKind.i64 16777215, AV.i IntKind.i64 0, AV.b true]) h)
                              (onB (decide (a = 18)) (Post (AV.agg [AV.i IntKind.i64 64, AV.i IntKind.i64 64000, AV.i IntKind.i64 1024, AV.b true]) h)
                                (Post (AV.agg [AV.i IntKind.i64 0, AV.i IntKind.i64 1073741824, AV.i IntKind.i64 0, AV.b false]) h))))))))))
              (onB (decide (a = 8))
                (onB (decide (a = 8)) (Post (AV.agg [AV.i IntKind.i64 (-1), AV.i IntKind.i64 1099511627776, AV.i IntKind.i64 (-1), AV.b false]) h)
                  (onB (decide (a = 5))
                    (onB (decide (a = 5)) (Post (AV.agg [AV.i IntKind.i64 0, AV.i IntKind.i64 1099511627776, AV.i IntKind.i64 0, AV.b false]) h)
                      (onB (decide (a = 9)) (Post (AV.agg [AV.i IntKind.i64 0, AV.i IntKind.i64 1048576, AV.i IntKind.i64 0, AV.b false]) h)
                        (onB (decide (a = 10)) (Post (AV.agg [AV.i IntKind.i64 0, AV.i IntKind.i64 1048576, AV.i IntKind.i64 1, AV.b false]) h)
                          (onB (decide (a = 15)) (Post (AV.agg [AV.i IntKind.i64 0, AV.i IntKind.i64 4, AV.i IntKind.i64 0, AV.b false]) h)
                            (onB (decide (a = 16)) (Post (AV.agg [AV.i IntKind.i64 0, AV.i IntKind.i64 3, AV.i IntKind.i64 0, AV.b false]) h)
                              (onB (decide (a = 17)) (Post (AV.agg [AV.i IntKind.i64 0, AV.i IntKind.i64 16777215, AV.i IntKind.i64 0, AV.b true]) h)
                                (onB (decide (a = 18)) (Post (AV.agg [AV.i IntKind.i64 64, AV.i IntKind.i64 64000, AV.i IntKind.i64 1024, AV.b true]) h)
                                  (Post (AV.agg [AV.i IntKind.i64 0, AV.i IntKind.i64 1073741824, AV.i IntKind.i64 0, AV.b false]) h))))))))
                    (onB (decide (a = 7)) (Post (AV.agg [AV.i IntKind.i64 0, AV.i IntKind.i64 1099511627776, AV.i IntKind.i64 0, AV.b false]) h)
                      (onB (decide (a = 9)) (Post (AV.agg [AV.i IntKind.i64 0, AV.i IntKind.i64 1048576, AV.i IntKind.i64 0, AV.b false]) h)
                        (onB (decide (a = 10)) (Post (AV.agg [AV.i IntKind.i64 0, AV.i IntKind.i64 1048576, AV.i IntKind.i64 1, AV.b false]) h)
                          (onB (decide (a = 15)) (Post (AV.agg [AV.i IntKind.i64 0, AV.i IntKind.i64 4, AV.i IntKind.i64 0, AV.b false]) h)
                            (onB (decide (a = 16)) (Post (AV.agg [AV.i IntKind.i64 0, AV.i IntKind.i64 3, AV.i IntKind.i64 0, AV.b false]) h)
                              (onB (decide (a = 17)) (Post (AV.agg [AV.i IntKind.i64 0, AV.i IntKind.i64 16777215, AV.i IntKind.i64 0, AV.b true]) h)
                                (onB (decide (a = 18)) (Post (AV.agg [AV.i IntKind.i64 64, AV.i IntKind.i64 64000, AV.i IntKind.i64 1024, AV.b true]) h)
                                  (Post (AV.agg [AV.i IntKind.i64 0, AV.i IntKind.i64 1073741824, AV.i IntKind.i64 0, AV.b false]) h))))))))))
                (onB (decide (a = 11)) (Post (AV.agg [AV.i IntKind.i64 (-1), AV.i IntKind.i64 1099511627776, AV.i IntKind.i64 (-1), AV.b false]) h)
                  (onB (decide (a = 5))
                    (onB (decide (a = 5)) (Post (AV.agg [AV.i IntKind.i64 0, AV.i IntKind.i64 1099511627776, AV.i IntKind.i64 0, AV.b false]) h)
                      (onB (decide (a = 9)) (Post (AV.agg [AV.i IntKind.i64 0, AV.i IntKind.i64 1048576, AV.i IntKind.i64 0, AV.b false]) h)
                        (onB (decide (a = 10)) (Post (AV.agg [AV.i IntKind.i64 0, AV.i IntKind.i64 1048576, AV.i IntKind.i64 1, AV.b false]) h)
                          (onB (decide (a = 15)) (Post (AV.agg [AV.i IntKind.i64 0, AV.i IntKind.i64 4, AV.i IntKind.i64 0, AV.b false]) h)
                            (onB (decide (a = 16)) (Post (AV.agg [AV.i IntKind.i64 0, AV.i IntKind.i64 3, AV.i IntKind.i64 0, AV.b false]) h)
                              (onB (decide (a = 17)) (Post (AV.agg [AV.i IntKind.i64 0, AV.i IntKind.i64 16777215, AV.i IntKind.i64 0, AV.b true]) h)
                                (onB (decide (a = 18)) (Post (AV.agg [AV.i IntKind.i64 64, AV.i IntKind.i64 64000, AV.i IntKind.i64 1024, AV.b true]) h)
                                  (Post (AV.agg [AV.i IntKind.i64 0, AV.i IntKind.i64 1073741824, AV.i IntKind.i64 0, AV.b false]) h))))))))
                    (onB (decide (a = 7)) (Post (AV.agg [AV.i IntKind.i64 0, AV.i IntKind.i64 1099511627776, AV.i IntKind.i64 0, AV.b false]) h)
                      (onB (decide (a = 9)) (Post (AV.agg [AV.i IntKind.i64 0, AV.i IntKind.i64 1048576, AV.i IntKind.i64 0, AV.b false]) h)
                        (onB (decide (a = 10)) (Post (AV.agg [AV.i IntKind.i64 0, AV.i IntKind.i64 1048576, AV.i IntKind.i64 1, AV.b false]) h)
                          (onB (decide (a = 15)) (Post (AV.agg [AV.i IntKind.i64 0, AV.i IntKind.i64 4, AV.i IntKind.i64 0, AV.b false]) h)
                            (onB (decide (a = 16)) (Post (AV.agg [AV.i IntKind.i64 0, AV.i IntKind.i64 3, AV.i IntKind.i64 0, AV.b false]) h)
                              (onB (decide (a = 17)) (Post (AV.agg [AV.i IntKind.i64 0, AV.i IntKind.i64 16777215, AV.i IntKind.i64 0, AV.b true]) h)
                                (onB (decide (a = 18)) (Post (AV.agg [AV.i IntKind.i64 64, AV.i IntKind.i64 64000, AV.i IntKind.i64 1024, AV.b true]) h)
                                  (Post (AV.agg [AV.i IntKind.i64 0, AV.i IntKind.i64 1073741824, AV.i IntKind.i64 0, AV.b false]) h))))))))))))))))) := by kernel_rfl
def isS (s : D.Stamp) : Bool := decide (1 ≤ s.time) && (decide (s.time ≤ 1099511627776) && (decide (0 ≤ s.rep) && decide (s.rep < 16)))
def propP (a : Int) : Bool := decide (0 ≤ a) && decide (a < 19)
def lowP : Nat → Int
  | 3 | 4 | 6 | 8 | 11 => -1
  | 18 => 64
  | _ => 0
def highP : Nat → Int
  | 0 => 2 | 1 | 2 => 1
  | 3 | 4 | 5 | 6 | 7 | 8 | 11 => 1099511627776
  | 9 | 10 => 1048576
  | 12 | 13 | 14 => 1073741824
  | 15 => 4 | 16 => 3 | 17 => 16777215 | 18 => 64000
  | _ => 0
def plainP : Nat → Int
  | 3 | 4 | 6 | 8 | 11 => -1
  | 10 => 1
  | 18 => 1024
  | _ => 0
def goesP : Nat → Bool
  | 17 | 18 => true
  | _ => false
def mayP (a b : Int) : Bool := propP a && (decide (lowP a.toNat ≤ b) && decide (b ≤ highP a.toNat))
section
variable {h : Hp} {Post : AV → Hp → Prop}
theorem c45 {s : D.Stamp} (k : Post (.b (isS s)) h) : wpC Try.prog 45 [.agg [.i .i64 s.time, .i .i64 s.rep]] Post h := by
  refine call_sound (args := [.ag [.ii .i64 s.time, .ii .i64 s.rep]]) (cuts := []) ⟨⟨trivial, trivial, trivial⟩, trivial⟩ ?_
  rw [vc45]
  intro _
  unfold isS at k
  refine onB.dec (fun e => onB.dec (fun e1 => onB.dec (fun e2 => ?_) (fun e2 => ?_)) (fun e1 => ?_)) (fun e => ?_)
  · simpa only [e, e1, e2, decide_true, Bool.true_and] using k
  · simpa only [e, e1, e2, decide_true, decide_false, Bool.true_and, Bool.false_and] using k
  · simpa only [e, e1, decide_true, decide_false, Bool.true_and, Bool.false_and] using k
  · simpa only [e, decide_false, Bool.false_and] using k
end
section
variable {h : Hp} {Post : AV → Hp → Prop}
theorem c31 {a b : Int} (k : Post (.b (decide (0 ≤ a) && decide (a ≤ b))) h) : wpC Try.prog 31 [.i .i64 a, .i .i64 b] Post h := by
  refine call_sound (args := [.ii .i64 a, .ii .i64 b]) (cuts := []) ⟨trivial, trivial, trivial⟩ ?_
  rw [vc31]
  refine onB.dec (fun e => ?_) (fun e => ?_)
  · simpa only [e, decide_true, Bool.true_and] using k
  · simpa only [e, decide_false, Bool.false_and] using k
theorem c41 {s : D.Stamp} (k : Post (.b (isS s)) h) : wpC Try.prog 41 [.agg [.i .i64 s.time, .i .i64 s.rep]] Post h := by
  refine call_sound (args := [.ag [.ii .i64 s.time, .ii .i64 s.rep]]) (cuts := []) ⟨⟨trivial, trivial, trivial⟩, trivial⟩ ?_
  rw [vc41]
  intro _
  unfold isS at k
  refine onB.dec (fun e => onB.dec (fun e1 => c31 (onRet.b ?_)) (fun e1 => ?_)) (fun e => ?_)
  · have e2 : decide (s.rep ≤ 15) = decide (s.rep < 16) := by rw [decide_eq_decide]; omega
    simpa only [e, e1, e2, decide_true, Bool.true_and] using k
  · simpa only [e, e1, decide_true, decide_false, Bool.true_and, Bool.false_and] using k
  · simpa only [e, decide_false, Bool.false_and] using k
theorem c55 {a : Int} (k : Post (.b (propP a)) h) : wpC Try.prog 55 [.i .i64 a] Post h := by
  refine call_sound (args := [.ii .i64 a]) (cuts := []) ⟨trivial, trivial⟩ ?_
  rw [vc55]
  unfold propP at k
  refine onB.dec (fun e => ?_) (fun e => ?_)
  · simpa only [e, decide_true, Bool.true_and] using k
  · simpa only [e, decide_false, Bool.false_and] using k
theorem prop_cases {a : Int} (h0 : 0 ≤ a) (h1 : a < 19) : a = 0 ∨ a = 1 ∨ a = 2 ∨ a = 3 ∨ a = 4 ∨ a = 5 ∨ a = 6 ∨ a = 7 ∨ a = 8 ∨ a = 9 ∨ a = 10 ∨ a = 11 ∨ a = 12 ∨ a = 13 ∨ a = 14 ∨ a = 15 ∨ a = 16 ∨ a = 17 ∨ a = 18 := by omega
theorem c56 {a : Int} (h0 : 0 ≤ a) (h1 : a < 19) (k : Post (.agg [.i .i64 (lowP a.toNat), .i .i64 (highP a.toNat), .i .i64 (plainP a.toNat), .b (goesP a.toNat)]) h) : wpC Try.prog 56 [.i .i64 a] Post h := by
  refine call_sound (args := [.ii .i64 a]) (cuts := []) ⟨trivial, trivial⟩ ?_
  rw [vc56]
  intro _
  rcases prop_cases h0 h1 with rfl | rfl | rfl | rfl | rfl | rfl | rfl | rfl | rfl | rfl | rfl | rfl | rfl | rfl | rfl | rfl | rfl | rfl | rfl
  all_goals repeat' first
    | exact k
    | refine onB.pos rfl ?_
    | refine onB.neg rfl ?_
theorem c49 {a : Int} (k : ∀ n, (propP a = true → n = plainP a.toNat) → Post (.tup [.i .i64 (if propP a then lowP a.toNat else 0), .i .i64 (if propP a then highP a.toNat else 0), .i .i64 n, .b (propP a)]) h) : wpC Try.prog 49 [.i .i64 a] Post h := by
  refine call_sound (args := [.ii .i64 a]) (cuts := []) ⟨trivial, trivial⟩ ?_
  rw [vc49]
  by_cases hr : 0 ≤ a ∧ a < 19
  · have hp : propP a = true := by simp [propP, hr]
    rcases prop_cases hr.1 hr.2 with rfl | rfl | rfl | rfl | rfl | rfl | rfl | rfl | rfl | rfl | rfl | rfl | rfl | rfl | rfl | rfl | rfl | rfl | rfl
    all_goals repeat' first
      | exact k _ (fun _ => rfl)
      | refine onB.pos rfl ?_
      | refine onB.neg rfl ?_
  · have hp : propP a = false := by
      cases hb : propP a with
      | false => rfl
      | true => simp [propP] at hb; exact absurd hb hr
    have k := k 0 (fun e => by rw [hp] at e; cases e)
    rw [hp] at k
    repeat' first
      | exact k
      | refine onB.neg (decide_eq_false (by omega)) ?_
theorem c52 {a b : Int} (k : Post (.b (mayP a b)) h) : wpC Try.prog 52 [.i .i64 a, .i .i64 b] Post h := by
  refine call_sound (args := [.ii .i64 a, .ii .i64 b]) (cuts := []) ⟨trivial, trivial, trivial⟩ ?_
  rw [vc52]
  refine c55 (onRet.b ?_)
  unfold mayP at k
  refine onB.mk (fun e => ?_) (fun e => ?_)
  · have hr : 0 ≤ a ∧ a < 19 := by simpa [propP] using e
    refine c56 hr.1 hr.2 ?_
    refine onB.dec (fun e1 => c56 hr.1 hr.2 ?_) (fun e1 => ?_)
    · rw [e, decide_eq_true e1, Bool.true_and, Bool.true_and] at k; exact k
    · rw [e, decide_eq_false e1] at k; exact k
  · rw [e] at k; exact k
def checkP (a b : Int) : Int := if propP a = true then (if mayP a b = true then 0 else 9) else 3
theorem checkP_ok {a b : Int} : decide (checkP a b = 0) = mayP a b := by
  unfold checkP
  cases h1 : propP a with
  | false => simp [mayP, h1]
  | true =>
    cases h2 : mayP a b <;> simp
theorem c44 {a b : Int} (k : Post (.i .i64 (checkP a b)) h) : wpC Try.prog 44 [.i .i64 a, .i .i64 b] Post h := by
  refine call_sound (args := [.ii .i64 a, .ii .i64 b]) (cuts := []) ⟨trivial, trivial, trivial⟩ ?_
  rw [vc44]
  refine c49 fun n _ => ?_
  unfold checkP mayP at k
  show onB (!(propP a)) _ _
  cases hp : propP a with
  | false => rw [hp] at k; exact onB.pos rfl k
  | true =>
    rw [hp] at k
    simp only [if_true, Bool.true_and] at k
    refine onB.neg rfl (onB.dec (fun e => ?_) (fun e => onB.dec (fun e1 => ?_) (fun e1 => ?_)))
    · simp only [if_true] at e
      have : ¬ lowP a.toNat ≤ b := by omega
      simpa [this] using k
    · simp only [if_true] at e1
      have : ¬ b ≤ highP a.toNat := by omega
      simpa [this] using k
    · simp only [if_true] at e e1
      have e2 : lowP a.toNat ≤ b := by omega
      have e3 : b ≤ highP a.toNat := by omega
      simpa [e2, e3] using k
end
theorem drop_of {α : Type} {l : List α} {k : Nat} {x : α} (h : l[k]? = some x) : l.drop k = x :: l.drop (k + 1) := by
  obtain ⟨hk, e⟩ := List.getElem?_eq_some_iff.1 h
  rw [List.drop_eq_getElem_cons hk, e]
theorem get_lt {α : Type} {l : List α} {k : Nat} (h : k < l.length) : ∃ x, l[k]? = some x := ⟨_, List.getElem?_eq_getElem h⟩
theorem take_succ' {α : Type} {l : List α} {k : Nat} {x : α} (h : l[k]? = some x) : l.take (k + 1) = l.take k ++ [x] := by
  rw [List.take_add_one, h]; rfl
section
variable {h : Hp} {a : AV}
theorem Kn.Row.all {α : Type} {d : Kn α} {h : Hp} {a : AV} {l : List α} (r : d.Row h a l) {x : α} (hx : x ∈ l) : ∃ c, d.K h x c := by
  obtain ⟨css, _, r2⟩ := r
  obtain ⟨i, hi, rfl⟩ := List.getElem_of_mem hx
  obtain ⟨c, _, k⟩ := r2.get (List.getElem?_eq_getElem hi)
  exact ⟨c, k⟩
theorem inc64 {k : Nat} (h : k < 1000000000000) : intO .add .i64 (k : Int) 1 = some ((k + 1 : Nat) : Int) := by
  rw [add64 (by omega) (by omega)]; rfl
end
/- arras/arrasref6.Vector -/
theorem vc16 (a : AV) (h : Hp) (Post : AV → Hp → Prop) : vcCall Try.prog [] 16 [(SV.vv a)] h Post = (
  ∃ I0 : Nat → Bool → Int → Hp → Prop,
  (∃ p0, I0 p0 false 0 h) ∧
    ∀ (p1 : Nat) (h0 : Hp) (c0 : Bool) (n0 : Int),
      I0 p1 c0 n0 h0 →
        onO (lenV a) fun p2 =>
          onB (decide (n0 < ↑p2))
            (onO (idxV a n0 1) fun r0 =>
              onO (rdH h0 r0.fst r0.snd 1) fun l0 =>
                onL [Kd.int IntKind.i64] l0 fun n1 =>
                  wpC Try.prog 31 [AV.i IntKind.i64 n1, AV.i IntKind.i64 1099511627776]
                    (fun a0 h1 => onRet [Sh.one Kd.bool] a0 fun c1 => onB (!c1) (Post (AV.b false) h1) (onO (intO BinOp.add IntKind.i64 n0 1) fun n2 => ∃ p3, ltN p3 p1 ∧ I0 p3 c0 n2 h1)) h0)
            (onO (lenV a) fun p4 => onB (decide ((1 : Int) ≤ ↑p4)) (onO (lenV a) fun p5 => Post (AV.b (decide ((↑p5 : Int) ≤ 16))) h0) (Post (AV.b false) h0))) := by kernel_rfl
/- arras/arrasref8.Key -/
theorem vc43 (a : List Nat) (h : Hp) (Post : AV → Hp → Prop) : vcCall Try.prog [] 43 [(SV.ss a)] h Post = (
  onB (decide ((1 : Int) ≤ ↑a.length))
  (onB (decide ((↑a.length : Int) ≤ 64))
    (onO (intO BinOp.sub IntKind.i64 (↑a.length) 1) fun n0 => onO ((natI n0).bind fun j => nthL a j) fun p1 => Post (AV.b !decide ((↑p1 : Int) = 0)) h)
    (Post (AV.b false) h))
  (Post (AV.b false) h)) := by kernel_rfl
/- arras/key.Is -/
theorem vc51 (a : List Nat) (h : Hp) (Post : AV → Hp → Prop) : vcCall Try.prog [] 51 [(SV.ss a)] h Post = (
  onB (decide ((1 : Int) ≤ ↑a.length))
  (onB (decide ((↑a.length : Int) ≤ 64))
    (onO (intO BinOp.sub IntKind.i64 (↑a.length) 1) fun n0 => onO ((natI n0).bind fun j => nthL a j) fun p1 => Post (AV.b !decide ((↑p1 : Int) = 0)) h)
    (Post (AV.b false) h))
  (Post (AV.b false) h)) := by kernel_rfl
/- arras/arrasref6.Place -/
theorem vc42 (a0 : Int) (a1 : Int) (h : Hp) (Post : AV → Hp → Prop) : vcCall Try.prog [] 42 [(SV.ag [(SV.ii .i64 a0), (SV.ii .i64 a1)])] h Post = (
  ∀ (p0 : Nat),
  wpC Try.prog 41 [AV.agg [AV.i IntKind.i64 a0, AV.i IntKind.i64 a1]]
    (fun a0_1 h0 =>
      onRet [Sh.one Kd.bool] a0_1 fun c0 =>
        onB c0 (Post (AV.b true) h0)
          (wpC Try.prog 47 []
            (fun a1_1 h1 =>
              onRet [Sh.agg [Kd.int IntKind.i64, Kd.int IntKind.i64]] a1_1 fun n0 n1 =>
                onB (decide (a0 = n0) && decide (a1 = n1)) (Post (AV.b true) h1)
                  (wpC Try.prog 48 [] (fun a2 h2 => onRet [Sh.agg [Kd.int IntKind.i64, Kd.int IntKind.i64]] a2 fun n2 n3 => Post (AV.b (decide (a0 = n2) && decide (a1 = n3))) h2) h1))
            h0))
    h) := by kernel_rfl
/- arras/stamp.Place -/
theorem vc50 (a0 : Int) (a1 : Int) (h : Hp) (Post : AV → Hp → Prop) : vcCall Try.prog [] 50 [(SV.ag [(SV.ii .i64 a0), (SV.ii .i64 a1)])] h Post = (
  ∀ (p0 : Nat),
  wpC Try.prog 45 [AV.agg [AV.i IntKind.i64 a0, AV.i IntKind.i64 a1]]
    (fun a0_1 h0 =>
      onRet [Sh.one Kd.bool] a0_1 fun c0 =>
        onB c0 (Post (AV.b true) h0)
          (wpC Try.prog 53 []
            (fun a1_1 h1 =>
              onRet [Sh.agg [Kd.int IntKind.i64, Kd.int IntKind.i64]] a1_1 fun n0 n1 =>
                onB (decide (a0 = n0) && decide (a1 = n1)) (Post (AV.b true) h1)
                  (wpC Try.prog 54 [] (fun a2 h2 => onRet [Sh.agg [Kd.int IntKind.i64, Kd.int IntKind.i64]] a2 fun n2 n3 => Post (AV.b (decide (a0 = n2) && decide (a1 = n3))) h2) h1))
            h0))
    h) := by kernel_rfl
/- arras/stamp.Root -/
theorem vc53  (h : Hp) (Post : AV → Hp → Prop) : vcCall Try.prog [] 53 [] h Post = (
  ∀ (p0 : Nat), Post (AV.agg [AV.i IntKind.i64 0, AV.i IntKind.i64 0]) h) := by kernel_rfl
/- arras/stamp.Trash -/
theorem vc54  (h : Hp) (Post : AV → Hp → Prop) : vcCall Try.prog [] 54 [] h Post = (
  ∀ (p0 : Nat), Post (AV.agg [AV.i IntKind.i64 0, AV.i IntKind.i64 1]) h) := by kernel_rfl
/- arras/arrasref6.Root -/
theorem vc47  (h : Hp) (Post : AV → Hp → Prop) : vcCall Try.prog [] 47 [] h Post = (
  ∀ (p0 : Nat), Post (AV.agg [AV.i IntKind.i64 0, AV.i IntKind.i64 0]) h) := by kernel_rfl
/- arras/arrasref6.Trash -/
theorem vc48  (h : Hp) (Post : AV → Hp → Prop) : vcCall Try.prog [] 48 [] h Post = (
  ∀ (p0 : Nat), Post (AV.agg [AV.i IntKind.i64 0, AV.i IntKind.i64 1]) h) := by kernel_rfl
/- arras/op.May -/
theorem vc37 (a0 : Int) (a1 : Int) (a2 : Int) (a3 : AV) (a4 : Int) (a5 : Int) (a6 : Int) (a7 : Int) (a8 : Int) (a9 : List Nat) (a10 : Int) (a11 : Int) (h : Hp) (Post : AV → Hp → Prop) : vcCall Try.prog [] 37 [(SV.ag [(SV.ii .i64 a0), (SV.ii .i64 a1), (SV.ii .i64 a2), (SV.vv a3), (SV.ii .i64 a4), (SV.ii .i64 a5), (SV.ii .i64 a6), (SV.ii .i64 a7), (SV.ii .i64 a8), (SV.ss a9), (SV.ii .i64 a10), (SV.ii .i64 a11)])] h Post = (
  ∀ (p0 : Nat),
  wpC Try.prog 45 [AV.agg [AV.i IntKind.i64 a0, AV.i IntKind.i64 a1]]
    (fun a0_1 h0 =>
      onRet [Sh.one Kd.bool] a0_1 fun c0 =>
        onB (!c0) (Post (AV.b false) h0)
          (wpC Try.prog 36 [a3]
            (fun a1_1 h1 =>
              onRet [Sh.one Kd.bool] a1_1 fun c1 =>
                onB (!c1) (Post (AV.b false) h1)
                  (onO (lenV a3) fun p1 =>
                    onB (decide ((↑p1 : Int) ≤ a1)) (Post (AV.b false) h1)
                      (wpC Try.prog 45 [AV.agg [AV.i IntKind.i64 a5, AV.i IntKind.i64 a6]]
                        (fun a2_1 h2 =>
                          onRet [Sh.one Kd.bool] a2_1 fun c2 =>
                            onB (!c2) (Post (AV.b false) h2)
                              (onO (idxV a3 a1 1) fun r0 =>
                                onO (rdH h2 r0.fst r0.snd 1) fun l0 =>
                                  onL [Kd.int IntKind.i64] l0 fun n0 =>
                                    onO (intO BinOp.add IntKind.i64 n0 1) fun n1 =>
                                      onB (decide (a2 = n1))
                                        (onB (decide (a2 ≤ 1099511627776))
                                          (wpC Try.prog 46
                                            [AV.agg
                                                [AV.i IntKind.i64 a0, AV.i IntKind.i64 a1, AV.i IntKind.i64 a2, a3, AV.i IntKind.i64 a4, AV.i IntKind.i64 a5, AV.i IntKind.i64 a6, AV.i IntKind.i64 a7,
                                                  AV.i IntKind.i64 a8, AV.s a9, AV.i IntKind.i64 a10, AV.i IntKind.i64 a11]]
                                            (fun a3 h3 => onRet [Sh.one Kd.bool] a3 fun c3 => Post (AV.b c3) h3) h2)
                                          (Post (AV.b false) h2))
                                        (Post (AV.b false) h2)))
                        h1)))
            h0))
    h) := by kernel_rfl
/- arras/arrasref10.Op -/
theorem vc32 (a0 : Int) (a1 : Int) (a2 : Int) (a3 : AV) (a4 : Int) (a5 : Int) (a6 : Int) (a7 : Int) (a8 : Int) (a9 : List Nat) (a10 : Int) (a11 : Int) (h : Hp) (Post : AV → Hp → Prop) : vcCall Try.prog [] 32 [(SV.ag [(SV.ii .i64 a0), (SV.ii .i64 a1), (SV.ii .i64 a2), (SV.vv a3), (SV.ii .i64 a4), (SV.ii .i64 a5), (SV.ii .i64 a6), (SV.ii .i64 a7), (SV.ii .i64 a8), (SV.ss a9), (SV.ii .i64 a10), (SV.ii .i64 a11)])] h Post = (
  ∀ (p0 : Nat),
  wpC Try.prog 41 [AV.agg [AV.i IntKind.i64 a0, AV.i IntKind.i64 a1]]
    (fun a0_1 h0 =>
      onRet [Sh.one Kd.bool] a0_1 fun c0 =>
        onB (!c0) (Post (AV.b false) h0)
          (wpC Try.prog 16 [a3]
            (fun a1_1 h1 =>
              onRet [Sh.one Kd.bool] a1_1 fun c1 =>
                onB (!c1) (Post (AV.b false) h1)
                  (onO (lenV a3) fun p1 =>
                    onB (decide ((↑p1 : Int) ≤ a1)) (Post (AV.b false) h1)
                      (onB (decide (a2 < 1)) (Post (AV.b false) h1)
                        (onB (decide (1099511627776 < a2)) (Post (AV.b false) h1)
                          (onO (idxV a3 a1 1) fun r0 =>
                            onO (rdH h1 r0.fst r0.snd 1) fun l0 =>
                              onL [Kd.int IntKind.i64] l0 fun n0 =>
                                onO (intO BinOp.add IntKind.i64 n0 1) fun n1 =>
                                  onB (!decide (a2 = n1)) (Post (AV.b false) h1)
                                    (wpC Try.prog 41 [AV.agg [AV.i IntKind.i64 a5, AV.i IntKind.i64 a6]]
                                      (fun a2_1 h2 =>
                                        onRet [Sh.one Kd.bool] a2_1 fun c2 =>
                                          onB (!c2) (Post (AV.b false) h2)
                                            (∀ (p2 : Nat),
                                              onB (decide (a4 = 1))
                                                (wpC Try.prog 33
                                                  [AV.agg
                                                      [AV.i IntKind.i64 a0, AV.i IntKind.i64 a1, AV.i IntKind.i64 a2, a3, AV.i IntKind.i64 a4, AV.i IntKind.i64 a5, AV.i IntKind.i64 a6,
                                                        AV.i IntKind.i64 a7, AV.i IntKind.i64 a8, AV.s a9, AV.i IntKind.i64 0, AV.i IntKind.i64 0],
                                                    AV.agg
                                                      [AV.i IntKind.i64 a0, AV.i IntKind.i64 a1, AV.i IntKind.i64 a2, a3, AV.i IntKind.i64 a4, AV.i IntKind.i64 a5, AV.i IntKind.i64 a6,
                                                        AV.i IntKind.i64 a7, AV.i IntKind.i64 a8, AV.s a9, AV.i IntKind.i64 a10, AV.i IntKind.i64 a11]]
                                                  (fun a3 h3 =>
                                                    onRet [Sh.one Kd.bool] a3 fun c3 =>
                                                      onB c3
                                                        (wpC Try.prog 42 [AV.agg [AV.i IntKind.i64 a7, AV.i IntKind.i64 a8]]
                                                          (fun a4 h4 =>
                                                            onRet [Sh.one Kd.bool] a4 fun c4 =>
                                                              onB c4 (wpC Try.prog 43 [AV.s a9] (fun a5 h5 => onRet [Sh.one Kd.bool] a5 fun c5 => Post (AV.b c5) h5) h4) (Post (AV.b false) h4))
                                                          h3)
                                                        (Post (AV.b false) h3))
                                                  h2)
                                                (onB (decide (a4 = 2))
                                                  (wpC Try.prog 33
                                                    [AV.agg
                                                        [AV.i IntKind.i64 a0, AV.i IntKind.i64 a1, AV.i IntKind.i64 a2, a3, AV.i IntKind.i64 a4, AV.i IntKind.i64 a5, AV.i IntKind.i64 a6,
                                                          AV.i IntKind.i64 0, AV.i IntKind.i64 0, AV.s [], AV.i IntKind.i64 a10, AV.i IntKind.i64 a11],
                                                      AV.agg
                                                        [AV.i IntKind.i64 a0, AV.i IntKind.i64 a1, AV.i IntKind.i64 a2, a3, AV.i IntKind.i64 a4, AV.i IntKind.i64 a5, AV.i IntKind.i64 a6,
                                                          AV.i IntKind.i64 a7, AV.i IntKind.i64 a8, AV.s a9, AV.i IntKind.i64 a10, AV.i IntKind.i64 a11]]
                                                    (fun a6 h6 =>
                                                      onRet [Sh.one Kd.bool] a6 fun c6 =>
                                                        onB c6
                                                          (wpC Try.prog 44 [AV.i IntKind.i64 a10, AV.i IntKind.i64 a11]
                                                            (fun a7 h7 => onRet [Sh.one (Kd.int IntKind.i64)] a7 fun n2 => Post (AV.b (decide (n2 = 0))) h7) h6)
                                                          (Post (AV.b false) h6))
                                                    h2)
                                                  (Post (AV.b false) h2))))
                                      h1))))))
            h0))
    h) := by kernel_rfl
/- arras/op.kind -/
theorem vc46 (a0 : Int) (a1 : Int) (a2 : Int) (a3 : AV) (a4 : Int) (a5 : Int) (a6 : Int) (a7 : Int) (a8 : Int) (a9 : List Nat) (a10 : Int) (a11 : Int) (h : Hp) (Post : AV → Hp → Prop) : vcCall Try.prog [] 46 [(SV.ag [(SV.ii .i64 a0), (SV.ii .i64 a1), (SV.ii .i64 a2), (SV.vv a3), (SV.ii .i64 a4), (SV.ii .i64 a5), (SV.ii .i64 a6), (SV.ii .i64 a7), (SV.ii .i64 a8), (SV.ss a9), (SV.ii .i64 a10), (SV.ii .i64 a11)])] h Post = (
  ∀ (p0 : Nat),
  onB (decide (a4 = 1))
    (wpC Try.prog 50 [AV.agg [AV.i IntKind.i64 a7, AV.i IntKind.i64 a8]]
      (fun a0 h0 =>
        onRet [Sh.one Kd.bool] a0 fun c0 =>
          onB c0
            (wpC Try.prog 51 [AV.s a9]
              (fun a1 h1 => onRet [Sh.one Kd.bool] a1 fun c1 => onB c1 (onB (decide (a10 = 0)) (Post (AV.b (decide (a11 = 0))) h1) (Post (AV.b false) h1)) (Post (AV.b false) h1)) h0)
            (Post (AV.b false) h0))
      h)
    (onB (decide (a4 = 2))
      (wpC Try.prog 52 [AV.i IntKind.i64 a10, AV.i IntKind.i64 a11]
        (fun a2 h2 =>
          onRet [Sh.one Kd.bool] a2 fun c2 =>
            onB c2
              (wpC Try.prog 53 []
                (fun a3 h3 =>
                  onRet [Sh.agg [Kd.int IntKind.i64, Kd.int IntKind.i64]] a3 fun n0 n1 =>
                    onB (decide (a7 = n0) && decide (a8 = n1)) (Post (AV.b (decide (a9 = bytesL { data := #[] }))) h3) (Post (AV.b false) h3))
                h2)
              (Post (AV.b false) h2))
        h)
      (Post (AV.b false) h))) := by kernel_rfl
/- arras/have.Is -/
theorem vc36 (a : AV) (h : Hp) (Post : AV → Hp → Prop) : vcCall Try.prog [0] 36 [(SV.vv a)] h Post = (
  ∃ I0 : Nat → Int → Bool → Hp → Prop,
  (∃ p0, I0 p0 0 false h) ∧
    ∀ (p1 : Nat) (h0 : Hp) (n0 : Int) (c0 : Bool),
      I0 p1 n0 c0 h0 →
        Dup
          (onO (lenV a) fun p2 =>
            onB (decide (n0 = ↑p2)) (onB (decide (1 ≤ n0)) (Post (AV.b (decide (n0 ≤ 16))) h0) (Post (AV.b false) h0))
              (onO (idxV a n0 1) fun r0 =>
                onO (rdH h0 r0.fst r0.snd 1) fun l0 =>
                  onL [Kd.int IntKind.i64] l0 fun n1 =>
                    onB (decide (0 ≤ n1))
                      (onO (idxV a n0 1) fun r1 =>
                        onO (rdH h0 r1.fst r1.snd 1) fun l1 =>
                          onL [Kd.int IntKind.i64] l1 fun n2 =>
                            onB (decide (n2 ≤ 1099511627776)) (onO (intO BinOp.add IntKind.i64 n0 1) fun n3 => ∃ p3, ltN p3 p1 ∧ I0 p3 n3 c0 h0) (Post (AV.b false) h0))
                      (Post (AV.b false) h0)))) := by kernel_rfl
/- arras/arrasref0.EqNumbers -/
theorem vc21 (a : AV) (b : AV) (h : Hp) (Post : AV → Hp → Prop) : vcCall Try.prog [] 21 [(SV.vv a), (SV.vv b)] h Post = (
  onO (lenV a) fun p0 =>
  onO (lenV b) fun p1 =>
    onB (!decide ((↑p0 : Int) = ↑p1)) (Post (AV.b false) h)
      (∃ I0 : Nat → Bool → Int → Hp → Prop,
        (∃ p2, I0 p2 false 0 h) ∧
          ∀ (p3 : Nat) (h0 : Hp) (c0 : Bool) (n0 : Int),
            I0 p3 c0 n0 h0 →
              onO (lenV a) fun p4 =>
                onB (decide (n0 < ↑p4))
                  (onO (idxV a n0 1) fun r0 =>
                    onO (rdH h0 r0.fst r0.snd 1) fun l0 =>
                      onL [Kd.int IntKind.i64] l0 fun n1 =>
                        onO (idxV b n0 1) fun r1 =>
                          onO (rdH h0 r1.fst r1.snd 1) fun l1 =>
                            onL [Kd.int IntKind.i64] l1 fun n2 => onB (!decide (n1 = n2)) (Post (AV.b false) h0) (onO (intO BinOp.add IntKind.i64 n0 1) fun n3 => ∃ p5, ltN p5 p3 ∧ I0 p5 c0 n3 h0))
                  (Post (AV.b true) h0))) := by kernel_rfl
/- arras/arrasref0.EqOp -/
theorem vc33 (a0 : Int) (a1 : Int) (a2 : Int) (a3 : AV) (a4 : Int) (a5 : Int) (a6 : Int) (a7 : Int) (a8 : Int) (a9 : List Nat) (a10 : Int) (a11 : Int) (b0 : Int) (b1 : Int) (b2 : Int) (b3 : AV) (b4 : Int) (b5 : Int) (b6 : Int) (b7 : Int) (b8 : Int) (b9 : List Nat) (b10 : Int) (b11 : Int) (h : Hp) (Post : AV → Hp → Prop) : vcCall Try.prog [] 33 [(SV.ag [(SV.ii .i64 a0), (SV.ii .i64 a1), (SV.ii .i64 a2), (SV.vv a3), (SV.ii .i64 a4), (SV.ii .i64 a5), (SV.ii .i64 a6), (SV.ii .i64 a7), (SV.ii .i64 a8), (SV.ss a9), (SV.ii .i64 a10), (SV.ii .i64 a11)]), (SV.ag [(SV.ii .i64 b0), (SV.ii .i64 b1), (SV.ii .i64 b2), (SV.vv b3), (SV.ii .i64 b4), (SV.ii .i64 b5), (SV.ii .i64 b6), (SV.ii .i64 b7), (SV.ii .i64 b8), (SV.ss b9), (SV.ii .i64 b10), (SV.ii .i64 b11)])] h Post = (
  ∀ (p0 p1 : Nat),
  onB (decide (a0 = b0) && decide (a1 = b1))
    (onB (decide (a2 = b2))
      (wpC Try.prog 21 [a3, b3]
        (fun a0 h0 =>
          onRet [Sh.one Kd.bool] a0 fun c0 =>
            onB c0
              (onB (decide (a4 = b4))
                (onB (decide (a5 = b5) && decide (a6 = b6))
                  (onB (decide (a7 = b7) && decide (a8 = b8)) (onB (decide (a9 = b9)) (onB (decide (a10 = b10)) (Post (AV.b (decide (a11 = b11))) h0) (Post (AV.b false) h0)) (Post (AV.b false) h0))
                    (Post (AV.b false) h0))
                  (Post (AV.b false) h0))
                (Post (AV.b false) h0))
              (Post (AV.b false) h0))
        h)
      (Post (AV.b false) h))
    (Post (AV.b false) h)) := by kernel_rfl
/- arras/arrasref0.CopyNumbers -/
theorem vc12 (a : AV) (h : Hp) (Post : AV → Hp → Prop) : vcCall Try.prog [] 12 [(SV.vv a)] h Post = (
  ∃ I0 : Nat → AV → Int → Hp → Prop,
  (∃ p0, I0 p0 AV.ns 0 h) ∧
    ∀ (p1 : Nat) (h0 : Hp) (a0 : AV),
      a0.sc = true →
        ∀ (n0 : Int),
          I0 p1 a0 n0 h0 →
            onO (lenV a) fun p2 =>
              onB (decide (n0 < ↑p2))
                (onO (idxV a n0 1) fun r0 =>
                  onO (rdH h0 r0.fst r0.snd 1) fun l0 =>
                    onL [Kd.int IntKind.i64] l0 fun n1 =>
                      ∀ (p3 : Nat),
                        wpE (Eff.app a0 1 (Src.lit [AV.i IntKind.i64 n1]) 1) (fun x0 h1 => onO x0 fun a1 => onO (intO BinOp.add IntKind.i64 n0 1) fun n2 => ∃ p4, ltN p4 p1 ∧ I0 p4 a1 n2 h1) h0)
                (Post a0 h0)) := by kernel_rfl
/- arras/arrasref0.CopyOp -/
theorem vc28 (a0 : Int) (a1 : Int) (a2 : Int) (a3 : AV) (a4 : Int) (a5 : Int) (a6 : Int) (a7 : Int) (a8 : Int) (a9 : List Nat) (a10 : Int) (a11 : Int) (h : Hp) (Post : AV → Hp → Prop) : vcCall Try.prog [] 28 [(SV.ag [(SV.ii .i64 a0), (SV.ii .i64 a1), (SV.ii .i64 a2), (SV.vv a3), (SV.ii .i64 a4), (SV.ii .i64 a5), (SV.ii .i64 a6), (SV.ii .i64 a7), (SV.ii .i64 a8), (SV.ss a9), (SV.ii .i64 a10), (SV.ii .i64 a11)])] h Post = (
  ∀ (p0 p1 p2 : Nat),
  wpC Try.prog 12 [a3]
    (fun a0_1 h0 =>
      onRet [Sh.one Kd.ref] a0_1 fun a1_1 =>
        Post
          (AV.agg
            [AV.i IntKind.i64 a0, AV.i IntKind.i64 a1, AV.i IntKind.i64 a2, a1_1, AV.i IntKind.i64 a4, AV.i IntKind.i64 a5, AV.i IntKind.i64 a6, AV.i IntKind.i64 a7, AV.i IntKind.i64 a8, AV.s a9,
              AV.i IntKind.i64 a10, AV.i IntKind.i64 a11])
          h0)
    h) := by kernel_rfl
/- arras/arrasref0.CopyOps -/
theorem vc11 (a : AV) (h : Hp) (Post : AV → Hp → Prop) : vcCall Try.prog [] 11 [(SV.vv a)] h Post = (
  ∃ I0 : Nat → AV → Int → Hp → Prop,
  (∃ p0, I0 p0 AV.ns 0 h) ∧
    ∀ (p1 : Nat) (h0 : Hp) (a0 : AV),
      a0.sc = true →
        ∀ (n0 : Int),
          I0 p1 a0 n0 h0 →
            onO (lenV a) fun p2 =>
              onB (decide (n0 < ↑p2))
                (onO (idxV a n0 12) fun r0 =>
                  onO (rdH h0 r0.fst r0.snd 12) fun l0 =>
                    onL
                      [Kd.int IntKind.i64, Kd.int IntKind.i64, Kd.int IntKind.i64, Kd.ref, Kd.int IntKind.i64, Kd.int IntKind.i64, Kd.int IntKind.i64, Kd.int IntKind.i64, Kd.int IntKind.i64, Kd.str,
                        Kd.int IntKind.i64, Kd.int IntKind.i64]
                      l0 fun n1 n2 n3 a1 n4 n5 n6 n7 n8 l1 n9 n10 =>
                      wpC Try.prog 28
                        [AV.agg
                            [AV.i IntKind.i64 n1, AV.i IntKind.i64 n2, AV.i IntKind.i64 n3, a1, AV.i IntKind.i64 n4, AV.i IntKind.i64 n5, AV.i IntKind.i64 n6, AV.i IntKind.i64 n7, AV.i IntKind.i64 n8,
                              AV.s l1, AV.i IntKind.i64 n9, AV.i IntKind.i64 n10]]
                        (fun a2 h1 =>
                          onRet
                            [Sh.agg
                                [Kd.int IntKind.i64, Kd.int IntKind.i64, Kd.int IntKind.i64, Kd.ref, Kd.int IntKind.i64, Kd.int IntKind.i64, Kd.int IntKind.i64, Kd.int IntKind.i64, Kd.int IntKind.i64,
                                  Kd.str, Kd.int IntKind.i64, Kd.int IntKind.i64]]
                            a2 fun n11 n12 n13 a3 n14 n15 n16 n17 n18 l2 n19 n20 =>
                            ∀ (p3 : Nat),
                              wpE
                                (Eff.app a0 1
                                  (Src.lit
                                    [AV.i IntKind.i64 n11, AV.i IntKind.i64 n12, AV.i IntKind.i64 n13, a3, AV.i IntKind.i64 n14, AV.i IntKind.i64 n15, AV.i IntKind.i64 n16, AV.i IntKind.i64 n17,
                                      AV.i IntKind.i64 n18, AV.s l2, AV.i IntKind.i64 n19, AV.i IntKind.i64 n20])
                                  12)
                                (fun x0 h2 => onO x0 fun a4 => onO (intO BinOp.add IntKind.i64 n0 1) fun n21 => ∃ p4, ltN p4 p1 ∧ I0 p4 a4 n21 h2) h1)
                        h0)
                (Post a0 h0)) := by kernel_rfl
/- arras/arrasref0.EqOps -/
theorem vc19 (a : AV) (b : AV) (h : Hp) (Post : AV → Hp → Prop) : vcCall Try.prog [] 19 [(SV.vv a), (SV.vv b)] h Post = (
  onO (lenV a) fun p0 =>
  onO (lenV b) fun p1 =>
    onB (!decide ((↑p0 : Int) = ↑p1)) (Post (AV.b false) h)
      (∃ I0 : Nat → Bool → Int → Hp → Prop,
        (∃ p2, I0 p2 false 0 h) ∧
          ∀ (p3 : Nat) (h0 : Hp) (c0 : Bool) (n0 : Int),
            I0 p3 c0 n0 h0 →
              onO (lenV a) fun p4 =>
                onB (decide (n0 < ↑p4))
                  (onO (idxV a n0 12) fun r0 =>
                    onO (rdH h0 r0.fst r0.snd 12) fun l0 =>
                      onL
                        [Kd.int IntKind.i64, Kd.int IntKind.i64, Kd.int IntKind.i64, Kd.ref, Kd.int IntKind.i64, Kd.int IntKind.i64, Kd.int IntKind.i64, Kd.int IntKind.i64, Kd.int IntKind.i64, Kd.str,
                          Kd.int IntKind.i64, Kd.int IntKind.i64]
                        l0 fun n1 n2 n3 a0 n4 n5 n6 n7 n8 l1 n9 n10 =>
                        onO (idxV b n0 12) fun r1 =>
                          onO (rdH h0 r1.fst r1.snd 12) fun l2 =>
                            onL
                              [Kd.int IntKind.i64, Kd.int IntKind.i64, Kd.int IntKind.i64, Kd.ref, Kd.int IntKind.i64, Kd.int IntKind.i64, Kd.int IntKind.i64, Kd.int IntKind.i64, Kd.int IntKind.i64,
                                Kd.str, Kd.int IntKind.i64, Kd.int IntKind.i64]
                              l2 fun n11 n12 n13 a1 n14 n15 n16 n17 n18 l3 n19 n20 =>
                              wpC Try.prog 33
                                [AV.agg
                                    [AV.i IntKind.i64 n1, AV.i IntKind.i64 n2, AV.i IntKind.i64 n3, a0, AV.i IntKind.i64 n4, AV.i IntKind.i64 n5, AV.i IntKind.i64 n6, AV.i IntKind.i64 n7,
                                      AV.i IntKind.i64 n8, AV.s l1, AV.i IntKind.i64 n9, AV.i IntKind.i64 n10],
                                  AV.agg
                                    [AV.i IntKind.i64 n11, AV.i IntKind.i64 n12, AV.i IntKind.i64 n13, a1, AV.i IntKind.i64 n14, AV.i IntKind.i64 n15, AV.i IntKind.i64 n16, AV.i IntKind.i64 n17,
                                      AV.i IntKind.i64 n18, AV.s l3, AV.i IntKind.i64 n19, AV.i IntKind.i64 n20]]
                                (fun a2 h1 => onRet [Sh.one Kd.bool] a2 fun c1 => onB (!c1) (Post (AV.b false) h1) (onO (intO BinOp.add IntKind.i64 n0 1) fun n21 => ∃ p5, ltN p5 p3 ∧ I0 p5 c0 n21 h1))
                                h0)
                  (Post (AV.b true) h0))) := by kernel_rfl
/- slices.Clone[[]int,int] -/
theorem vc29 (a : AV) (h : Hp) (Post : AV → Hp → Prop) : vcCall Try.prog [] 29 [(SV.vv a)] h Post = (
  onO (nilSl a) fun c0 =>
  onB c0 (Post AV.ns h)
    (∀ (p0 : Nat),
      h.g p0 = none →
        h.lo.le p0 →
          onO (srcV 1 a) fun r0 =>
            onC (((4 * r0.fst + 4000) * 8).ble (OfNat.ofNat 17179869184)) (wpE (Eff.app (AV.sl p0 0 0 0 true 1) r0.fst r0.snd 1) (fun x0 h0 => onO x0 fun a0 => Post a0 h0) (h.put p0 [])))) := by kernel_rfl
/- arras/op.Own -/
theorem vc38 (a0 : Int) (a1 : Int) (a2 : Int) (a3 : AV) (a4 : Int) (a5 : Int) (a6 : Int) (a7 : Int) (a8 : Int) (a9 : List Nat) (a10 : Int) (a11 : Int) (h : Hp) (Post : AV → Hp → Prop) : vcCall Try.prog [] 38 [(SV.ag [(SV.ii .i64 a0), (SV.ii .i64 a1), (SV.ii .i64 a2), (SV.vv a3), (SV.ii .i64 a4), (SV.ii .i64 a5), (SV.ii .i64 a6), (SV.ii .i64 a7), (SV.ii .i64 a8), (SV.ss a9), (SV.ii .i64 a10), (SV.ii .i64 a11)])] h Post = (
  ∀ (p0 p1 : Nat),
  wpC Try.prog 29 [a3]
    (fun a0_1 h0 =>
      onRet [Sh.one Kd.ref] a0_1 fun a1_1 =>
        Post
          (AV.agg
            [AV.i IntKind.i64 a0, AV.i IntKind.i64 a1, AV.i IntKind.i64 a2, a1_1, AV.i IntKind.i64 a4, AV.i IntKind.i64 a5, AV.i IntKind.i64 a6, AV.i IntKind.i64 a7, AV.i IntKind.i64 a8, AV.s a9,
              AV.i IntKind.i64 a10, AV.i IntKind.i64 a11])
          h0)
    h) := by kernel_rfl
/-! ### plain -/
def numV (x : Int) : Bool := decide (0 ≤ x) && decide (x ≤ 1099511627776)
def vecV (l : List Int) : Bool := l.all numV && (decide (1 ≤ l.length) && decide (l.length ≤ 16))
abbrev IR := Kn.int.Row
theorem int_cells {h : Hp} {x : Int} : ∀ c, Kn.int.K h x c → c = [.i .i64 x] := fun c k => k.1
theorem int_flat : Kn.int.Flat := fun h h' x c k => k
section
variable {h : Hp} {a b : AV} {l la lb : List Int} {Post : AV → Hp → Prop}
theorem int0 (r : IR h a l) {k : Nat} {x : Int} (e : l[k]? = some x) {K : Int → Prop} (q : K x) : onO (idxV a (k : Int) 1) fun r0 => onO (rdH h r0.1 r0.2 1) fun l0 => onL [Kd.int .i64] l0 K :=
  r.whole (Int.natCast_nonneg k) (by simpa using e) int_cells rfl (onL.i1 q)
theorem c16 (r : IR h a l) (hb : l.length < 1000000) (k : Post (.b (vecV l)) h) : wpC Try.prog 16 [a] Post h := by
  refine call_sound (args := [.vv a]) (cuts := []) ⟨r.sc, trivial⟩ ?_
  rw [vc16]
  refine ⟨fun m _ i h' => h' = h ∧ ∃ k : Nat, i = k ∧ k ≤ l.length ∧ m = l.length - k ∧ l.all numV = (l.drop k).all numV, ⟨l.length, rfl, 0, rfl, by omega, rfl, rfl⟩, ?_⟩
  rintro m h0 _ _ ⟨rfl, j, rfl, hj, rfl, hp⟩
  refine onO.mk r.len (onB.dec (fun e => ?_) (fun e => ?_))
  · obtain ⟨x, hx⟩ := get_lt (l := l) (k := j) (by omega)
    rw [drop_of hx, List.all_cons] at hp
    refine int0 r hx (c31 (onRet.b (onB.not (fun e1 => ?_) (fun e1 => ?_))))
    · have e1 : numV x = false := e1
      rw [e1, Bool.false_and] at hp
      unfold vecV at k
      rw [hp, Bool.false_and] at k; exact k
    · have e1 : numV x = true := e1
      rw [e1, Bool.true_and] at hp
      exact onO.mk (inc64 (by omega)) ⟨_, by show l.length - (j + 1) < l.length - j; omega, rfl, j + 1, rfl, by omega, rfl, hp⟩
  · have : j = l.length := by omega
    subst this
    rw [List.drop_length] at hp
    unfold vecV at k
    rw [hp, List.all_nil, Bool.true_and] at k
    refine onO.mk r.len (onB.dec (fun e1 => onO.mk r.len ?_) (fun e1 => ?_))
    · have e2 : decide ((l.length : Int) ≤ 16) = decide (l.length ≤ 16) := by rw [decide_eq_decide]; omega
      rw [e2]
      rw [decide_eq_true (show 1 ≤ l.length by omega), Bool.true_and] at k; exact k
    · rw [decide_eq_false (show ¬ 1 ≤ l.length by omega), Bool.false_and] at k; exact k
theorem c36 (r : IR h a l) (hb : l.length < 1000000) (k : Post (.b (vecV l)) h) : wpC Try.prog 36 [a] Post h := by
  refine call_sound (args := [.vv a]) (cuts := [0]) ⟨r.sc, trivial⟩ ?_
  rw [vc36]
  refine ⟨fun m i _ h' => h' = h ∧ ∃ k : Nat, i = k ∧ k ≤ l.length ∧ m = l.length - k ∧ l.all numV = (l.drop k).all numV, ⟨l.length, rfl, 0, rfl, by omega, rfl, rfl⟩, ?_⟩
  rintro m h0 _ _ ⟨rfl, j, rfl, hj, rfl, hp⟩
  refine Dup.mk (onO.mk r.len (onB.dec (fun e => ?_) (fun e => ?_)))
  · have : j = l.length := by omega
    subst this
    rw [List.drop_length] at hp
    unfold vecV at k
    rw [hp, List.all_nil, Bool.true_and] at k
    refine onB.dec (fun e1 => ?_) (fun e1 => ?_)
    · have e2 : decide ((l.length : Int) ≤ 16) = decide (l.length ≤ 16) := by rw [decide_eq_decide]; omega
      rw [e2]
      rw [decide_eq_true (show 1 ≤ l.length by omega), Bool.true_and] at k; exact k
    · rw [decide_eq_false (show ¬ 1 ≤ l.length by omega), Bool.false_and] at k; exact k
  · obtain ⟨x, hx⟩ := get_lt (l := l) (k := j) (by omega)
    rw [drop_of hx, List.all_cons] at hp
    have bad : numV x = false → Post (.b false) h0 := fun e1 => by
      rw [e1, Bool.false_and] at hp
      unfold vecV at k
      rw [hp, Bool.false_and] at k; exact k
    refine int0 r hx (onB.dec (fun e1 => int0 r hx (onB.dec (fun e2 => ?_) (fun e2 => bad (by simp [numV, e2])))) (fun e1 => bad (by simp [numV, e1])))
    have e1 : numV x = true := by simp [numV, e1, e2]
    rw [e1, Bool.true_and] at hp
    exact onO.mk (inc64 (by omega)) ⟨_, by show l.length - (j + 1) < l.length - j; omega, rfl, j + 1, rfl, by omega, rfl, hp⟩
theorem c12 (r : IR h a l) (hb : l.length < 1000000) (k : ∀ r' h', Kn.int.Own h h' r' l → Post r' h') : wpC Try.prog 12 [a] Post h := by
  refine call_sound (args := [.vv a]) (cuts := []) ⟨r.sc, trivial⟩ ?_
  rw [vc12]
  refine ⟨fun m b i h' => ∃ k : Nat, i = k ∧ k ≤ l.length ∧ m = l.length - k ∧ Kn.int.Own h h' b (l.take k), ⟨l.length, 0, rfl, by omega, rfl, Kn.Own.nil _ _⟩, ?_⟩
  rintro m h0 b _ _ ⟨j, rfl, hj, rfl, ow⟩
  refine onO.mk r.len (onB.dec (fun e => ?_) (fun e => ?_))
  · obtain ⟨x, hx⟩ := get_lt (l := l) (k := j) (by omega)
    have r0 : IR h0 a l := r.mono ow.le
    obtain ⟨c, hc⟩ := r0.all (List.mem_of_getElem? hx)
    have := int_cells c hc
    subst this
    refine int0 r0 hx fun _ => ow.app1 rfl int_flat hc (by simp; omega) fun r' h' ow' => ?_
    exact onO.mk rfl (onO.mk (inc64 (by omega)) ⟨_, by show l.length - (j + 1) < l.length - j; omega, j + 1, rfl, by omega, rfl, by rw [take_succ' hx]; exact ow'⟩)
  · have : j = l.length := by omega
    subst this
    rw [List.take_length] at ow
    exact k _ _ ow
theorem c21 (ra : IR h a la) (rb : IR h b lb) (hb : la.length < 1000000) (k : Post (.b (decide (la = lb))) h) : wpC Try.prog 21 [a, b] Post h := by
  refine call_sound (args := [.vv a, .vv b]) (cuts := []) ⟨ra.sc, rb.sc, trivial⟩ ?_
  rw [vc21]
  refine onO.mk ra.len (onO.mk rb.len (onB.ndec (fun e => ?_) (fun e => ?_)))
  · rw [decide_eq_false (fun e' => e (by rw [e']))] at k
    exact k
  · have hl : la.length = lb.length := by omega
    refine ⟨fun m _ i h' => h' = h ∧ ∃ k : Nat, i = k ∧ k ≤ la.length ∧ m = la.length - k ∧ la.take k = lb.take k, ⟨la.length, rfl, 0, rfl, by omega, rfl, by simp⟩, ?_⟩
    rintro m h0 _ _ ⟨rfl, j, rfl, hj, rfl, hp⟩
    refine onO.mk ra.len (onB.dec (fun e => ?_) (fun e => ?_))
    · obtain ⟨x, hx⟩ := get_lt (l := la) (k := j) (by omega)
      obtain ⟨y, hy⟩ := get_lt (l := lb) (k := j) (by omega)
      refine int0 ra hx (int0 rb hy (onB.ndec (fun e1 => ?_) (fun e1 => ?_)))
      · have : la ≠ lb := by
          intro e2; subst e2; rw [hx] at hy; injection hy with hy; exact e1 hy
        rw [decide_eq_false this] at k; exact k
      · subst e1
        exact onO.mk (inc64 (by omega)) ⟨_, by show la.length - (j + 1) < la.length - j; omega, rfl, j + 1, rfl, by omega, rfl, by rw [take_succ' hx, take_succ' hy, hp]⟩
    · have : j = la.length := by omega
      subst this
      rw [List.take_length, hl, List.take_length] at hp
      rw [decide_eq_true hp] at k; exact k
end
/-! ### keys, places -/
def keyV (l : List Nat) : Bool := decide (1 ≤ l.length) && (decide (l.length ≤ 64) && !decide (l.getLast? = some 0))
section
variable {h : Hp} {Post : AV → Hp → Prop}
theorem nthL_get : ∀ {α : Type} (l : List α) (i : Nat), nthL l i = l[i]?
  | _, [], _ => rfl
  | _, _ :: _, 0 => rfl
  | _, _ :: l, i + 1 => (nthL_get l i).trans (by simp)
theorem key_body {l : List Nat} (k : Post (.b (keyV l)) h) : onB (decide ((1 : Int) ≤ ↑l.length))
    (onB (decide ((↑l.length : Int) ≤ 64))
      (onO (intO BinOp.sub IntKind.i64 (↑l.length) 1) fun n0 => onO ((natI n0).bind fun j => nthL l j) fun p1 => Post (AV.b !decide ((↑p1 : Int) = 0)) h)
      (Post (AV.b false) h))
    (Post (AV.b false) h) := by
  unfold keyV at k
  refine onB.dec (fun e => onB.dec (fun e1 => ?_) (fun e1 => ?_)) (fun e => ?_)
  · rw [decide_eq_true (show 1 ≤ l.length by omega), decide_eq_true (show l.length ≤ 64 by omega), Bool.true_and, Bool.true_and] at k
    have hs : intO .sub .i64 (l.length : Int) 1 = some ((l.length - 1 : Nat) : Int) := by rw [sub64 (by omega) (by omega)]; congr 1; omega
    obtain ⟨x, hx⟩ := get_lt (l := l) (k := l.length - 1) (by omega)
    refine onO.mk hs (onO.mk (a := x) (by show nthL l (l.length - 1) = some x; rw [nthL_get]; exact hx) ?_)
    have : l.getLast? = some x := by rw [List.getLast?_eq_getElem?]; exact hx
    rw [this] at k
    have e3 : decide ((x : Int) = 0) = decide (some x = some 0) := by rw [decide_eq_decide, Option.some.injEq]; omega
    rw [e3]; exact k
  · rw [decide_eq_false (show ¬ l.length ≤ 64 by omega), Bool.false_and, Bool.and_false] at k; exact k
  · rw [decide_eq_false (show ¬ 1 ≤ l.length by omega), Bool.false_and] at k; exact k
theorem c43 {l : List Nat} (k : Post (.b (keyV l)) h) : wpC Try.prog 43 [.s l] Post h := by
  refine call_sound (args := [.ss l]) (cuts := []) ⟨trivial, trivial⟩ ?_
  rw [vc43]
  exact key_body k
theorem c51 {l : List Nat} (k : Post (.b (keyV l)) h) : wpC Try.prog 51 [.s l] Post h := by
  refine call_sound (args := [.ss l]) (cuts := []) ⟨trivial, trivial⟩ ?_
  rw [vc51]
  exact key_body k
end
/-! ### plain -/
def placeV (s : D.Stamp) : Bool := isS s || (decide (s = ⟨0, 0⟩) || decide (s = ⟨0, 1⟩))
def kindV (o : D.Op) : Bool :=
  if o.kind = 1 then placeV o.parent && (keyV o.key && (decide (o.prop = 0) && decide (o.value = 0)))
  else if o.kind = 2 then mayP o.prop o.value && (decide (o.parent = ⟨0, 0⟩) && decide (o.key = [])) else false
def seqV (o : D.Op) : Bool := match o.deps[o.stamp.rep.toNat]? with
  | some x => decide (o.seq = x + 1) && decide (o.seq ≤ 1099511627776)
  | none => false
def mayO (o : D.Op) : Bool := isS o.stamp && (vecV o.deps && (isS o.node && (seqV o && kindV o)))
def opC (o : D.Op) (a : AV) : List AV := [.i .i64 o.stamp.time, .i .i64 o.stamp.rep, .i .i64 o.seq, a, .i .i64 o.kind, .i .i64 o.node.time, .i .i64 o.node.rep, .i .i64 o.parent.time, .i .i64 o.parent.rep, .s o.key, .i .i64 o.prop, .i .i64 o.value]
def opS (o : D.Op) (a : AV) : SV := .ag [.ii .i64 o.stamp.time, .ii .i64 o.stamp.rep, .ii .i64 o.seq, .vv a, .ii .i64 o.kind, .ii .i64 o.node.time, .ii .i64 o.node.rep, .ii .i64 o.parent.time, .ii .i64 o.parent.rep, .ss o.key, .ii .i64 o.prop, .ii .i64 o.value]
theorem opS_good {o : D.Op} {a : AV} (ha : a.sc = true) : (opS o a).Good (fun _ => 0) 0 := ⟨trivial, trivial, trivial, ha, trivial, trivial, trivial, trivial, trivial, trivial, trivial, trivial, trivial⟩
theorem onRet.a2 {n m : Int} {K : Int → Int → Prop} (k : K n m) : onRet [Sh.agg [Kd.int .i64, Kd.int .i64]] (.agg [.i .i64 n, .i .i64 m]) K := k
theorem stamp_eq {a : D.Stamp} {x y : Int} : (decide (a.time = x) && decide (a.rep = y)) = decide (a = ⟨x, y⟩) := by
  cases a with
  | mk t r =>
    rw [← Bool.decide_and, decide_eq_decide]
    simp
theorem vecV_at {l : List Int} (h : vecV l = true) {k : Nat} {x : Int} (e : l[k]? = some x) : 0 ≤ x ∧ x ≤ 1099511627776 := by
  unfold vecV at h
  simp only [Bool.and_eq_true, List.all_eq_true] at h
  have := h.1 x (List.mem_of_getElem? e)
  simpa [numV] using this
theorem isS_rep {s : D.Stamp} (h : isS s = true) : 0 ≤ s.rep ∧ s.rep < 16 := by
  unfold isS at h
  simp only [Bool.and_eq_true, decide_eq_true_eq] at h
  exact h.2.2
section
variable {h : Hp} {Post : AV → Hp → Prop}
theorem c53 (k : Post (.agg [.i .i64 0, .i .i64 0]) h) : wpC Try.prog 53 [] Post h := by
  refine call_sound (args := []) (cuts := []) trivial ?_
  rw [vc53]; exact fun _ => k
theorem c54 (k : Post (.agg [.i .i64 0, .i .i64 1]) h) : wpC Try.prog 54 [] Post h := by
  refine call_sound (args := []) (cuts := []) trivial ?_
  rw [vc54]; exact fun _ => k
theorem c47 (k : Post (.agg [.i .i64 0, .i .i64 0]) h) : wpC Try.prog 47 [] Post h := by
  refine call_sound (args := []) (cuts := []) trivial ?_
  rw [vc47]; exact fun _ => k
theorem c48 (k : Post (.agg [.i .i64 0, .i .i64 1]) h) : wpC Try.prog 48 [] Post h := by
  refine call_sound (args := []) (cuts := []) trivial ?_
  rw [vc48]; exact fun _ => k
theorem c50 {s : D.Stamp} (k : Post (.b (placeV s)) h) : wpC Try.prog 50 [.agg [.i .i64 s.time, .i .i64 s.rep]] Post h := by
  refine call_sound (args := [.ag [.ii .i64 s.time, .ii .i64 s.rep]]) (cuts := []) ⟨⟨trivial, trivial, trivial⟩, trivial⟩ ?_
  rw [vc50]
  intro _
  unfold placeV at k
  refine c45 (onRet.b (onB.mk (fun e => ?_) (fun e => c53 (onRet.a2 ?_))))
  · rw [e] at k; exact k
  · rw [e, Bool.false_or] at k
    rw [stamp_eq]
    refine onB.mk (fun e1 => ?_) (fun e1 => c54 (onRet.a2 ?_))
    · rw [e1] at k; exact k
    · rw [e1, Bool.false_or] at k
      rw [stamp_eq]; exact k
theorem c42 {s : D.Stamp} (k : Post (.b (placeV s)) h) : wpC Try.prog 42 [.agg [.i .i64 s.time, .i .i64 s.rep]] Post h := by
  refine call_sound (args := [.ag [.ii .i64 s.time, .ii .i64 s.rep]]) (cuts := []) ⟨⟨trivial, trivial, trivial⟩, trivial⟩ ?_
  rw [vc42]
  intro _
  unfold placeV at k
  refine c41 (onRet.b (onB.mk (fun e => ?_) (fun e => c47 (onRet.a2 ?_))))
  · rw [e] at k; exact k
  · rw [e, Bool.false_or] at k
    rw [stamp_eq]
    refine onB.mk (fun e1 => ?_) (fun e1 => c48 (onRet.a2 ?_))
    · rw [e1] at k; exact k
    · rw [e1, Bool.false_or] at k
      rw [stamp_eq]; exact k
theorem c46 {o : D.Op} {a : AV} (ha : a.sc = true) (k : Post (.b (kindV o)) h) : wpC Try.prog 46 [.agg (opC o a)] Post h := by
  refine call_sound (args := [opS o a]) (cuts := []) ⟨opS_good ha, trivial⟩ ?_
  unfold opS
  rw [vc46]
  intro _
  unfold kindV at k
  refine onB.dec (fun e => c50 (onRet.b (onB.mk (fun e1 => c51 (onRet.b (onB.mk (fun e2 => onB.dec (fun e3 => ?_) (fun e3 => ?_)) (fun e2 => ?_)))) (fun e1 => ?_)))) (fun e => onB.dec (fun e0 => c52 (onRet.b (onB.mk (fun e1 => c53 (onRet.a2 ?_)) (fun e1 => ?_)))) (fun e0 => ?_))
  · rw [if_pos e, e1, e2, decide_eq_true e3] at k; exact k
  · rw [if_pos e, e1, e2, decide_eq_false e3] at k; exact k
  · rw [if_pos e, e1, e2] at k; exact k
  · rw [if_pos e, e1] at k; exact k
  · rw [if_neg e, if_pos e0, e1, Bool.true_and] at k
    rw [stamp_eq]
    refine onB.mk (fun e2 => ?_) (fun e2 => ?_)
    · rw [e2, Bool.true_and] at k; exact k
    · rw [e2, Bool.false_and] at k; exact k
  · rw [if_neg e, if_pos e0, e1] at k; exact k
  · rw [if_neg e, if_neg e0] at k; exact k
theorem c37 {o : D.Op} {a : AV} (r : IR h a o.deps) (hb : o.deps.length < 1000000) (k : Post (.b (mayO o)) h) : wpC Try.prog 37 [.agg (opC o a)] Post h := by
  refine call_sound (args := [opS o a]) (cuts := []) ⟨opS_good r.sc, trivial⟩ ?_
  unfold opS
  rw [vc37]
  intro _
  unfold mayO at k
  refine c45 (onRet.b (onB.not (fun e1 => ?_) (fun e1 => c36 r hb (onRet.b (onB.not (fun e2 => ?_) (fun e2 => onO.mk r.len (onB.dec (fun e3 => ?_) (fun e3 => c45 (onRet.b (onB.not (fun e4 => ?_) (fun e4 => ?_)))))))))))
  · rw [e1] at k; exact k
  · rw [e1, e2] at k; exact k
  · have hs : seqV o = false := by
      unfold seqV
      rw [List.getElem?_eq_none (by have := isS_rep e1; omega)]
    rw [hs, Bool.false_and, Bool.and_false, Bool.and_false, Bool.and_false] at k; exact k
  · rw [e1, e2, e4] at k; exact k
  · obtain ⟨g0, g1⟩ := isS_rep e1
    obtain ⟨j, hj⟩ := Int.eq_ofNat_of_zero_le g0
    obtain ⟨x, hx⟩ := get_lt (l := o.deps) (k := j) (by omega)
    have hx2 := vecV_at e2 hx
    have hjt : o.stamp.rep.toNat = j := by omega
    rw [e1, e2, e4, Bool.true_and, Bool.true_and, Bool.true_and] at k
    unfold seqV at k
    rw [hjt, hx] at k
    rw [hj]
    refine int0 r hx (onO.mk (add64 (by omega) (by omega)) (onB.dec (fun e5 => onB.dec (fun e6 => ?_) (fun e6 => ?_)) (fun e5 => ?_)))
    · rw [← hj]
      refine c46 (o := o) r.sc (onRet.b ?_)
      simpa only [decide_eq_true e5, decide_eq_true e6, Bool.true_and] using k
    · simpa only [decide_eq_true e5, decide_eq_false e6, Bool.true_and, Bool.false_and] using k
    · simpa only [decide_eq_false e5, Bool.false_and] using k
theorem c33 {o p : D.Op} {a b : AV} (ra : IR h a o.deps) (rb : IR h b p.deps) (hb : o.deps.length < 1000000) (k : Post (.b (decide (o = p))) h) : wpC Try.prog 33 [.agg (opC o a), .agg (opC p b)] Post h := by
  refine call_sound (args := [opS o a, opS p b]) (cuts := []) ⟨opS_good ra.sc, opS_good rb.sc, trivial⟩ ?_
  unfold opS
  rw [vc33]
  intro _ _
  rw [stamp_eq, stamp_eq, stamp_eq]
  have bad : o ≠ p → Post (.b false) h := fun e => by rw [decide_eq_false e] at k; exact k
  refine onB.dec (fun e1 => onB.dec (fun e2 => c21 ra rb hb (onRet.b (onB.dec (fun e3 => onB.dec (fun e4 => onB.dec (fun e5 => onB.dec (fun e6 => onB.dec (fun e7 => onB.dec (fun e8 => ?_) (fun e8 => bad ?_)) (fun e7 => bad ?_)) (fun e6 => bad ?_)) (fun e5 => bad ?_)) (fun e4 => bad ?_)) (fun e3 => bad ?_)))) (fun e2 => bad ?_)) (fun e1 => bad ?_)
  · have : decide (o.value = p.value) = decide (o = p) := by
      rw [decide_eq_decide]
      constructor
      · intro e9
        cases o; cases p
        simp_all
      · intro e; rw [e]
    rw [this]; exact k
  · intro e; exact e8 (by rw [e])
  · intro e; exact e7 (by rw [e])
  · intro e; subst e; exact e6 rfl
  · intro e; subst e; exact e5 rfl
  · intro e; exact e4 (by rw [e])
  · intro e; exact e3 (by rw [e])
  · intro e; exact e2 (by rw [e])
  · intro e; subst e; exact e1 rfl
end
section
variable {h : Hp} {Post : AV → Hp → Prop}
theorem c32 {o : D.Op} {a : AV} (r : IR h a o.deps) (hb : o.deps.length < 1000000) (k : Post (.b (mayO o)) h) : wpC Try.prog 32 [.agg (opC o a)] Post h := by
  refine call_sound (args := [opS o a]) (cuts := []) ⟨opS_good r.sc, trivial⟩ ?_
  unfold opS
  rw [vc32]
  intro _
  unfold mayO at k
  refine c41 (onRet.b (onB.not (fun e1 => ?_) (fun e1 => c16 r hb (onRet.b (onB.not (fun e2 => ?_) (fun e2 => onO.mk r.len (onB.dec (fun e3 => ?_) (fun e3 => ?_)))))))) 
  · rw [e1] at k; exact k
  · rw [e1, e2] at k; exact k
  · have hs : seqV o = false := by
      unfold seqV
      rw [List.getElem?_eq_none (by have := isS_rep e1; omega)]
    rw [hs, Bool.false_and, Bool.and_false, Bool.and_false, Bool.and_false] at k; exact k
  · obtain ⟨g0, g1⟩ := isS_rep e1
    obtain ⟨j, hj⟩ := Int.eq_ofNat_of_zero_le g0
    obtain ⟨x, hx⟩ := get_lt (l := o.deps) (k := j) (by omega)
    have hx2 := vecV_at e2 hx
    have hjt : o.stamp.rep.toNat = j := by omega
    rw [e1, e2, Bool.true_and, Bool.true_and] at k
    unfold seqV at k
    rw [hjt, hx] at k
    simp only at k
    have bad : (decide (o.seq = x + 1) && decide (o.seq ≤ 1099511627776)) = false → Post (.b false) h := fun e => by
      rw [e, Bool.false_and, Bool.and_false] at k; exact k
    refine onB.dec (fun e4 => bad ?_) (fun e4 => onB.dec (fun e5 => bad ?_) (fun e5 => ?_))
    · rw [decide_eq_false (by omega), Bool.false_and]
    · rw [decide_eq_false (p := o.seq ≤ _) (by omega), Bool.and_false]
    · rw [hj]
      refine int0 r hx (onO.mk (add64 (by omega) (by omega)) (onB.ndec (fun e6 => bad ?_) (fun e6 => ?_)))
      · rw [decide_eq_false e6, Bool.false_and]
      · rw [← hj]
        rw [decide_eq_true e6, decide_eq_true (p := o.seq ≤ _) (by omega), Bool.true_and, Bool.true_and] at k
        refine c41 (onRet.b (onB.not (fun e7 => ?_) (fun e7 => ?_)))
        · rw [e7] at k; exact k
        · rw [e7, Bool.true_and] at k
          unfold kindV at k
          intro _
          refine onB.dec (fun e8 => ?_) (fun e8 => onB.dec (fun e9 => ?_) (fun e9 => ?_))
          · rw [if_pos e8] at k
            refine c33 (o := { o with prop := 0, value := 0 }) (p := o) r r hb (onRet.b ?_)
            have he : decide (({ o with prop := 0, value := 0 } : D.Op) = o) = (decide (o.prop = 0) && decide (o.value = 0)) := by
              rw [← Bool.decide_and, decide_eq_decide]
              constructor
              · intro e; constructor
                · have := congrArg D.Op.prop e; exact this.symm
                · have := congrArg D.Op.value e; exact this.symm
              · rintro ⟨e, e'⟩; cases o; simp_all
            rw [he]
            refine onB.mk (fun e10 => c42 (onRet.b (onB.mk (fun e11 => c43 (onRet.b ?_)) (fun e11 => ?_)))) (fun e10 => ?_)
            · rw [e11, e10, Bool.true_and, Bool.and_true] at k; exact k
            · rw [e11] at k; exact k
            · rw [e10, Bool.and_false, Bool.and_false] at k; exact k
          · rw [if_neg e8, if_pos e9] at k
            refine c33 (o := { o with parent := ⟨0, 0⟩, key := [] }) (p := o) r r hb (onRet.b ?_)
            have he : decide (({ o with parent := ⟨0, 0⟩, key := [] } : D.Op) = o) = (decide (o.parent = ⟨0, 0⟩) && decide (o.key = [])) := by
              rw [← Bool.decide_and, decide_eq_decide]
              constructor
              · intro e; constructor
                · have := congrArg D.Op.parent e; exact this.symm
                · have := congrArg D.Op.key e; exact this.symm
              · rintro ⟨e, e'⟩; cases o; simp_all
            rw [he]
            refine onB.mk (fun e10 => c44 (onRet.i ?_)) (fun e10 => ?_)
            · rw [e10, Bool.and_true] at k
              rw [checkP_ok]; exact k
            · rw [e10, Bool.and_false] at k; exact k
          · rw [if_neg e8, if_neg e9] at k; exact k
end
/-! ### Clone -/
theorem Raw.src {h : Hp} {a : AV} {sz : Nat} {css : List (List AV)} (r : Raw h a sz css) : ∃ s, srcV sz a = some (css.length, s) ∧ srcH h s = some css.flatten := by
  obtain ⟨hc, r⟩ := r
  cases a <;> first | exact r.elim | skip
  · rename_i b o len lo ex z
    obtain ⟨r1, r2, r3, r4⟩ := r
    subst r1; subst r2
    refine ⟨_, by show cond (Nat.beq z z) _ _ = _; rw [Nat.beq_refl, cond_true], ?_⟩
    cases hl : Nat.beq css.length 0 with
    | true =>
      have : css = [] := List.length_eq_zero_iff.1 (beq_eq' hl)
      subst this; rfl
    | false =>
      rcases r4 with r4 | r4
      · subst r4; cases hl
      · exact r4
  all_goals
    have r : css = [] := r
    subst r
    exact ⟨.lit [], rfl, rfl⟩
theorem Raw.nil {h : Hp} {a : AV} {sz : Nat} {css : List (List AV)} (r : Raw h a sz css) : ∃ c, nilSl a = some c ∧ (c = true → css = []) := by
  obtain ⟨hc, r⟩ := r
  cases a <;> first | exact r.elim | skip
  · exact ⟨false, rfl, fun e => by cases e⟩
  · exact ⟨true, rfl, fun _ => r⟩
  · exact ⟨false, rfl, fun e => by cases e⟩
/-- a copy by append to an empty row of its own -/
theorem clone_body {α : Type} {d : Kn α} {h : Hp} {a : AV} {l : List α} {sz nb : Nat} {Post : AV → Hp → Prop} (r : d.Row h a l) (hsz : d.sz = sz) (fl : d.Flat) (hb : l.length < 1000000) (hm : Nat.ble ((4 * l.length + 4000) * nb) 17179869184 = true) (k : ∀ r' h', d.Own h h' r' l → Post r' h') :
    onO (nilSl a) fun c0 => onB c0 (Post AV.ns h) (∀ (p0 : Nat), h.g p0 = none → h.lo.le p0 → onO (srcV sz a) fun r0 =>
      onC (((4 * r0.fst + 4000) * nb).ble (OfNat.ofNat 17179869184)) (wpE (Eff.app (AV.sl p0 0 0 0 true sz) r0.fst r0.snd sz) (fun x0 h0 => onO x0 fun a0 => Post a0 h0) (h.put p0 []))) := by
  subst hsz
  obtain ⟨css, r1, r2⟩ := r
  obtain ⟨c, e1, e2⟩ := r1.nil
  have hl := r2.length
  refine onO.mk e1 (onB.mk (fun e => ?_) (fun _ p hp hlo => ?_))
  · have := e2 e
    subst this
    have : l = [] := List.length_eq_zero_iff.1 hl
    subst this
    exact k _ _ (Kn.Own.nil d h)
  · obtain ⟨s, s1, s2⟩ := r1.src
    refine onO.mk s1 (onC.mk (by rw [← hl]; exact hm) ?_)
    have f := Fresh.put (Hp.le_refl h) rfl hp hlo (css := []) (sz := d.sz) (len := 0) true (fun c hc => by cases hc) rfl (cs := []) rfl
    have ow : d.Own h (h.put p []) (.sl p 0 0 0 true d.sz) [] := ⟨h, [], Hp.le_refl h, rfl, f, .nil⟩
    have s3 : srcH (h.put p []) s = some css.flatten := by
      cases s with
      | lit l => exact s2
      | mem b o n => exact rdH_le (Hp.le_put hp) s2
    exact ow.app rfl fl (r2.mono fun _ _ q => fl _ _ _ _ q) s3 hl (by simp; omega) fun r' h' o' => onO.mk rfl (k _ _ (by simpa using o'))
section
variable {h : Hp} {a : AV} {l : List Int} {Post : AV → Hp → Prop}
theorem c29 (r : IR h a l) (hb : l.length < 1000000) (k : ∀ r' h', Kn.int.Own h h' r' l → Post r' h') : wpC Try.prog 29 [a] Post h := by
  refine call_sound (args := [.vv a]) (cuts := []) ⟨r.sc, trivial⟩ ?_
  rw [vc29]
  exact clone_body r rfl int_flat hb (Nat.ble_eq_true_of_le (by omega)) k
theorem c38 {o : D.Op} (r : IR h a o.deps) (hb : o.deps.length < 1000000) (k : ∀ r' h', Kn.int.Own h h' r' o.deps → Post (.agg (opC o r')) h') : wpC Try.prog 38 [.agg (opC o a)] Post h := by
  refine call_sound (args := [opS o a]) (cuts := []) ⟨opS_good r.sc, trivial⟩ ?_
  unfold opS
  rw [vc38]
  intro _ _
  exact c29 r hb fun r' h' ow => onRet.r ow.sc (k _ _ ow)
theorem c28 {o : D.Op} (r : IR h a o.deps) (hb : o.deps.length < 1000000) (k : ∀ r' h', Kn.int.Own h h' r' o.deps → Post (.agg (opC o r')) h') : wpC Try.prog 28 [.agg (opC o a)] Post h := by
  refine call_sound (args := [opS o a]) (cuts := []) ⟨opS_good r.sc, trivial⟩ ?_
  unfold opS
  rw [vc28]
  intro _ _ _
  exact c12 r hb fun r' h' ow => onRet.r ow.sc (k _ _ ow)
end
abbrev OpRow := D.kOp.Row
/-- deps that are not too many -/
def opOk (o : D.Op) : Prop := o.deps.length < 1000000
section
variable {h : Hp} {a b : AV} {l la lb : List D.Op} {Post : AV → Hp → Prop}
theorem op_cells {o : D.Op} {c : List AV} (k : D.kOp.K h o c) : ∃ d, c = opC o d ∧ IR h d o.deps := by
  obtain ⟨d, e, f⟩ := D.kOp_open k
  exact ⟨d, e, f.2.2.2.1.1⟩
theorem onL.op {o : D.Op} {d : AV} (hd : d.sc = true) {K : Int → Int → Int → AV → Int → Int → Int → Int → Int → List Nat → Int → Int → Prop} (q : K o.stamp.time o.stamp.rep o.seq d o.kind o.node.time o.node.rep o.parent.time o.parent.rep o.key o.prop o.value) :
    onL [Kd.int .i64, Kd.int .i64, Kd.int .i64, Kd.ref, Kd.int .i64, Kd.int .i64, Kd.int .i64, Kd.int .i64, Kd.int .i64, Kd.str, Kd.int .i64, Kd.int .i64] (opC o d) K :=
  onRef.mk (K := fun d => K o.stamp.time o.stamp.rep o.seq d o.kind o.node.time o.node.rep o.parent.time o.parent.rep o.key o.prop o.value) hd q
theorem onRet.op {o : D.Op} {d : AV} (hd : d.sc = true) {K : Int → Int → Int → AV → Int → Int → Int → Int → Int → List Nat → Int → Int → Prop} (q : K o.stamp.time o.stamp.rep o.seq d o.kind o.node.time o.node.rep o.parent.time o.parent.rep o.key o.prop o.value) :
    onRet [Sh.agg [Kd.int .i64, Kd.int .i64, Kd.int .i64, Kd.ref, Kd.int .i64, Kd.int .i64, Kd.int .i64, Kd.int .i64, Kd.int .i64, Kd.str, Kd.int .i64, Kd.int .i64]] (.agg (opC o d)) K := by
  unfold onRet onS
  have e : flatV [Sh.agg [Kd.int .i64, Kd.int .i64, Kd.int .i64, Kd.ref, Kd.int .i64, Kd.int .i64, Kd.int .i64, Kd.int .i64, Kd.int .i64, Kd.str, Kd.int .i64, Kd.int .i64]] [.agg (opC o d)] = some (opC o d) := rfl
  rw [e]
  exact onL.op hd q
theorem opW {h1 : Hp} (r : OpRow h a l) (le : h.le h1) {k : Nat} {o : D.Op} (e : l[k]? = some o) {K : Int → Int → Int → AV → Int → Int → Int → Int → Int → List Nat → Int → Int → Prop}
    (q : ∀ d, IR h d o.deps → D.kOp.K h o (opC o d) → K o.stamp.time o.stamp.rep o.seq d o.kind o.node.time o.node.rep o.parent.time o.parent.rep o.key o.prop o.value) :
    onO (idxV a (k : Int) 12) fun r0 => onO (rdH h1 r0.1 r0.2 12) fun l0 => onL [Kd.int .i64, Kd.int .i64, Kd.int .i64, Kd.ref, Kd.int .i64, Kd.int .i64, Kd.int .i64, Kd.int .i64, Kd.int .i64, Kd.str, Kd.int .i64, Kd.int .i64] l0 K := by
  obtain ⟨b, p, c, e1, e2, e3⟩ := r.idx (i := (k : Int)) (Int.natCast_nonneg k) (by simpa using e)
  obtain ⟨d, rfl, e4⟩ := op_cells e3
  exact onO.mk e1 (onO.mk (rdH_le le e2) (onL.op e4.sc (q d e4 e3)))
theorem c19 (ra : OpRow h a la) (rb : OpRow h b lb) (hb : la.length < 1000000) (ho : ∀ o ∈ la, opOk o) (k : Post (.b (decide (la = lb))) h) : wpC Try.prog 19 [a, b] Post h := by
  refine call_sound (args := [.vv a, .vv b]) (cuts := []) ⟨ra.sc, rb.sc, trivial⟩ ?_
  rw [vc19]
  refine onO.mk ra.len (onO.mk rb.len (onB.ndec (fun e => ?_) (fun e => ?_)))
  · rw [decide_eq_false (fun e' => e (by rw [e']))] at k
    exact k
  · have hl : la.length = lb.length := by omega
    refine ⟨fun m _ i h' => h' = h ∧ ∃ k : Nat, i = k ∧ k ≤ la.length ∧ m = la.length - k ∧ la.take k = lb.take k, ⟨la.length, rfl, 0, rfl, by omega, rfl, by simp⟩, ?_⟩
    rintro m h0 _ _ ⟨rfl, j, rfl, hj, rfl, hp⟩
    refine onO.mk ra.len (onB.dec (fun e => ?_) (fun e => ?_))
    · obtain ⟨x, hx⟩ := get_lt (l := la) (k := j) (by omega)
      obtain ⟨y, hy⟩ := get_lt (l := lb) (k := j) (by omega)
      refine opW ra (Hp.le_refl _) hx fun d rd _ => opW rb (Hp.le_refl _) hy fun d' rd' _ => c33 (o := x) (p := y) rd rd' (ho x (List.mem_of_getElem? hx)) (onRet.b (onB.not (fun e1 => ?_) (fun e1 => ?_)))
      · have e1 := of_decide_eq_false e1
        have : la ≠ lb := by
          intro e2; subst e2; rw [hx] at hy; injection hy with hy; exact e1 hy
        rw [decide_eq_false this] at k; exact k
      · have e1 := of_decide_eq_true e1
        subst e1
        exact onO.mk (inc64 (by omega)) ⟨_, by show la.length - (j + 1) < la.length - j; omega, rfl, j + 1, rfl, by omega, rfl, by rw [take_succ' hx, take_succ' hy, hp]⟩
    · have : j = la.length := by omega
      subst this
      rw [List.take_length, hl, List.take_length] at hp
      rw [decide_eq_true hp] at k; exact k
theorem in64_of {n : Int} (k : In64 n) : Kn.int.K h n [.i .i64 n] := ⟨rfl, k⟩
/-- an operation's cells, with another row of the same deps -/
theorem op_again {o : D.Op} {d d' : AV} (k : D.kOp.K h o (opC o d)) {h' : Hp} (r : IR h' d' o.deps) : D.kOp.K h' o (opC o d') := by
  obtain ⟨d0, e, f1, f2, f3, f4, f5, f6, f7, f8, f9, f10, f11, f12⟩ := D.kOp_open k
  refine ⟨_, _, rfl, ⟨_, _, rfl, in64_of f1, in64_of f2⟩, _, _, rfl, in64_of f3, _, _, rfl, ⟨d', rfl, r, f4.2⟩, _, _, rfl, in64_of f5, _, _, rfl, ⟨_, _, rfl, in64_of f6, in64_of f7⟩, _, _, rfl, ⟨_, _, rfl, in64_of f8, in64_of f9⟩, _, _, rfl, ⟨rfl, f10⟩, _, _, rfl, in64_of f11, in64_of f12⟩
theorem c11 (r : OpRow h a l) (hb : l.length < 1000000) (ho : ∀ o ∈ l, opOk o) (k : ∀ r' h', D.kOp.Own h h' r' l → Post r' h') : wpC Try.prog 11 [a] Post h := by
  refine call_sound (args := [.vv a]) (cuts := []) ⟨r.sc, trivial⟩ ?_
  rw [vc11]
  refine ⟨fun m b i h' => ∃ k : Nat, i = k ∧ k ≤ l.length ∧ m = l.length - k ∧ D.kOp.Own h h' b (l.take k), ⟨l.length, 0, rfl, by omega, rfl, Kn.Own.nil _ _⟩, ?_⟩
  rintro m h0 b _ _ ⟨j, rfl, hj, rfl, ow⟩
  refine onO.mk r.len (onB.dec (fun e => ?_) (fun e => ?_))
  · obtain ⟨x, hx⟩ := get_lt (l := l) (k := j) (by omega)
    obtain ⟨p, css, p1, p2, fr, p3⟩ := ow
    refine opW r (Hp.le_trans p1 fr.le) hx fun d rd kx => ?_
    refine (fr.call (Q := fun v p' => ∃ r', v = .agg (opC x r') ∧ Kn.int.Own p p' r' x.deps) (c28 (o := x) (rd.mono p1) (ho x (List.mem_of_getElem? hx)) fun r' h' ow => ⟨r', rfl, ow⟩)).mono ?_
    rintro v h1 ⟨p', fr', hlo, r', rfl, ow'⟩
    have hcl := p3.length
    refine onRet.op ow'.sc fun _ => fr'.app (n := 1) (css2 := [opC x r']) (src := .lit (opC x r')) (by simp [srcH]) (fun c hc => by simp at hc; subst hc; rfl) rfl (D.kOp.sc (op_again kx ow'.row) |> fun e => by simpa using e) (by simp at hcl; omega) fun r2 h2 fr2 => onO.mk rfl (onO.mk (inc64 (by omega)) ⟨_, by show l.length - (j + 1) < l.length - j; omega, j + 1, rfl, by omega, rfl, p', _, Hp.le_trans p1 ow'.le, hlo.trans p2, fr2, ?_⟩)
    rw [take_succ' hx]
    exact (p3.mono fun _ _ q => D.kOp.mono ow'.le q).append (.cons (op_again kx ow'.row) .nil)
  · have : j = l.length := by omega
    subst this
    rw [List.take_length] at ow
    exact k _ _ ow
end
/- arras/sync.Lacking -/
theorem vc7 (a : AV) (b : AV) (h : Hp) (Post : AV → Hp → Prop) : vcCall Try.prog [] 7 [(SV.vv a), (SV.vv b)] h Post = (
  wpC Try.prog 24 [a, b]
  (fun a0 h0 =>
    onRet [Sh.one Kd.bool] a0 fun c0 =>
      onB (!c0) (Post (AV.tup [AV.ns, AV.i IntKind.i64 1]) h0) (wpC Try.prog 25 [a, b] (fun a1 h1 => onRet [Sh.one Kd.ref] a1 fun a2 => Post (AV.tup [a2, AV.i IntKind.i64 0]) h1) h0))
  h) := by kernel_rfl
/- arras/sync.may -/
theorem vc24 (a : AV) (b : AV) (h : Hp) (Post : AV → Hp → Prop) : vcCall Try.prog [0] 24 [(SV.vv a), (SV.vv b)] h Post = (
  ∃ I0 : Nat → Int → Bool → Hp → Prop,
  (∃ p0, I0 p0 0 false h) ∧
    ∀ (p1 : Nat) (h0 : Hp) (n0 : Int) (c0 : Bool),
      I0 p1 n0 c0 h0 →
        Dup
          (onO (lenV a) fun p2 =>
            onB (decide (n0 = ↑p2)) (wpC Try.prog 36 [b] (fun a0 h1 => onRet [Sh.one Kd.bool] a0 fun c1 => Post (AV.b c1) h1) h0)
              (onO (idxV a n0 12) fun r0 =>
                onO (rdH h0 r0.fst r0.snd 12) fun l0 =>
                  onL
                    [Kd.int IntKind.i64, Kd.int IntKind.i64, Kd.int IntKind.i64, Kd.ref, Kd.int IntKind.i64, Kd.int IntKind.i64, Kd.int IntKind.i64, Kd.int IntKind.i64, Kd.int IntKind.i64, Kd.str,
                      Kd.int IntKind.i64, Kd.int IntKind.i64]
                    l0 fun n1 n2 n3 a1 n4 n5 n6 n7 n8 l1 n9 n10 =>
                    wpC Try.prog 37
                      [AV.agg
                          [AV.i IntKind.i64 n1, AV.i IntKind.i64 n2, AV.i IntKind.i64 n3, a1, AV.i IntKind.i64 n4, AV.i IntKind.i64 n5, AV.i IntKind.i64 n6, AV.i IntKind.i64 n7, AV.i IntKind.i64 n8,
                            AV.s l1, AV.i IntKind.i64 n9, AV.i IntKind.i64 n10]]
                      (fun a2 h2 =>
                        onRet [Sh.one Kd.bool] a2 fun c2 =>
                          onB c2
                            (onO (idxV a n0 12) fun r1 =>
                              onO (rdH h2 r1.fst (r1.snd + 3) 1) fun l2 =>
                                onL [Kd.ref] l2 fun a3 =>
                                  onO (lenV a3) fun p3 =>
                                    onO (lenV b) fun p4 => onB (decide ((↑p3 : Int) = ↑p4)) (onO (intO BinOp.add IntKind.i64 n0 1) fun n11 => ∃ p5, ltN p5 p1 ∧ I0 p5 n11 c0 h2) (Post (AV.b false) h2))
                            (Post (AV.b false) h2))
                      h0))) := by kernel_rfl
/- arras/sync.Behind -/
theorem vc25 (a : AV) (b : AV) (h : Hp) (Post : AV → Hp → Prop) : vcCall Try.prog [] 25 [(SV.vv a), (SV.vv b)] h Post = (
  onO (lenV a) fun p0 =>
  ∃ I0 : Nat → AV → Int → Hp → Prop,
    (∃ p1, I0 p1 AV.ns 0 h) ∧
      ∀ (p2 : Nat) (h0 : Hp) (a0 : AV),
        a0.sc = true →
          ∀ (n0 : Int),
            I0 p2 a0 n0 h0 →
              onB (decide (n0 < ↑p0))
                (onO (idxV a n0 12) fun r0 =>
                  onO (rdH h0 r0.fst r0.snd 12) fun l0 =>
                    onL
                      [Kd.int IntKind.i64, Kd.int IntKind.i64, Kd.int IntKind.i64, Kd.ref, Kd.int IntKind.i64, Kd.int IntKind.i64, Kd.int IntKind.i64, Kd.int IntKind.i64, Kd.int IntKind.i64, Kd.str,
                        Kd.int IntKind.i64, Kd.int IntKind.i64]
                      l0 fun n1 n2 n3 a1 n4 n5 n6 n7 n8 l1 n9 n10 =>
                      ∀ (p3 : Nat),
                        onO (idxV b n2 1) fun r1 =>
                          onO (rdH h0 r1.fst r1.snd 1) fun l2 =>
                            onL [Kd.int IntKind.i64] l2 fun n11 =>
                              onB (decide (n11 < n3))
                                (onO (lenV a0) fun p4 =>
                                  onB (decide ((↑p4 : Int) < 8))
                                    (wpC Try.prog 38
                                      [AV.agg
                                          [AV.i IntKind.i64 n1, AV.i IntKind.i64 n2, AV.i IntKind.i64 n3, a1, AV.i IntKind.i64 n4, AV.i IntKind.i64 n5, AV.i IntKind.i64 n6, AV.i IntKind.i64 n7,
                                            AV.i IntKind.i64 n8, AV.s l1, AV.i IntKind.i64 n9, AV.i IntKind.i64 n10]]
                                      (fun a2 h1 =>
                                        onRet
                                          [Sh.agg
                                              [Kd.int IntKind.i64, Kd.int IntKind.i64, Kd.int IntKind.i64, Kd.ref, Kd.int IntKind.i64, Kd.int IntKind.i64, Kd.int IntKind.i64, Kd.int IntKind.i64,
                                                Kd.int IntKind.i64, Kd.str, Kd.int IntKind.i64, Kd.int IntKind.i64]]
                                          a2 fun n12 n13 n14 a3 n15 n16 n17 n18 n19 l3 n20 n21 =>
                                          ∀ (p5 : Nat),
                                            wpE
                                              (Eff.app a0 1
                                                (Src.lit
                                                  [AV.i IntKind.i64 n12, AV.i IntKind.i64 n13, AV.i IntKind.i64 n14, a3, AV.i IntKind.i64 n15, AV.i IntKind.i64 n16, AV.i IntKind.i64 n17,
                                                    AV.i IntKind.i64 n18, AV.i IntKind.i64 n19, AV.s l3, AV.i IntKind.i64 n20, AV.i IntKind.i64 n21])
                                                12)
                                              (fun x0 h2 => onO x0 fun a4 => onO (intO BinOp.add IntKind.i64 n0 1) fun n22 => ∃ p6, ltN p6 p2 ∧ I0 p6 a4 n22 h2) h1)
                                      h0)
                                    (onO (intO BinOp.add IntKind.i64 n0 1) fun n23 => ∃ p7, ltN p7 p2 ∧ I0 p7 a0 n23 h0))
                                (onO (intO BinOp.add IntKind.i64 n0 1) fun n24 => ∃ p8, ltN p8 p2 ∧ I0 p8 a0 n24 h0))
                (Post a0 h0)) := by kernel_rfl
/- arras/arrasref25.Lacking -/
theorem vc18 (a : AV) (b : AV) (h : Hp) (Post : AV → Hp → Prop) : vcCall Try.prog [] 18 [(SV.vv a), (SV.vv b)] h Post = (
  ∃ I0 : Nat → AV → Int → Hp → Prop,
  (∃ p0, I0 p0 AV.ns 0 h) ∧
    ∀ (p1 : Nat) (h0 : Hp) (a0 : AV),
      a0.sc = true →
        ∀ (n0 : Int),
          I0 p1 a0 n0 h0 →
            onO (lenV a) fun p2 =>
              onB (decide (n0 < ↑p2))
                (onO (lenV a0) fun p3 =>
                  onB (decide ((↑p3 : Int) < 8))
                    (onO (idxV a n0 12) fun r0 =>
                      onO (rdH h0 r0.fst (r0.snd + 2) 1) fun l0 =>
                        onL [Kd.int IntKind.i64] l0 fun n1 =>
                          onO (idxV a n0 12) fun r1 =>
                            onO (rdH h0 r1.fst (r1.snd + 0 + 1) 1) fun l1 =>
                              onL [Kd.int IntKind.i64] l1 fun n2 =>
                                onO (idxV b n2 1) fun r2 =>
                                  onO (rdH h0 r2.fst r2.snd 1) fun l2 =>
                                    onL [Kd.int IntKind.i64] l2 fun n3 =>
                                      onB (decide (n3 < n1))
                                        (onO (idxV a n0 12) fun r3 =>
                                          onO (rdH h0 r3.fst r3.snd 12) fun l3 =>
                                            onL
                                              [Kd.int IntKind.i64, Kd.int IntKind.i64, Kd.int IntKind.i64, Kd.ref, Kd.int IntKind.i64, Kd.int IntKind.i64, Kd.int IntKind.i64, Kd.int IntKind.i64,
                                                Kd.int IntKind.i64, Kd.str, Kd.int IntKind.i64, Kd.int IntKind.i64]
                                              l3 fun n4 n5 n6 a1 n7 n8 n9 n10 n11 l4 n12 n13 =>
                                              wpC Try.prog 28
                                                [AV.agg
                                                    [AV.i IntKind.i64 n4, AV.i IntKind.i64 n5, AV.i IntKind.i64 n6, a1, AV.i IntKind.i64 n7, AV.i IntKind.i64 n8, AV.i IntKind.i64 n9,
                                                      AV.i IntKind.i64 n10, AV.i IntKind.i64 n11, AV.s l4, AV.i IntKind.i64 n12, AV.i IntKind.i64 n13]]
                                                (fun a2 h1 =>
                                                  onRet
                                                    [Sh.agg
                                                        [Kd.int IntKind.i64, Kd.int IntKind.i64, Kd.int IntKind.i64, Kd.ref, Kd.int IntKind.i64, Kd.int IntKind.i64, Kd.int IntKind.i64,
                                                          Kd.int IntKind.i64, Kd.int IntKind.i64, Kd.str, Kd.int IntKind.i64, Kd.int IntKind.i64]]
                                                    a2 fun n14 n15 n16 a3 n17 n18 n19 n20 n21 l5 n22 n23 =>
                                                    ∀ (p4 : Nat),
                                                      wpE
                                                        (Eff.app a0 1
                                                          (Src.lit
                                                            [AV.i IntKind.i64 n14, AV.i IntKind.i64 n15, AV.i IntKind.i64 n16, a3, AV.i IntKind.i64 n17, AV.i IntKind.i64 n18, AV.i IntKind.i64 n19,
                                                              AV.i IntKind.i64 n20, AV.i IntKind.i64 n21, AV.s l5, AV.i IntKind.i64 n22, AV.i IntKind.i64 n23])
                                                          12)
                                                        (fun x0 h2 => onO x0 fun a4 => onO (intO BinOp.add IntKind.i64 n0 1) fun n24 => ∃ p5, ltN p5 p1 ∧ I0 p5 a4 n24 h2) h1)
                                                h0)
                                        (onO (intO BinOp.add IntKind.i64 n0 1) fun n25 => ∃ p6, ltN p6 p1 ∧ I0 p6 a0 n25 h0))
                    (Post a0 h0))
                (Post a0 h0)) := by kernel_rfl
/- arras/arrasref10.Ops -/
theorem vc17 (a : AV) (b : Int) (h : Hp) (Post : AV → Hp → Prop) : vcCall Try.prog [] 17 [(SV.vv a), (SV.ii .i64 b)] h Post = (
  ∃ I0 : Nat → Bool → Int → Hp → Prop,
  (∃ p0, I0 p0 false 0 h) ∧
    ∀ (p1 : Nat) (h0 : Hp) (c0 : Bool) (n0 : Int),
      I0 p1 c0 n0 h0 →
        onO (lenV a) fun p2 =>
          onB (decide (n0 < ↑p2))
            (onO (idxV a n0 12) fun r0 =>
              onO (rdH h0 r0.fst r0.snd 12) fun l0 =>
                onL
                  [Kd.int IntKind.i64, Kd.int IntKind.i64, Kd.int IntKind.i64, Kd.ref, Kd.int IntKind.i64, Kd.int IntKind.i64, Kd.int IntKind.i64, Kd.int IntKind.i64, Kd.int IntKind.i64, Kd.str,
                    Kd.int IntKind.i64, Kd.int IntKind.i64]
                  l0 fun n1 n2 n3 a0 n4 n5 n6 n7 n8 l1 n9 n10 =>
                  wpC Try.prog 32
                    [AV.agg
                        [AV.i IntKind.i64 n1, AV.i IntKind.i64 n2, AV.i IntKind.i64 n3, a0, AV.i IntKind.i64 n4, AV.i IntKind.i64 n5, AV.i IntKind.i64 n6, AV.i IntKind.i64 n7, AV.i IntKind.i64 n8,
                          AV.s l1, AV.i IntKind.i64 n9, AV.i IntKind.i64 n10]]
                    (fun a1 h1 =>
                      onRet [Sh.one Kd.bool] a1 fun c1 =>
                        onB (!c1) (Post (AV.b false) h1)
                          (onO (idxV a n0 12) fun r1 =>
                            onO (rdH h1 r1.fst (r1.snd + 3) 1) fun l2 =>
                              onL [Kd.ref] l2 fun a2 =>
                                onO (lenV a2) fun p3 => onB (!decide ((↑p3 : Int) = b)) (Post (AV.b false) h1) (onO (intO BinOp.add IntKind.i64 n0 1) fun n11 => ∃ p4, ltN p4 p1 ∧ I0 p4 c0 n11 h1)))
                    h0)
            (Post (AV.b true) h0)) := by kernel_rfl
/- arras/frame.ops -/
theorem vc40 (a : AV) (h : Hp) (Post : AV → Hp → Prop) : vcCall Try.prog [0] 40 [(SV.vv a)] h Post = (
  ∃ I0 : Nat → Int → Bool → Hp → Prop,
  (∃ p0, I0 p0 0 false h) ∧
    ∀ (p1 : Nat) (h0 : Hp) (n0 : Int) (c0 : Bool),
      I0 p1 n0 c0 h0 →
        Dup
          (onO (lenV a) fun p2 =>
            onB (decide (n0 = ↑p2)) (onB (decide (1 ≤ n0)) (Post (AV.b (decide (n0 ≤ 8))) h0) (Post (AV.b false) h0))
              (onO (idxV a n0 12) fun r0 =>
                onO (rdH h0 r0.fst r0.snd 12) fun l0 =>
                  onL
                    [Kd.int IntKind.i64, Kd.int IntKind.i64, Kd.int IntKind.i64, Kd.ref, Kd.int IntKind.i64, Kd.int IntKind.i64, Kd.int IntKind.i64, Kd.int IntKind.i64, Kd.int IntKind.i64, Kd.str,
                      Kd.int IntKind.i64, Kd.int IntKind.i64]
                    l0 fun n1 n2 n3 a0 n4 n5 n6 n7 n8 l1 n9 n10 =>
                    wpC Try.prog 37
                      [AV.agg
                          [AV.i IntKind.i64 n1, AV.i IntKind.i64 n2, AV.i IntKind.i64 n3, a0, AV.i IntKind.i64 n4, AV.i IntKind.i64 n5, AV.i IntKind.i64 n6, AV.i IntKind.i64 n7, AV.i IntKind.i64 n8,
                            AV.s l1, AV.i IntKind.i64 n9, AV.i IntKind.i64 n10]]
                      (fun a1 h1 => onRet [Sh.one Kd.bool] a1 fun c1 => onB c1 (onO (intO BinOp.add IntKind.i64 n0 1) fun n11 => ∃ p3, ltN p3 p1 ∧ I0 p3 n11 c0 h1) (Post (AV.b false) h1)) h0))) := by kernel_rfl
/- arras/frame.May -/
theorem vc30 (a0 : Int) (a1 : Int) (a2 : Int) (a3 : AV) (a4 : AV) (h : Hp) (Post : AV → Hp → Prop) : vcCall Try.prog [] 30 [(SV.ag [(SV.ii .i64 a0), (SV.ii .i64 a1), (SV.ii .i64 a2), (SV.vv a3), (SV.vv a4)])] h Post = (
  ∀ (p0 : Nat),
  onB (decide (a0 < 0)) (Post (AV.b false) h)
    (onB (decide (16 ≤ a0)) (Post (AV.b false) h)
      (onB (decide (a1 < 0)) (Post (AV.b false) h)
        (onB (decide (16 ≤ a1)) (Post (AV.b false) h)
          (onB (decide (a0 = a1)) (Post (AV.b false) h)
            (onB (decide (a2 = 1))
              (wpC Try.prog 36 [a3] (fun a0 h0 => onRet [Sh.one Kd.bool] a0 fun c0 => onB c0 (onO (lenV a4) fun p1 => Post (AV.b (decide ((↑p1 : Int) = 0))) h0) (Post (AV.b false) h0)) h)
              (onB (decide (a2 = 2))
                (onO (lenV a3) fun p2 => onB (decide ((↑p2 : Int) = 0)) (wpC Try.prog 40 [a4] (fun a1 h1 => onRet [Sh.one Kd.bool] a1 fun c1 => Post (AV.b c1) h1) h) (Post (AV.b false) h))
                (Post (AV.b false) h)))))))) := by kernel_rfl
/- arras/arrasref10.Frame -/
theorem vc14 (a0 : Int) (a1 : Int) (a2 : Int) (a3 : AV) (a4 : AV) (h : Hp) (Post : AV → Hp → Prop) : vcCall Try.prog [] 14 [(SV.ag [(SV.ii .i64 a0), (SV.ii .i64 a1), (SV.ii .i64 a2), (SV.vv a3), (SV.vv a4)])] h Post = (
  ∀ (p0 : Nat),
  wpC Try.prog 31 [AV.i IntKind.i64 a0, AV.i IntKind.i64 15]
    (fun a0_1 h0 =>
      onRet [Sh.one Kd.bool] a0_1 fun c0 =>
        onB (!c0) (Post (AV.b false) h0)
          (wpC Try.prog 31 [AV.i IntKind.i64 a1, AV.i IntKind.i64 15]
            (fun a1_1 h1 =>
              onRet [Sh.one Kd.bool] a1_1 fun c1 =>
                onB (!c1) (Post (AV.b false) h1)
                  (onB (decide (a0 = a1)) (Post (AV.b false) h1)
                    (onB (decide (a2 = 1))
                      (wpC Try.prog 16 [a3] (fun a2 h2 => onRet [Sh.one Kd.bool] a2 fun c2 => onB c2 (onO (lenV a4) fun p1 => Post (AV.b (decide ((↑p1 : Int) = 0))) h2) (Post (AV.b false) h2)) h1)
                      (onB (decide (a2 = 2))
                        (∃ I0 : Nat → Bool → Int → Hp → Prop,
                          (∃ p2, I0 p2 false 0 h1) ∧
                            ∀ (p3 : Nat) (h3 : Hp) (c3 : Bool) (n0 : Int),
                              I0 p3 c3 n0 h3 →
                                onO (lenV a4) fun p4 =>
                                  onB (decide (n0 < ↑p4))
                                    (onO (idxV a4 n0 12) fun r0 =>
                                      onO (rdH h3 r0.fst r0.snd 12) fun l0 =>
                                        onL
                                          [Kd.int IntKind.i64, Kd.int IntKind.i64, Kd.int IntKind.i64, Kd.ref, Kd.int IntKind.i64, Kd.int IntKind.i64, Kd.int IntKind.i64, Kd.int IntKind.i64,
                                            Kd.int IntKind.i64, Kd.str, Kd.int IntKind.i64, Kd.int IntKind.i64]
                                          l0 fun n1 n2 n3 a3 n4 n5 n6 n7 n8 l1 n9 n10 =>
                                          wpC Try.prog 32
                                            [AV.agg
                                                [AV.i IntKind.i64 n1, AV.i IntKind.i64 n2, AV.i IntKind.i64 n3, a3, AV.i IntKind.i64 n4, AV.i IntKind.i64 n5, AV.i IntKind.i64 n6, AV.i IntKind.i64 n7,
                                                  AV.i IntKind.i64 n8, AV.s l1, AV.i IntKind.i64 n9, AV.i IntKind.i64 n10]]
                                            (fun a4 h4 =>
                                              onRet [Sh.one Kd.bool] a4 fun c4 => onB (!c4) (Post (AV.b false) h4) (onO (intO BinOp.add IntKind.i64 n0 1) fun n11 => ∃ p5, ltN p5 p3 ∧ I0 p5 c3 n11 h4))
                                            h3)
                                    (onO (lenV a3) fun p6 =>
                                      onB (decide ((↑p6 : Int) = 0)) (onO (lenV a4) fun p7 => onB (decide ((1 : Int) ≤ ↑p7)) (onO (lenV a4) fun p8 => Post (AV.b (decide ((↑p8 : Int) ≤ 8))) h3) (Post (AV.b false) h3))
                                        (Post (AV.b false) h3)))
                        (Post (AV.b false) h1)))))
            h0))
    h) := by kernel_rfl
/- arras/arrasref0.EqFrame -/
theorem vc15 (a0 : Int) (a1 : Int) (a2 : Int) (a3 : AV) (a4 : AV) (b0 : Int) (b1 : Int) (b2 : Int) (b3 : AV) (b4 : AV) (h : Hp) (Post : AV → Hp → Prop) : vcCall Try.prog [] 15 [(SV.ag [(SV.ii .i64 a0), (SV.ii .i64 a1), (SV.ii .i64 a2), (SV.vv a3), (SV.vv a4)]), (SV.ag [(SV.ii .i64 b0), (SV.ii .i64 b1), (SV.ii .i64 b2), (SV.vv b3), (SV.vv b4)])] h Post = (
  ∀ (p0 p1 : Nat),
  onB (decide (a0 = b0))
    (onB (decide (a1 = b1))
      (onB (decide (a2 = b2))
        (wpC Try.prog 21 [a3, b3]
          (fun a0 h0 => onRet [Sh.one Kd.bool] a0 fun c0 => onB c0 (wpC Try.prog 19 [a4, b4] (fun a1 h1 => onRet [Sh.one Kd.bool] a1 fun c1 => Post (AV.b c1) h1) h0) (Post (AV.b false) h0)) h)
        (Post (AV.b false) h))
      (Post (AV.b false) h))
    (Post (AV.b false) h)) := by kernel_rfl
/- arras/arraslaw0.Numbers -/
theorem vc35 (a : AV) (h : Hp) (Post : AV → Hp → Prop) : vcCall Try.prog [] 35 [(SV.vv a)] h Post = (
  ∃ I0 : Nat → Int → Hp → Prop,
  (∃ p0, I0 p0 0 h) ∧
    ∀ (p1 : Nat) (h0 : Hp) (n0 : Int),
      I0 p1 n0 h0 →
        onO (lenV a) fun p2 =>
          onB (decide (n0 < ↑p2))
            (onO (idxV a n0 1) fun r0 =>
              wpE (Eff.w r0.fst r0.snd (Src.lit [AV.i IntKind.i64 (-99)]) none) (fun x0 h1 => onO (intO BinOp.add IntKind.i64 n0 1) fun n1 => ∃ p3, ltN p3 p1 ∧ I0 p3 n1 h1) h0)
            (∀ (p4 : Nat), wpE (Eff.app a 1 (Src.lit [AV.i IntKind.i64 5]) 1) (fun x1 h2 => onO x1 fun a0 => Post (AV.tup []) h2) h0)) := by kernel_rfl
/- arras/arraslaw0.Op -/
theorem vc34 (a0 : Int) (a1 : Int) (a2 : Int) (a3 : AV) (a4 : Int) (a5 : Int) (a6 : Int) (a7 : Int) (a8 : Int) (a9 : List Nat) (a10 : Int) (a11 : Int) (h : Hp) (Post : AV → Hp → Prop) : vcCall Try.prog [] 34 [(SV.ag [(SV.ii .i64 a0), (SV.ii .i64 a1), (SV.ii .i64 a2), (SV.vv a3), (SV.ii .i64 a4), (SV.ii .i64 a5), (SV.ii .i64 a6), (SV.ii .i64 a7), (SV.ii .i64 a8), (SV.ss a9), (SV.ii .i64 a10), (SV.ii .i64 a11)])] h Post = (
  ∀ (p0 : Nat), wpC Try.prog 35 [a3] (fun a0 h0 => onTup [] a0 (Post (AV.tup []) h0)) h) := by kernel_rfl
/- arras/arraslaw0.Ops -/
theorem vc22 (a : AV) (h : Hp) (Post : AV → Hp → Prop) : vcCall Try.prog [] 22 [(SV.vv a)] h Post = (
  ∃ I0 : Nat → Int → Hp → Prop,
  (∃ p0, I0 p0 0 h) ∧
    ∀ (p1 : Nat) (h0 : Hp) (n0 : Int),
      I0 p1 n0 h0 →
        onO (lenV a) fun p2 =>
          onB (decide (n0 < ↑p2))
            (onO (idxV a n0 12) fun r0 =>
              onO (rdH h0 r0.fst r0.snd 12) fun l0 =>
                onL
                  [Kd.int IntKind.i64, Kd.int IntKind.i64, Kd.int IntKind.i64, Kd.ref, Kd.int IntKind.i64, Kd.int IntKind.i64, Kd.int IntKind.i64, Kd.int IntKind.i64, Kd.int IntKind.i64, Kd.str,
                    Kd.int IntKind.i64, Kd.int IntKind.i64]
                  l0 fun n1 n2 n3 a0 n4 n5 n6 n7 n8 l1 n9 n10 =>
                  wpC Try.prog 34
                    [AV.agg
                        [AV.i IntKind.i64 n1, AV.i IntKind.i64 n2, AV.i IntKind.i64 n3, a0, AV.i IntKind.i64 n4, AV.i IntKind.i64 n5, AV.i IntKind.i64 n6, AV.i IntKind.i64 n7, AV.i IntKind.i64 n8,
                          AV.s l1, AV.i IntKind.i64 n9, AV.i IntKind.i64 n10]]
                    (fun a1 h1 =>
                      onTup [] a1
                        (onO (idxV a n0 12) fun r1 =>
                          wpE
                            (Eff.w r1.fst r1.snd
                              (Src.lit
                                [AV.i IntKind.i64 0, AV.i IntKind.i64 0, AV.i IntKind.i64 (-9), AV.ns, AV.i IntKind.i64 0, AV.i IntKind.i64 0, AV.i IntKind.i64 0, AV.i IntKind.i64 0,
                                  AV.i IntKind.i64 0, AV.s [], AV.i IntKind.i64 0, AV.i IntKind.i64 0])
                              none)
                            (fun x0 h2 => onO (intO BinOp.add IntKind.i64 n0 1) fun n11 => ∃ p3, ltN p3 p1 ∧ I0 p3 n11 h2) h1))
                    h0)
            (Post (AV.tup []) h0)) := by kernel_rfl
/- arras/arraslaw0.Frame -/
theorem vc23 (a0 : Int) (a1 : Int) (a2 : Int) (a3 : AV) (a4 : AV) (h : Hp) (Post : AV → Hp → Prop) : vcCall Try.prog [] 23 [(SV.ag [(SV.ii .i64 a0), (SV.ii .i64 a1), (SV.ii .i64 a2), (SV.vv a3), (SV.vv a4)])] h Post = (
  ∀ (p0 : Nat), wpC Try.prog 35 [a3] (fun a0 h0 => onTup [] a0 (wpC Try.prog 22 [a4] (fun a1 h1 => onTup [] a1 (Post (AV.tup []) h1)) h0)) h) := by kernel_rfl
/- arras/arraslaw25.num -/
theorem vc8 (a : Int) (h : Hp) (Post : AV → Hp → Prop) : vcCall Try.prog [] 8 [(SV.ii .i64 a)] h Post = (
  Post (AV.i IntKind.i64 a) h) := by kernel_rfl
/- arras/arraslaw25.wakes -/
theorem vc9  (h : Hp) (Post : AV → Hp → Prop) : vcCall Try.prog [] 9 [] h Post = (
  wpC Try.prog 26 [AV.i IntKind.i64 1, AV.i IntKind.i64 1, AV.i IntKind.i64 2]
  (fun a0 h0 =>
    onTup [Sh.one (Kd.int IntKind.i64), Sh.one (Kd.int IntKind.i64), Sh.one (Kd.int IntKind.i64)] a0 fun n0 n1 n2 =>
      wpC Try.prog 8 [AV.i IntKind.i64 n2]
        (fun a1 h1 => onRet [Sh.one (Kd.int IntKind.i64)] a1 fun n3 => onB (decide (n3 = 0)) (onB (decide (n0 = 0)) (Post (AV.b (decide (n1 = 1))) h1) (Post (AV.b false) h1)) (Post (AV.b false) h1))
        h0)
  h) := by kernel_rfl
/- arras/arraslaw0.OpWeight -/
theorem vc39 (a0 : Int) (a1 : Int) (a2 : Int) (a3 : AV) (a4 : Int) (a5 : Int) (a6 : Int) (a7 : Int) (a8 : Int) (a9 : List Nat) (a10 : Int) (a11 : Int) (h : Hp) (Post : AV → Hp → Prop) : vcCall Try.prog [] 39 [(SV.ag [(SV.ii .i64 a0), (SV.ii .i64 a1), (SV.ii .i64 a2), (SV.vv a3), (SV.ii .i64 a4), (SV.ii .i64 a5), (SV.ii .i64 a6), (SV.ii .i64 a7), (SV.ii .i64 a8), (SV.ss a9), (SV.ii .i64 a10), (SV.ii .i64 a11)])] h Post = (
  ∀ (p0 : Nat), onO (lenV a3) fun p1 => onO (intO BinOp.add IntKind.i64 1 ↑p1) fun n0 => onO (intO BinOp.add IntKind.i64 n0 ↑a9.length) fun n1 => Post (AV.i IntKind.i64 n1) h) := by kernel_rfl
/- arras/arraslaw0.OpsWeight -/
theorem vc27 (a : AV) (h : Hp) (Post : AV → Hp → Prop) : vcCall Try.prog [] 27 [(SV.vv a)] h Post = (
  onO (lenV a) fun p0 =>
  ∃ I0 : Nat → Int → Int → Hp → Prop,
    (∃ p1, I0 p1 (↑p0) 0 h) ∧
      ∀ (p2 : Nat) (h0 : Hp) (n0 n1 : Int),
        I0 p2 n0 n1 h0 →
          onO (lenV a) fun p3 =>
            onB (decide (n1 < ↑p3))
              (onB (decide (n0 < 1048576))
                (onO (idxV a n1 12) fun r0 =>
                  onO (rdH h0 r0.fst r0.snd 12) fun l0 =>
                    onL
                      [Kd.int IntKind.i64, Kd.int IntKind.i64, Kd.int IntKind.i64, Kd.ref, Kd.int IntKind.i64, Kd.int IntKind.i64, Kd.int IntKind.i64, Kd.int IntKind.i64, Kd.int IntKind.i64, Kd.str,
                        Kd.int IntKind.i64, Kd.int IntKind.i64]
                      l0 fun n2 n3 n4 a0 n5 n6 n7 n8 n9 l1 n10 n11 =>
                      wpC Try.prog 39
                        [AV.agg
                            [AV.i IntKind.i64 n2, AV.i IntKind.i64 n3, AV.i IntKind.i64 n4, a0, AV.i IntKind.i64 n5, AV.i IntKind.i64 n6, AV.i IntKind.i64 n7, AV.i IntKind.i64 n8, AV.i IntKind.i64 n9,
                              AV.s l1, AV.i IntKind.i64 n10, AV.i IntKind.i64 n11]]
                        (fun a1 h1 =>
                          onRet [Sh.one (Kd.int IntKind.i64)] a1 fun n12 =>
                            onO (intO BinOp.add IntKind.i64 n0 n12) fun n13 => onO (intO BinOp.add IntKind.i64 n1 1) fun n14 => ∃ p4, ltN p4 p2 ∧ I0 p4 n13 n14 h1)
                        h0)
                (Post (AV.i IntKind.i64 n0) h0))
              (Post (AV.i IntKind.i64 n0) h0)) := by kernel_rfl
/- arras/sync.Whom -/
theorem vc26 (a : Int) (b : Int) (c : Int) (h : Hp) (Post : AV → Hp → Prop) : vcCall Try.prog [] 26 [(SV.ii .i64 a), (SV.ii .i64 b), (SV.ii .i64 c)] h Post = (
  onB (decide (c < 1)) (Post (AV.tup [AV.i IntKind.i64 0, AV.i IntKind.i64 0, AV.i IntKind.i64 1]) h)
  (onB (decide (16 < c)) (Post (AV.tup [AV.i IntKind.i64 0, AV.i IntKind.i64 0, AV.i IntKind.i64 1]) h)
    (onB (decide (b < 0)) (Post (AV.tup [AV.i IntKind.i64 0, AV.i IntKind.i64 0, AV.i IntKind.i64 1]) h)
      (onB (decide (c ≤ b)) (Post (AV.tup [AV.i IntKind.i64 0, AV.i IntKind.i64 0, AV.i IntKind.i64 1]) h)
        (onB (decide (a < 0)) (Post (AV.tup [AV.i IntKind.i64 0, AV.i IntKind.i64 0, AV.i IntKind.i64 1]) h)
          (onB (decide (c ≤ a)) (Post (AV.tup [AV.i IntKind.i64 0, AV.i IntKind.i64 0, AV.i IntKind.i64 1]) h)
            (onB (decide (c = 1)) (Post (AV.tup [AV.i IntKind.i64 0, AV.i IntKind.i64 0, AV.i IntKind.i64 3]) h)
              (onB (decide (a = b))
                (onO (intO BinOp.add IntKind.i64 a 1) fun n0 =>
                  onO (intO BinOp.rem IntKind.i64 n0 c) fun n1 =>
                    onO (intO BinOp.add IntKind.i64 n1 1) fun n2 => onO (intO BinOp.rem IntKind.i64 n2 c) fun n3 => Post (AV.tup [AV.i IntKind.i64 n1, AV.i IntKind.i64 n3, AV.i IntKind.i64 0]) h)
                (onO (intO BinOp.add IntKind.i64 a 1) fun n4 => onO (intO BinOp.rem IntKind.i64 n4 c) fun n5 => Post (AV.tup [AV.i IntKind.i64 a, AV.i IntKind.i64 n5, AV.i IntKind.i64 0]) h))))))))) := by kernel_rfl
/- arras/arraslaw25.heavy -/
theorem vc10 (a0 : AV) (a1 : AV) (a2 : Int) (a3 : Int) (a4 : Int) (a5 : Int) (h : Hp) (Post : AV → Hp → Prop) : vcCall Try.prog [] 10 [(SV.ag [(SV.vv a0), (SV.vv a1), (SV.ii .i64 a2), (SV.ii .i64 a3), (SV.ii .i64 a4), (SV.ii .i64 a5)])] h Post = (
  ∀ (p0 : Nat),
  wpC Try.prog 27 [a0] (fun a0 h0 => onRet [Sh.one (Kd.int IntKind.i64)] a0 fun n0 => onB (decide (5000 < n0)) (Post (AV.b true) h0) (onO (lenV a1) fun p1 => Post (AV.b (decide ((1000 : Int) < ↑p1))) h0)) h) := by kernel_rfl
/- arras/sync.Ask -/
theorem vc13 (a : Int) (b : Int) (c : AV) (h : Hp) (Post : AV → Hp → Prop) : vcCall Try.prog [] 13 [(SV.ii .i64 a), (SV.ii .i64 b), (SV.vv c)] h Post = (
  ∀ (p0 : Nat),
  wpC Try.prog 29 [c]
    (fun a0 h0 =>
      onRet [Sh.one Kd.ref] a0 fun a1 =>
        ∀ (p1 : Nat),
          wpC Try.prog 30 [AV.agg [AV.i IntKind.i64 a, AV.i IntKind.i64 b, AV.i IntKind.i64 1, a1, AV.ns]]
            (fun a2 h1 =>
              onRet [Sh.one Kd.bool] a2 fun c0 =>
                onB (!c0) (Post (AV.tup [AV.agg [AV.i IntKind.i64 0, AV.i IntKind.i64 0, AV.i IntKind.i64 0, AV.ns, AV.ns], AV.i IntKind.i64 1]) h1)
                  (Post (AV.tup [AV.agg [AV.i IntKind.i64 a, AV.i IntKind.i64 b, AV.i IntKind.i64 1, a1, AV.ns], AV.i IntKind.i64 0]) h1))
            h0)
    h) := by kernel_rfl
/- arras/sync.Reply -/
theorem vc20 (a : Int) (b : Int) (c : AV) (d : AV) (h : Hp) (Post : AV → Hp → Prop) : vcCall Try.prog [] 20 [(SV.ii .i64 a), (SV.ii .i64 b), (SV.vv c), (SV.vv d)] h Post = (
  ∀ (p0 : Nat),
  wpC Try.prog 24 [c, d]
    (fun a0 h0 =>
      onRet [Sh.one Kd.bool] a0 fun c0 =>
        onB (!c0) (Post (AV.tup [AV.agg [AV.i IntKind.i64 0, AV.i IntKind.i64 0, AV.i IntKind.i64 0, AV.ns, AV.ns], AV.i IntKind.i64 1]) h0)
          (wpC Try.prog 25 [c, d]
            (fun a1 h1 =>
              onRet [Sh.one Kd.ref] a1 fun a2 =>
                ∀ (p1 : Nat),
                  onO (lenV a2) fun p2 =>
                    onB (decide ((↑p2 : Int) = 0)) (Post (AV.tup [AV.agg [AV.i IntKind.i64 0, AV.i IntKind.i64 0, AV.i IntKind.i64 0, AV.ns, AV.ns], AV.i IntKind.i64 3]) h1)
                      (wpC Try.prog 30 [AV.agg [AV.i IntKind.i64 a, AV.i IntKind.i64 b, AV.i IntKind.i64 2, AV.ns, a2]]
                        (fun a3 h2 =>
                          onRet [Sh.one Kd.bool] a3 fun c1 =>
                            onB (!c1) (Post (AV.tup [AV.agg [AV.i IntKind.i64 0, AV.i IntKind.i64 0, AV.i IntKind.i64 0, AV.ns, AV.ns], AV.i IntKind.i64 1]) h2)
                              (Post (AV.tup [AV.agg [AV.i IntKind.i64 a, AV.i IntKind.i64 b, AV.i IntKind.i64 2, AV.ns, a2], AV.i IntKind.i64 0]) h2))
                        h1))
            h0))
    h) := by kernel_rfl
/- arras/arraslaw25.SyncAsks -/
theorem vc4 (a : AV) (h : Hp) (Post : AV → Hp → Prop) : vcCall Try.prog [5000024,
 21000078,
 27000012,
 36999999,
 37000111,
 45000133,
 48999999,
 53000164,
 63000182] 4 [(SV.vv a)] h Post = (
  ∃ I0 : Nat → Bool → Int → Hp → Prop,
  (∃ p0, I0 p0 false 0 h) ∧
    ∀ (p1 : Nat) (h0 : Hp) (c0 : Bool) (n0 : Int),
      I0 p1 c0 n0 h0 →
        ∃ I1 : Bool → Hp → Prop,
          (onO (lenV a) fun p2 => onB (decide (n0 < ↑p2)) (I1 (decide (n0 < 10)) h0) (I1 false h0)) ∧
            ∀ (h1 : Hp) (c1 : Bool),
              I1 c1 h1 →
                onB c1
                  (onO (idxV a n0 6) fun r0 =>
                    onO (rdH h1 r0.fst r0.snd 6) fun l0 =>
                      onL [Kd.ref, Kd.ref, Kd.int IntKind.i64, Kd.int IntKind.i64, Kd.int IntKind.i64, Kd.int IntKind.i64] l0 fun a0 a1 n1 n2 n3 n4 =>
                        ∀ (p3 : Nat),
                          wpC Try.prog 10 [AV.agg [a0, a1, AV.i IntKind.i64 n1, AV.i IntKind.i64 n2, AV.i IntKind.i64 n3, AV.i IntKind.i64 n4]]
                            (fun a2 h2 =>
                              onRet [Sh.one Kd.bool] a2 fun c2 =>
                                onB c2 (Post (AV.b true) h2)
                                  (wpC Try.prog 11 [a0]
                                    (fun a3 h3 =>
                                      onRet [Sh.one Kd.ref] a3 fun a4 =>
                                        wpC Try.prog 12 [a1]
                                          (fun a5 h4 =>
                                            onRet [Sh.one Kd.ref] a5 fun a6 =>
                                              wpC Try.prog 12 [a1]
                                                (fun a7 h5 =>
                                                  onRet [Sh.one Kd.ref] a7 fun a8 =>
                                                    ∀ (p4 : Nat),
                                                      wpC Try.prog 13 [AV.i IntKind.i64 n1, AV.i IntKind.i64 n2, a6]
                                                        (fun a9 h6 =>
                                                          onTup [Sh.agg [Kd.int IntKind.i64, Kd.int IntKind.i64, Kd.int IntKind.i64, Kd.ref, Kd.ref], Sh.one (Kd.int IntKind.i64)] a9
                                                            fun n5 n6 n7 a10 a11 n8 =>
                                                            ∀ (p5 : Nat),
                                                              ∃ I2 : Bool → Hp → Prop,
                                                                wpC Try.prog 14 [AV.agg [AV.i IntKind.i64 n1, AV.i IntKind.i64 n2, AV.i IntKind.i64 1, a8, AV.ns]]
                                                                    (fun a12 h7 =>
                                                                      onRet [Sh.one Kd.bool] a12 fun c3 =>
                                                                        onB c3
                                                                          (wpC Try.prog 8 [AV.i IntKind.i64 n8]
                                                                            (fun a13 h8 =>
                                                                              onRet [Sh.one (Kd.int IntKind.i64)] a13 fun n9 =>
                                                                                onB (!decide (n9 = 0)) (I2 true h8)
                                                                                  (wpC Try.prog 15
                                                                                    [AV.agg [AV.i IntKind.i64 n5, AV.i IntKind.i64 n6, AV.i IntKind.i64 n7, a10, a11],
                                                                                      AV.agg [AV.i IntKind.i64 n1, AV.i IntKind.i64 n2, AV.i IntKind.i64 1, a8, AV.ns]]
                                                                                    (fun a14 h9 =>
                                                                                      onRet [Sh.one Kd.bool] a14 fun c4 =>
                                                                                        onB (!c4) (I2 true h9)
                                                                                          (wpC Try.prog 14 [AV.agg [AV.i IntKind.i64 n1, AV.i IntKind.i64 n2, AV.i IntKind.i64 1, a8, AV.ns]]
                                                                                            (fun a15 h10 =>
                                                                                              onRet [Sh.one Kd.bool] a15 fun c5 =>
                                                                                                onB (!c5)
                                                                                                  (wpC Try.prog 8 [AV.i IntKind.i64 n8]
                                                                                                    (fun a16 h11 => onRet [Sh.one (Kd.int IntKind.i64)] a16 fun n10 => I2 (!decide (n10 = 1)) h11) h10)
                                                                                                  (I2 false h10))
                                                                                            h9))
                                                                                    h8))
                                                                            h7)
                                                                          (wpC Try.prog 14 [AV.agg [AV.i IntKind.i64 n1, AV.i IntKind.i64 n2, AV.i IntKind.i64 1, a8, AV.ns]]
                                                                            (fun a17 h12 =>
                                                                              onRet [Sh.one Kd.bool] a17 fun c6 =>
                                                                                onB (!c6)
                                                                                  (wpC Try.prog 8 [AV.i IntKind.i64 n8]
                                                                                    (fun a18 h13 => onRet [Sh.one (Kd.int IntKind.i64)] a18 fun n11 => I2 (!decide (n11 = 1)) h13) h12)
                                                                                  (I2 false h12))
                                                                            h7))
                                                                    h6 ∧
                                                                  ∀ (h14 : Hp) (c7 : Bool),
                                                                    I2 c7 h14 →
                                                                      onB c7 (Post (AV.b false) h14)
                                                                        (wpC Try.prog 7 [a4, a6]
                                                                          (fun a19 h15 =>
                                                                            onTup [Sh.one Kd.ref, Sh.one (Kd.int IntKind.i64)] a19 fun a20 n12 =>
                                                                              ∃ I3 : Bool → Hp → Prop,
                                                                                wpC Try.prog 16 [a1]
                                                                                    (fun a21 h16 =>
                                                                                      onRet [Sh.one Kd.bool] a21 fun c8 =>
                                                                                        onB c8
                                                                                          (onO (lenV a1) fun p6 =>
                                                                                            wpC Try.prog 17 [a0, AV.i IntKind.i64 ↑p6] (fun a22 h17 => onRet [Sh.one Kd.bool] a22 fun c9 => I3 c9 h17)
                                                                                              h16)
                                                                                          (I3 false h16))
                                                                                    h15 ∧
                                                                                  ∀ (h18 : Hp) (c10 : Bool),
                                                                                    I3 c10 h18 →
                                                                                      ∃ I4 : AV → Int → Hp → Prop,
                                                                                        onB c10 (wpC Try.prog 18 [a0, a1] (fun a23 h19 => onRet [Sh.one Kd.ref] a23 fun a24 => I4 a24 0 h19) h18)
                                                                                            (I4 AV.ns 1 h18) ∧
                                                                                          ∀ (h20 : Hp) (a25 : AV),
                                                                                            a25.sc = true →
                                                                                              ∀ (n13 : Int),
                                                                                                I4 a25 n13 h20 →
                                                                                                  ∃ I5 : Bool → Hp → Prop,
                                                                                                    wpC Try.prog 8 [AV.i IntKind.i64 n12]
                                                                                                        (fun a26 h21 =>
                                                                                                          onRet [Sh.one (Kd.int IntKind.i64)] a26 fun n14 =>
                                                                                                            onB (!decide (n14 = n13)) (I5 true h21)
                                                                                                              (wpC Try.prog 19 [a20, a25]
                                                                                                                (fun a27 h22 => onRet [Sh.one Kd.bool] a27 fun c11 => I5 (!c11) h22) h21))
                                                                                                        h20 ∧
                                                                                                      ∀ (h23 : Hp) (c12 : Bool),
                                                                                                        I5 c12 h23 →
                                                                                                          onB c12 (Post (AV.b false) h23)
                                                                                                            (wpC Try.prog 20 [AV.i IntKind.i64 n1, AV.i IntKind.i64 n2, a4, a6]
                                                                                                              (fun a28 h24 =>
                                                                                                                onTup
                                                                                                                  [Sh.agg [Kd.int IntKind.i64, Kd.int IntKind.i64, Kd.int IntKind.i64, Kd.ref, Kd.ref],
                                                                                                                    Sh.one (Kd.int IntKind.i64)]
                                                                                                                  a28 fun n15 n16 n17 a29 a30 n18 =>
                                                                                                                  ∀ (p7 : Nat),
                                                                                                                    ∃ I6 : Bool → Hp → Prop,
                                                                                                                      onB c10 (onO (lenV a25) fun p8 => I6 (decide ((↑p8 : Int) = 0)) h24) (I6 false h24) ∧
                                                                                                                        ∀ (h25 : Hp) (c13 : Bool),
                                                                                                                          I6 c13 h25 →
                                                                                                                            ∃ I7 : Int → Hp → Prop,
                                                                                                                              onB c13 (I7 3 h25)
                                                                                                                                  (wpC Try.prog 14
                                                                                                                                    [AV.agg
                                                                                                                                        [AV.i IntKind.i64 n1, AV.i IntKind.i64 n2, AV.i IntKind.i64 2,
                                                                                                                                          AV.ns, a25]]
                                                                                                                                    (fun a31 h26 =>
                                                                                                                                      onRet [Sh.one Kd.bool] a31 fun c14 =>
                                                                                                                                        onB (!c14) (I7 1 h26) (I7 n13 h26))
                                                                                                                                    h25) ∧
                                                                                                                                ∀ (h27 : Hp) (n19 : Int),
                                                                                                                                  I7 n19 h27 →
                                                                                                                                    ∃ I8 : Bool → Hp → Prop,
                                                                                                                                      wpC Try.prog 8 [AV.i IntKind.i64 n18]
                                                                                                                                          (fun a32 h28 =>
                                                                                                                                            onRet [Sh.one (Kd.int IntKind.i64)] a32 fun n20 =>
                                                                                                                                              onB (!decide (n20 = n19)) (I8 true h28)
                                                                                                                                                (onB (decide (n19 = 0))
                                                                                                                                                  (wpC Try.prog 15
                                                                                                                                                    [AV.agg
                                                                                                                                                        [AV.i IntKind.i64 n15, AV.i IntKind.i64 n16,
                                                                                                                                                          AV.i IntKind.i64 n17, a29, a30],
                                                                                                                                                      AV.agg
                                                                                                                                                        [AV.i IntKind.i64 n1, AV.i IntKind.i64 n2,
                                                                                                                                                          AV.i IntKind.i64 2, AV.ns, a25]]
                                                                                                                                                    (fun a33 h29 =>
                                                                                                                                                      onRet [Sh.one Kd.bool] a33 fun c15 =>
                                                                                                                                                        onB (!c15) (I8 true h29)
                                                                                                                                                          (wpC Try.prog 19 [a4, a0]
                                                                                                                                                            (fun a34 h30 =>
                                                                                                                                                              onRet [Sh.one Kd.bool] a34 fun c16 =>
                                                                                                                                                                onB (!c16) (I8 true h30)
                                                                                                                                                                  (wpC Try.prog 21 [a6, a1]
                                                                                                                                                                    (fun a35 h31 =>
                                                                                                                                                                      onRet [Sh.one Kd.bool] a35
                                                                                                                                                                        fun c17 => I8 (!c17) h31)
                                                                                                                                                                    h30))
                                                                                                                                                            h29))
                                                                                                                                                    h28)
                                                                                                                                                  (wpC Try.prog 19 [a4, a0]
                                                                                                                                                    (fun a36 h32 =>
                                                                                                                                                      onRet [Sh.one Kd.bool] a36 fun c18 =>
                                                                                                                                                        onB (!c18) (I8 true h32)
                                                                                                                                                          (wpC Try.prog 21 [a6, a1]
                                                                                                                                                            (fun a37 h33 =>
                                                                                                                                                              onRet [Sh.one Kd.bool] a37 fun c19 =>
                                                                                                                                                                I8 (!c19) h33)
                                                                                                                                                            h32))
                                                                                                                                                    h28)))
                                                                                                                                          h27 ∧
                                                                                                                                        ∀ (h34 : Hp) (c20 : Bool),
                                                                                                                                          I8 c20 h34 →
                                                                                                                                            onB c20 (Post (AV.b false) h34)
                                                                                                                                              (wpC Try.prog 22 [a20]
                                                                                                                                                (fun a38 h35 =>
                                                                                                                                                  onTup [] a38
                                                                                                                                                    (wpC Try.prog 23
                                                                                                                                                      [AV.agg
                                                                                                                                                          [AV.i IntKind.i64 n5, AV.i IntKind.i64 n6,
                                                                                                                                                            AV.i IntKind.i64 n7, a10, a11]]
                                                                                                                                                      (fun a39 h36 =>
                                                                                                                                                        onTup [] a39
                                                                                                                                                          (wpC Try.prog 23
                                                                                                                                                            [AV.agg
                                                                                                                                                                [AV.i IntKind.i64 n15,
                                                                                                                                                                  AV.i IntKind.i64 n16,
                                                                                                                                                                  AV.i IntKind.i64 n17, a29, a30]]
                                                                                                                                                            (fun a40 h37 =>
                                                                                                                                                              onTup [] a40
                                                                                                                                                                (∃ I9 : Bool → Hp → Prop,
                                                                                                                                                                  wpC Try.prog 19 [a4, a0]
                                                                                                                                                                      (fun a41 h38 =>
                                                                                                                                                                        onRet [Sh.one Kd.bool] a41
                                                                                                                                                                          fun c21 =>
                                                                                                                                                                          onB (!c21) (I9 true h38)
                                                                                                                                                                            (wpC Try.prog 21 [a6, a1]
                                                                                                                                                                              (fun a42 h39 =>
                                                                                                                                                                                onRet [Sh.one Kd.bool]
                                                                                                                                                                                  a42 fun c22 =>
                                                                                                                                                                                  I9 (!c22) h39)
                                                                                                                                                                              h38))
                                                                                                                                                                      h37 ∧
                                                                                                                                                                    ∀ (h40 : Hp) (c23 : Bool),
                                                                                                                                                                      I9 c23 h40 →
                                                                                                                                                                        onB c23 (Post (AV.b false) h40)
                                                                                                                                                                          (onO
                                                                                                                                                                            (intO BinOp.add IntKind.i64
                                                                                                                                                                              n0 1)
                                                                                                                                                                            fun n21 =>
                                                                                                                                                                            ∃ p9,
                                                                                                                                                                              ltN p9 p1 ∧
                                                                                                                                                                                I0 p9 c0 n21 h40)))
                                                                                                                                                            h36))
                                                                                                                                                      h35))
                                                                                                                                                h34))
                                                                                                              h23))
                                                                          h14))
                                                        h5)
                                                h4)
                                          h3)
                                    h2))
                            h1)
                  (wpC Try.prog 9 [] (fun a43 h41 => onRet [Sh.one Kd.bool] a43 fun c24 => Post (AV.b c24) h41) h1)) := by kernel_rfl
/-! ### operations with memory of their own -/
def intC (l : List Int) : List (List AV) := l.map fun x => [.i .i64 x]
/-- an operation whose deps stand in this part, in a row of its own -/
def eOp (q : Hp) (o : D.Op) (c : List AV) : Prop := D.kOp.K q o c ∧ ∃ d, c = opC o d ∧ Fresh (Hp.none q.lo) q d 1 (intC o.deps)
abbrev OpOwn (g h : Hp) (a : AV) (l : List D.Op) : Prop := OwnD eOp 12 g h a l
theorem OpOwn.kn {g h : Hp} {a : AV} {l : List D.Op} (o : OpOwn g h a l) : D.kOp.Own g h a l := OwnD.own o rfl fun _ _ _ e => e.1
theorem ints_css {h : Hp} : ∀ {l : List Int} {css : List (List AV)}, All2 (Kn.int.K h) l css → css = intC l
  | [], _, .nil => rfl
  | _ :: _, _, .cons k t => by rw [k.1, ints_css t]; rfl
theorem Kn.Own.part {g h : Hp} {a : AV} {l : List Int} (o : Kn.int.Own g h a l) : ∃ q, q.le h ∧ Disj q g ∧ q.lo = g.lo ∧ (∀ b, q.g b ≠ none → g.lo ≤ b) ∧ Fresh (Hp.none g.lo) q a 1 (intC l) ∧ IR q a l := by
  obtain ⟨p, css, h0, h1, f, h2⟩ := o
  obtain ⟨q, q1, q2, q3, q4, q5⟩ := f.part
  have e := ints_css h2
  subst e
  rw [h1] at q3 q4 q5
  exact ⟨q, q1, q2.le_right h0, q3, q4, q5, _, q5.row, h2.mono fun _ _ k => k⟩
/-- one more operation, copied -/
theorem OpOwn.snoc {g p p' h' : Hp} {a : AV} {l : List D.Op} {css : List (List AV)} {qs : Nat → Hp} {h : Hp} (o : OwnE eOp 12 g h a l p css qs) (fr : Fresh p' h' a 12 css) (hl : p'.lo = p.lo) {x : D.Op} {d : AV} {h0 : Hp} (kx : D.kOp.K h0 x (opC x d)) {r : AV} (ow : Kn.int.Own p p' r x.deps)
    (hbig : l.length + 1 < 1000000) {Post : Option AV → Hp → Prop} (k : ∀ r h2, OpOwn g h2 r (l ++ [x]) → Post (some r) h2) : wpE (.app a 1 (.lit (opC x r)) 12) Post h' := by
  obtain ⟨q, q1, q2, q3, q4, q5, q6⟩ := ow.part
  have kk := op_again kx q6
  exact OwnE.snoc o fr ow.le hl q1 q2 q3 q4 ⟨kk, r, rfl, by rw [q3]; exact q5⟩ rfl (D.kOp.sc kk) hbig k
/-! ### plain -/
def mayL (n : Nat) (l : List D.Op) : Bool := l.all fun o => mayO o && decide (o.deps.length = n)
def lacks (v : List Int) (o : D.Op) : Bool := match v[o.stamp.rep.toNat]? with
  | some x => decide (x < o.seq)
  | none => false
def behind (v : List Int) (l : List D.Op) : List D.Op := (l.filter (lacks v)).take 8
theorem mayO_rep {o : D.Op} (h : mayO o = true) : 0 ≤ o.stamp.rep ∧ o.stamp.rep < o.deps.length := by
  unfold mayO at h
  simp only [Bool.and_eq_true] at h
  obtain ⟨h1, h2, h3, h4, h5⟩ := h
  have := isS_rep h1
  refine ⟨this.1, ?_⟩
  unfold seqV at h4
  cases hx : o.deps[o.stamp.rep.toNat]? with
  | none => rw [hx] at h4; cases h4
  | some x => have := (List.getElem?_eq_some_iff.1 hx).1; omega
section
variable {h : Hp} {a b : AV} {l : List D.Op} {v : List Int} {Post : AV → Hp → Prop}
theorem op2 {h1 : Hp} (r : OpRow h a l) (le : h.le h1) {k : Nat} {o : D.Op} (e : l[k]? = some o) {K : Int → Prop} (q : K o.seq) : onO (idxV a (k : Int) 12) fun r0 => onO (rdH h1 r0.1 (r0.2 + 2) 1) fun l0 => onL [Kd.int .i64] l0 K := by
  obtain ⟨b, p, c, e1, e2, e3⟩ := r.idx (i := (k : Int)) (Int.natCast_nonneg k) (by simpa using e)
  obtain ⟨d, rfl, e4⟩ := op_cells e3
  exact onO.mk e1 (onO.mk (rdH_sub (rdH_le le e2) (o' := 2) (n' := 1) rfl) (onL.i1 q))
theorem op1 {h1 : Hp} (r : OpRow h a l) (le : h.le h1) {k : Nat} {o : D.Op} (e : l[k]? = some o) {K : Int → Prop} (q : K o.stamp.rep) : onO (idxV a (k : Int) 12) fun r0 => onO (rdH h1 r0.1 (r0.2 + 0 + 1) 1) fun l0 => onL [Kd.int .i64] l0 K := by
  obtain ⟨b, p, c, e1, e2, e3⟩ := r.idx (i := (k : Int)) (Int.natCast_nonneg k) (by simpa using e)
  obtain ⟨d, rfl, e4⟩ := op_cells e3
  exact onO.mk e1 (onO.mk (rdH_sub (rdH_le le e2) (o' := 1) (n' := 1) rfl) (onL.i1 q))
theorem op3 {h1 : Hp} (r : OpRow h a l) (le : h.le h1) {k : Nat} {o : D.Op} (e : l[k]? = some o) {K : AV → Prop} (q : ∀ d, IR h d o.deps → K d) : onO (idxV a (k : Int) 12) fun r0 => onO (rdH h1 r0.1 (r0.2 + 3) 1) fun l0 => onL [Kd.ref] l0 K := by
  obtain ⟨b, p, c, e1, e2, e3⟩ := r.idx (i := (k : Int)) (Int.natCast_nonneg k) (by simpa using e)
  obtain ⟨d, rfl, e4⟩ := op_cells e3
  exact onO.mk e1 (onO.mk (rdH_sub (rdH_le le e2) (o' := 3) (n' := 1) rfl) (onL.r1 e4.sc (q d e4)))
theorem c24 (ra : OpRow h a l) (rb : IR h b v) (hb : l.length < 1000000) (ho : ∀ o ∈ l, opOk o) (hv : v.length < 1000000) (k : Post (.b (mayL v.length l && vecV v)) h) : wpC Try.prog 24 [a, b] Post h := by
  refine call_sound (args := [.vv a, .vv b]) (cuts := [0]) ⟨ra.sc, rb.sc, trivial⟩ ?_
  rw [vc24]
  refine ⟨fun m i _ h' => h' = h ∧ ∃ k : Nat, i = k ∧ k ≤ l.length ∧ m = l.length - k ∧ mayL v.length l = mayL v.length (l.drop k), ⟨l.length, rfl, 0, rfl, by omega, rfl, rfl⟩, ?_⟩
  rintro m h0 _ _ ⟨rfl, j, rfl, hj, rfl, hp⟩
  refine Dup.mk (onO.mk ra.len (onB.dec (fun e => ?_) (fun e => ?_)))
  · have : j = l.length := by omega
    subst this
    rw [List.drop_length] at hp
    rw [hp] at k
    exact c36 rb hv (onRet.b k)
  · obtain ⟨x, hx⟩ := get_lt (l := l) (k := j) (by omega)
    rw [drop_of hx] at hp
    have bad : (mayO x && decide (x.deps.length = v.length)) = false → Post (.b false) h0 := fun e1 => by
      rw [hp] at k
      simp only [mayL, List.all_cons, e1, Bool.false_and] at k
      exact k
    refine opW ra (Hp.le_refl _) hx fun d rd _ => c37 (o := x) rd (ho x (List.mem_of_getElem? hx)) (onRet.b (onB.mk (fun e1 => ?_) (fun e1 => bad (by rw [e1]; rfl))))
    refine op3 ra (Hp.le_refl _) hx fun d rd => onO.mk rd.len (onO.mk rb.len (onB.dec (fun e2 => ?_) (fun e2 => bad (by rw [decide_eq_false (by omega), Bool.and_false]))))
    refine onO.mk (inc64 (by omega)) ⟨_, by show l.length - (j + 1) < l.length - j; omega, rfl, j + 1, rfl, by omega, rfl, ?_⟩
    rw [hp]
    simp only [mayL, List.all_cons, e1, decide_eq_true (show x.deps.length = v.length by omega), Bool.and_self, Bool.true_and]
theorem c17 {n : Int} (ra : OpRow h a l) (hb : l.length < 1000000) (ho : ∀ o ∈ l, opOk o) {m : Nat} (hn : n = m) (k : Post (.b (mayL m l)) h) : wpC Try.prog 17 [a, .i .i64 n] Post h := by
  subst hn
  refine call_sound (args := [.vv a, .ii .i64 m]) (cuts := []) ⟨ra.sc, trivial, trivial⟩ ?_
  rw [vc17]
  refine ⟨fun q _ i h' => h' = h ∧ ∃ k : Nat, i = k ∧ k ≤ l.length ∧ q = l.length - k ∧ mayL m l = mayL m (l.drop k), ⟨l.length, rfl, 0, rfl, by omega, rfl, rfl⟩, ?_⟩
  rintro q h0 _ _ ⟨rfl, j, rfl, hj, rfl, hp⟩
  refine onO.mk ra.len (onB.dec (fun e => ?_) (fun e => ?_))
  · obtain ⟨x, hx⟩ := get_lt (l := l) (k := j) (by omega)
    rw [drop_of hx] at hp
    have bad : (mayO x && decide (x.deps.length = m)) = false → Post (.b false) h0 := fun e1 => by
      rw [hp] at k
      simp only [mayL, List.all_cons, e1, Bool.false_and] at k
      exact k
    refine opW ra (Hp.le_refl _) hx fun d rd _ => c32 (o := x) rd (ho x (List.mem_of_getElem? hx)) (onRet.b (onB.not (fun e1 => bad (by rw [e1]; rfl)) (fun e1 => ?_)))
    refine op3 ra (Hp.le_refl _) hx fun d rd => onO.mk rd.len (onB.ndec (fun e2 => bad (by rw [decide_eq_false (by omega), Bool.and_false])) (fun e2 => ?_))
    refine onO.mk (inc64 (by omega)) ⟨_, by show l.length - (j + 1) < l.length - j; omega, rfl, j + 1, rfl, by omega, rfl, ?_⟩
    rw [hp]
    simp only [mayL, List.all_cons, e1, decide_eq_true (show x.deps.length = m by omega), Bool.and_self, Bool.true_and]
  · have : j = l.length := by omega
    subst this
    rw [List.drop_length] at hp
    rw [hp] at k; exact k
end
/-! ### what is lacked -/
theorem behind_take {v : List Int} {l : List D.Op} {k : Nat} {x : D.Op} (h : l[k]? = some x) : behind v (l.take (k + 1)) = if lacks v x = true ∧ (behind v (l.take k)).length < 8 then behind v (l.take k) ++ [x] else behind v (l.take k) := by
  unfold behind
  rw [take_succ' h, List.filter_append]
  by_cases h1 : lacks v x = true
  · have e : [x].filter (lacks v) = [x] := by simp [h1]
    rw [e, List.take_append, List.length_take]
    by_cases h2 : ((l.take k).filter (lacks v)).length < 8
    · rw [if_pos ⟨h1, by omega⟩]
      congr 1
      rw [List.take_of_length_le (by simp; omega)]
    · rw [if_neg (by omega), show 8 - ((l.take k).filter (lacks v)).length = 0 by omega]
      simp
  · have e : [x].filter (lacks v) = [] := by simp [h1]
    rw [e, if_neg (by simp [h1]), List.append_nil]
theorem behind_len (v : List Int) (l : List D.Op) : (behind v l).length ≤ 8 := by unfold behind; simp; omega
section
variable {h : Hp} {a b : AV} {l : List D.Op} {v : List Int} {Post : AV → Hp → Prop}
theorem c25 (ra : OpRow h a l) (rb : IR h b v) (hb : l.length < 1000000) (ho : ∀ o ∈ l, opOk o) (hr : ∀ o ∈ l, 0 ≤ o.stamp.rep ∧ o.stamp.rep < v.length) (k : ∀ r h', OpOwn h h' r (behind v l) → Post r h') : wpC Try.prog 25 [a, b] Post h := by
  refine call_sound (args := [.vv a, .vv b]) (cuts := []) ⟨ra.sc, rb.sc, trivial⟩ ?_
  rw [vc25]
  refine onO.mk ra.len ⟨fun m r i h' => ∃ k : Nat, i = k ∧ k ≤ l.length ∧ m = l.length - k ∧ OpOwn h h' r (behind v (l.take k)), ⟨l.length, 0, rfl, by omega, rfl, OwnD.nil _⟩, ?_⟩
  rintro m h0 r _ _ ⟨j, rfl, hj, rfl, ow⟩
  refine onB.dec (fun e => ?_) (fun e => ?_)
  · obtain ⟨x, hx⟩ := get_lt (l := l) (k := j) (by omega)
    have hm := List.mem_of_getElem? hx
    have hbt := behind_take (v := v) hx
    have hle := ow.kn.le
    have hlen := ow.kn.row.len
    obtain ⟨hr1, hr2⟩ := hr x hm
    obtain ⟨jr, hjr⟩ := Int.eq_ofNat_of_zero_le hr1
    obtain ⟨y, hy⟩ := get_lt (l := v) (k := jr) (by omega)
    have hlk : lacks v x = decide (y < x.seq) := by unfold lacks; rw [show x.stamp.rep.toNat = jr by omega, hy]
    refine opW ra hle hx fun d rd kx p3 => ?_
    rw [hjr]
    refine int0 (rb.mono hle) hy (onB.dec (fun e1 => onO.mk hlen (onB.dec (fun e2 => ?_) (fun e2 => ?_))) (fun e1 => ?_))
    · obtain ⟨p, css, qs, oe⟩ := ow
      rw [← hjr]
      refine (oe.fr.call (Q := fun w p' => ∃ r', w = .agg (opC x r') ∧ Kn.int.Own p p' r' x.deps) (c38 (o := x) (rd.mono oe.le) (ho x hm) fun r' h' ow' => ⟨r', rfl, ow'⟩)).mono ?_
      rintro w h1 ⟨p', fr', hlo, r', rfl, ow'⟩
      refine onRet.op ow'.sc fun _ => OpOwn.snoc oe fr' hlo kx ow' (by have := behind_len v (l.take j); omega) fun r2 h2 o2 => onO.mk rfl (onO.mk (inc64 (by omega)) ⟨_, by show l.length - (j + 1) < l.length - j; omega, j + 1, rfl, by omega, rfl, ?_⟩)
      rw [hbt, if_pos ⟨by rw [hlk]; exact decide_eq_true e1, by omega⟩]; exact o2
    · refine onO.mk (inc64 (by omega)) ⟨_, by show l.length - (j + 1) < l.length - j; omega, j + 1, rfl, by omega, rfl, ?_⟩
      rw [hbt, if_neg (by omega)]; exact ow
    · refine onO.mk (inc64 (by omega)) ⟨_, by show l.length - (j + 1) < l.length - j; omega, j + 1, rfl, by omega, rfl, ?_⟩
      rw [hbt, if_neg (by rw [hlk, decide_eq_false e1]; simp)]; exact ow
  · have : j = l.length := by omega
    subst this
    rw [List.take_length] at ow
    exact k _ _ ow
theorem behind_full {v : List Int} {l : List D.Op} {k : Nat} (h : ¬ (behind v (l.take k)).length < 8) : behind v l = behind v (l.take k) := by
  unfold behind at h ⊢
  conv => lhs; rw [← List.take_append_drop k l, List.filter_append]
  rw [List.length_take] at h
  rw [List.take_append, show 8 - ((l.take k).filter (lacks v)).length = 0 by omega, List.take_zero, List.append_nil]
theorem c18 (ra : OpRow h a l) (rb : IR h b v) (hb : l.length < 1000000) (ho : ∀ o ∈ l, opOk o) (hr : ∀ o ∈ l, 0 ≤ o.stamp.rep ∧ o.stamp.rep < v.length) (k : ∀ r h', OpOwn h h' r (behind v l) → Post r h') : wpC Try.prog 18 [a, b] Post h := by
  refine call_sound (args := [.vv a, .vv b]) (cuts := []) ⟨ra.sc, rb.sc, trivial⟩ ?_
  rw [vc18]
  refine ⟨fun m r i h' => ∃ k : Nat, i = k ∧ k ≤ l.length ∧ m = l.length - k ∧ OpOwn h h' r (behind v (l.take k)), ⟨l.length, 0, rfl, by omega, rfl, OwnD.nil _⟩, ?_⟩
  rintro m h0 r _ _ ⟨j, rfl, hj, rfl, ow⟩
  have hle := ow.kn.le
  have hlen := ow.kn.row.len
  refine onO.mk ra.len (onB.dec (fun e => onO.mk hlen (onB.dec (fun e2 => ?_) (fun e2 => ?_))) (fun e => ?_))
  · obtain ⟨x, hx⟩ := get_lt (l := l) (k := j) (by omega)
    have hm := List.mem_of_getElem? hx
    have hbt := behind_take (v := v) hx
    obtain ⟨hr1, hr2⟩ := hr x hm
    obtain ⟨jr, hjr⟩ := Int.eq_ofNat_of_zero_le hr1
    obtain ⟨y, hy⟩ := get_lt (l := v) (k := jr) (by omega)
    have hlk : lacks v x = decide (y < x.seq) := by unfold lacks; rw [show x.stamp.rep.toNat = jr by omega, hy]
    refine op2 ra hle hx (op1 ra hle hx ?_)
    rw [hjr]
    refine int0 (rb.mono hle) hy (onB.dec (fun e1 => ?_) (fun e1 => ?_))
    · refine opW ra hle hx fun d rd kx => ?_
      obtain ⟨p, css, qs, oe⟩ := ow
      refine (oe.fr.call (Q := fun w p' => ∃ r', w = .agg (opC x r') ∧ Kn.int.Own p p' r' x.deps) (c28 (o := x) (rd.mono oe.le) (ho x hm) fun r' h' ow' => ⟨r', rfl, ow'⟩)).mono ?_
      rintro w h1 ⟨p', fr', hlo, r', rfl, ow'⟩
      refine onRet.op ow'.sc fun _ => OpOwn.snoc oe fr' hlo kx ow' (by have := behind_len v (l.take j); omega) fun r2 h2 o2 => onO.mk rfl (onO.mk (inc64 (by omega)) ⟨_, by show l.length - (j + 1) < l.length - j; omega, j + 1, rfl, by omega, rfl, ?_⟩)
      rw [hbt, if_pos ⟨by rw [hlk]; exact decide_eq_true e1, by omega⟩]; exact o2
    · refine onO.mk (inc64 (by omega)) ⟨_, by show l.length - (j + 1) < l.length - j; omega, j + 1, rfl, by omega, rfl, ?_⟩
      rw [hbt, if_neg (by rw [hlk, decide_eq_false e1]; simp)]; exact ow
  · rw [← behind_full (l := l) (k := j) (by omega)] at ow
    exact k _ _ ow
  · have : j = l.length := by omega
    subst this
    rw [List.take_length] at ow
    exact k _ _ ow
theorem c7 (ra : OpRow h a l) (rb : IR h b v) (hb : l.length < 1000000) (ho : ∀ o ∈ l, opOk o) (hv : v.length < 1000000)
    (k1 : (mayL v.length l && vecV v) = false → Post (.tup [.ns, .i .i64 1]) h) (k2 : (mayL v.length l && vecV v) = true → ∀ r h', OpOwn h h' r (behind v l) → Post (.tup [r, .i .i64 0]) h') : wpC Try.prog 7 [a, b] Post h := by
  refine call_sound (args := [.vv a, .vv b]) (cuts := []) ⟨ra.sc, rb.sc, trivial⟩ ?_
  rw [vc7]
  refine c24 ra rb hb ho hv (onRet.b (onB.not k1 (fun e => ?_)))
  have hm := (Bool.and_eq_true _ _ ▸ e).1
  refine c25 ra rb hb ho (fun o hm' => ?_) fun r h' ow => onRet.r ow.kn.sc (k2 e _ _ ow)
  unfold mayL at hm
  have := List.all_eq_true.1 hm o hm'
  simp only [Bool.and_eq_true, decide_eq_true_eq] at this
  have h2 := mayO_rep this.1
  omega
end
section
variable {h : Hp} {Post : AV → Hp → Prop}
theorem c8 {a : Int} (k : Post (.i .i64 a) h) : wpC Try.prog 8 [.i .i64 a] Post h := by
  refine call_sound (args := [.ii .i64 a]) (cuts := []) ⟨trivial, trivial⟩ ?_
  rw [vc8]; exact k
theorem onTup.iii {n m p : Int} {K : Int → Int → Int → Prop} (k : K n m p) : onTup [Sh.one (Kd.int .i64), Sh.one (Kd.int .i64), Sh.one (Kd.int .i64)] (.tup [.i .i64 n, .i .i64 m, .i .i64 p]) K := k
theorem c9 (k : Post (.b true) h) : wpC Try.prog 9 [] Post h := by
  refine call_sound (args := []) (cuts := []) trivial ?_
  rw [vc9]
  have w : wpC Try.prog 26 [.i .i64 1, .i .i64 1, .i .i64 2] (fun v h' => v = .tup [.i .i64 0, .i .i64 1, .i .i64 0] ∧ h' = h) h := by
    refine call_sound (args := [.ii .i64 1, .ii .i64 1, .ii .i64 2]) (cuts := []) ⟨trivial, trivial, trivial, trivial⟩ ?_
    rw [vc26]
    refine onB.neg rfl (onB.neg rfl (onB.neg rfl (onB.neg rfl (onB.neg rfl (onB.neg rfl (onB.neg rfl (onB.pos rfl ?_)))))))
    exact onO.mk (a := 2) rfl (onO.mk (a := 0) rfl (onO.mk (a := 1) rfl (onO.mk (a := 1) rfl ⟨rfl, rfl⟩)))
  refine w.mono ?_
  rintro _ _ ⟨rfl, rfl⟩
  exact onTup.iii (c8 (onRet.i (onB.pos rfl (onB.pos rfl k))))
end
open Classical in
/-- what is seen of some blocks -/
noncomputable def Hp.res (h : Hp) (S : Nat → Prop) : Hp := ⟨fun k => if S k then h.g k else Option.none, h.lo⟩
open Classical in
theorem Hp.res_le (h : Hp) (S : Nat → Prop) : (h.res S).le h := fun k c e => by
  have e : (if S k then h.g k else Option.none) = some c := e
  by_cases hs : S k
  · rw [if_pos hs] at e; exact e
  · rw [if_neg hs] at e; cases e
theorem Hp.res_in {h : Hp} {S : Nat → Prop} {k : Nat} (hs : S k) : (h.res S).g k = h.g k := if_pos hs
theorem Hp.res_out {h : Hp} {S : Nat → Prop} {k : Nat} (hs : ¬ S k) : (h.res S).g k = Option.none := if_neg hs
theorem Hp.res_has {h : Hp} {S : Nat → Prop} {k : Nat} {c : List AV} (e : (h.res S).g k = some c) : S k := by
  by_cases hs : S k
  · exact hs
  · rw [Hp.res_out hs] at e; cases e
/-- all of a row of one's own, apart from the rest -/
theorem OwnD.part {α : Type} {E : Hp → α → List AV → Prop} {sz : Nat} {g h : Hp} {a : AV} {l : List α} (o : OwnD E sz g h a l) : ∃ q, q.le h ∧ Disj q g ∧ q.lo = g.lo ∧ OwnD E sz (Hp.none g.lo) q a l := by
  obtain ⟨p, css, qs, o⟩ := o
  have hin : ∀ i k, (qs i).g k ≠ none → h.g k = (qs i).g k := fun i k e => by
    cases hq : (qs i).g k with
    | none => exact absurd hq e
    | some c => exact o.fr.le k c (o.sub i k c hq)
  have hlo : h.lo = g.lo := o.fr.lo.trans o.lo
  refine ⟨h.res fun k => (∃ b of len lo ex z, a = .sl b of len lo ex z ∧ k = b) ∨ ∃ i, (qs i).g k ≠ none, Hp.res_le _ _, fun k c e => ?_, hlo, h.res fun k => ∃ i, (qs i).g k ≠ none, css, qs, none_le _ _, hlo, ?_, o.len, fun i k c e => ?_, fun i k c e => rfl, o.dd, o.qlo, o.own, o.el⟩
  · rcases Hp.res_has e with ⟨b, of, len, lo, ex, z, ea, rfl⟩ | ⟨i, hi⟩
    · exact le_none o.le (o.fr.new _ _ _ _ _ _ ea).1
    · cases hq : (qs i).g k with
      | none => exact absurd hq hi
      | some c' => exact o.dj i k c' hq
  · refine ⟨fun k c e => ?_, rfl, ⟨o.fr.row.1, ?_⟩, fun b of len lo ex z ea => ?_⟩
    · have hk := Hp.res_has e
      rw [Hp.res_in hk] at e
      rw [Hp.res_in (.inr hk)]; exact e
    · have r := o.fr.row.2
      cases a <;> first | exact r | skip
      obtain ⟨r1, r2, r3, r4⟩ := r
      refine ⟨r1, r2, r3, r4.imp id fun e => ?_⟩
      unfold rdH at e ⊢
      rw [Hp.res_in (.inl ⟨_, _, _, _, _, _, rfl, rfl⟩)]; exact e
    · obtain ⟨n1, n2, cs, n3, n4⟩ := o.fr.new _ _ _ _ _ _ ea
      refine ⟨?_, by show h.lo ≤ b; rw [o.fr.lo]; exact n2, cs, ?_, n4⟩
      · apply Hp.res_out
        rintro ⟨i, hi⟩
        cases hq : (qs i).g b with
        | none => exact hi hq
        | some c' => rw [o.sub i b c' hq] at n1; cases n1
      · rw [Hp.res_in (.inl ⟨_, _, _, _, _, _, ea, rfl⟩)]; exact n3
  · have hi : (qs i).g k ≠ none := by rw [e]; simp
    rw [Hp.res_in ⟨i, hi⟩, hin i k hi]; exact e
section
variable {g h : Hp} {a b : AV} {Post : AV → Hp → Prop}
theorem onTup.z {K : Prop} (k : K) : onTup [] (.tup []) K := k
theorem c35 {css : List (List AV)} (f : Fresh g h a 1 css) (hb : css.length < 900000) (k : ∀ h', g.le h' → h'.lo = g.lo → Post (.tup []) h') : wpC Try.prog 35 [a] Post h := by
  refine call_sound (args := [.vv a]) (cuts := []) ⟨f.row.sc, trivial⟩ ?_
  rw [vc35]
  refine ⟨fun m i h' => ∃ (k : Nat) (css' : List (List AV)), i = k ∧ k ≤ css.length ∧ m = css.length - k ∧ css'.length = css.length ∧ Fresh g h' a 1 css', ⟨_, 0, css, rfl, by omega, rfl, rfl, f⟩, ?_⟩
  rintro m h0 _ ⟨j, css', rfl, hj, rfl, hl, f'⟩
  refine onO.mk f'.row.len (onB.dec (fun e => ?_) (fun e => ?_))
  · obtain ⟨c, hc⟩ := get_lt (l := css') (k := j) (by omega)
    exact f'.set hc 0 (new := [.i .i64 (-99)]) (by simp) rfl fun h2 f2 => onO.mk (inc64 (by omega)) ⟨_, by show css.length - (j + 1) < css.length - j; omega, j + 1, _, rfl, by omega, rfl, by rw [List.length_set, hl], f2⟩
  · exact fun _ => f'.app (n := 1) (css2 := [[.i .i64 5]]) (src := .lit [.i .i64 5]) (by simp [srcH]) (fun c hc => by simp at hc; subst hc; rfl) rfl rfl (by omega) fun r h2 f2 => onO.mk rfl (k _ f2.le f2.lo)
theorem c34 {o : D.Op} {d : AV} {css : List (List AV)} (f : Fresh g h d 1 css) (hb : css.length < 900000) (k : ∀ h', g.le h' → h'.lo = g.lo → Post (.tup []) h') : wpC Try.prog 34 [.agg (opC o d)] Post h := by
  refine call_sound (args := [opS o d]) (cuts := []) ⟨opS_good f.row.sc, trivial⟩ ?_
  unfold opS
  rw [vc34]
  exact fun _ => c35 f hb fun h' e1 e2 => onTup.z (k _ e1 e2)
theorem c22 {l : List D.Op} (o : OpOwn g h a l) (hb : l.length < 900000) (hd : ∀ x ∈ l, x.deps.length < 900000) (k : ∀ h', g.le h' → h'.lo = g.lo → Post (.tup []) h') : wpC Try.prog 22 [a] Post h := by
  obtain ⟨p, css, qs, o⟩ := o
  refine call_sound (args := [.vv a]) (cuts := []) ⟨o.fr.row.sc, trivial⟩ ?_
  rw [vc22]
  refine ⟨fun m i h' => ∃ (k : Nat) (p' : Hp) (css' : List (List AV)), i = k ∧ k ≤ l.length ∧ m = l.length - k ∧ css'.length = l.length ∧ Fresh p' h' a 12 css' ∧ g.le p' ∧ p'.lo = g.lo ∧ (∀ j, k ≤ j → (qs j).le p') ∧ ∀ j, k ≤ j → css'[j]? = css[j]?, ⟨_, 0, p, css, rfl, by omega, rfl, o.len, o.fr, o.le, o.lo, fun j _ => o.sub j, fun j _ => rfl⟩, ?_⟩
  rintro m h0 _ ⟨j, p', css', rfl, hj, rfl, hl, f, le, lo, hq, hc⟩
  refine onO.mk f.row.len (onB.dec (fun e => ?_) (fun e => k _ (Hp.le_trans le f.le) (f.lo.trans lo)))
  obtain ⟨x, hx⟩ := get_lt (l := l) (k := j) (by omega)
  obtain ⟨c, hcj⟩ := get_lt (l := css') (k := j) (by omega)
  have hcj0 : css[j]? = some c := by rw [← hc j (Nat.le_refl _)]; exact hcj
  obtain ⟨kx, d, rfl, fd⟩ := o.el j x c hx hcj0
  have hdl := hd x (List.mem_of_getElem? hx)
  have hdsc : d.sc = true := fd.row.sc
  obtain ⟨bb, oo, e1, e2, e3⟩ := f.row.idx (i := (j : Int)) (Int.natCast_nonneg j) (by simpa using hcj)
  refine onO.mk e1 (onO.mk e2 (onL.op hdsc ?_))
  have w : wpC Try.prog 34 [.agg (opC x d)] (fun v _ => v = .tup []) (qs j) := c34 fd (by simpa [intC] using hdl) fun _ _ _ => rfl
  have w2 := wpC.part (hq j (Nat.le_refl _)) ((o.qlo j).trans lo.symm) w
  refine (f.call w2).mono ?_
  rintro v h1 ⟨p2, f2, _, q', _, le2, lo2, rfl⟩
  refine onTup.z (f2.set hcj 0 (by simp) rfl fun h2 f3 => onO.mk (inc64 (by omega)) ⟨_, by show l.length - (j + 1) < l.length - j; omega, j + 1, p2, _, rfl, by omega, rfl, by rw [List.length_set, hl], f3, Hp.le_trans (le_rest le (o.dj j)) le2, lo2.trans lo, fun i hi => ?_, fun i hi => ?_⟩)
  · exact Hp.le_trans (le_rest (hq i (by omega)) (o.dd j i (by omega))) le2
  · rw [List.getElem?_set_ne (by omega)]; exact hc i (by omega)
/-- a frame's answer written over: a vector alone -/
theorem c43v {x y z : Int} {css : List (List AV)} (f : Fresh g h a 1 css) (hb : css.length < 900000) (k : ∀ h', g.le h' → h'.lo = g.lo → Post (.tup []) h') : wpC Try.prog 23 [.agg [.i .i64 x, .i .i64 y, .i .i64 z, a, .ns]] Post h := by
  refine call_sound (args := [.ag [.ii .i64 x, .ii .i64 y, .ii .i64 z, .vv a, .vv .ns]]) (cuts := []) ⟨⟨trivial, trivial, trivial, f.row.sc, rfl, trivial⟩, trivial⟩ ?_
  rw [vc23]
  exact fun _ => c35 f hb fun h' e1 e2 => onTup.z (c22 (g := h') (OwnD.nil h') (by simp) (fun x hx => by cases hx) fun h2 e3 e4 => onTup.z (k _ (Hp.le_trans e1 e3) (e4.trans e2)))
theorem c43o {x y z : Int} {l : List D.Op} (o : OpOwn g h a l) (hb : l.length < 900000) (hd : ∀ x ∈ l, x.deps.length < 900000) (k : ∀ h', g.le h' → h'.lo = g.lo → Post (.tup []) h') : wpC Try.prog 23 [.agg [.i .i64 x, .i .i64 y, .i .i64 z, .ns, a]] Post h := by
  refine call_sound (args := [.ag [.ii .i64 x, .ii .i64 y, .ii .i64 z, .vv .ns, .vv a]]) (cuts := []) ⟨⟨trivial, trivial, trivial, rfl, o.kn.sc, trivial⟩, trivial⟩ ?_
  rw [vc23]
  intro _
  have w : wpC Try.prog 35 [.ns] (fun v _ => v = .tup []) (Hp.none h.lo) := c35 (Fresh.nil (Hp.none h.lo) 1) (by simp) fun _ _ _ => rfl
  refine (wpC.part (h := h) (none_le _ _) rfl w).mono ?_
  rintro v h1 ⟨q', _, le, lo, rfl⟩
  obtain ⟨q, q1, q2, q3, q4⟩ := o.part
  have lh : h.le h1 := Hp.le_trans (le_rest (Hp.le_refl h) fun k c e => by cases e) le
  have hq : q.lo = h1.lo := by rw [lo, q3]; exact o.kn.lo.symm
  have w3 : wpC Try.prog 22 [a] (fun v _ => v = .tup []) q := c22 q4 hb hd fun _ _ _ => rfl
  refine onTup.z ((wpC.part (Hp.le_trans q1 lh) hq w3).mono ?_)
  rintro v h2 ⟨q', _, le2, lo2, rfl⟩
  exact onTup.z (k _ (Hp.le_trans (le_rest (Hp.le_trans o.kn.le lh) q2) le2) (lo2.trans (lo.trans o.kn.lo)))
end
/-! ### frames -/
def frmV (x y z : Int) (v : List Int) (l : List D.Op) : Bool := (decide (0 ≤ x) && (decide (x < 16) && (decide (0 ≤ y) && (decide (y < 16) && !decide (x = y))))) &&
  (if z = 1 then vecV v && decide (l.length = 0) else if z = 2 then decide (v.length = 0) && (l.all mayO && (decide (1 ≤ l.length) && decide (l.length ≤ 8))) else false)
section
variable {h : Hp} {a b : AV} {l : List D.Op} {v : List Int} {Post : AV → Hp → Prop}
theorem c40 (ra : OpRow h a l) (hb : l.length < 1000000) (ho : ∀ o ∈ l, opOk o) (k : Post (.b (l.all mayO && (decide (1 ≤ l.length) && decide (l.length ≤ 8)))) h) : wpC Try.prog 40 [a] Post h := by
  refine call_sound (args := [.vv a]) (cuts := [0]) ⟨ra.sc, trivial⟩ ?_
  rw [vc40]
  refine ⟨fun m i _ h' => h' = h ∧ ∃ k : Nat, i = k ∧ k ≤ l.length ∧ m = l.length - k ∧ l.all mayO = (l.drop k).all mayO, ⟨l.length, rfl, 0, rfl, by omega, rfl, rfl⟩, ?_⟩
  rintro m h0 _ _ ⟨rfl, j, rfl, hj, rfl, hp⟩
  refine Dup.mk (onO.mk ra.len (onB.dec (fun e => ?_) (fun e => ?_)))
  · have : j = l.length := by omega
    subst this
    rw [List.drop_length] at hp
    rw [hp, List.all_nil, Bool.true_and] at k
    refine onB.dec (fun e1 => ?_) (fun e1 => ?_)
    · rw [decide_eq_true (show 1 ≤ l.length by omega), Bool.true_and] at k
      have e2 : decide ((l.length : Int) ≤ 8) = decide (l.length ≤ 8) := by rw [decide_eq_decide]; omega
      rw [e2]; exact k
    · rw [decide_eq_false (show ¬ 1 ≤ l.length by omega), Bool.false_and] at k; exact k
  · obtain ⟨x, hx⟩ := get_lt (l := l) (k := j) (by omega)
    rw [drop_of hx, List.all_cons] at hp
    refine opW ra (Hp.le_refl _) hx fun d rd _ => c37 (o := x) rd (ho x (List.mem_of_getElem? hx)) (onRet.b (onB.mk (fun e1 => ?_) (fun e1 => ?_)))
    · rw [e1, Bool.true_and] at hp
      exact onO.mk (inc64 (by omega)) ⟨_, by show l.length - (j + 1) < l.length - j; omega, rfl, j + 1, rfl, by omega, rfl, hp⟩
    · rw [e1, Bool.false_and] at hp
      rw [hp, Bool.false_and] at k; exact k
theorem c30 {x y z : Int} (ra : IR h a v) (rb : OpRow h b l) (hv : v.length < 1000000) (hb : l.length < 1000000) (ho : ∀ o ∈ l, opOk o) (k : Post (.b (frmV x y z v l)) h) : wpC Try.prog 30 [.agg [.i .i64 x, .i .i64 y, .i .i64 z, a, b]] Post h := by
  refine call_sound (args := [.ag [.ii .i64 x, .ii .i64 y, .ii .i64 z, .vv a, .vv b]]) (cuts := []) ⟨⟨trivial, trivial, trivial, ra.sc, rb.sc, trivial⟩, trivial⟩ ?_
  rw [vc30]
  intro _
  have bad : (decide (0 ≤ x) && (decide (x < 16) && (decide (0 ≤ y) && (decide (y < 16) && !decide (x = y))))) = false → Post (.b false) h := fun e => by
    unfold frmV at k
    rw [e, Bool.false_and] at k; exact k
  refine onB.dec (fun e => bad (by simp; omega)) (fun e1 => onB.dec (fun e => bad (by simp; omega)) (fun e2 => onB.dec (fun e => bad (by simp; omega)) (fun e3 => onB.dec (fun e => bad (by simp; omega)) (fun e4 => onB.dec (fun e => bad (by simp; omega)) (fun e5 => ?_)))))
  have good : (decide (0 ≤ x) && (decide (x < 16) && (decide (0 ≤ y) && (decide (y < 16) && !decide (x = y))))) = true := by simp; omega
  unfold frmV at k
  rw [good, Bool.true_and] at k
  refine onB.dec (fun e => ?_) (fun e => onB.dec (fun e' => ?_) (fun e' => ?_))
  · rw [if_pos e] at k
    refine c36 ra hv (onRet.b (onB.mk (fun e6 => onO.mk rb.len ?_) (fun e6 => ?_)))
    · rw [e6, Bool.true_and] at k
      have : decide ((l.length : Int) = 0) = decide (l.length = 0) := by rw [decide_eq_decide]; omega
      rw [this]; exact k
    · rw [e6, Bool.false_and] at k; exact k
  · rw [if_neg e, if_pos e'] at k
    refine onO.mk ra.len (onB.dec (fun e6 => c40 rb hb ho (onRet.b ?_)) (fun e6 => ?_))
    · rw [decide_eq_true (show v.length = 0 by omega), Bool.true_and] at k; exact k
    · rw [decide_eq_false (show ¬ v.length = 0 by omega), Bool.false_and] at k; exact k
  · rw [if_neg e, if_neg e'] at k; exact k
theorem c14 {x y z : Int} (ra : IR h a v) (rb : OpRow h b l) (hv : v.length < 1000000) (hb : l.length < 1000000) (ho : ∀ o ∈ l, opOk o) (k : Post (.b (frmV x y z v l)) h) : wpC Try.prog 14 [.agg [.i .i64 x, .i .i64 y, .i .i64 z, a, b]] Post h := by
  refine call_sound (args := [.ag [.ii .i64 x, .ii .i64 y, .ii .i64 z, .vv a, .vv b]]) (cuts := []) ⟨⟨trivial, trivial, trivial, ra.sc, rb.sc, trivial⟩, trivial⟩ ?_
  rw [vc14]
  intro _
  have bad : (decide (0 ≤ x) && (decide (x < 16) && (decide (0 ≤ y) && (decide (y < 16) && !decide (x = y))))) = false → Post (.b false) h := fun e => by
    unfold frmV at k
    rw [e, Bool.false_and] at k; exact k
  refine c31 (onRet.b (onB.not (fun e1 => bad ?_) (fun e1 => c31 (onRet.b (onB.not (fun e2 => bad ?_) (fun e2 => onB.dec (fun e3 => bad ?_) (fun e3 => ?_)))))))
  · simp only [Bool.and_eq_false_iff, decide_eq_false_iff_not] at e1 ⊢; omega
  · simp only [Bool.and_eq_false_iff, decide_eq_false_iff_not] at e2 ⊢; omega
  · simp [e3]
  simp only [Bool.and_eq_true, decide_eq_true_eq] at e1 e2
  have good : (decide (0 ≤ x) && (decide (x < 16) && (decide (0 ≤ y) && (decide (y < 16) && !decide (x = y))))) = true := by simp; omega
  unfold frmV at k
  rw [good, Bool.true_and] at k
  refine onB.dec (fun e => ?_) (fun e => onB.dec (fun e' => ?_) (fun e' => ?_))
  · rw [if_pos e] at k
    refine c16 ra hv (onRet.b (onB.mk (fun e6 => onO.mk rb.len ?_) (fun e6 => ?_)))
    · rw [e6, Bool.true_and] at k
      have : decide ((l.length : Int) = 0) = decide (l.length = 0) := by rw [decide_eq_decide]; omega
      rw [this]; exact k
    · rw [e6, Bool.false_and] at k; exact k
  · rw [if_neg e, if_pos e'] at k
    refine ⟨fun m _ i h' => h' = h ∧ ∃ k : Nat, i = k ∧ k ≤ l.length ∧ m = l.length - k ∧ l.all mayO = (l.drop k).all mayO, ⟨l.length, rfl, 0, rfl, by omega, rfl, rfl⟩, ?_⟩
    rintro m h0 _ _ ⟨rfl, j, rfl, hj, rfl, hp⟩
    refine onO.mk rb.len (onB.dec (fun e7 => ?_) (fun e7 => ?_))
    · obtain ⟨w, hw⟩ := get_lt (l := l) (k := j) (by omega)
      rw [drop_of hw, List.all_cons] at hp
      refine opW rb (Hp.le_refl _) hw fun d rd _ => c32 (o := w) rd (ho w (List.mem_of_getElem? hw)) (onRet.b (onB.not (fun e8 => ?_) (fun e8 => ?_)))
      · rw [e8, Bool.false_and] at hp
        rw [hp, Bool.false_and, Bool.and_false] at k; exact k
      · rw [e8, Bool.true_and] at hp
        exact onO.mk (inc64 (by omega)) ⟨_, by show l.length - (j + 1) < l.length - j; omega, rfl, j + 1, rfl, by omega, rfl, hp⟩
    · have : j = l.length := by omega
      subst this
      rw [List.drop_length] at hp
      rw [hp, List.all_nil, Bool.true_and] at k
      refine onO.mk ra.len (onB.dec (fun e8 => onO.mk rb.len (onB.dec (fun e9 => onO.mk rb.len ?_) (fun e9 => ?_))) (fun e8 => ?_))
      · rw [decide_eq_true (show v.length = 0 by omega), decide_eq_true (show 1 ≤ l.length by omega), Bool.true_and, Bool.true_and] at k
        have : decide ((l.length : Int) ≤ 8) = decide (l.length ≤ 8) := by rw [decide_eq_decide]; omega
        rw [this]; exact k
      · rw [decide_eq_false (show ¬ 1 ≤ l.length by omega), Bool.false_and, Bool.and_false] at k; exact k
      · rw [decide_eq_false (show ¬ v.length = 0 by omega), Bool.false_and] at k; exact k
  · rw [if_neg e, if_neg e'] at k; exact k
theorem c15 {x y z x' y' z' : Int} {a' b' : AV} {l' : List D.Op} {v' : List Int} (ra : IR h a v) (rb : OpRow h b l) (ra' : IR h a' v') (rb' : OpRow h b' l') (hv : v.length < 1000000) (hb : l.length < 1000000) (ho : ∀ o ∈ l, opOk o)
    (k : Post (.b (decide (x = x') && (decide (y = y') && (decide (z = z') && (decide (v = v') && decide (l = l')))))) h) : wpC Try.prog 15 [.agg [.i .i64 x, .i .i64 y, .i .i64 z, a, b], .agg [.i .i64 x', .i .i64 y', .i .i64 z', a', b']] Post h := by
  refine call_sound (args := [.ag [.ii .i64 x, .ii .i64 y, .ii .i64 z, .vv a, .vv b], .ag [.ii .i64 x', .ii .i64 y', .ii .i64 z', .vv a', .vv b']]) (cuts := []) ⟨⟨trivial, trivial, trivial, ra.sc, rb.sc, trivial⟩, ⟨trivial, trivial, trivial, ra'.sc, rb'.sc, trivial⟩, trivial⟩ ?_
  rw [vc15]
  intro _ _
  refine onB.mk (fun e => onB.mk (fun e1 => onB.mk (fun e2 => c21 ra ra' hv (onRet.b (onB.mk (fun e3 => c19 rb rb' hb ho (onRet.b ?_)) (fun e3 => ?_)))) (fun e2 => ?_)) (fun e1 => ?_)) (fun e => ?_)
  · rw [e, e1, e2, e3, Bool.true_and, Bool.true_and, Bool.true_and, Bool.true_and] at k; exact k
  · rw [e, e1, e2, e3] at k; exact k
  · rw [e, e1, e2] at k; exact k
  · rw [e, e1] at k; exact k
  · rw [e] at k; exact k
theorem onTup.frm {x y z e : Int} {a b : AV} (ha : a.sc = true) (hb : b.sc = true) {K : Int → Int → Int → AV → AV → Int → Prop} (k : K x y z a b e) :
    onTup [Sh.agg [Kd.int .i64, Kd.int .i64, Kd.int .i64, Kd.ref, Kd.ref], Sh.one (Kd.int .i64)] (.tup [.agg [.i .i64 x, .i .i64 y, .i .i64 z, a, b], .i .i64 e]) K := by
  show onS [Sh.agg [Kd.int .i64, Kd.int .i64, Kd.int .i64, Kd.ref, Kd.ref], Sh.one (Kd.int .i64)] [.agg [.i .i64 x, .i .i64 y, .i .i64 z, a, b], .i .i64 e] K
  unfold onS
  have : flatV [Sh.agg [Kd.int .i64, Kd.int .i64, Kd.int .i64, Kd.ref, Kd.ref], Sh.one (Kd.int .i64)] [.agg [.i .i64 x, .i .i64 y, .i .i64 z, a, b], .i .i64 e] = some [.i .i64 x, .i .i64 y, .i .i64 z, a, b, .i .i64 e] := rfl
  rw [this]
  exact onRef.mk (K := fun a => onL [Kd.ref, Kd.int .i64] [b, .i .i64 e] (K x y z a)) ha (onRef.mk (K := fun b => onL [Kd.int .i64] [.i .i64 e] (K x y z a b)) hb k)
theorem nsI : IR h .ns [] := ⟨[], ⟨fun _ h => (by cases h), rfl⟩, .nil⟩
theorem nsO : OpRow h .ns [] := ⟨[], ⟨fun _ h => (by cases h), rfl⟩, .nil⟩
abbrev frmA (x y z : Int) (a b : AV) : AV := .agg [.i .i64 x, .i .i64 y, .i .i64 z, a, b]
theorem c13 {x y : Int} (ra : IR h a v) (hv : v.length < 1000000) (k1 : frmV x y 1 v [] = false → ∀ h', h.le h' → h'.lo = h.lo → Post (.tup [frmA 0 0 0 .ns .ns, .i .i64 1]) h') (k2 : frmV x y 1 v [] = true → ∀ r h', Kn.int.Own h h' r v → Post (.tup [frmA x y 1 r .ns, .i .i64 0]) h') :
    wpC Try.prog 13 [.i .i64 x, .i .i64 y, a] Post h := by
  refine call_sound (args := [.ii .i64 x, .ii .i64 y, .vv a]) (cuts := []) ⟨trivial, trivial, ra.sc, trivial⟩ ?_
  rw [vc13]
  intro _
  refine c29 ra hv fun r h' ow => onRet.r ow.sc fun _ => c30 ow.row nsO hv (by simp) (fun o ho => by cases ho) (onRet.b (onB.not (fun e => k1 e _ ow.le ow.lo) (fun e => k2 e _ _ ow)))
theorem behind_mem {v : List Int} {l : List D.Op} {o : D.Op} (h : o ∈ behind v l) : o ∈ l := (List.mem_filter.1 (List.mem_of_mem_take h)).1
theorem c20 {x y : Int} (ra : OpRow h a l) (rb : IR h b v) (hb : l.length < 1000000) (ho : ∀ o ∈ l, opOk o) (hv : v.length < 1000000)
    (k1 : (mayL v.length l && vecV v) = false → Post (.tup [frmA 0 0 0 .ns .ns, .i .i64 1]) h)
    (k2 : (mayL v.length l && vecV v) = true → behind v l = [] → ∀ h', h.le h' → h'.lo = h.lo → Post (.tup [frmA 0 0 0 .ns .ns, .i .i64 3]) h')
    (k3 : (mayL v.length l && vecV v) = true → behind v l ≠ [] → frmV x y 2 [] (behind v l) = false → ∀ h', h.le h' → h'.lo = h.lo → Post (.tup [frmA 0 0 0 .ns .ns, .i .i64 1]) h')
    (k4 : (mayL v.length l && vecV v) = true → behind v l ≠ [] → frmV x y 2 [] (behind v l) = true → ∀ r h', OpOwn h h' r (behind v l) → Post (.tup [frmA x y 2 .ns r, .i .i64 0]) h') : wpC Try.prog 20 [.i .i64 x, .i .i64 y, a, b] Post h := by
  refine call_sound (args := [.ii .i64 x, .ii .i64 y, .vv a, .vv b]) (cuts := []) ⟨trivial, trivial, ra.sc, rb.sc, trivial⟩ ?_
  rw [vc20]
  intro _
  refine c24 ra rb hb ho hv (onRet.b (onB.not k1 (fun e => ?_)))
  have hm := (Bool.and_eq_true _ _ ▸ e).1
  refine c25 ra rb hb ho (fun o hm' => ?_) fun r h' ow => onRet.r ow.kn.sc fun _ => onO.mk ow.kn.row.len (onB.dec (fun e1 => k2 e (List.length_eq_zero_iff.1 (by omega)) _ ow.kn.le ow.kn.lo) (fun e1 => ?_))
  · unfold mayL at hm
    have := List.all_eq_true.1 hm o hm'
    simp only [Bool.and_eq_true, decide_eq_true_eq] at this
    have h2 := mayO_rep this.1
    omega
  · have hne : behind v l ≠ [] := fun e2 => e1 (by rw [e2]; rfl)
    have hl := behind_len v l
    exact c30 nsI ow.kn.row (by simp) (by omega) (fun o hm' => ho o (behind_mem hm')) (onRet.b (onB.not (fun e2 => k3 e hne e2 _ ow.kn.le ow.kn.lo) (fun e2 => k4 e hne e2 _ _ ow)))
end
section
variable {h : Hp} {a b : AV} {l : List D.Op} {v : List Int} {Post : AV → Hp → Prop}
def opFits (o : D.Op) : Prop := o.deps.length ≤ 140737488351232 ∧ o.key.length ≤ 140737488351232
theorem op_fits {o : D.Op} {c : List AV} (k : D.kOp.K h o c) : opFits o := by
  obtain ⟨d, e, f1, f2, f3, ⟨f4, f4'⟩, f5, f6, f7, f8, f9, f10, f11⟩ := D.kOp_open k
  exact ⟨by omega, f10.1⟩
theorem c39 {o : D.Op} {d : AV} (rd : IR h d o.deps) (hf : opFits o) (k : Post (.i .i64 ((1 + o.deps.length + o.key.length : Nat) : Int)) h) : wpC Try.prog 39 [.agg (opC o d)] Post h := by
  refine call_sound (args := [opS o d]) (cuts := []) ⟨opS_good rd.sc, trivial⟩ ?_
  unfold opS
  rw [vc39]
  obtain ⟨h1, h2⟩ := hf
  intro _
  refine onO.mk rd.len (onO.mk (add64 (by omega) (by omega)) (onO.mk (add64 (by omega) (by omega)) ?_))
  have e : (1 : Int) + o.deps.length + o.key.length = ((1 + o.deps.length + o.key.length : Nat) : Int) := by omega
  rw [e]; exact k
theorem c27 (ra : OpRow h a l) (hl : l.length ≤ 140737488351232) (k : ∀ n : Int, (n ≤ 5000 → l.length ≤ 5000 ∧ ∀ o ∈ l, o.deps.length ≤ 5000 ∧ o.key.length ≤ 5000) → Post (.i .i64 n) h) : wpC Try.prog 27 [a] Post h := by
  refine call_sound (args := [.vv a]) (cuts := []) ⟨ra.sc, trivial⟩ ?_
  rw [vc27]
  refine onO.mk ra.len ⟨fun m n i h' => h' = h ∧ ∃ N k : Nat, n = N ∧ i = k ∧ k ≤ l.length ∧ m = l.length - k ∧ l.length ≤ N ∧ N ≤ 281474976710656 + 1048576 + 1 ∧ ∀ o ∈ l.take k, o.deps.length ≤ N ∧ o.key.length ≤ N, ⟨_, rfl, l.length, 0, rfl, rfl, by omega, rfl, by omega, by omega, fun o ho => by simp at ho⟩, ?_⟩
  rintro m h0 _ _ ⟨rfl, N, j, rfl, rfl, hj, rfl, hN, hN2, hall⟩
  refine onO.mk ra.len (onB.dec (fun e => onB.dec (fun e2 => ?_) (fun e2 => k _ fun e3 => by omega)) (fun e => k _ fun e3 => ⟨by omega, fun o ho => ?_⟩))
  · obtain ⟨x, hx⟩ := get_lt (l := l) (k := j) (by omega)
    refine opW ra (Hp.le_refl _) hx fun d rd kx => ?_
    have hf := op_fits kx
    obtain ⟨f1, f2⟩ := hf
    refine c39 (o := x) rd ⟨f1, f2⟩ (onRet.i (onO.mk (add64 (by omega) (by omega)) (onO.mk (inc64 (by omega)) ⟨_, by show l.length - (j + 1) < l.length - j; omega, rfl, N + (1 + x.deps.length + x.key.length), j + 1, by omega, rfl, by omega, rfl, by omega, by omega, fun o ho => ?_⟩)))
    rw [take_succ' hx] at ho
    rcases List.mem_append.1 ho with ho | ho
    · have := hall o ho; omega
    · simp at ho; subst ho; omega
  · have : j = l.length := by omega
    subst this
    rw [List.take_length] at hall
    have := hall o ho; omega
theorem c10 {x y z w : Int} (ra : OpRow h a l) (rb : IR h b v) (hl : l.length ≤ 140737488351232) (k1 : Post (.b true) h) (k2 : (l.length ≤ 5000 ∧ ∀ o ∈ l, o.deps.length ≤ 5000 ∧ o.key.length ≤ 5000) → v.length ≤ 1000 → Post (.b false) h) : wpC Try.prog 10 [.agg [a, b, .i .i64 x, .i .i64 y, .i .i64 z, .i .i64 w]] Post h := by
  refine call_sound (args := [.ag [.vv a, .vv b, .ii .i64 x, .ii .i64 y, .ii .i64 z, .ii .i64 w]]) (cuts := []) ⟨⟨ra.sc, rb.sc, trivial, trivial, trivial, trivial, trivial⟩, trivial⟩ ?_
  rw [vc10]
  refine fun _ => c27 ra hl fun n hn => onRet.i (onB.dec (fun _ => k1) (fun e => onO.mk rb.len ?_))
  by_cases e2 : (1000 : Int) < v.length
  · rw [decide_eq_true e2]; exact k1
  · rw [decide_eq_false e2]; exact k2 (hn (by omega)) (by omega)
theorem sync_open {x : D.SyncA} {c : List AV} (k : D.kSyncA.K h x c) : ∃ a0 a1, c = [a0, a1, .i .i64 x.rep, .i .i64 x.dst, .i .i64 x.reps, .i .i64 x.next] ∧ OpRow h a0 x.l ∧ x.l.length ≤ 140737488351232 ∧ IR h a1 x.v := by
  obtain ⟨a0, a1, e, ⟨ra, h1⟩, ⟨rb, _⟩, _⟩ := D.kSyncA_open k
  exact ⟨a0, a1, e, ra, by omega, rb⟩
/-- an answer that may be written over, apart from what is seen -/
def Spo (f : Nat) (g h : Hp) (A : AV) : Prop := ∃ q, q.le h ∧ Disj q g ∧ q.lo = h.lo ∧ wpC Try.prog f [A] (fun v _ => v = .tup []) q
theorem Spo.use {f : Nat} {g h H : Hp} {A : AV} {Post : AV → Hp → Prop} (o : Spo f g h A) (le : h.le H) (lo : H.lo = h.lo) (k : ∀ q H', Disj q g → q.le h → (restH H q).le H' → H'.lo = H.lo → Post (.tup []) H') : wpC Try.prog f [A] Post H := by
  obtain ⟨q, q1, q2, q3, w⟩ := o
  refine (wpC.part (Hp.le_trans q1 le) (q3.trans lo.symm) w).mono ?_
  rintro v H' ⟨q', _, l2, lo2, rfl⟩
  exact k q H' q2 q1 l2 lo2
theorem spo69 {g h : Hp} {a : AV} {l : List D.Op} (o : OpOwn g h a l) (hb : l.length < 900000) (hd : ∀ x ∈ l, x.deps.length < 900000) : Spo 22 g h a := by
  obtain ⟨q, q1, q2, q3, q4⟩ := o.part
  exact ⟨q, q1, q2, by rw [q3]; exact o.kn.lo.symm, c22 q4 hb hd fun _ _ _ => rfl⟩
theorem spo69n {g h : Hp} : Spo 22 g h .ns := ⟨Hp.none h.lo, none_le _ _, fun k c e => (by cases e), rfl, c22 (g := Hp.none h.lo) (OwnD.nil _) (by simp) (fun x hx => by cases hx) fun _ _ _ => rfl⟩
theorem spo43v {x y z : Int} {g h : Hp} {a : AV} {l : List Int} (o : Kn.int.Own g h a l) (hb : l.length < 900000) : Spo 23 g h (frmA x y z a .ns) := by
  obtain ⟨q, q1, q2, q3, _, q4, _⟩ := o.part
  exact ⟨q, q1, q2, by rw [q3]; exact o.lo.symm, c43v q4 (by simpa [intC] using hb) fun _ _ _ => rfl⟩
theorem spo43o {x y z : Int} {g h : Hp} {a : AV} {l : List D.Op} (o : OpOwn g h a l) (hb : l.length < 900000) (hd : ∀ x ∈ l, x.deps.length < 900000) : Spo 23 g h (frmA x y z .ns a) := by
  obtain ⟨q, q1, q2, q3, q4⟩ := o.part
  exact ⟨q, q1, q2, by rw [q3]; exact o.kn.lo.symm, c43o q4 hb hd fun _ _ _ => rfl⟩
theorem spo43z {x y z : Int} {g h : Hp} : Spo 23 g h (frmA x y z .ns .ns) := ⟨Hp.none h.lo, none_le _ _, fun k c e => (by cases e), rfl, c43v (Fresh.nil (Hp.none h.lo) 1) (by simp) fun _ _ _ => rfl⟩
section
variable {g : Hp}
theorem c90' {x y : Int} (ra : IR h a v) (hv : v.length < 900000) (k : ∀ (n5 n6 n7 n8 : Int) a10 h', h.le h' → h'.lo = h.lo → a10.sc = true → n8 = (if frmV x y 1 v [] = true then 0 else 1) → (frmV x y 1 v [] = true → n5 = x ∧ n6 = y ∧ n7 = 1 ∧ IR h' a10 v) → Spo 23 h h' (frmA n5 n6 n7 a10 .ns) → Post (.tup [frmA n5 n6 n7 a10 .ns, .i .i64 n8]) h') :
    wpC Try.prog 13 [.i .i64 x, .i .i64 y, a] Post h :=
  c13 ra (by omega) (fun e h' le lo => k _ _ _ _ _ _ le lo rfl (by rw [e]; rfl) (fun e' => by rw [e] at e'; cases e') spo43z) (fun e r h' o => k _ _ _ _ _ _ o.le o.lo o.sc (by rw [e]; rfl) (fun _ => ⟨rfl, rfl, rfl, o.row⟩) (spo43v o hv))
def mayB (v : List Int) (l : List D.Op) : Bool := mayL v.length l && vecV v
def lackL (v : List Int) (l : List D.Op) : List D.Op := if mayB v l = true then behind v l else []
theorem c86' (ra : OpRow h a l) (rb : IR h b v) (hb : l.length < 900000) (ho : ∀ o ∈ l, o.deps.length < 900000) (hv : v.length < 900000)
    (k : ∀ r (n : Int) h', h.le h' → h'.lo = h.lo → r.sc = true → n = (if mayB v l = true then 0 else 1) → OpRow h' r (lackL v l) → Spo 22 h h' r → Post (.tup [r, .i .i64 n]) h') : wpC Try.prog 7 [a, b] Post h := by
  refine c7 ra rb (by omega) (fun o hm => by have := ho o hm; show o.deps.length < 1000000; omega) (by omega) (fun e => ?_) (fun e r h' o => ?_)
  · have e : mayB v l = false := e
    exact k _ _ _ (Hp.le_refl h) rfl rfl (by rw [e]; rfl) (by unfold lackL; rw [e]; exact nsO) spo69n
  · have e : mayB v l = true := e
    have hl := behind_len v l
    exact k _ _ _ o.kn.le o.kn.lo o.kn.sc (by rw [e]; rfl) (by unfold lackL; rw [if_pos e]; exact o.kn.row) (spo69 o (by omega) fun x hx => ho x (behind_mem hx))
def badR (x y : Int) (v : List Int) (l : List D.Op) : Int := if mayB v l = true then (if behind v l = [] then 3 else if frmV x y 2 [] (behind v l) = true then 0 else 1) else 1
theorem c94' {x y : Int} (ra : OpRow h a l) (rb : IR h b v) (hb : l.length < 900000) (ho : ∀ o ∈ l, o.deps.length < 900000) (hv : v.length < 900000)
    (k : ∀ (n5 n6 n7 n8 : Int) r h', h.le h' → h'.lo = h.lo → r.sc = true → n8 = badR x y v l → (n8 = 0 → n5 = x ∧ n6 = y ∧ n7 = 2 ∧ OpRow h' r (behind v l)) → Spo 23 h h' (frmA n5 n6 n7 .ns r) → Post (.tup [frmA n5 n6 n7 .ns r, .i .i64 n8]) h') : wpC Try.prog 20 [.i .i64 x, .i .i64 y, a, b] Post h := by
  have hl := behind_len v l
  refine c20 ra rb (by omega) (fun o hm => by have := ho o hm; show o.deps.length < 1000000; omega) (by omega) (fun e => ?_) (fun e e2 h' le lo => ?_) (fun e e2 e3 h' le lo => ?_) (fun e e2 e3 r h' o => ?_)
  · have e : mayB v l = false := e
    exact k _ _ _ _ _ _ (Hp.le_refl h) rfl rfl (by unfold badR; rw [e]; rfl) (fun e => by cases e) spo43z
  · have e : mayB v l = true := e
    exact k _ _ _ _ _ _ le lo rfl (by unfold badR; rw [if_pos e, if_pos e2]) (fun e => by cases e) spo43z
  · have e : mayB v l = true := e
    exact k _ _ _ _ _ _ le lo rfl (by unfold badR; rw [if_pos e, if_neg e2, e3]; rfl) (fun e => by cases e) spo43z
  · have e : mayB v l = true := e
    exact k _ _ _ _ _ _ o.kn.le o.kn.lo o.kn.sc (by unfold badR; rw [if_pos e, if_neg e2, if_pos e3]) (fun _ => ⟨rfl, rfl, rfl, o.kn.row⟩) (spo43o o (by omega) fun x hx => ho x (behind_mem hx))
end
theorem onL.ask {a b : AV} (ha : a.sc = true) (hb : b.sc = true) {x y z w : Int} {K : AV → AV → Int → Int → Int → Int → Prop} (k : K a b x y z w) : onL [Kd.ref, Kd.ref, Kd.int .i64, Kd.int .i64, Kd.int .i64, Kd.int .i64] [a, b, .i .i64 x, .i .i64 y, .i .i64 z, .i .i64 w] K :=
  onRef.mk (K := fun a => onL [Kd.ref, Kd.int .i64, Kd.int .i64, Kd.int .i64, Kd.int .i64] [b, .i .i64 x, .i .i64 y, .i .i64 z, .i .i64 w] (K a)) ha (onRef.mk (K := fun b => onL [Kd.int .i64, Kd.int .i64, Kd.int .i64, Kd.int .i64] [.i .i64 x, .i .i64 y, .i .i64 z, .i .i64 w] (K a b)) hb k)
theorem D.lawSyncAsks {L : List D.SyncA} {c : AV} (kx : (Kn.slice D.kSyncA 80).K h L [c]) : wpC Try.prog 4 [c] (fun v _ => v = .b true) h := by
  obtain ⟨a, e, r, hL⟩ := kx
  injection e with e _; subst e
  refine call_sound (args := [.vv c]) (cuts := [5000024, 21000078, 27000012, 36999999, 37000111, 45000133, 48999999, 53000164, 63000182]) ⟨r.sc, trivial⟩ ?_
  rw [vc4]
  refine ⟨fun m _ i h' => h.le h' ∧ h'.lo = h.lo ∧ ∃ k : Nat, i = k ∧ k ≤ L.length ∧ m = L.length - k, ⟨_, Hp.le_refl h, rfl, 0, rfl, by omega, rfl⟩, ?_⟩
  rintro m h0 c0 _ ⟨le0, lo0, i, rfl, hi, rfl⟩
  refine ⟨fun b h' => h' = h0 ∧ (b = true → i < L.length ∧ i < 10), onO.mk r.len (onB.dec (fun e => ⟨rfl, fun e2 => ⟨by omega, by have := of_decide_eq_true e2; omega⟩⟩) (fun e => ⟨rfl, fun e => by cases e⟩)), ?_⟩
  rintro h1 c1 ⟨rfl, hc1⟩
  refine onB.mk (fun e => ?_) (fun _ => c9 (onRet.b rfl))
  obtain ⟨hlt, h10⟩ := hc1 e
  obtain ⟨p, hp⟩ := get_lt (l := L) (k := i) hlt
  obtain ⟨bb, oo, cc, e1, e2, kp⟩ := r.idx (i := (i : Int)) (Int.natCast_nonneg i) (by simpa using hp)
  obtain ⟨a0, a1, rfl, ra, hl, rb⟩ := sync_open kp
  refine onO.mk e1 (onO.mk (rdH_le le0 e2) (onL.ask ra.sc rb.sc fun _ => ?_))
  have ra0 := ra.mono le0
  have rb0 := rb.mono le0
  refine c10 ra0 rb0 hl (onRet.b (onB.pos rfl rfl)) fun hw hv => onRet.b (onB.neg rfl ?_)
  obtain ⟨hw1, hw2⟩ := hw
  have ho : ∀ o ∈ p.l, opOk o := fun o ho => by have := (hw2 o ho).1; show o.deps.length < 1000000; omega
  refine c11 ra0 (by omega) ho fun a4 h3 o4 => onRet.r o4.sc ?_
  refine c12 (rb0.mono o4.le) (by omega) fun a6 h4 o6 => onRet.r o6.sc ?_
  refine c12 ((rb0.mono o4.le).mono o6.le) (by omega) fun a8 h5 o8 => onRet.r o8.sc fun _ => ?_
  -- what stands till the end
  have l5 : h1.le h5 := Hp.le_trans o4.le (Hp.le_trans o6.le o8.le)
  have q5 : h5.lo = h1.lo := o8.lo.trans (o6.lo.trans o4.lo)
  have r0 : OpRow h5 a0 p.l := ra0.mono l5
  have r1 : IR h5 a1 p.v := rb0.mono l5
  have r4 : OpRow h5 a4 p.l := o4.row.mono (Hp.le_trans o6.le o8.le)
  have r6 : IR h5 a6 p.v := o6.row.mono o8.le
  have r8 : IR h5 a8 p.v := o8.row
  have hd : ∀ o ∈ p.l, o.deps.length < 900000 := fun o hm => by have := (hw2 o hm).1; omega
  refine c90' (x := p.rep) (y := p.dst) r6 (by omega) fun n5 n6 n7 n8 a10 h6 le6 lo6 sc6 e8 e9 spo6 => onTup.frm sc6 rfl fun _ => ?_
  refine ⟨fun c h' => c = false ∧ h' = h6, ?_, ?_⟩
  · refine c14 (l := []) (r8.mono le6) nsO (by omega) (by simp) (fun o hm => by cases hm) (onRet.b (onB.mk (fun e => c8 (onRet.i (onB.ndec (fun e' => ?_) (fun _ => ?_)))) (fun e => ?_)))
    · rw [if_pos e] at e8; exact absurd e8 e'
    · obtain ⟨g1, g2, g3, g4⟩ := e9 e
      refine c15 g4 nsO (r8.mono le6) nsO (by omega) (by simp) (fun o hm => by cases hm) (onRet.b ?_)
      rw [g1, g2, g3]
      simp only [decide_true, Bool.and_self]
      refine onB.neg rfl (c14 (l := []) (r8.mono le6) nsO (by omega) (by simp) (fun o hm => by cases hm) (onRet.b ?_))
      rw [e]
      exact onB.neg rfl (by first | exact ⟨rfl, rfl⟩ | trivial)
    · refine c14 (l := []) (r8.mono le6) nsO (by omega) (by simp) (fun o hm => by cases hm) (onRet.b ?_)
      rw [e] at e8 ⊢
      refine onB.pos rfl (c8 (onRet.i ⟨?_, rfl⟩))
      rw [e8]; rfl
  rintro h14 c7 ⟨rfl, rfl⟩
  refine onB.neg rfl ?_
  refine c86' (r4.mono le6) (r6.mono le6) (by omega) hd (by omega) fun a20 n12 h15 le15 lo15 sc15 e12 r15 spo15 => onTup.ri sc15 ?_
  have l15 : h5.le h15 := Hp.le_trans le6 le15
  refine ⟨fun c h' => c = mayB p.v p.l ∧ h' = h15, ?_, ?_⟩
  · unfold mayB
    refine c16 (r1.mono l15) (by omega) (onRet.b (onB.mk (fun e => onO.mk r1.len ?_) (fun e => ⟨by rw [e, Bool.and_false], rfl⟩)))
    refine c17 (r0.mono l15) (by omega) ho rfl (onRet.b ⟨by rw [e, Bool.and_true], rfl⟩)
  rintro h18 c10 ⟨rfl, rfl⟩
  refine ⟨fun r n h' => h18.le h' ∧ h'.lo = h18.lo ∧ n = (if mayB p.v p.l = true then 0 else 1) ∧ OpRow h' r (lackL p.v p.l), onB.mk (fun e => ?_) (fun e => ?_), ?_⟩
  · have hm := e
    unfold mayB at hm
    have hm := (Bool.and_eq_true _ _ ▸ hm).1
    refine c18 (r0.mono l15) (r1.mono l15) (by omega) ho (fun o hm' => ?_) fun r h' o => onRet.r o.kn.sc ⟨o.kn.le, o.kn.lo, by rw [if_pos e], by unfold lackL; rw [if_pos e]; exact o.kn.row⟩
    unfold mayL at hm
    have := List.all_eq_true.1 hm o hm'
    simp only [Bool.and_eq_true, decide_eq_true_eq] at this
    have h2 := mayO_rep this.1
    omega
  · exact ⟨Hp.le_refl _, rfl, by rw [e]; rfl, by unfold lackL; rw [e]; exact nsO⟩
  rintro h20 a25 sc25 n13 ⟨le20, lo20, e13, r20⟩
  have hlk : (lackL p.v p.l).length ≤ 8 := by
    unfold lackL
    split
    · exact behind_len _ _
    · simp
  have hol : ∀ o ∈ lackL p.v p.l, opOk o := fun o hm => by
    unfold lackL at hm
    split at hm
    · exact ho o (behind_mem hm)
    · cases hm
  have l20 : h5.le h20 := Hp.le_trans l15 le20
  refine ⟨fun c h' => c = false ∧ h' = h20, c8 (onRet.i (onB.ndec (fun e => absurd (e12.trans e13.symm) e) (fun _ => c19 (r15.mono le20) r20 (by omega) hol (onRet.b ⟨by rw [decide_eq_true rfl]; rfl, rfl⟩)))), ?_⟩
  rintro h23 c12 ⟨rfl, rfl⟩
  refine onB.neg rfl ?_
  refine c94' (x := p.rep) (y := p.dst) (r4.mono l20) (r6.mono l20) (by omega) hd (by omega) fun n15 n16 n17 n18 a30 h24 le24 lo24 sc24 e18 e19 spo24 => onTup.frm rfl sc24 fun _ => ?_
  have r24 := r20.mono le24
  have l24 : h5.le h24 := Hp.le_trans l20 le24
  refine ⟨fun c h' => c = (mayB p.v p.l && decide (lackL p.v p.l = [])) ∧ h' = h24, onB.mk (fun e => onO.mk r24.len ⟨?_, rfl⟩) (fun e => ⟨by rw [e]; rfl, rfl⟩), ?_⟩
  · rw [e, Bool.true_and, decide_eq_decide, ← List.length_eq_zero_iff]; omega
  rintro h25 c13 ⟨rfl, rfl⟩
  refine ⟨fun n h' => n = badR p.rep p.dst p.v p.l ∧ h' = h25, onB.mk (fun e => ⟨?_, rfl⟩) (fun e => ?_), ?_⟩
  · simp only [Bool.and_eq_true, decide_eq_true_eq] at e
    unfold badR
    have e2 := e.2
    unfold lackL at e2
    rw [if_pos e.1] at e2
    rw [if_pos e.1, if_pos e2]
  · refine c14 (v := []) nsI r24 (by simp) (by omega) hol (onRet.b (onB.not (fun e2 => ⟨?_, rfl⟩) (fun e2 => ⟨?_, rfl⟩)))
    · unfold badR
      unfold lackL at e2 e
      cases hm : mayB p.v p.l with
      | false => rfl
      | true =>
        rw [hm, if_pos rfl] at e2
        rw [hm, if_pos rfl, Bool.true_and] at e
        rw [if_pos rfl, if_neg (of_decide_eq_false e), e2]; rfl
    · unfold badR
      unfold lackL at e2 e
      cases hm : mayB p.v p.l with
      | false =>
        rw [hm] at e2
        have : frmV p.rep p.dst 2 [] [] = false := by unfold frmV; simp
        rw [show (if false = true then behind p.v p.l else []) = ([] : List D.Op) from rfl, this] at e2
        cases e2
      | true =>
        rw [hm, if_pos rfl] at e2
        rw [hm, if_pos rfl, Bool.true_and] at e
        rw [hm, if_pos rfl] at e13
        rw [if_pos rfl, if_neg (of_decide_eq_false e), if_pos e2, e13]
  rintro h27 n19 ⟨rfl, rfl⟩
  refine ⟨fun c h' => c = false ∧ h' = h27, ?_, ?_⟩
  · have fin : wpC Try.prog 19 [a4, a0] (fun v h' => onRet [Sh.one Kd.bool] v fun c => onB (!c) (true = false ∧ h' = h27) (wpC Try.prog 21 [a6, a1] (fun w h2 => onRet [Sh.one Kd.bool] w fun c' => (!c') = false ∧ h2 = h27) h')) h27 := by
      refine c19 (r4.mono l24) (r0.mono l24) (by omega) ho (onRet.b (onB.neg (by rw [decide_eq_true rfl]; rfl) ?_))
      exact c21 (r6.mono l24) (r1.mono l24) (by omega) (onRet.b ⟨by rw [decide_eq_true rfl]; rfl, rfl⟩)
    refine c8 (onRet.i (onB.ndec (fun e => absurd e18 e) (fun _ => onB.dec (fun e => ?_) (fun _ => fin))))
    rw [← e18] at e
    obtain ⟨g1, g2, g3, g4⟩ := e19 e
    have hm : mayB p.v p.l = true := by
      cases hm : mayB p.v p.l with
      | true => rfl
      | false => rw [e18] at e; unfold badR at e; rw [hm] at e; cases e
    have hlb : lackL p.v p.l = behind p.v p.l := by unfold lackL; rw [if_pos hm]
    rw [hlb] at r24 hlk hol
    refine c15 nsI g4 nsI r24 (by simp) (by omega) hol (onRet.b ?_)
    rw [g1, g2, g3]
    simp only [decide_true, Bool.and_self]
    exact onB.neg rfl fin
  rintro h34 c20 ⟨rfl, rfl⟩
  refine onB.neg rfl ?_
  -- written over
  obtain ⟨q3, u1, u2, u3, u4⟩ := spo24
  refine spo15.use (Hp.le_trans le20 le24) (lo24.trans lo20) fun q1 h35 d1 s1 k1 m1 => onTup.z ?_
  have b35 : h5.le h35 := Hp.le_trans (le_rest l24 (d1.le_right le6)) k1
  have x35 := Hp.le_trans (le_rest (Hp.le_trans le15 (Hp.le_trans le20 le24)) d1) k1
  have y35 : q3.le h35 := Hp.le_trans (le_rest u1 ((u2.le_right (Hp.le_trans s1 le20)).symm)) k1
  refine spo6.use x35 (m1.trans (lo24.trans (lo20.trans lo15))) fun q2 h36 d2 s2 k2 m2 => onTup.z ?_
  have b36 : h5.le h36 := Hp.le_trans (le_rest b35 d2) k2
  have y36 : q3.le h36 := Hp.le_trans (le_rest y35 ((u2.le_right (Hp.le_trans s2 (Hp.le_trans le15 le20))).symm)) k2
  refine (wpC.part y36 (u3.trans (m2.trans m1).symm) u4).mono ?_
  rintro v h37 ⟨_, _, k3, m3, rfl⟩
  have b37 : h5.le h37 := Hp.le_trans (le_rest b36 (u2.le_right l20)) k3
  refine onTup.z ⟨fun c h' => c = false ∧ h' = h37, ?_, ?_⟩
  · refine c19 (r4.mono b37) (r0.mono b37) (by omega) ho (onRet.b (onB.neg (by rw [decide_eq_true rfl]; rfl) ?_))
    exact c21 (r6.mono b37) (r1.mono b37) (by omega) (onRet.b ⟨by rw [decide_eq_true rfl]; rfl, rfl⟩)
  rintro h40 c23 ⟨rfl, rfl⟩
  refine onB.neg rfl (onO.mk (inc64 (by omega)) ⟨_, by show L.length - (i + 1) < L.length - i; omega, Hp.le_trans le0 (Hp.le_trans l5 b37), ?_, i + 1, rfl, by omega, rfl⟩)
  exact (m3.trans (m2.trans m1)).trans ((lo24.trans (lo20.trans (lo15.trans lo6))).trans (q5.trans lo0))
end
end Go.Proofs.YtfadhndblgbcnaaAn
