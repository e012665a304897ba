/- What the functions that the law reaches come to, down to the law itself. -/
import Derived.Test.YtiidgjdogekpfaaBnF
import Derived.Test.YtiidgjdogekpfaaProg
set_option linter.unusedVariables false
set_option linter.unusedSimpArgs false
set_option maxRecDepth 100000
namespace Go.Proofs.YtiidgjdogekpfaaAn
open Go
/-- what 64 bits hold -/
def In64 (n : Int) : Prop := -9223372036854775808 ≤ n ∧ n < 9223372036854775808
namespace D
structure Stamp where
  time : Int
  rep : Int
deriving DecidableEq
def kStamp : Kn Stamp := Kn.iso (Kn.pair Kn.int Kn.int) fun s => (s.time, s.rep)
structure Op where
  stamp : Stamp
  seq : Int
  deps : List (Int)
  kind : Int
  node : Stamp
  parent : Stamp
  key : List Nat
  prop : Int
  value : Int
deriving DecidableEq
def kOp : Kn Op := Kn.iso (Kn.pair kStamp (Kn.pair Kn.int (Kn.pair (Kn.slice Kn.int 8) (Kn.pair Kn.int (Kn.pair kStamp (Kn.pair kStamp (Kn.pair Kn.str (Kn.pair Kn.int Kn.int)))))))) fun s => (s.stamp, s.seq, s.deps, s.kind, s.node, s.parent, s.key, s.prop, s.value)
structure StoreDo where
  act : Int
  l : List (Op)
  picks : List (Int)
deriving DecidableEq
def kStoreDo : Kn StoreDo := Kn.iso (Kn.pair Kn.int (Kn.pair (Kn.slice kOp 120) (Kn.slice Kn.int 8))) fun s => (s.act, s.l, s.picks)
structure StoreA where
  l : List (StoreDo)
  off : List (Int)
deriving DecidableEq
def kStoreA : Kn StoreA := Kn.iso (Kn.pair (Kn.slice kStoreDo 56) (Kn.slice Kn.int 8)) fun s => (s.l, s.off)
theorem oStamp : Opens Try.prog 37 kStamp := opens_struct (P := Try.prog) (t := 37) Try.underlying37 (by kernel_rfl) (by kernel_rfl) (opens_cons (opens_int (P := Try.prog) Try.underlying3) (opens_one (opens_int (P := Try.prog) Try.underlying3))) _ (fun a => ⟨a.1, a.2⟩) fun _ => rfl
theorem oOp : Opens Try.prog 40 kOp := opens_struct (P := Try.prog) (t := 40) Try.underlying40 (by kernel_rfl) (by kernel_rfl) (opens_cons oStamp (opens_cons (opens_int (P := Try.prog) Try.underlying3) (opens_cons (opens_slice (P := Try.prog) 8 Try.underlying38 (by kernel_rfl) (by decide) (by kernel_rfl) (opens_int (P := Try.prog) Try.underlying3)) (opens_cons (opens_int (P := Try.prog) Try.underlying3) (opens_cons oStamp (opens_cons oStamp (opens_cons (opens_string (P := Try.prog) Try.underlying9) (opens_cons (opens_int (P := Try.prog) Try.underlying3) (opens_one (opens_int (P := Try.prog) Try.underlying3)))))))))) _ (fun a => ⟨a.1, a.2.1, a.2.2.1, a.2.2.2.1, a.2.2.2.2.1, a.2.2.2.2.2.1, a.2.2.2.2.2.2.1, a.2.2.2.2.2.2.2.1, a.2.2.2.2.2.2.2.2⟩) fun _ => rfl
theorem oStoreDo : Opens Try.prog 49 kStoreDo := opens_struct (P := Try.prog) (t := 49) Try.underlying49 (by kernel_rfl) (by kernel_rfl) (opens_cons (opens_int (P := Try.prog) Try.underlying3) (opens_cons (opens_slice (P := Try.prog) 120 Try.underlying33 (by kernel_rfl) (by decide) (by kernel_rfl) oOp) (opens_one (opens_slice (P := Try.prog) 8 Try.underlying38 (by kernel_rfl) (by decide) (by kernel_rfl) (opens_int (P := Try.prog) Try.underlying3))))) _ (fun a => ⟨a.1, a.2.1, a.2.2⟩) fun _ => rfl
theorem oStoreA : Opens Try.prog 45 kStoreA := opens_struct (P := Try.prog) (t := 45) Try.underlying45 (by kernel_rfl) (by kernel_rfl) (opens_cons (opens_slice (P := Try.prog) 56 Try.underlying43 (by kernel_rfl) (by decide) (by kernel_rfl) oStoreDo) (opens_one (opens_slice (P := Try.prog) 8 Try.underlying38 (by kernel_rfl) (by decide) (by kernel_rfl) (opens_int (P := Try.prog) Try.underlying3)))) _ (fun a => ⟨a.1, a.2⟩) fun _ => rfl
theorem kStamp_open {h : Hp} {s : Stamp} {cs : List AV} (k : kStamp.K h s cs) : cs = [.i .i64 s.time, .i .i64 s.rep] ∧ In64 s.time ∧ In64 s.rep := by
  obtain ⟨lc0, r0, e0, q0, q1⟩ := k
  obtain ⟨z0, f0⟩ := q0
  obtain ⟨z1, f1⟩ := q1
  refine ⟨?_, f0, f1⟩
  rw [e0, z0, z1]; rfl
theorem kOp_open {h : Hp} {s : Op} {cs : List AV} (k : kOp.K h s cs) : ∃ a0, cs = [.i .i64 s.stamp.time, .i .i64 s.stamp.rep, .i .i64 s.seq, a0, .i .i64 s.kind, .i .i64 s.node.time, .i .i64 s.node.rep, .i .i64 s.parent.time, .i .i64 s.parent.rep, .s s.key, .i .i64 s.prop, .i .i64 s.value] ∧ In64 s.stamp.time ∧ In64 s.stamp.rep ∧ In64 s.seq ∧ (Kn.int.Row h a0 s.deps ∧ s.deps.length * 8 ≤ 140737488351232) ∧ In64 s.kind ∧ In64 s.node.time ∧ In64 s.node.rep ∧ In64 s.parent.time ∧ In64 s.parent.rep ∧ (s.key.length ≤ 140737488351232 ∧ ∀ x ∈ s.key, x < 256) ∧ In64 s.prop ∧ In64 s.value := by
  obtain ⟨lc0, r0, e0, q0, lc1, r1, e1, q1, lc2, r2, e2, q2, lc3, r3, e3, q3, lc4, r4, e4, q4, lc5, r5, e5, q5, lc6, r6, e6, q6, lc7, r7, e7, q7, q8⟩ := k
  obtain ⟨z0, f0_0, f0_1⟩ := kStamp_open q0
  obtain ⟨z1, f1⟩ := q1
  obtain ⟨b2, z2, f2⟩ := q2
  obtain ⟨z3, f3⟩ := q3
  obtain ⟨z4, f4_0, f4_1⟩ := kStamp_open q4
  obtain ⟨z5, f5_0, f5_1⟩ := kStamp_open q5
  obtain ⟨z6, f6⟩ := q6
  obtain ⟨z7, f7⟩ := q7
  obtain ⟨z8, f8⟩ := q8
  refine ⟨b2, ?_, f0_0, f0_1, f1, f2, f3, f4_0, f4_1, f5_0, f5_1, f6, f7, f8⟩
  rw [e0, z0, e1, z1, e2, z2, e3, z3, e4, z4, e5, z5, e6, z6, e7, z7, z8]; rfl
theorem kStoreDo_open {h : Hp} {s : StoreDo} {cs : List AV} (k : kStoreDo.K h s cs) : ∃ a0 a1, cs = [.i .i64 s.act, a0, a1] ∧ In64 s.act ∧ (kOp.Row h a0 s.l ∧ s.l.length * 120 ≤ 140737488351232) ∧ (Kn.int.Row h a1 s.picks ∧ s.picks.length * 8 ≤ 140737488351232) := by
  obtain ⟨lc0, r0, e0, q0, lc1, r1, e1, q1, q2⟩ := k
  obtain ⟨z0, f0⟩ := q0
  obtain ⟨b1, z1, f1⟩ := q1
  obtain ⟨b2, z2, f2⟩ := q2
  refine ⟨b1, b2, ?_, f0, f1, f2⟩
  rw [e0, z0, e1, z1, z2]; rfl
theorem kStoreA_open {h : Hp} {s : StoreA} {cs : List AV} (k : kStoreA.K h s cs) : ∃ a0 a1, cs = [a0, a1] ∧ (kStoreDo.Row h a0 s.l ∧ s.l.length * 56 ≤ 140737488351232) ∧ (Kn.int.Row h a1 s.off ∧ s.off.length * 8 ≤ 140737488351232) := by
  obtain ⟨lc0, r0, e0, q0, q1⟩ := k
  obtain ⟨b0, z0, f0⟩ := q0
  obtain ⟨b1, z1, f1⟩ := q1
  refine ⟨b0, b1, ?_, f0, f1⟩
  rw [e0, z0, z1]; rfl
end D
/- arras/prop.May -/
theorem vc100 (a : Int) (b : Int) (h : Hp) (Post : AV → Hp → Prop) : vcCall Try.prog [] 100 [(SV.ii .i64 a), (SV.ii .i64 b)] h Post = (
  wpC Try.prog 103 [AV.i IntKind.i64 a]
  (fun a0 h0 =>
    onRet [Sh.one Kd.bool] a0 fun lc0 =>
      onB lc0
        (wpC Try.prog 104 [AV.i IntKind.i64 a]
          (fun a1 h1 =>
            onRet [Sh.agg [Kd.int IntKind.i64, Kd.int IntKind.i64, Kd.int IntKind.i64, Kd.bool]] a1 fun n0 n1 n2 lc1 =>
              onB (decide (n0 ≤ b))
                (wpC Try.prog 104 [AV.i IntKind.i64 a]
                  (fun a2 h2 => onRet [Sh.agg [Kd.int IntKind.i64, Kd.int IntKind.i64, Kd.int IntKind.i64, Kd.bool]] a2 fun n3 n4 n5 lc2 => Post (AV.b (decide (b ≤ n4))) h2) h1)
                (Post (AV.b false) h1))
          h0)
        (Post (AV.b false) h0))
  h) := by kernel_rfl
/- arras/prop.Is -/
theorem vc103 (a : Int) (h : Hp) (Post : AV → Hp → Prop) : vcCall Try.prog [] 103 [(SV.ii .i64 a)] h Post = (
  onB (decide (0 ≤ a)) (Post (AV.b (decide (a < 19))) h) (Post (AV.b false) h)) := by kernel_rfl
/- arras/stamp.Is -/
theorem vc86 (a0 : Int) (a1 : Int) (h : Hp) (Post : AV → Hp → Prop) : vcCall Try.prog [] 86 [(SV.ag [(SV.ii .i64 a0), (SV.ii .i64 a1)])] h Post = (
  ∀ (p0 : Nat), onB (decide (1 ≤ a0)) (onB (decide (a0 ≤ 1099511627776)) (onB (decide (0 ≤ a1)) (Post (AV.b (decide (a1 < 16))) h) (Post (AV.b false) h)) (Post (AV.b false) h)) (Post (AV.b false) h)) := by kernel_rfl
/- arras/arrasref8.Check -/
theorem vc35 (a : Int) (b : Int) (h : Hp) (Post : AV → Hp → Prop) : vcCall Try.prog [] 35 [(SV.ii .i64 a), (SV.ii .i64 b)] h Post = (
  wpC Try.prog 53 [AV.i IntKind.i64 a]
  (fun a0 h0 =>
    onTup [Sh.one (Kd.int IntKind.i64), Sh.one (Kd.int IntKind.i64), Sh.one (Kd.int IntKind.i64), Sh.one Kd.bool] a0 fun n0 n1 n2 lc0 =>
      onB (!lc0) (Post (AV.i IntKind.i64 3) h0) (onB (decide (b < n0)) (Post (AV.i IntKind.i64 9) h0) (onB (decide (n1 < b)) (Post (AV.i IntKind.i64 9) h0) (Post (AV.i IntKind.i64 0) h0))))
  h) := by kernel_rfl
/- arras/arrasref6.Stamp -/
theorem vc30 (a0 : Int) (a1 : Int) (h : Hp) (Post : AV → Hp → Prop) : vcCall Try.prog [] 30 [(SV.ag [(SV.ii .i64 a0), (SV.ii .i64 a1)])] h Post = (
  ∀ (p0 : Nat),
  onB (decide (1 ≤ a0))
    (onB (decide (a0 ≤ 1099511627776)) (wpC Try.prog 49 [AV.i IntKind.i64 a1, AV.i IntKind.i64 15] (fun a0 h0 => onRet [Sh.one Kd.bool] a0 fun lc0 => Post (AV.b lc0) h0) h) (Post (AV.b false) h))
    (Post (AV.b false) h)) := by kernel_rfl
/- arras/arrasref0.Num -/
theorem vc49 (a : Int) (b : Int) (h : Hp) (Post : AV → Hp → Prop) : vcCall Try.prog [] 49 [(SV.ii .i64 a), (SV.ii .i64 b)] h Post = (
  onB (decide (0 ≤ a)) (Post (AV.b (decide (a ≤ b))) h) (Post (AV.b false) h)) := by kernel_rfl
/- arras/arrasref8.value -/
theorem vc53 (a : Int) (h : Hp) (Post : AV → Hp → Prop) : vcCall Try.prog [] 53 [(SV.ii .i64 a)] h Post = (
  onB (decide (a = 0)) (Post (AV.tup [AV.i IntKind.i64 0, AV.i IntKind.i64 2, AV.i IntKind.i64 0, AV.b true]) h)
  (onB (decide (a = 1))
    (onB (decide (a = 1)) (Post (AV.tup [AV.i IntKind.i64 0, AV.i IntKind.i64 1, AV.i IntKind.i64 0, AV.b true]) h)
      (onB (decide (a = 3))
        (onB (decide (a = 3)) (Post (AV.tup [AV.i IntKind.i64 (-1), AV.i IntKind.i64 1099511627776, AV.i IntKind.i64 (-1), AV.b true]) h)
          (onB (decide (a = 5))
            (onB (decide (a = 5)) (Post (AV.tup [AV.i IntKind.i64 0, AV.i IntKind.i64 1099511627776, AV.i IntKind.i64 0, AV.b true]) h)
              (onB (decide (a = 9)) (Post (AV.tup [AV.i IntKind.i64 0, AV.i IntKind.i64 1048576, AV.i IntKind.i64 0, AV.b true]) h)
                (onB (decide (a = 10)) (Post (AV.tup [AV.i IntKind.i64 0, AV.i IntKind.i64 1048576, AV.i IntKind.i64 1, AV.b true]) h)
                  (onB (decide (a = 12))
                    (onB (decide (a = 12)) (Post (AV.tup [AV.i IntKind.i64 0, AV.i IntKind.i64 1073741824, AV.i IntKind.i64 0, AV.b true]) h)
                      (onB (decide (a = 15)) (Post (AV.tup [AV.i IntKind.i64 0, AV.i IntKind.i64 4, AV.i IntKind.i64 0, AV.b true]) h)
                        (onB (decide (a = 16)) (Post (AV.tup [AV.i IntKind.i64 0, AV.i IntKind.i64 3, AV.i IntKind.i64 0, AV.b true]) h)
                          (onB (decide (a = 17)) (Post (AV.tup [AV.i IntKind.i64 0, AV.i IntKind.i64 16777215, AV.i IntKind.i64 0, AV.b true]) h)
                            (onB (decide (a = 18)) (Post (AV.tup [AV.i IntKind.i64 64, AV.i IntKind.i64 64000, AV.i IntKind.i64 1024, AV.b true]) h)
                              (Post (AV.tup [AV.i IntKind.i64 0, AV.i IntKind.i64 0, AV.i IntKind.i64 0, AV.b false]) h))))))
                    (onB (decide (a = 13))
                      (onB (decide (a = 13)) (Post (AV.tup [AV.i IntKind.i64 0, AV.i IntKind.i64 1073741824, AV.i IntKind.i64 0, AV.b true]) h)
                        (onB (decide (a = 15)) (Post (AV.tup [AV.i IntKind.i64 0, AV.i IntKind.i64 4, AV.i IntKind.i64 0, AV.b true]) h)
                          (onB (decide (a = 16)) (Post (AV.tup [AV.i IntKind.i64 0, AV.i IntKind.i64 3, AV.i IntKind.i64 0, AV.b true]) h)
                            (onB (decide (a = 17)) (Post (AV.tup [AV.i IntKind.i64 0, AV.i IntKind.i64 16777215, AV.i IntKind.i64 0, AV.b true]) h)
                              (onB (decide (a = 18)) (Post (AV.tup [AV.i IntKind.i64 64, AV.i IntKind.i64 64000, AV.i IntKind.i64 1024, AV.b true]) h)
                                (Post (AV.tup [AV.i IntKind.i64 0, AV.i IntKind.i64 0, AV.i IntKind.i64 0, AV.b false]) h))))))
                      (onB (decide (a = 14)) (Post (AV.tup [AV.i IntKind.i64 0, AV.i IntKind.i64 1073741824, AV.i IntKind.i64 0, AV.b true]) h)
                        (onB (decide (a = 15)) (Post (AV.tup [AV.i IntKind.i64 0, AV.i IntKind.i64 4, AV.i IntKind.i64 0, AV.b true]) h)
                          (onB (decide (a = 16)) (Post (AV.tup [AV.i IntKind.i64 0, AV.i IntKind.i64 3, AV.i IntKind.i64 0, AV.b true]) h)
                            (onB (decide (a = 17)) (Post (AV.tup [AV.i IntKind.i64 0, AV.i IntKind.i64 16777215, AV.i IntKind.i64 0, AV.b true]) h)
                              (onB (decide (a = 18)) (Post (AV.tup [AV.i IntKind.i64 64, AV.i IntKind.i64 64000, AV.i IntKind.i64 1024, AV.b true]) h)
                                (Post (AV.tup [AV.i IntKind.i64 0, AV.i IntKind.i64 0, AV.i IntKind.i64 0, AV.b false]) h)))))))))))
            (onB (decide (a = 7)) (Post (AV.tup [AV.i IntKind.i64 0, AV.i IntKind.i64 1099511627776, AV.i IntKind.i64 0, AV.b true]) h)
              (onB (decide (a = 9)) (Post (AV.tup [AV.i IntKind.i64 0, AV.i IntKind.i64 1048576, AV.i IntKind.i64 0, AV.b true]) h)
                (onB (decide (a = 10)) (Post (AV.tup [AV.i IntKind.i64 0, AV.i IntKind.i64 1048576, AV.i IntKind.i64 1, AV.b true]) h)
                  (onB (decide (a = 12))
                    (onB (decide (a = 12)) (Post (AV.tup [AV.i IntKind.i64 0, AV.i IntKind.i64 1073741824, AV.i IntKind.i64 0, AV.b true]) h)
                      (onB (decide (a = 15)) (Post (AV.tup [AV.i IntKind.i64 0, AV.i IntKind.i64 4, AV.i IntKind.i64 0, AV.b true]) h)
                        (onB (decide (a = 16)) (Post (AV.tup [AV.i IntKind.i64 0, AV.i IntKind.i64 3, AV.i IntKind.i64 0, AV.b true]) h)
                          (onB (decide (a = 17)) (Post (AV.tup [AV.i IntKind.i64 0, AV.i IntKind.i64 16777215, AV.i IntKind.i64 0, AV.b true]) h)
                            (onB (decide (a = 18)) (Post (AV.tup [AV.i IntKind.i64 64, AV.i IntKind.i64 64000, AV.i IntKind.i64 1024, AV.b true]) h)
                              (Post (AV.tup [AV.i IntKind.i64 0, AV.i IntKind.i64 0, AV.i IntKind.i64 0, AV.b false]) h))))))
                    (onB (decide (a = 13))
                      (onB (decide (a = 13)) (Post (AV.tup [AV.i IntKind.i64 0, AV.i IntKind.i64 1073741824, AV.i IntKind.i64 0, AV.b true]) h)
                        (onB (decide (a = 15)) (Post (AV.tup [AV.i IntKind.i64 0, AV.i IntKind.i64 4, AV.i IntKind.i64 0, AV.b true]) h)
                          (onB (decide (a = 16)) (Post (AV.tup [AV.i IntKind.i64 0, AV.i IntKind.i64 3, AV.i IntKind.i64 0, AV.b true]) h)
                            (onB (decide (a = 17)) (Post (AV.tup [AV.i IntKind.i64 0, AV.i IntKind.i64 16777215, AV.i IntKind.i64 0, AV.b true]) h)
                              (onB (decide (a = 18)) (Post (AV.tup [AV.i IntKind.i64 64, AV.i IntKind.i64 64000, AV.i IntKind.i64 1024, AV.b true]) h)
                                (Post (AV.tup [AV.i IntKind.i64 0, AV.i IntKind.i64 0, AV.i IntKind.i64 0, AV.b false]) h))))))
                      (onB (decide (a = 14)) (Post (AV.tup [AV.i IntKind.i64 0, AV.i IntKind.i64 1073741824, AV.i IntKind.i64 0, AV.b true]) h)
                        (onB (decide (a = 15)) (Post (AV.tup [AV.i IntKind.i64 0, AV.i IntKind.i64 4, AV.i IntKind.i64 0, AV.b true]) h)
                          (onB (decide (a = 16)) (Post (AV.tup [AV.i IntKind.i64 0, AV.i IntKind.i64 3, AV.i IntKind.i64 0, AV.b true]) h)
                            (onB (decide (a = 17)) (Post (AV.tup [AV.i IntKind.i64 0, AV.i IntKind.i64 16777215, AV.i IntKind.i64 0, AV.b true]) h)
                              (onB (decide (a = 18)) (Post (AV.tup [AV.i IntKind.i64 64, AV.i IntKind.i64 64000, AV.i IntKind.i64 1024, AV.b true]) h)
                                (Post (AV.tup [AV.i IntKind.i64 0, AV.i IntKind.i64 0, AV.i IntKind.i64 0, AV.b false]) h)))))))))))))
        (onB (decide (a = 4))
          (onB (decide (a = 4)) (Post (AV.tup [AV.i IntKind.i64 (-1), AV.i IntKind.i64 1099511627776, AV.i IntKind.i64 (-1), AV.b true]) h)
            (onB (decide (a = 5))
              (onB (decide (a = 5)) (Post (AV.tup [AV.i IntKind.i64 0, AV.i IntKind.i64 1099511627776, AV.i IntKind.i64 0, AV.b true]) h)
                (onB (decide (a = 9)) (Post (AV.tup [AV.i IntKind.i64 0, AV.i IntKind.i64 1048576, AV.i IntKind.i64 0, AV.b true]) h)
                  (onB (decide (a = 10)) (Post (AV.tup [AV.i IntKind.i64 0, AV.i IntKind.i64 1048576, AV.i IntKind.i64 1, AV.b true]) h)
                    (onB (decide (a = 12))
                      (onB (decide (a = 12)) (Post (AV.tup [AV.i IntKind.i64 0, AV.i IntKind.i64 1073741824, AV.i IntKind.i64 0, AV.b true]) h)
                        (onB (decide (a = 15)) (Post (AV.tup [AV.i IntKind.i64 0, AV.i IntKind.i64 4, AV.i IntKind.i64 0, AV.b true]) h)
                          (onB (decide (a = 16)) (Post (AV.tup [AV.i IntKind.i64 0, AV.i IntKind.i64 3, AV.i IntKind.i64 0, AV.b true]) h)
                            (onB (decide (a = 17)) (Post (AV.tup [AV.i IntKind.i64 0, AV.i IntKind.i64 16777215, AV.i IntKind.i64 0, AV.b true]) h)
                              (onB (decide (a = 18)) (Post (AV.tup [AV.i IntKind.i64 64, AV.i IntKind.i64 64000, AV.i IntKind.i64 1024, AV.b true]) h)
                                (Post (AV.tup [AV.i IntKind.i64 0, AV.i IntKind.i64 0, AV.i IntKind.i64 0, AV.b false]) h))))))
                      (onB (decide (a = 13))
                        (onB (decide (a = 13)) (Post (AV.tup [AV.i IntKind.i64 0, AV.i IntKind.i64 1073741824, AV.i IntKind.i64 0, AV.b true]) h)
                          (onB (decide (a = 15)) (Post (AV.tup [AV.i IntKind.i64 0, AV.i IntKind.i64 4, AV.i IntKind.i64 0, AV.b true]) h)
                            (onB (decide (a = 16)) (Post (AV.tup [AV.i IntKind.i64 0, AV.i IntKind.i64 3, AV.i IntKind.i64 0, AV.b true]) h)
                              (onB (decide (a = 17)) (Post (AV.tup [AV.i IntKind.i64 0, AV.i IntKind.i64 16777215, AV.i IntKind.i64 0, AV.b true]) h)
                                (onB (decide (a = 18)) (Post (AV.tup [AV.i IntKind.i64 64, AV.i IntKind.i64 64000, AV.i IntKind.i64 1024, AV.b true]) h)
                                  (Post (AV.tup [AV.i IntKind.i64 0, AV.i IntKind.i64 0, AV.i IntKind.i64 0, AV.b false]) h))))))
                        (onB (decide (a = 14)) (Post (AV.tup [AV.i IntKind.i64 0, AV.i IntKind.i64 1073741824, AV.i IntKind.i64 0, AV.b true]) h)
                          (onB (decide (a = 15)) (Post (AV.tup [AV.i IntKind.i64 0, AV.i IntKind.i64 4, AV.i IntKind.i64 0, AV.b true]) h)
                            (onB (decide (a = 16)) (Post (AV.tup [AV.i IntKind.i64 0, AV.i IntKind.i64 3, AV.i IntKind.i64 0, AV.b true]) h)
                              (onB (decide (a = 17)) (Post (AV.tup [AV.i IntKind.i64 0, AV.i IntKind.i64 16777215, AV.i IntKind.i64 0, AV.b true]) h)
                                (onB (decide (a = 18)) (Post (AV.tup [AV.i IntKind.i64 64, AV.i IntKind.i64 64000, AV.i IntKind.i64 1024, AV.b true]) h)
                                  (Post (AV.tup [AV.i IntKind.i64 0, AV.i IntKind.i64 0, AV.i IntKind.i64 0, AV.b false]) h)))))))))))
              (onB (decide (a = 7)) (Post (AV.tup [AV.i IntKind.i64 0, AV.i IntKind.i64 1099511627776, AV.i IntKind.i64 0, AV.b true]) h)
                (onB (decide (a = 9)) (Post (AV.tup [AV.i IntKind.i64 0, AV.i IntKind.i64 1048576, AV.i IntKind.i64 0, AV.b true]) h)
                  (onB (decide (a = 10)) (Post (AV.tup [AV.i IntKind.i64 0, AV.i IntKind.i64 1048576, AV.i IntKind.i64 1, AV.b true]) h)
                    (onB (decide (a = 12))
                      (onB (decide (a = 12)) (Post (AV.tup [AV.i IntKind.i64 0, AV.i IntKind.i64 1073741824, AV.i IntKind.i64 0, AV.b true]) h)
                        (onB (decide (a = 15)) (Post (AV.tup [AV.i IntKind.i64 0, AV.i IntKind.i64 4, AV.i IntKind.i64 0, AV.b true]) h)
                          (onB (decide (a = 16)) (Post (AV.tup [AV.i IntKind.i64 0, AV.i IntKind.i64 3, AV.i IntKind.i64 0, AV.b true]) h)
                            (onB (decide (a = 17)) (Post (AV.tup [AV.i IntKind.i64 0, AV.i IntKind.i64 16777215, AV.i IntKind.i64 0, AV.b true]) h)
                              (onB (decide (a = 18)) (Post (AV.tup [AV.i IntKind.i64 64, AV.i IntKind.i64 64000, AV.i IntKind.i64 1024, AV.b true]) h)
                                (Post (AV.tup [AV.i IntKind.i64 0, AV.i IntKind.i64 0, AV.i IntKind.i64 0, AV.b false]) h))))))
                      (onB (decide (a = 13))
                        (onB (decide (a = 13)) (Post (AV.tup [AV.i IntKind.i64 0, AV.i IntKind.i64 1073741824, AV.i IntKind.i64 0, AV.b true]) h)
                          (onB (decide (a = 15)) (Post (AV.tup [AV.i IntKind.i64 0, AV.i IntKind.i64 4, AV.i IntKind.i64 0, AV.b true]) h)
                            (onB (decide (a = 16)) (Post (AV.tup [AV.i IntKind.i64 0, AV.i IntKind.i64 3, AV.i IntKind.i64 0, AV.b true]) h)
                              (onB (decide (a = 17)) (Post (AV.tup [AV.i IntKind.i64 0, AV.i IntKind.i64 16777215, AV.i IntKind.i64 0, AV.b true]) h)
                                (onB (decide (a = 18)) (Post (AV.tup [AV.i IntKind.i64 64, AV.i IntKind.i64 64000, AV.i IntKind.i64 1024, AV.b true]) h)
                                  (Post (AV.tup [AV.i IntKind.i64 0, AV.i IntKind.i64 0, AV.i IntKind.i64 0, AV.b false]) h))))))
                        (onB (decide (a = 14)) (Post (AV.tup [AV.i IntKind.i64 0, AV.i IntKind.i64 1073741824, AV.i IntKind.i64 0, AV.b true]) h)
                          (onB (decide (a = 15)) (Post (AV.tup [AV.i IntKind.i64 0, AV.i IntKind.i64 4, AV.i IntKind.i64 0, AV.b true]) h)
                            (onB (decide (a = 16)) (Post (AV.tup [AV.i IntKind.i64 0, AV.i IntKind.i64 3, AV.i IntKind.i64 0, AV.b true]) h)
                              (onB (decide (a = 17)) (Post (AV.tup [AV.i IntKind.i64 0, AV.i IntKind.i64 16777215, AV.i IntKind.i64 0, AV.b true]) h)
                                (onB (decide (a = 18)) (Post (AV.tup [AV.i IntKind.i64 64, AV.i IntKind.i64 64000, AV.i IntKind.i64 1024, AV.b true]) h)
                                  (Post (AV.tup [AV.i IntKind.i64 0, AV.i IntKind.i64 0, AV.i IntKind.i64 0, AV.b false]) h)))))))))))))
          (onB (decide (a = 6))
            (onB (decide (a = 6)) (Post (AV.tup [AV.i IntKind.i64 (-1), AV.i IntKind.i64 1099511627776, AV.i IntKind.i64 (-1), AV.b true]) h)
              (onB (decide (a = 5))
                (onB (decide (a = 5)) (Post (AV.tup [AV.i IntKind.i64 0, AV.i IntKind.i64 1099511627776, AV.i IntKind.i64 0, AV.b true]) h)
                  (onB (decide (a = 9)) (Post (AV.tup [AV.i IntKind.i64 0, AV.i IntKind.i64 1048576, AV.i IntKind.i64 0, AV.b true]) h)
                    (onB (decide (a = 10)) (Post (AV.tup [AV.i IntKind.i64 0, AV.i IntKind.i64 1048576, AV.i IntKind.i64 1, AV.b true]) h)
                      (onB (decide (a = 12))
                        (onB (decide (a = 12)) (Post (AV.tup [AV.i IntKind.i64 0, AV.i IntKind.i64 1073741824, AV.i IntKind.i64 0, AV.b true]) h)
                          (onB (decide (a = 15)) (Post (AV.tup [AV.i IntKind.i64 0, AV.i IntKind.i64 4, AV.i IntKind.i64 0, AV.b true]) h)
                            (onB (decide (a = 16)) (Post (AV.tup [AV.i IntKind.i64 0, AV.i IntKind.i64 3, AV.i IntKind.i64 0, AV.b true]) h)
                              (onB (decide (a = 17)) (Post (AV.tup [AV.i IntKind.i64 0, AV.i IntKind.i64 16777215, AV.i IntKind.i64 0, AV.b true]) h)
                                (onB (decide (a = 18)) (Post (AV.tup [AV.i IntKind.i64 64, AV.i IntKind.i64 64000, AV.i IntKind.i64 1024, AV.b true]) h)
                                  (Post (AV.tup [AV.i IntKind.i64 0, AV.i IntKind.i64 0, AV.i IntKind.i64 0, AV.b false]) h))))))
                        (onB (decide (a = 13))
                          (onB (decide (a = 13)) (Post (AV.tup [AV.i IntKind.i64 0, AV.i IntKind.i64 1073741824, AV.i IntKind.i64 0, AV.b true]) h)
                            (onB (decide (a = 15)) (Post (AV.tup [AV.i IntKind.i64 0, AV.i IntKind.i64 4, AV.i IntKind.i64 0, AV.b true]) h)
                              (onB (decide (a = 16)) (Post (AV.tup [AV.i IntKind.i64 0, AV.i IntKind.i64 3, AV.i IntKind.i64 0, AV.b true]) h)
                                (onB (decide (a = 17)) (Post (AV.tup [AV.i IntKind.i64 0, AV.i IntKind.i64 16777215, AV.i IntKind.i64 0, AV.b true]) h)
                                  (onB (decide (a = 18)) (Post (AV.tup [AV.i IntKind.i64 64, AV.i IntKind.i64 64000, AV.i IntKind.i64 1024, AV.b true]) h)
                                    (Post (AV.tup [AV.i IntKind.i64 0, AV.i IntKind.i64 0, AV.i IntKind.i64 0, AV.b false]) h))))))
                          (onB (decide (a = 14)) (Post (AV.tup [AV.i IntKind.i64 0, AV.i IntKind.i64 1073741824, AV.i IntKind.i64 0, AV.b true]) h)
                            (onB (decide (a = 15)) (Post (AV.tup [AV.i IntKind.i64 0, AV.i IntKind.i64 4, AV.i IntKind.i64 0, AV.b true]) h)
                              (onB (decide (a = 16)) (Post (AV.tup [AV.i IntKind.i64 0, AV.i IntKind.i64 3, AV.i IntKind.i64 0, AV.b true]) h)
                                (onB (decide (a = 17)) (Post (AV.tup [AV.i IntKind.i64 0, AV.i IntKind.i64 16777215, AV.i IntKind.i64 0, AV.b true]) h)
                                  (onB (decide (a = 18)) (Post (AV.tup [AV.i IntKind.i64 64, AV.i IntKind.i64 64000, AV.i IntKind.i64 1024, AV.b true]) h)
                                    (Post (AV.tup [AV.i IntKind.i64 0, AV.i IntKind.i64 0, AV.i IntKind.i64 0, AV.b false]) h)))))))))))
                (onB (decide (a = 7)) (Post (AV.tup [AV.i IntKind.i64 0, AV.i IntKind.i64 1099511627776, AV.i IntKind.i64 0, AV.b true]) h)
                  (onB (decide (a = 9)) (Post (AV.tup [AV.i IntKind.i64 0, AV.i IntKind.i64 1048576, AV.i IntKind.i64 0, AV.b true]) h)
                    (onB (decide (a = 10)) (Post (AV.tup [AV.i IntKind.i64 0, AV.i IntKind.i64 1048576, AV.i IntKind.i64 1, AV.b true]) h)
                      (onB (decide (a = 12))
                        (onB (decide (a = 12)) (Post (AV.tup [AV.i IntKind.i64 0, AV.i IntKind.i64 1073741824, AV.i IntKind.i64 0, AV.b true]) h)
                          (onB (decide (a = 15)) (Post (AV.tup [AV.i IntKind.i64 0, AV.i IntKind.i64 4, AV.i IntKind.i64 0, AV.b true]) h)
                            (onB (decide (a = 16)) (Post (AV.tup [AV.i IntKind.i64 0, AV.i IntKind.i64 3, AV.i IntKind.i64 0, AV.b true]) h)
                              (onB (decide (a = 17)) (Post (AV.tup [AV.i IntKind.i64 0, AV.i IntKind.i64 16777215, AV.i IntKind.i64 0, AV.b true]) h)
                                (onB (decide (a = 18)) (Post (AV.tup [AV.i IntKind.i64 64, AV.i IntKind.i64 64000, AV.i IntKind.i64 1024, AV.b true]) h)
                                  (Post (AV.tup [AV.i IntKind.i64 0, AV.i IntKind.i64 0, AV.i IntKind.i64 0, AV.b false]) h))))))
                        (onB (decide (a = 13))
                          (onB (decide (a = 13)) (Post (AV.tup [AV.i IntKind.i64 0, AV.i IntKind.i64 1073741824, AV.i IntKind.i64 0, AV.b true]) h)
                            (onB (decide (a = 15)) (Post (AV.tup [AV.i IntKind.i64 0, AV.i IntKind.i64 4, AV.i IntKind.i64 0, AV.b true]) h)
                              (onB (decide (a = 16)) (Post (AV.tup [AV.i IntKind.i64 0, AV.i IntKind.i64 3, AV.i IntKind.i64 0, AV.b true]) h)
                                (onB (decide (a = 17)) (Post (AV.tup [AV.i IntKind.i64 0, AV.i IntKind.i64 16777215, AV.i IntKind.i64 0, AV.b true]) h)
                                  (onB (decide (a = 18)) (Post (AV.tup [AV.i IntKind.i64 64, AV.i IntKind.i64 64000, AV.i IntKind.i64 1024, AV.b true]) h)
                                    (Post (AV.tup [AV.i IntKind.i64 0, AV.i IntKind.i64 0, AV.i IntKind.i64 0, AV.b false]) h))))))
                          (onB (decide (a = 14)) (Post (AV.tup [AV.i IntKind.i64 0, AV.i IntKind.i64 1073741824, AV.i IntKind.i64 0, AV.b true]) h)
                            (onB (decide (a = 15)) (Post (AV.tup [AV.i IntKind.i64 0, AV.i IntKind.i64 4, AV.i IntKind.i64 0, AV.b true]) h)
                              (onB (decide (a = 16)) (Post (AV.tup [AV.i IntKind.i64 0, AV.i IntKind.i64 3, AV.i IntKind.i64 0, AV.b true]) h)
                                (onB (decide (a = 17)) (Post (AV.tup [AV.i IntKind.i64 0, AV.i IntKind.i64 16777215, AV.i IntKind.i64 0, AV.b true]) h)
                                  (onB (decide (a = 18)) (Post (AV.tup [AV.i IntKind.i64 64, AV.i IntKind.i64 64000, AV.i IntKind.i64 1024, AV.b true]) h)
                                    (Post (AV.tup [AV.i IntKind.i64 0, AV.i IntKind.i64 0, AV.i IntKind.i64 0, AV.b false]) h)))))))))))))
            (onB (decide (a = 8))
              (onB (decide (a = 8)) (Post (AV.tup [AV.i IntKind.i64 (-1), AV.i IntKind.i64 1099511627776, AV.i IntKind.i64 (-1), AV.b true]) h)
                (onB (decide (a = 5))
                  (onB (decide (a = 5)) (Post (AV.tup [AV.i IntKind.i64 0, AV.i IntKind.i64 1099511627776, AV.i IntKind.i64 0, AV.b true]) h)
                    (onB (decide (a = 9)) (Post (AV.tup [AV.i IntKind.i64 0, AV.i IntKind.i64 1048576, AV.i IntKind.i64 0, AV.b true]) h)
                      (onB (decide (a = 10)) (Post (AV.tup [AV.i IntKind.i64 0, AV.i IntKind.i64 1048576, AV.i IntKind.i64 1, AV.b true]) h)
                        (onB (decide (a = 12))
                          (onB (decide (a = 12)) (Post (AV.tup [AV.i IntKind.i64 0, AV.i IntKind.i64 1073741824, AV.i IntKind.i64 0, AV.b true]) h)
                            (onB (decide (a = 15)) (Post (AV.tup [AV.i IntKind.i64 0, AV.i IntKind.i64 4, AV.i IntKind.i64 0, AV.b true]) h)
                              (onB (decide (a = 16)) (Post (AV.tup [AV.i IntKind.i64 0, AV.i IntKind.i64 3, AV.i IntKind.i64 0, AV.b true]) h)
                                (onB (decide (a = 17)) (Post (AV.tup [AV.i IntKind.i64 0, AV.i IntKind.i64 16777215, AV.i IntKind.i64 0, AV.b true]) h)
                                  (onB (decide (a = 18)) (Post (AV.tup [AV.i IntKind.i64 64, AV.i IntKind.i64 64000, AV.i IntKind.i64 1024, AV.b true]) h)
                                    (Post (AV.tup [AV.i IntKind.i64 0, AV.i IntKind.i64 0, AV.i IntKind.i64 0, AV.b false]) h))))))
                          (onB (decide (a = 13))
                            (onB (decide (a = 13)) (Post (AV.tup [AV.i IntKind.i64 0, AV.i IntKind.i64 1073741824, AV.i IntKind.i64 0, AV.b true]) h)
                              (onB (decide (a = 15)) (Post (AV.tup [AV.i IntKind.i64 0, AV.i IntKind.i64 4, AV.i IntKind.i64 0, AV.b true]) h)
                                (onB (decide (a = 16)) (Post (AV.tup [AV.i IntKind.i64 0, AV.i IntKind.i64 3, AV.i IntKind.i64 0, AV.b true]) h)
                                  (onB (decide (a = 17)) (Post (AV.tup [AV.i IntKind.i64 0, AV.i IntKind.i64 16777215, AV.i IntKind.i64 0, AV.b true]) h)
                                    (onB (decide (a = 18)) (Post (AV.tup [AV.i IntKind.i64 64, AV.i IntKind.i64 64000, AV.i IntKind.i64 1024, AV.b true]) h)
                                      (Post (AV.tup [AV.i IntKind.i64 0, AV.i IntKind.i64 0, AV.i IntKind.i64 0, AV.b false]) h))))))
                            (onB (decide (a = 14)) (Post (AV.tup [AV.i IntKind.i64 0, AV.i IntKind.i64 1073741824, AV.i IntKind.i64 0, AV.b true]) h)
                              (onB (decide (a = 15)) (Post (AV.tup [AV.i IntKind.i64 0, AV.i IntKind.i64 4, AV.i IntKind.i64 0, AV.b true]) h)
                                (onB (decide (a = 16)) (Post (AV.tup [AV.i IntKind.i64 0, AV.i IntKind.i64 3, AV.i IntKind.i64 0, AV.b true]) h)
                                  (onB (decide (a = 17)) (Post (AV.tup [AV.i IntKind.i64 0, AV.i IntKind.i64 16777215, AV.i IntKind.i64 0, AV.b true]) h)
                                    (onB (decide (a = 18)) (Post (AV.tup [AV.i IntKind.i64 64, AV.i IntKind.i64 64000, AV.i IntKind.i64 1024, AV.b true]) h)
                                      (Post (AV.tup [AV.i IntKind.i64 0, AV.i IntKind.i64 0, AV.i IntKind.i64 0, AV.b false]) h)))))))))))
                  (onB (decide (a = 7)) (Post (AV.tup [AV.i IntKind.i64 0, AV.i IntKind.i64 1099511627776, AV.i IntKind.i64 0, AV.b true]) h)
                    (onB (decide (a = 9)) (Post (AV.tup [AV.i IntKind.i64 0, AV.i IntKind.i64 1048576, AV.i IntKind.i64 0, AV.b true]) h)
                      (onB (decide (a = 10)) (Post (AV.tup [AV.i IntKind.i64 0, AV.i IntKind.i64 1048576, AV.i IntKind.i64 1, AV.b true]) h)
                        (onB (decide (a = 12))
                          (onB (decide (a = 12)) (Post (AV.tup [AV.i IntKind.i64 0, AV.i IntKind.i64 1073741824, AV.i IntKind.i64 0, AV.b true]) h)
                            (onB (decide (a = 15)) (Post (AV.tup [AV.i IntKind.i64 0, AV.i IntKind.i64 4, AV.i IntKind.i64 0, AV.b true]) h)
                              (onB (decide (a = 16)) (Post (AV.tup [AV.i IntKind.i64 0, AV.i IntKind.i64 3, AV.i IntKind.i64 0, AV.b true]) h)
                                (onB (decide (a = 17)) (Post (AV.tup [AV.i IntKind.i64 0, AV.i IntKind.i64 16777215, AV.i IntKind.i64 0, AV.b true]) h)
                                  (onB (decide (a = 18)) (Post (AV.tup [AV.i IntKind.i64 64, AV.i IntKind.i64 64000, AV.i IntKind.i64 1024, AV.b true]) h)
                                    (Post (AV.tup [AV.i IntKind.i64 0, AV.i IntKind.i64 0, AV.i IntKind.i64 0, AV.b false]) h))))))
                          (onB (decide (a = 13))
                            (onB (decide (a = 13)) (Post (AV.tup [AV.i IntKind.i64 0, AV.i IntKind.i64 1073741824, AV.i IntKind.i64 0, AV.b true]) h)
                              (onB (decide (a = 15)) (Post (AV.tup [AV.i IntKind.i64 0, AV.i IntKind.i64 4, AV.i IntKind.i64 0, AV.b true]) h)
                                (onB (decide (a = 16)) (Post (AV.tup [AV.i IntKind.i64 0, AV.i IntKind.i64 3, AV.i IntKind.i64 0, AV.b true]) h)
                                  (onB (decide (a = 17)) (Post (AV.tup [AV.i IntKind.i64 0, AV.i IntKind.i64 16777215, AV.i IntKind.i64 0, AV.b true]) h)
                                    (onB (decide (a = 18)) (Post (AV.tup [AV.i IntKind.i64 64, AV.i IntKind.i64 64000, AV.i IntKind.i64 1024, AV.b true]) h)
                                      (Post (AV.tup [AV.i IntKind.i64 0, AV.i IntKind.i64 0, AV.i IntKind.i64 0, AV.b false]) h))))))
                            (onB (decide (a = 14)) (Post (AV.tup [AV.i IntKind.i64 0, AV.i IntKind.i64 1073741824, AV.i IntKind.i64 0, AV.b true]) h)
                              (onB (decide (a = 15)) (Post (AV.tup [AV.i IntKind.i64 0, AV.i IntKind.i64 4, AV.i IntKind.i64 0, AV.b true]) h)
                                (onB (decide (a = 16)) (Post (AV.tup [AV.i IntKind.i64 0, AV.i IntKind.i64 3, AV.i IntKind.i64 0, AV.b true]) h)
                                  (onB (decide (a = 17)) (Post (AV.tup [AV.i IntKind.i64 0, AV.i IntKind.i64 16777215, AV.i IntKind.i64 0, AV.b true]) h)
                                    (onB (decide (a = 18)) (Post (AV.tup [AV.i IntKind.i64 64, AV.i IntKind.i64 64000, AV.i IntKind.i64 1024, AV.b true]) h)
                                      (Post (AV.tup [AV.i IntKind.i64 0, AV.i IntKind.i64 0, AV.i IntKind.i64 0, AV.b false]) h)))))))))))))
              (onB (decide (a = 11)) (Post (AV.tup [AV.i IntKind.i64 (-1), AV.i IntKind.i64 1099511627776, AV.i IntKind.i64 (-1), AV.b true]) h)
                (onB (decide (a = 5))
                  (onB (decide (a = 5)) (Post (AV.tup [AV.i IntKind.i64 0, AV.i IntKind.i64 1099511627776, AV.i IntKind.i64 0, AV.b true]) h)
                    (onB (decide (a = 9)) (Post (AV.tup [AV.i IntKind.i64 0, AV.i IntKind.i64 1048576, AV.i IntKind.i64 0, AV.b true]) h)
                      (onB (decide (a = 10)) (Post (AV.tup [AV.i IntKind.i64 0, AV.i IntKind.i64 1048576, AV.i IntKind.i64 1, AV.b true]) h)
                        (onB (decide (a = 12))
                          (onB (decide (a = 12)) (Post (AV.tup [AV.i IntKind.i64 0, AV.i IntKind.i64 1073741824, AV.i IntKind.i64 0, AV.b true]) h)
                            (onB (decide (a = 15)) (Post (AV.tup [AV.i IntKind.i64 0, AV.i IntKind.i64 4, AV.i IntKind.i64 0, AV.b true]) h)
                              (onB (decide (a = 16)) (Post (AV.tup [AV.i IntKind.i64 0, AV.i IntKind.i64 3, AV.i IntKind.i64 0, AV.b true]) h)
                                (onB (decide (a = 17)) (Post (AV.tup [AV.i IntKind.i64 0, AV.i IntKind.i64 16777215, AV.i IntKind.i64 0, AV.b true]) h)
                                  (onB (decide (a = 18)) (Post (AV.tup [AV.i IntKind.i64 64, AV.i IntKind.i64 64000, AV.i IntKind.i64 1024, AV.b true]) h)
                                    (Post (AV.tup [AV.i IntKind.i64 0, AV.i IntKind.i64 0, AV.i IntKind.i64 0, AV.b false]) h))))))
                          (onB (decide (a = 13))
                            (onB (decide (a = 13)) (Post (AV.tup [AV.i IntKind.i64 0, AV.i IntKind.i64 1073741824, AV.i IntKind.i64 0, AV.b true]) h)
                              (onB (decide (a = 15)) (Post (AV.tup [AV.i IntKind.i64 0, AV.i IntKind.i64 4, AV.i IntKind.i64 0, AV.b true]) h)
                                (onB (decide (a = 16)) (Post (AV.tup [AV.i IntKind.i64 0, AV.i IntKind.i64 3, AV.i IntKind.i64 0, AV.b true]) h)
                                  (onB (decide (a = 17)) (Post (AV.tup [AV.i IntKind.i64 0, AV.i IntKind.i64 16777215, AV.i IntKind.i64 0, AV.b true]) h)
                                    (onB (decide (a = 18)) (Post (AV.tup [AV.i IntKind.i64 64, AV.i IntKind.i64 64000, AV.i IntKind.i64 1024, AV.b true]) h)
                                      (Post (AV.tup [AV.i IntKind.i64 0, AV.i IntKind.i64 0, AV.i IntKind.i64 0, AV.b false]) h))))))
                            (onB (decide (a = 14)) (Post (AV.tup [AV.i IntKind.i64 0, AV.i IntKind.i64 1073741824, AV.i IntKind.i64 0, AV.b true]) h)
                              (onB (decide (a = 15)) (Post (AV.tup [AV.i IntKind.i64 0, AV.i IntKind.i64 4, AV.i IntKind.i64 0, AV.b true]) h)
                                (onB (decide (a = 16)) (Post (AV.tup [AV.i IntKind.i64 0, AV.i IntKind.i64 3, AV.i IntKind.i64 0, AV.b true]) h)
                                  (onB (decide (a = 17)) (Post (AV.tup [AV.i IntKind.i64 0, AV.i IntKind.i64 16777215, AV.i IntKind.i64 0, AV.b true]) h)
                                    (onB (decide (a = 18)) (Post (AV.tup [AV.i IntKind.i64 64, AV.i IntKind.i64 64000, AV.i IntKind.i64 1024, AV.b true]) h)
                                      (Post (AV.tup [AV.i IntKind.i64 0, AV.i IntKind.i64 0, AV.i IntKind.i64 0, AV.b false]) h)))))))))))
                  (onB (decide (a = 7)) (Post (AV.tup [AV.i IntKind.i64 0, AV.i IntKind.i64 1099511627776, AV.i IntKind.i64 0, AV.b true]) h)
                    (onB (decide (a = 9)) (Post (AV.tup [AV.i IntKind.i64 0, AV.i IntKind.i64 1048576, AV.i IntKind.i64 0, AV.b true]) h)
                      (onB (decide (a = 10)) (Post (AV.tup [AV.i IntKind.i64 0, AV.i IntKind.i64 1048576, AV.i IntKind.i64 1, AV.b true]) h)
                        (onB (decide (a = 12))
                          (onB (decide (a = 12)) (Post (AV.tup [AV.i IntKind.i64 0, AV.i IntKind.i64 1073741824, AV.i IntKind.i64 0, AV.b true]) h)
                            (onB (decide (a = 15)) (Post (AV.tup [AV.i IntKind.i64 0, AV.i IntKind.i64 4, AV.i IntKind.i64 0, AV.b true]) h)
                              (onB (decide (a = 16)) (Post (AV.tup [AV.i IntKind.i64 0, AV.i IntKind.i64 3, AV.i IntKind.i64 0, AV.b true]) h)
                                (onB (decide (a = 17)) (Post (AV.tup [AV.i IntKind.i64 0, AV.i IntKind.i64 16777215, AV.i IntKind.i64 0, AV.b true]) h)
                                  (onB (decide (a = 18)) (Post (AV.tup [AV.i IntKind.i64 64, AV.i IntKind.i64 64000, AV.i IntKind.i64 1024, AV.b true]) h)
                                    (Post (AV.tup [AV.i IntKind.i64 0, AV.i IntKind.i64 0, AV.i IntKind.i64 0, AV.b false]) h))))))
                          (onB (decide (a = 13))
                            (onB (decide (a = 13)) (Post (AV.tup [AV.i IntKind.i64 0, AV.i IntKind.i64 1073741824, AV.i IntKind.i64 0, AV.b true]) h)
                              (onB (decide (a = 15)) (Post (AV.tup [AV.i IntKind.i64 0, AV.i IntKind.i64 4, AV.i IntKind.i64 0, AV.b true]) h)
                                (onB (decide (a = 16)) (Post (AV.tup [AV.i IntKind.i64 0, AV.i IntKind.i64 3, AV.i IntKind.i64 0, AV.b true]) h)
                                  (onB (decide (a = 17)) (Post (AV.tup [AV.i IntKind.i64 0, AV.i IntKind.i64 16777215, AV.i IntKind.i64 0, AV.b true]) h)
                                    (onB (decide (a = 18)) (Post (AV.tup [AV.i IntKind.i64 64, AV.i IntKind.i64 64000, AV.i IntKind.i64 1024, AV.b true]) h)
                                      (Post (AV.tup [AV.i IntKind.i64 0, AV.i IntKind.i64 0, AV.i IntKind.i64 0, AV.b false]) h))))))
                            (onB (decide (a = 14)) (Post (AV.tup [AV.i IntKind.i64 0, AV.i IntKind.i64 1073741824, AV.i IntKind.i64 0, AV.b true]) h)
                              (onB (decide (a = 15)) (Post (AV.tup [AV.i IntKind.i64 0, AV.i IntKind.i64 4, AV.i IntKind.i64 0, AV.b true]) h)
                                (onB (decide (a = 16)) (Post (AV.tup [AV.i IntKind.i64 0, AV.i IntKind.i64 3, AV.i IntKind.i64 0, AV.b true]) h)
                                  (onB (decide (a = 17)) (Post (AV.tup [AV.i IntKind.i64 0, AV.i IntKind.i64 16777215, AV.i IntKind.i64 0, AV.b true]) h)
                                    (onB (decide (a = 18)) (Post (AV.tup [AV.i IntKind.i64 64, AV.i IntKind.i64 64000, AV.i IntKind.i64 1024, AV.b true]) h)
                                      (Post (AV.tup [AV.i IntKind.i64 0, AV.i IntKind.i64 0, AV.i IntKind.i64 0, AV.b false]) h))))))))))))))))))
    (onB (decide (a = 2)) (Post (AV.tup [AV.i IntKind.i64 0, AV.i IntKind.i64 1, AV.i IntKind.i64 0, AV.b true]) h)
      (onB (decide (a = 3))
        (onB (decide (a = 3)) (Post (AV.tup [AV.i IntKind.i64 (-1), AV.i IntKind.i64 1099511627776, AV.i IntKind.i64 (-1), AV.b true]) h)
          (onB (decide (a = 5))
            (onB (decide (a = 5)) (Post (AV.tup [AV.i IntKind.i64 0, AV.i IntKind.i64 1099511627776, AV.i IntKind.i64 0, AV.b true]) h)
              (onB (decide (a = 9)) (Post (AV.tup [AV.i IntKind.i64 0, AV.i IntKind.i64 1048576, AV.i IntKind.i64 0, AV.b true]) h)
                (onB (decide (a = 10)) (Post (AV.tup [AV.i IntKind.i64 0, AV.i IntKind.i64 1048576, AV.i IntKind.i64 1, AV.b true]) h)
                  (onB (decide (a = 12))
                    (onB (decide (a = 12)) (Post (AV.tup [AV.i IntKind.i64 0, AV.i IntKind.i64 1073741824, AV.i IntKind.i64 0, AV.b true]) h)
                      (onB (decide (a = 15)) (Post (AV.tup [AV.i IntKind.i64 0, AV.i IntKind.i64 4, AV.i IntKind.i64 0, AV.b true]) h)
                        (onB (decide (a = 16)) (Post (AV.tup [AV.i IntKind.i64 0, AV.i IntKind.i64 3, AV.i IntKind.i64 0, AV.b true]) h)
                          (onB (decide (a = 17)) (Post (AV.tup [AV.i IntKind.i64 0, AV.i IntKind.i64 16777215, AV.i IntKind.i64 0, AV.b true]) h)
                            (onB (decide (a = 18)) (Post (AV.tup [AV.i IntKind.i64 64, AV.i IntKind.i64 64000, AV.i IntKind.i64 1024, AV.b true]) h)
                              (Post (AV.tup [AV.i IntKind.i64 0, AV.i IntKind.i64 0, AV.i IntKind.i64 0, AV.b false]) h))))))
                    (onB (decide (a = 13))
                      (onB (decide (a = 13)) (Post (AV.tup [AV.i IntKind.i64 0, AV.i IntKind.i64 1073741824, AV.i IntKind.i64 0, AV.b true]) h)
                        (onB (decide (a = 15)) (Post (AV.tup [AV.i IntKind.i64 0, AV.i IntKind.i64 4, AV.i IntKind.i64 0, AV.b true]) h)
                          (onB (decide (a = 16)) (Post (AV.tup [AV.i IntKind.i64 0, AV.i IntKind.i64 3, AV.i IntKind.i64 0, AV.b true]) h)
                            (onB (decide (a = 17)) (Post (AV.tup [AV.i IntKind.i64 0, AV.i IntKind.i64 16777215, AV.i IntKind.i64 0, AV.b true]) h)
                              (onB (decide (a = 18)) (Post (AV.tup [AV.i IntKind.i64 64, AV.i IntKind.i64 64000, AV.i IntKind.i64 1024, AV.b true]) h)
                                (Post (AV.tup [AV.i IntKind.i64 0, AV.i IntKind.i64 0, AV.i IntKind.i64 0, AV.b false]) h))))))
                      (onB (decide (a = 14)) (Post (AV.tup [AV.i IntKind.i64 0, AV.i IntKind.i64 1073741824, AV.i IntKind.i64 0, AV.b true]) h)
                        (onB (decide (a = 15)) (Post (AV.tup [AV.i IntKind.i64 0, AV.i IntKind.i64 4, AV.i IntKind.i64 0, AV.b true]) h)
                          (onB (decide (a = 16)) (Post (AV.tup [AV.i IntKind.i64 0, AV.i IntKind.i64 3, AV.i IntKind.i64 0, AV.b true]) h)
                            (onB (decide (a = 17)) (Post (AV.tup [AV.i IntKind.i64 0, AV.i IntKind.i64 16777215, AV.i IntKind.i64 0, AV.b true]) h)
                              (onB (decide (a = 18)) (Post (AV.tup [AV.i IntKind.i64 64, AV.i IntKind.i64 64000, AV.i IntKind.i64 1024, AV.b true]) h)
                                (Post (AV.tup [AV.i IntKind.i64 0, AV.i IntKind.i64 0, AV.i IntKind.i64 0, AV.b false]) h)))))))))))
            (onB (decide (a = 7)) (Post (AV.tup [AV.i IntKind.i64 0, AV.i IntKind.i64 1099511627776, AV.i IntKind.i64 0, AV.b true]) h)
              (onB (decide (a = 9)) (Post (AV.tup [AV.i IntKind.i64 0, AV.i IntKind.i64 1048576, AV.i IntKind.i64 0, AV.b true]) h)
                (onB (decide (a = 10)) (Post (AV.tup [AV.i IntKind.i64 0, AV.i IntKind.i64 1048576, AV.i IntKind.i64 1, AV.b true]) h)
                  (onB (decide (a = 12))
                    (onB (decide (a = 12)) (Post (AV.tup [AV.i IntKind.i64 0, AV.i IntKind.i64 1073741824, AV.i IntKind.i64 0, AV.b true]) h)
                      (onB (decide (a = 15)) (Post (AV.tup [AV.i IntKind.i64 0, AV.i IntKind.i64 4, AV.i IntKind.i64 0, AV.b true]) h)
                        (onB (decide (a = 16)) (Post (AV.tup [AV.i IntKind.i64 0, AV.i IntKind.i64 3, AV.i IntKind.i64 0, AV.b true]) h)
                          (onB (decide (a = 17)) (Post (AV.tup [AV.i IntKind.i64 0, AV.i IntKind.i64 16777215, AV.i IntKind.i64 0, AV.b true]) h)
                            (onB (decide (a = 18)) (Post (AV.tup [AV.i IntKind.i64 64, AV.i IntKind.i64 64000, AV.i IntKind.i64 1024, AV.b true]) h)
                              (Post (AV.tup [AV.i IntKind.i64 0, AV.i IntKind.i64 0, AV.i IntKind.i64 0, AV.b false]) h))))))
                    (onB (decide (a = 13))
                      (onB (decide (a = 13)) (Post (AV.tup [AV.i IntKind.i64 0, AV.i IntKind.i64 1073741824, AV.i IntKind.i64 0, AV.b true]) h)
                        (onB (decide (a = 15)) (Post (AV.tup [AV.i IntKind.i64 0, AV.i IntKind.i64 4, AV.i IntKind.i64 0, AV.b true]) h)
                          (onB (decide (a = 16)) (Post (AV.tup [AV.i IntKind.i64 0, AV.i IntKind.i64 3, AV.i IntKind.i64 0, AV.b true]) h)
                            (onB (decide (a = 17)) (Post (AV.tup [AV.i IntKind.i64 0, AV.i IntKind.i64 16777215, AV.i IntKind.i64 0, AV.b true]) h)
                              (onB (decide (a = 18)) (Post (AV.tup [AV.i IntKind.i64 64, AV.i IntKind.i64 64000, AV.i IntKind.i64 1024, AV.b true]) h)
                                (Post (AV.tup [AV.i IntKind.i64 0, AV.i IntKind.i64 0, AV.i IntKind.i64 0, AV.b false]) h))))))
                      (onB (decide (a = 14)) (Post (AV.tup [AV.i IntKind.i64 0, AV.i IntKind.i64 1073741824, AV.i IntKind.i64 0, AV.b true]) h)
                        (onB (decide (a = 15)) (Post (AV.tup [AV.i IntKind.i64 0, AV.i IntKind.i64 4, AV.i IntKind.i64 0, AV.b true]) h)
                          (onB (decide (a = 16)) (Post (AV.tup [AV.i IntKind.i64 0, AV.i IntKind.i64 3, AV.i IntKind.i64 0, AV.b true]) h)
                            (onB (decide (a = 17)) (Post (AV.tup [AV.i IntKind.i64 0, AV.i IntKind.i64 16777215, AV.i IntKind.i64 0, AV.b true]) h)
                              (onB (decide (a = 18)) (Post (AV.tup [AV.i IntKind.i64 64, AV.i IntKind.i64 64000, AV.i IntKind.i64 1024, AV.b true]) h)
                                (Post (AV.tup [AV.i IntKind.i64 0, AV.i IntKind.i64 0, AV.i IntKind.i64 0, AV.b false]) h)))))))))))))
        (onB (decide (a = 4))
          (onB (decide (a = 4)) (Post (AV.tup [AV.i IntKind.i64 (-1), AV.i IntKind.i64 1099511627776, AV.i IntKind.i64 (-1), AV.b true]) h)
            (onB (decide (a = 5))
              (onB (decide (a = 5)) (Post (AV.tup [AV.i IntKind.i64 0, AV.i IntKind.i64 1099511627776, AV.i IntKind.i64 0, AV.b true]) h)
                (onB (decide (a = 9)) (Post (AV.tup [AV.i IntKind.i64 0, AV.i IntKind.i64 1048576, AV.i IntKind.i64 0, AV.b true]) h)
                  (onB (decide (a = 10)) (Post (AV.tup [AV.i IntKind.i64 0, AV.i IntKind.i64 1048576, AV.i IntKind.i64 1, AV.b true]) h)
                    (onB (decide (a = 12))
                      (onB (decide (a = 12)) (Post (AV.tup [AV.i IntKind.i64 0, AV.i IntKind.i64 1073741824, AV.i IntKind.i64 0, AV.b true]) h)
                        (onB (decide (a = 15)) (Post (AV.tup [AV.i IntKind.i64 0, AV.i IntKind.i64 4, AV.i IntKind.i64 0, AV.b true]) h)
                          (onB (decide (a = 16)) (Post (AV.tup [AV.i IntKind.i64 0, AV.i IntKind.i64 3, AV.i IntKind.i64 0, AV.b true]) h)
                            (onB (decide (a = 17)) (Post (AV.tup [AV.i IntKind.i64 0, AV.i IntKind.i64 16777215, AV.i IntKind.i64 0, AV.b true]) h)
                              (onB (decide (a = 18)) (Post (AV.tup [AV.i IntKind.i64 64, AV.i IntKind.i64 64000, AV.i IntKind.i64 1024, AV.b true]) h)
                                (Post (AV.tup [AV.i IntKind.i64 0, AV.i IntKind.i64 0, AV.i IntKind.i64 0, AV.b false]) h))))))
                      (onB (decide (a = 13))
                        (onB (decide (a = 13)) (Post (AV.tup [AV.i IntKind.i64 0, AV.i IntKind.i64 1073741824, AV.i IntKind.i64 0, AV.b true]) h)
                          (onB (decide (a = 15)) (Post (AV.tup [AV.i IntKind.i64 0, AV.i IntKind.i64 4, AV.i IntKind.i64 0, AV.b true]) h)
                            (onB (decide (a = 16)) (Post (AV.tup [AV.i IntKind.i64 0, AV.i IntKind.i64 3, AV.i IntKind.i64 0, AV.b true]) h)
                              (onB (decide (a = 17)) (Post (AV.tup [AV.i IntKind.i64 0, AV.i IntKind.i64 16777215, AV.i IntKind.i64 0, AV.b true]) h)
                                (onB (decide (a = 18)) (Post (AV.tup [AV.i IntKind.i64 64, AV.i IntKind.i64 64000, AV.i IntKind.i64 1024, AV.b true]) h)
                                  (Post (AV.tup [AV.i IntKind.i64 0, AV.i IntKind.i64 0, AV.i IntKind.i64 0, AV.b false]) h))))))
                        (onB (decide (a = 14)) (Post (AV.tup [AV.i IntKind.i64 0, AV.i IntKind.i64 1073741824, AV.i IntKind.i64 0, AV.b true]) h)
                          (onB (decide (a = 15)) (Post (AV.tup [AV.i IntKind.i64 0, AV.i IntKind.i64 4, AV.i IntKind.i64 0, AV.b true]) h)
                            (onB (decide (a = 16)) (Post (AV.tup [AV.i IntKind.i64 0, AV.i IntKind.i64 3, AV.i IntKind.i64 0, AV.b true]) h)
                              (onB (decide (a = 17)) (Post (AV.tup [AV.i IntKind.i64 0, AV.i IntKind.i64 16777215, AV.i IntKind.i64 0, AV.b true]) h)
                                (onB (decide (a = 18)) (Post (AV.tup [AV.i IntKind.i64 64, AV.i IntKind.i64 64000, AV.i IntKind.i64 1024, AV.b true]) h)
                                  (Post (AV.tup [AV.i IntKind.i64 0, AV.i IntKind.i64 0, AV.i IntKind.i64 0, AV.b false]) h)))))))))))
              (onB (decide (a = 7)) (Post (AV.tup [AV.i IntKind.i64 0, AV.i IntKind.i64 1099511627776, AV.i IntKind.i64 0, AV.b true]) h)
                (onB (decide (a = 9)) (Post (AV.tup [AV.i IntKind.i64 0, AV.i IntKind.i64 1048576, AV.i IntKind.i64 0, AV.b true]) h)
                  (onB (decide (a = 10)) (Post (AV.tup [AV.i IntKind.i64 0, AV.i IntKind.i64 1048576, AV.i IntKind.i64 1, AV.b true]) h)
                    (onB (decide (a = 12))
                      (onB (decide (a = 12)) (Post (AV.tup [AV.i IntKind.i64 0, AV.i IntKind.i64 1073741824, AV.i IntKind.i64 0, AV.b true]) h)
                        (onB (decide (a = 15)) (Post (AV.tup [AV.i IntKind.i64 0, AV.i IntKind.i64 4, AV.i IntKind.i64 0, AV.b true]) h)
                          (onB (decide (a = 16)) (Post (AV.tup [AV.i IntKind.i64 0, AV.i IntKind.i64 3, AV.i IntKind.i64 0, AV.b true]) h)
                            (onB (decide (a = 17)) (Post (AV.tup [AV.i IntKind.i64 0, AV.i IntKind.i64 16777215, AV.i IntKind.i64 0, AV.b true]) h)
                              (onB (decide (a = 18)) (Post (AV.tup [AV.i IntKind.i64 64, AV.i IntKind.i64 64000, AV.i IntKind.i64 1024, AV.b true]) h)
                                (Post (AV.tup [AV.i IntKind.i64 0, AV.i IntKind.i64 0, AV.i IntKind.i64 0, AV.b false]) h))))))
                      (onB (decide (a = 13))
                        (onB (decide (a = 13)) (Post (AV.tup [AV.i IntKind.i64 0, AV.i IntKind.i64 1073741824, AV.i IntKind.i64 0, AV.b true]) h)
                          (onB (decide (a = 15)) (Post (AV.tup [AV.i IntKind.i64 0, AV.i IntKind.i64 4, AV.i IntKind.i64 0, AV.b true]) h)
                            (onB (decide (a = 16)) (Post (AV.tup [AV.i IntKind.i64 0, AV.i IntKind.i64 3, AV.i IntKind.i64 0, AV.b true]) h)
                              (onB (decide (a = 17)) (Post (AV.tup [AV.i IntKind.i64 0, AV.i IntKind.i64 16777215, AV.i IntKind.i64 0, AV.b true]) h)
                                (onB (decide (a = 18)) (Post (AV.tup [AV.i IntKind.i64 64, AV.i IntKind.i64 64000, AV.i IntKind.i64 1024, AV.b true]) h)
                                  (Post (AV.tup [AV.i IntKind.i64 0, AV.i IntKind.i64 0, AV.i IntKind.i64 0, AV.b false]) h))))))
                        (onB (decide (a = 14)) (Post (AV.tup [AV.i IntKind.i64 0, AV.i IntKind.i64 1073741824, AV.i IntKind.i64 0, AV.b true]) h)
                          (onB (decide (a = 15)) (Post (AV.tup [AV.i IntKind.i64 0, AV.i IntKind.i64 4, AV.i IntKind.i64 0, AV.b true]) h)
                            (onB (decide (a = 16)) (Post (AV.tup [AV.i IntKind.i64 0, AV.i IntKind.i64 3, AV.i IntKind.i64 0, AV.b true]) h)
                              (onB (decide (a = 17)) (Post (AV.tup [AV.i IntKind.i64 0, AV.i IntKind.i64 16777215, AV.i IntKind.i64 0, AV.b true]) h)
                                (onB (decide (a = 18)) (Post (AV.tup [AV.i IntKind.i64 64, AV.i IntKind.i64 64000, AV.i IntKind.i64 1024, AV.b true]) h)
                                  (Post (AV.tup [AV.i IntKind.i64 0, AV.i IntKind.i64 0, AV.i IntKind.i64 0, AV.b false]) h)))))))))))))
          (onB (decide (a = 6))
            (onB (decide (a = 6)) (Post (AV.tup [AV.i IntKind.i64 (-1), AV.i IntKind.i64 1099511627776, AV.i IntKind.i64 (-1), AV.b true]) h)
              (onB (decide (a = 5))
                (onB (decide (a = 5)) (Post (AV.tup [AV.i IntKind.i64 0, AV.i IntKind.i64 1099511627776, AV.i IntKind.i64 0, AV.b true]) h)
                  (onB (decide (a = 9)) (Post (AV.tup [AV.i IntKind.i64 0, AV.i IntKind.i64 1048576, AV.i IntKind.i64 0, AV.b true]) h)
                    (onB (decide (a = 10)) (Post (AV.tup [AV.i IntKind.i64 0, AV.i IntKind.i64 1048576, AV.i IntKind.i64 1, AV.b true]) h)
                      (onB (decide (a = 12))
                        (onB (decide (a = 12)) (Post (AV.tup [AV.i IntKind.i64 0, AV.i IntKind.i64 1073741824, AV.i IntKind.i64 0, AV.b true]) h)
                          (onB (decide (a = 15)) (Post (AV.tup [AV.i IntKind.i64 0, AV.i IntKind.i64 4, AV.i IntKind.i64 0, AV.b true]) h)
                            (onB (decide (a = 16)) (Post (AV.tup [AV.i IntKind.i64 0, AV.i IntKind.i64 3, AV.i IntKind.i64 0, AV.b true]) h)
                              (onB (decide (a = 17)) (Post (AV.tup [AV.i IntKind.i64 0, AV.i IntKind.i64 16777215, AV.i IntKind.i64 0, AV.b true]) h)
                                (onB (decide (a = 18)) (Post (AV.tup [AV.i IntKind.i64 64, AV.i IntKind.i64 64000, AV.i IntKind.i64 1024, AV.b true]) h)
                                  (Post (AV.tup [AV.i IntKind.i64 0, AV.i IntKind.i64 0, AV.i IntKind.i64 0, AV.b false]) h))))))
                        (onB (decide (a = 13))
                          (onB (decide (a = 13)) (Post (AV.tup [AV.i IntKind.i64 0, AV.i IntKind.i64 1073741824, AV.i IntKind.i64 0, AV.b true]) h)
                            (onB (decide (a = 15)) (Post (AV.tup [AV.i IntKind.i64 0, AV.i IntKind.i64 4, AV.i IntKind.i64 0, AV.b true]) h)
                              (onB (decide (a = 16)) (Post (AV.tup [AV.i IntKind.i64 0, AV.i IntKind.i64 3, AV.i IntKind.i64 0, AV.b true]) h)
                                (onB (decide (a = 17)) (Post (AV.tup [AV.i IntKind.i64 0, AV.i IntKind.i64 16777215, AV.i IntKind.i64 0, AV.b true]) h)
                                  (onB (decide (a = 18)) (Post (AV.tup [AV.i IntKind.i64 64, AV.i IntKind.i64 64000, AV.i IntKind.i64 1024, AV.b true]) h)
                                    (Post (AV.tup [AV.i IntKind.i64 0, AV.i IntKind.i64 0, AV.i IntKind.i64 0, AV.b false]) h))))))
                          (onB (decide (a = 14)) (Post (AV.tup [AV.i IntKind.i64 0, AV.i IntKind.i64 1073741824, AV.i IntKind.i64 0, AV.b true]) h)
                            (onB (decide (a = 15)) (Post (AV.tup [AV.i IntKind.i64 0, AV.i IntKind.i64 4, AV.i IntKind.i64 0, AV.b true]) h)
                              (onB (decide (a = 16)) (Post (AV.tup [AV.i IntKind.i64 0, AV.i IntKind.i64 3, AV.i IntKind.i64 0, AV.b true]) h)
                                (onB (decide (a = 17)) (Post (AV.tup [AV.i IntKind.i64 0, AV.i IntKind.i64 16777215, AV.i IntKind.i64 0, AV.b true]) h)
                                  (onB (decide (a = 18)) (Post (AV.tup [AV.i IntKind.i64 64, AV.i IntKind.i64 64000, AV.i IntKind.i64 1024, AV.b true]) h)
                                    (Post (AV.tup [AV.i IntKind.i64 0, AV.i IntKind.i64 0, AV.i IntKind.i64 0, AV.b false]) h)))))))))))
                (onB (decide (a = 7)) (Post (AV.tup [AV.i IntKind.i64 0, AV.i IntKind.i64 1099511627776, AV.i IntKind.i64 0, AV.b true]) h)
                  (onB (decide (a = 9)) (Post (AV.tup [AV.i IntKind.i64 0, AV.i IntKind.i64 1048576, AV.i IntKind.i64 0, AV.b true]) h)
                    (onB (decide (a = 10)) (Post (AV.tup [AV.i IntKind.i64 0, AV.i IntKind.i64 1048576, AV.i IntKind.i64 1, AV.b true]) h)
                      (onB (decide (a = 12))
                        (onB (decide (a = 12)) (Post (AV.tup [AV.i IntKind.i64 0, AV.i IntKind.i64 1073741824, AV.i IntKind.i64 0, AV.b true]) h)
                          (onB (decide (a = 15)) (Post (AV.tup [AV.i IntKind.i64 0, AV.i IntKind.i64 4, AV.i IntKind.i64 0, AV.b true]) h)
                            (onB (decide (a = 16)) (Post (AV.tup [AV.i IntKind.i64 0, AV.i IntKind.i64 3, AV.i IntKind.i64 0, AV.b true]) h)
                              (onB (decide (a = 17)) (Post (AV.tup [AV.i IntKind.i64 0, AV.i IntKind.i64 16777215, AV.i IntKind.i64 0, AV.b true]) h)
                                (onB (decide (a = 18)) (Post (AV.tup [AV.i IntKind.i64 64, AV.i IntKind.i64 64000, AV.i IntKind.i64 1024, AV.b true]) h)
                                  (Post (AV.tup [AV.i IntKind.i64 0, AV.i IntKind.i64 0, AV.i IntKind.i64 0, AV.b false]) h))))))
                        (onB (decide (a = 13))
                          (onB (decide (a = 13)) (Post (AV.tup [AV.i IntKind.i64 0, AV.i IntKind.i64 1073741824, AV.i IntKind.i64 0, AV.b true]) h)
                            (onB (decide (a = 15)) (Post (AV.tup [AV.i IntKind.i64 0, AV.i IntKind.i64 4, AV.i IntKind.i64 0, AV.b true]) h)
                              (onB (decide (a = 16)) (Post (AV.tup [AV.i IntKind.i64 0, AV.i IntKind.i64 3, AV.i IntKind.i64 0, AV.b true]) h)
                                (onB (decide (a = 17)) (Post (AV.tup [AV.i IntKind.i64 0, AV.i IntKind.i64 16777215, AV.i IntKind.i64 0, AV.b true]) h)
                                  (onB (decide (a = 18)) (Post (AV.tup [AV.i IntKind.i64 64, AV.i IntKind.i64 64000, AV.i IntKind.i64 1024, AV.b true]) h)
                                    (Post (AV.tup [AV.i IntKind.i64 0, AV.i IntKind.i64 0, AV.i IntKind.i64 0, AV.b false]) h))))))
                          (onB (decide (a = 14)) (Post (AV.tup [AV.i IntKind.i64 0, AV.i IntKind.i64 1073741824, AV.i IntKind.i64 0, AV.b true]) h)
                            (onB (decide (a = 15)) (Post (AV.tup [AV.i IntKind.i64 0, AV.i IntKind.i64 4, AV.i IntKind.i64 0, AV.b true]) h)
                              (onB (decide (a = 16)) (Post (AV.tup [AV.i IntKind.i64 0, AV.i IntKind.i64 3, AV.i IntKind.i64 0, AV.b true]) h)
                                (onB (decide (a = 17)) (Post (AV.tup [AV.i IntKind.i64 0, AV.i IntKind.i64 16777215, AV.i IntKind.i64 0, AV.b true]) h)
                                  (onB (decide (a = 18)) (Post (AV.tup [AV.i IntKind.i64 64, AV.i IntKind.i64 64000, AV.i IntKind.i64 1024, AV.b true]) h)
                                    (Post (AV.tup [AV.i IntKind.i64 0, AV.i IntKind.i64 0, AV.i IntKind.i64 0, AV.b false]) h)))))))))))))
            (onB (decide (a = 8))
              (onB (decide (a = 8)) (Post (AV.tup [AV.i IntKind.i64 (-1), AV.i IntKind.i64 1099511627776, AV.i IntKind.i64 (-1), AV.b true]) h)
                (onB (decide (a = 5))
                  (onB (decide (a = 5)) (Post (AV.tup [AV.i IntKind.i64 0, AV.i IntKind.i64 1099511627776, AV.i IntKind.i64 0, AV.b true]) h)
                    (onB (decide (a = 9)) (Post (AV.tup [AV.i IntKind.i64 0, AV.i IntKind.i64 1048576, AV.i IntKind.i64 0, AV.b true]) h)
                      (onB (decide (a = 10)) (Post (AV.tup [AV.i IntKind.i64 0, AV.i IntKind.i64 1048576, AV.i IntKind.i64 1, AV.b true]) h)
                        (onB (decide (a = 12))
                          (onB (decide (a = 12)) (Post (AV.tup [AV.i IntKind.i64 0, AV.i IntKind.i64 1073741824, AV.i IntKind.i64 0, AV.b true]) h)
                            (onB (decide (a = 15)) (Post (AV.tup [AV.i IntKind.i64 0, AV.i IntKind.i64 4, AV.i IntKind.i64 0, AV.b true]) h)
                              (onB (decide (a = 16)) (Post (AV.tup [AV.i IntKind.i64 0, AV.i IntKind.i64 3, AV.i IntKind.i64 0, AV.b true]) h)
                                (onB (decide (a = 17)) (Post (AV.tup [AV.i IntKind.i64 0, AV.i IntKind.i64 16777215, AV.i IntKind.i64 0, AV.b true]) h)
                                  (onB (decide (a = 18)) (Post (AV.tup [AV.i IntKind.i64 64, AV.i IntKind.i64 64000, AV.i IntKind.i64 1024, AV.b true]) h)
                                    (Post (AV.tup [AV.i IntKind.i64 0, AV.i IntKind.i64 0, AV.i IntKind.i64 0, AV.b false]) h))))))
                          (onB (decide (a = 13))
                            (onB (decide (a = 13)) (Post (AV.tup [AV.i IntKind.i64 0, AV.i IntKind.i64 1073741824, AV.i IntKind.i64 0, AV.b true]) h)
                              (onB (decide (a = 15)) (Post (AV.tup [AV.i IntKind.i64 0, AV.i IntKind.i64 4, AV.i IntKind.i64 0, AV.b true]) h)
                                (onB (decide (a = 16)) (Post (AV.tup [AV.i IntKind.i64 0, AV.i IntKind.i64 3, AV.i IntKind.i64 0, AV.b true]) h)
                                  (onB (decide (a = 17)) (Post (AV.tup [AV.i IntKind.i64 0, AV.i IntKind.i64 16777215, AV.i IntKind.i64 0, AV.b true]) h)
                                    (onB (decide (a = 18)) (Post (AV.tup [AV.i IntKind.i64 64, AV.i IntKind.i64 64000, AV.i IntKind.i64 1024, AV.b true]) h)
                                      (Post (AV.tup [AV.i IntKind.i64 0, AV.i IntKind.i64 0, AV.i IntKind.i64 0, AV.b false]) h))))))
                            (onB (decide (a = 14)) (Post (AV.tup [AV.i IntKind.i64 0, AV.i IntKind.i64 1073741824, AV.i IntKind.i64 0, AV.b true]) h)
                              (onB (decide (a = 15)) (Post (AV.tup [AV.i IntKind.i64 0, AV.i IntKind.i64 4, AV.i IntKind.i64 0, AV.b true]) h)
                                (onB (decide (a = 16)) (Post (AV.tup [AV.i IntKind.i64 0, AV.i IntKind.i64 3, AV.i IntKind.i64 0, AV.b true]) h)
                                  (onB (decide (a = 17)) (Post (AV.tup [AV.i IntKind.i64 0, AV.i IntKind.i64 16777215, AV.i IntKind.i64 0, AV.b true]) h)
                                    (onB (decide (a = 18)) (Post (AV.tup [AV.i IntKind.i64 64, AV.i IntKind.i64 64000, AV.i IntKind.i64 1024, AV.b true]) h)
                                      (Post (AV.tup [AV.i IntKind.i64 0, AV.i IntKind.i64 0, AV.i IntKind.i64 0, AV.b false]) h)))))))))))
                  (onB (decide (a = 7)) (Post (AV.tup [AV.i IntKind.i64 0, AV.i IntKind.i64 1099511627776, AV.i IntKind.i64 0, AV.b true]) h)
                    (onB (decide (a = 9)) (Post (AV.tup [AV.i IntKind.i64 0, AV.i IntKind.i64 1048576, AV.i IntKind.i64 0, AV.b true]) h)
                      (onB (decide (a = 10)) (Post (AV.tup [AV.i IntKind.i64 0, AV.i IntKind.i64 1048576, AV.i IntKind.i64 1, AV.b true]) h)
                        (onB (decide (a = 12))
                          (onB (decide (a = 12)) (Post (AV.tup [AV.i IntKind.i64 0, AV.i IntKind.i64 1073741824, AV.i IntKind.i64 0, AV.b true]) h)
                            (onB (decide (a = 15)) (Post (AV.tup [AV.i IntKind.i64 0, AV.i IntKind.i64 4, AV.i IntKind.i64 0, AV.b true]) h)
                              (onB (decide (a = 16)) (Post (AV.tup [AV.i IntKind.i64 0, AV.i IntKind.i64 3, AV.i IntKind.i64 0, AV.b true]) h)
                                (onB (decide (a = 17)) (Post (AV.tup [AV.i IntKind.i64 0, AV.i IntKind.i64 16777215, AV.i IntKind.i64 0, AV.b true]) h)
                                  (onB (decide (a = 18)) (Post (AV.tup [AV.i IntKind.i64 64, AV.i IntKind.i64 64000, AV.i IntKind.i64 1024, AV.b true]) h)
                                    (Post (AV.tup [AV.i IntKind.i64 0, AV.i IntKind.i64 0, AV.i IntKind.i64 0, AV.b false]) h))))))
                          (onB (decide (a = 13))
                            (onB (decide (a = 13)) (Post (AV.tup [AV.i IntKind.i64 0, AV.i IntKind.i64 1073741824, AV.i IntKind.i64 0, AV.b true]) h)
                              (onB (decide (a = 15)) (Post (AV.tup [AV.i IntKind.i64 0, AV.i IntKind.i64 4, AV.i IntKind.i64 0, AV.b true]) h)
                                (onB (decide (a = 16)) (Post (AV.tup [AV.i IntKind.i64 0, AV.i IntKind.i64 3, AV.i IntKind.i64 0, AV.b true]) h)
                                  (onB (decide (a = 17)) (Post (AV.tup [AV.i IntKind.i64 0, AV.i IntKind.i64 16777215, AV.i IntKind.i64 0, AV.b true]) h)
                                    (onB (decide (a = 18)) (Post (AV.tup [AV.i IntKind.i64 64, AV.i IntKind.i64 64000, AV.i IntKind.i64 1024, AV.b true]) h)
                                      (Post (AV.tup [AV.i IntKind.i64 0, AV.i IntKind.i64 0, AV.i IntKind.i64 0, AV.b false]) h))))))
                            (onB (decide (a = 14)) (Post (AV.tup [AV.i IntKind.i64 0, AV.i IntKind.i64 1073741824, AV.i IntKind.i64 0, AV.b true]) h)
                              (onB (decide (a = 15)) (Post (AV.tup [AV.i IntKind.i64 0, AV.i IntKind.i64 4, AV.i IntKind.i64 0, AV.b true]) h)
                                (onB (decide (a = 16)) (Post (AV.tup [AV.i IntKind.i64 0, AV.i IntKind.i64 3, AV.i IntKind.i64 0, AV.b true]) h)
                                  (onB (decide (a = 17)) (Post (AV.tup [AV.i IntKind.i64 0, AV.i IntKind.i64 16777215, AV.i IntKind.i64 0, AV.b true]) h)
                                    (onB (decide (a = 18)) (Post (AV.tup [AV.i IntKind.i64 64, AV.i IntKind.i64 64000, AV.i IntKind.i64 1024, AV.b true]) h)
                                      (Post (AV.tup [AV.i IntKind.i64 0, AV.i IntKind.i64 0, AV.i IntKind.i64 0, AV.b false]) h)))))))))))))
              (onB (decide (a = 11)) (Post (AV.tup [AV.i IntKind.i64 (-1), AV.i IntKind.i64 1099511627776, AV.i IntKind.i64 (-1), AV.b true]) h)
                (onB (decide (a = 5))
                  (onB (decide (a = 5)) (Post (AV.tup [AV.i IntKind.i64 0, AV.i IntKind.i64 1099511627776, AV.i IntKind.i64 0, AV.b true]) h)
                    (onB (decide (a = 9)) (Post (AV.tup [AV.i IntKind.i64 0, AV.i IntKind.i64 1048576, AV.i IntKind.i64 0, AV.b true]) h)
                      (onB (decide (a = 10)) (Post (AV.tup [AV.i IntKind.i64 0, AV.i IntKind.i64 1048576, AV.i IntKind.i64 1, AV.b true]) h)
                        (onB (decide (a = 12))
                          (onB (decide (a = 12)) (Post (AV.tup [AV.i IntKind.i64 0, AV.i IntKind.i64 1073741824, AV.i IntKind.i64 0, AV.b true]) h)
                            (onB (decide (a = 15)) (Post (AV.tup [AV.i IntKind.i64 0, AV.i IntKind.i64 4, AV.i IntKind.i64 0, AV.b true]) h)
                              (onB (decide (a = 16)) (Post (AV.tup [AV.i IntKind.i64 0, AV.i IntKind.i64 3, AV.i IntKind.i64 0, AV.b true]) h)
                                (onB (decide (a = 17)) (Post (AV.tup [AV.i IntKind.i64 0, AV.i IntKind.i64 16777215, AV.i IntKind.i64 0, AV.b true]) h)
                                  (onB (decide (a = 18)) (Post (AV.tup [AV.i IntKind.i64 64, AV.i IntKind.i64 64000, AV.i IntKind.i64 1024, AV.b true]) h)
                                    (Post (AV.tup [AV.i IntKind.i64 0, AV.i IntKind.i64 0, AV.i IntKind.i64 0, AV.b false]) h))))))
                          (onB (decide (a = 13))
                            (onB (decide (a = 13)) (Post (AV.tup [AV.i IntKind.i64 0, AV.i IntKind.i64 1073741824, AV.i IntKind.i64 0, AV.b true]) h)
                              (onB (decide (a = 15)) (Post (AV.tup [AV.i IntKind.i64 0, AV.i IntKind.i64 4, AV.i IntKind.i64 0, AV.b true]) h)
                                (onB (decide (a = 16)) (Post (AV.tup [AV.i IntKind.i64 0, AV.i IntKind.i64 3, AV.i IntKind.i64 0, AV.b true]) h)
                                  (onB (decide (a = 17)) (Post (AV.tup [AV.i IntKind.i64 0, AV.i IntKind.i64 16777215, AV.i IntKind.i64 0, AV.b true]) h)
                                    (onB (decide (a = 18)) (Post (AV.tup [AV.i IntKind.i64 64, AV.i IntKind.i64 64000, AV.i IntKind.i64 1024, AV.b true]) h)
                                      (Post (AV.tup [AV.i IntKind.i64 0, AV.i IntKind.i64 0, AV.i IntKind.i64 0, AV.b false]) h))))))
                            (onB (decide (a = 14)) (Post (AV.tup [AV.i IntKind.i64 0, AV.i IntKind.i64 1073741824, AV.i IntKind.i64 0, AV.b true]) h)
                              (onB (decide (a = 15)) (Post (AV.tup [AV.i IntKind.i64 0, AV.i IntKind.i64 4, AV.i IntKind.i64 0, AV.b true]) h)
                                (onB (decide (a = 16)) (Post (AV.tup [AV.i IntKind.i64 0, AV.i IntKind.i64 3, AV.i IntKind.i64 0, AV.b true]) h)
                                  (onB (decide (a = 17)) (Post (AV.tup [AV.i IntKind.i64 0, AV.i IntKind.i64 16777215, AV.i IntKind.i64 0, AV.b true]) h)
                                    (onB (decide (a = 18)) (Post (AV.tup [AV.i IntKind.i64 64, AV.i IntKind.i64 64000, AV.i IntKind.i64 1024, AV.b true]) h)
                                      (Post (AV.tup [AV.i IntKind.i64 0, AV.i IntKind.i64 0, AV.i IntKind.i64 0, AV.b false]) h)))))))))))
                  (onB (decide (a = 7)) (Post (AV.tup [AV.i IntKind.i64 0, AV.i IntKind.i64 1099511627776, AV.i IntKind.i64 0, AV.b true]) h)
                    (onB (decide (a = 9)) (Post (AV.tup [AV.i IntKind.i64 0, AV.i IntKind.i64 1048576, AV.i IntKind.i64 0, AV.b true]) h)
                      (onB (decide (a = 10)) (Post (AV.tup [AV.i IntKind.i64 0, AV.i IntKind.i64 1048576, AV.i IntKind.i64 1, AV.b true]) h)
                        (onB (decide (a = 12))
                          (onB (decide (a = 12)) (Post (AV.tup [AV.i IntKind.i64 0, AV.i IntKind.i64 1073741824, AV.i IntKind.i64 0, AV.b true]) h)
                            (onB (decide (a = 15)) (Post (AV.tup [AV.i IntKind.i64 0, AV.i IntKind.i64 4, AV.i IntKind.i64 0, AV.b true]) h)
                              (onB (decide (a = 16)) (Post (AV.tup [AV.i IntKind.i64 0, AV.i IntKind.i64 3, AV.i IntKind.i64 0, AV.b true]) h)
                                (onB (decide (a = 17)) (Post (AV.tup [AV.i IntKind.i64 0, AV.i IntKind.i64 16777215, AV.i IntKind.i64 0, AV.b true]) h)
                                  (onB (decide (a = 18)) (Post (AV.tup [AV.i IntKind.i64 64, AV.i IntKind.i64 64000, AV.i IntKind.i64 1024, AV.b true]) h)
                                    (Post (AV.tup [AV.i IntKind.i64 0, AV.i IntKind.i64 0, AV.i IntKind.i64 0, AV.b false]) h))))))
                          (onB (decide (a = 13))
                            (onB (decide (a = 13)) (Post (AV.tup [AV.i IntKind.i64 0, AV.i IntKind.i64 1073741824, AV.i IntKind.i64 0, AV.b true]) h)
                              (onB (decide (a = 15)) (Post (AV.tup [AV.i IntKind.i64 0, AV.i IntKind.i64 4, AV.i IntKind.i64 0, AV.b true]) h)
                                (onB (decide (a = 16)) (Post (AV.tup [AV.i IntKind.i64 0, AV.i IntKind.i64 3, AV.i IntKind.i64 0, AV.b true]) h)
                                  (onB (decide (a = 17)) (Post (AV.tup [AV.i IntKind.i64 0, AV.i IntKind.i64 16777215, AV.i IntKind.i64 0, AV.b true]) h)
                                    (onB (decide (a = 18)) (Post (AV.tup [AV.i IntKind.i64 64, AV.i IntKind.i64 64000, AV.i IntKind.i64 1024, AV.b true]) h)
                                      (Post (AV.tup [AV.i IntKind.i64 0, AV.i IntKind.i64 0, AV.i IntKind.i64 0, AV.b false]) h))))))
                            (onB (decide (a = 14)) (Post (AV.tup [AV.i IntKind.i64 0, AV.i IntKind.i64 1073741824, AV.i IntKind.i64 0, AV.b true]) h)
                              (onB (decide (a = 15)) (Post (AV.tup [AV.i IntKind.i64 0, AV.i IntKind.i64 4, AV.i IntKind.i64 0, AV.b true]) h)
                                (onB (decide (a = 16)) (Post (AV.tup [AV.i IntKind.i64 0, AV.i IntKind.i64 3, AV.i IntKind.i64 0, AV.b true]) h)
                                  (onB (decide (a = 17)) (Post (AV.tup [AV.i IntKind.i64 0, AV.i IntKind.i64 16777215, AV.i IntKind.i64 0, AV.b true]) h)
                                    (onB (decide (a = 18)) (Post (AV.tup [AV.i IntKind.i64 64, AV.i IntKind.i64 64000, AV.i IntKind.i64 1024, AV.b true]) h)
                                      (Post (AV.tup [AV.i IntKind.i64 0, AV.i IntKind.i64 0, AV.i IntKind.i64 0, AV.b false]) h)))))))))))))))))))) := by kernel_rfl
/- arras/prop.ruleOf -/
theorem vc104 (a : Int) (h : Hp) (Post : AV → Hp → Prop) : vcCall Try.prog [] 104 [(SV.ii .i64 a)] h Post = (
  ∀ (p0 : Nat),
  onB (decide (a = 0)) (Post (AV.agg [AV.i IntKind.i64 0, AV.i IntKind.i64 2, AV.i IntKind.i64 0, AV.b false]) h)
    (onB (decide (a = 1))
      (onB (decide (a = 1)) (Post (AV.agg [AV.i IntKind.i64 0, AV.i IntKind.i64 1, AV.i IntKind.i64 0, AV.b false]) h)
        (onB (decide (a = 3))
          (onB (decide (a = 3)) (Post (AV.agg [AV.i IntKind.i64 (-1), AV.i IntKind.i64 1099511627776, AV.i IntKind.i64 (-1), AV.b false]) h)
            (onB (decide (a = 5))
              (onB (decide (a = 5)) (Post (AV.agg [AV.i IntKind.i64 0, AV.i IntKind.i64 1099511627776, AV.i IntKind.i64 0, AV.b false]) h)
                (onB (decide (a = 9)) (Post (AV.agg [AV.i IntKind.i64 0, AV.i IntKind.i64 1048576, AV.i IntKind.i64 0, AV.b false]) h)
                  (onB (decide (a = 10)) (Post (AV.agg [AV.i IntKind.i64 0, AV.i IntKind.i64 1048576, AV.i IntKind.i64 1, AV.b false]) h)
                    (onB (decide (a = 15)) (Post (AV.agg [AV.i IntKind.i64 0, AV.i IntKind.i64 4, AV.i IntKind.i64 0, AV.b false]) h)
                      (onB (decide (a = 16)) (Post (AV.agg [AV.i IntKind.i64 0, AV.i IntKind.i64 3, AV.i IntKind.i64 0, AV.b false]) h)
                        (onB (decide (a = 17)) (Post (AV.agg [AV.i IntKind.i64 0, AV.i IntKind.i64 16777215, AV.i IntKind.i64 0, AV.b true]) h)
                          (onB (decide (a = 18)) (Post (AV.agg [AV.i IntKind.i64 64, AV.i IntKind.i64 64000, AV.i IntKind.i64 1024, AV.b true]) h)
                            (Post (AV.agg [AV.i IntKind.i64 0, AV.i IntKind.i64 1073741824, AV.i IntKind.i64 0, AV.b false]) h))))))))
              (onB (decide (a = 7)) (Post (AV.agg [AV.i IntKind.i64 0, AV.i IntKind.i64 1099511627776, AV.i IntKind.i64 0, AV.b false]) h)
                (onB (decide (a = 9)) (Post (AV.agg [AV.i IntKind.i64 0, AV.i IntKind.i64 1048576, AV.i IntKind.i64 0, AV.b false]) h)
                  (onB (decide (a = 10)) (Post (AV.agg [AV.i IntKind.i64 0, AV.i IntKind.i64 1048576, AV.i IntKind.i64 1, AV.b false]) h)
                    (onB (decide (a = 15)) (Post (AV.agg [AV.i IntKind.i64 0, AV.i IntKind.i64 4, AV.i IntKind.i64 0, AV.b false]) h)
                      (onB (decide (a = 16)) (Post (AV.agg [AV.i IntKind.i64 0, AV.i IntKind.i64 3, AV.i IntKind.i64 0, AV.b false]) h)
                        (onB (decide (a = 17)) (Post (AV.agg [AV.i IntKind.i64 0, AV.i IntKind.i64 16777215, AV.i IntKind.i64 0, AV.b true]) h)
                          (onB (decide (a = 18)) (Post (AV.agg [AV.i IntKind.i64 64, AV.i IntKind.i64 64000, AV.i IntKind.i64 1024, AV.b true]) h)
                            (Post (AV.agg [AV.i IntKind.i64 0, AV.i IntKind.i64 1073741824, AV.i IntKind.i64 0, AV.b false]) h))))))))))
          (onB (decide (a = 4))
            (onB (decide (a = 4)) (Post (AV.agg [AV.i IntKind.i64 (-1), AV.i IntKind.i64 1099511627776, AV.i IntKind.i64 (-1), AV.b false]) h)
              (onB (decide (a = 5))
                (onB (decide (a = 5)) (Post (AV.agg [AV.i IntKind.i64 0, AV.i IntKind.i64 1099511627776, AV.i IntKind.i64 0, AV.b false]) h)
                  (onB (decide (a = 9)) (Post (AV.agg [AV.i IntKind.i64 0, AV.i IntKind.i64 1048576, AV.i IntKind.i64 0, AV.b false]) h)
                    (onB (decide (a = 10)) (Post (AV.agg [AV.i IntKind.i64 0, AV.i IntKind.i64 1048576, AV.i IntKind.i64 1, AV.b false]) h)
                      (onB (decide (a = 15)) (Post (AV.agg [AV.i IntKind.i64 0, AV.i IntKind.i64 4, AV.i IntKind.i64 0, AV.b false]) h)
                        (onB (decide (a = 16)) (Post (AV.agg [AV.i IntKind.i64 0, AV.i IntKind.i64 3, AV.i IntKind.i64 0, AV.b false]) h)
                          (onB (decide (a = 17)) (Post (AV.agg [AV.i IntKind.i64 0, AV.i IntKind.i64 16777215, AV.i IntKind.i64 0, AV.b true]) h)
                            (onB (decide (a = 18)) (Post (AV.agg [AV.i IntKind.i64 64, AV.i IntKind.i64 64000, AV.i IntKind.i64 1024, AV.b true]) h)
                              (Post (AV.agg [AV.i IntKind.i64 0, AV.i IntKind.i64 1073741824, AV.i IntKind.i64 0, AV.b false]) h))))))))
                (onB (decide (a = 7)) (Post (AV.agg [AV.i IntKind.i64 0, AV.i IntKind.i64 1099511627776, AV.i IntKind.i64 0, AV.b false]) h)
                  (onB (decide (a = 9)) (Post (AV.agg [AV.i IntKind.i64 0, AV.i IntKind.i64 1048576, AV.i IntKind.i64 0, AV.b false]) h)
                    (onB (decide (a = 10)) (Post (AV.agg [AV.i IntKind.i64 0, AV.i IntKind.i64 1048576, AV.i IntKind.i64 1, AV.b false]) h)
                      (onB (decide (a = 15)) (Post (AV.agg [AV.i IntKind.i64 0, AV.i IntKind.i64 4, AV.i IntKind.i64 0, AV.b false]) h)
                        (onB (decide (a = 16)) (Post (AV.agg [AV.i IntKind.i64 0, AV.i IntKind.i64 3, AV.i IntKind.i64 0, AV.b false]) h)
                          (onB (decide (a = 17)) (Post (AV.agg [AV.i IntKind.i64 0, AV.i IntKind.i64 16777215, AV.i IntKind.i64 0, AV.b true]) h)
                            (onB (decide (a = 18)) (Post (AV.agg [AV.i IntKind.i64 64, AV.i IntKind.i64 64000, AV.i IntKind.i64 1024, AV.b true]) h)
                              (Post (AV.agg [AV.i IntKind.i64 0, AV.i IntKind.i64 1073741824, AV.i IntKind.i64 0, AV.b false]) h))))))))))
            (onB (decide (a = 6))
              (onB (decide (a = 6)) (Post (AV.agg [AV.i IntKind.i64 (-1), AV.i IntKind.i64 1099511627776, AV.i IntKind.i64 (-1), AV.b false]) h)
                (onB (decide (a = 5))
                  (onB (decide (a = 5)) (Post (AV.agg [AV.i IntKind.i64 0, AV.i IntKind.i64 1099511627776, AV.i IntKind.i64 0, AV.b false]) h)
                    (onB (decide (a = 9)) (Post (AV.agg [AV.i IntKind.i64 0, AV.i IntKind.i64 1048576, AV.i IntKind.i64 0, AV.b false]) h)
                      (onB (decide (a = 10)) (Post (AV.agg [AV.i IntKind.i64 0, AV.i IntKind.i64 1048576, AV.i IntKind.i64 1, AV.b false]) h)
                        (onB (decide (a = 15)) (Post (AV.agg [AV.i IntKind.i64 0, AV.i IntKind.i64 4, AV.i IntKind.i64 0, AV.b false]) h)
                          (onB (decide (a = 16)) (Post (AV.agg [AV.i IntKind.i64 0, AV.i IntKind.i64 3, AV.i IntKind.i64 0, AV.b false]) h)
                            (onB (decide (a = 17)) (Post (AV.agg [AV.i IntKind.i64 0, AV.i IntKind.i64 16777215, AV.i IntKind.i64 0, AV.b true]) h)
                              (onB (decide (a = 18)) (Post (AV.agg [AV.i IntKind.i64 64, AV.i IntKind.i64 64000, AV.i IntKind.i64 1024, AV.b true]) h)
                                (Post (AV.agg [AV.i IntKind.i64 0, AV.i IntKind.i64 1073741824, AV.i IntKind.i64 0, AV.b false]) h))))))))
                  (onB (decide (a = 7)) (Post (AV.agg [AV.i IntKind.i64 0, AV.i IntKind.i64 1099511627776, AV.i IntKind.i64 0, AV.b false]) h)
                    (onB (decide (a = 9)) (Post (AV.agg [AV.i IntKind.i64 0, AV.i IntKind.i64 1048576, AV.i IntKind.i64 0, AV.b false]) h)
                      (onB (decide (a = 10)) (Post (AV.agg [AV.i IntKind.i64 0, AV.i IntKind.i64 1048576, AV.i IntKind.i64 1, AV.b false]) h)
                        (onB (decide (a = 15)) (Post (AV.agg [AV.i IntKind.i64 0, AV.i IntKind.i64 4, AV.i IntKind.i64 0, AV.b false]) h)
                          (onB (decide (a = 16)) (Post (AV.agg [AV.i IntKind.i64 0, AV.i IntKind.i64 3, AV.i IntKind.i64 0, AV.b false]) h)
                            (onB (decide (a = 17)) (Post (AV.agg [AV.i IntKind.i64 0, AV.i IntKind.i64 16777215, AV.i IntKind.i64 0, AV.b true]) h)
                              (onB (decide (a = 18)) (Post (AV.agg [AV.i IntKind.i64 64, AV.i IntKind.i64 64000, AV.i IntKind.i64 1024, AV.b true]) h)
                                (Post (AV.agg [AV.i IntKind.i64 0, AV.i IntKind.i64 1073741824, AV.i IntKind.i64 0, AV.b false]) h))))))))))
              (onB (decide (a = 8))
                (onB (decide (a = 8)) (Post (AV.agg [AV.i IntKind.i64 (-1), AV.i IntKind.i64 1099511627776, AV.i IntKind.i64 (-1), AV.b false]) h)
                  (onB (decide (a = 5))
                    (onB (decide (a = 5)) (Post (AV.agg [AV.i IntKind.i64 0, AV.i IntKind.i64 1099511627776, AV.i IntKind.i64 0, AV.b false]) h)
                      (onB (decide (a = 9)) (Post (AV.agg [AV.i IntKind.i64 0, AV.i IntKind.i64 1048576, AV.i IntKind.i64 0, AV.b false]) h)
                        (onB (decide (a = 10)) (Post (AV.agg [AV.i IntKind.i64 0, AV.i IntKind.i64 1048576, AV.i IntKind.i64 1, AV.b false]) h)
                          (onB (decide (a = 15)) (Post (AV.agg [AV.i IntKind.i64 0, AV.i IntKind.i64 4, AV.i IntKind.i64 0, AV.b false]) h)
                            (onB (decide (a = 16)) (Post (AV.agg [AV.i IntKind.i64 0, AV.i IntKind.i64 3, AV.i IntKind.i64 0, AV.b false]) h)
                              (onB (decide (a = 17)) (Post (AV.agg [AV.i IntKind.i64 0, AV.i IntKind.i64 16777215, AV.i IntKind.i64 0, AV.b true]) h)
                                (onB (decide (a = 18)) (Post (AV.agg [AV.i IntKind.i64 64, AV.i IntKind.i64 64000, AV.i IntKind.i64 1024, AV.b true]) h)
                                  (Post (AV.agg [AV.i IntKind.i64 0, AV.i IntKind.i64 1073741824, AV.i IntKind.i64 0, AV.b false]) h))))))))
                    (onB (decide (a = 7)) (Post (AV.agg [AV.i IntKind.i64 0, AV.i IntKind.i64 1099511627776, AV.i IntKind.i64 0, AV.b false]) h)
                      (onB (decide (a = 9)) (Post (AV.agg [AV.i IntKind.i64 0, AV.i IntKind.i64 1048576, AV.i IntKind.i64 0, AV.b false]) h)
                        (onB (decide (a = 10)) (Post (AV.agg [AV.i IntKind.i64 0, AV.i IntKind.i64 1048576, AV.i IntKind.i64 1, AV.b false]) h)
                          (onB (decide (a = 15)) (Post (AV.agg [AV.i IntKind.i64 0, AV.i IntKind.i64 4, AV.i IntKind.i64 0, AV.b false]) h)
                            (onB (decide (a = 16)) (Post (AV.agg [AV.i IntKind.i64 0, AV.i IntKind.i64 3, AV.i IntKind.i64 0, AV.b false]) h)
                              (onB (decide (a = 17)) (Post (AV.agg [AV.i IntKind.i64 0, AV.i IntKind.i64 16777215, AV.i IntKind.i64 0, AV.b true]) h)
                                (onB (decide (a = 18)) (Post (AV.agg [AV.i IntKind.i64 64, AV.i IntKind.i64 64000, AV.i IntKind.i64 1024, AV.b true]) h)
                                  (Post (AV.agg [AV.i IntKind.i64 0, AV.i IntKind.i64 1073741824, AV.i IntKind.i64 0, AV.b false]) h))))))))))
                (onB (decide (a = 11)) (Post (AV.agg [AV.i IntKind.i64 (-1), AV.i IntKind.i64 1099511627776, AV.i IntKind.i64 (-1), AV.b false]) h)
                  (onB (decide (a = 5))
                    (onB (decide (a = 5)) (Post (AV.agg [AV.i IntKind.i64 0, AV.i IntKind.i64 1099511627776, AV.i IntKind.i64 0, AV.b false]) h)
                      (onB (decide (a = 9)) (Post (AV.agg [AV.i IntKind.i64 0, AV.i IntKind.i64 1048576, AV.i IntKind.i64 0, AV.b false]) h)
                        (onB (decide (a = 10)) (Post (AV.agg [AV.i IntKind.i64 0, AV.i IntKind.i64 1048576, AV.i IntKind.i64 1, AV.b false]) h)
                          (onB (decide (a = 15)) (Post (AV.agg [AV.i IntKind.i64 0, AV.i IntKind.i64 4, AV.i IntKind.i64 0, AV.b false]) h)
                            (onB (decide (a = 16)) (Post (AV.agg [AV.i IntKind.i64 0, AV.i IntKind.i64 3, AV.i IntKind.i64 0, AV.b false]) h)
                              (onB (decide (a = 17)) (Post (AV.agg [AV.i IntKind.i64 0, AV.i IntKind.i64 16777215, AV.i IntKind.i64 0, AV.b true]) h)
                                (onB (decide (a = 18)) (Post (AV.agg [AV.i IntKind.i64 64, AV.i IntKind.i64 64000, AV.i IntKind.i64 1024, AV.b true]) h)
                                  (Post (AV.agg [AV.i IntKind.i64 0, AV.i IntKind.i64 1073741824, AV.i IntKind.i64 0, AV.b false]) h))))))))
                    (onB (decide (a = 7)) (Post (AV.agg [AV.i IntKind.i64 0, AV.i IntKind.i64 1099511627776, AV.i IntKind.i64 0, AV.b false]) h)
                      (onB (decide (a = 9)) (Post (AV.agg [AV.i IntKind.i64 0, AV.i IntKind.i64 1048576, AV.i IntKind.i64 0, AV.b false]) h)
                        (onB (decide (a = 10)) (Post (AV.agg [AV.i IntKind.i64 0, AV.i IntKind.i64 1048576, AV.i IntKind.i64 1, AV.b false]) h)
                          (onB (decide (a = 15)) (Post (AV.agg [AV.i IntKind.i64 0, AV.i IntKind.i64 4, AV.i IntKind.i64 0, AV.b false]) h)
                            (onB (decide (a = 16)) (Post (AV.agg [AV.i IntKind.i64 0, AV.i IntKind.i64 3, AV.i IntKind.i64 0, AV.b false]) h)
                              (onB (decide (a = 17)) (Post (AV.agg [AV.i IntKind.i64 0, AV.i IntKind.i64 16777215, AV.i IntKind.i64 0, AV.b true]) h)
                                (onB (decide (a = 18)) (Post (AV.agg [AV.i IntKind.i64 64, AV.i IntKind.i64 64000, AV.i IntKind.i64 1024, AV.b true]) h)
                                  (Post (AV.agg [AV.i IntKind.i64 0, AV.i IntKind.i64 1073741824, AV.i IntKind.i64 0, AV.b false]) h)))))))))))))))
      (onB (decide (a = 2)) (Post (AV.agg [AV.i IntKind.i64 0, AV.i IntKind.i64 1, AV.i IntKind.i64 0, AV.b false]) h)
        (onB (decide (a = 3))
          (onB (decide (a = 3)) (Post (AV.agg [AV.i IntKind.i64 (-1), AV.i IntKind.i64 1099511627776, AV.i IntKind.i64 (-1), AV.b false]) h)
            (onB (decide (a = 5))
              (onB (decide (a = 5)) (Post (AV.agg [AV.i IntKind.i64 0, AV.i IntKind.i64 1099511627776, AV.i IntKind.i64 0, AV.b false]) h)
                (onB (decide (a = 9)) (Post (AV.agg [AV.i IntKind.i64 0, AV.i IntKind.i64 1048576, AV.i IntKind.i64 0, AV.b false]) h)
                  (onB (decide (a = 10)) (Post (AV.agg [AV.i IntKind.i64 0, AV.i IntKind.i64 1048576, AV.i IntKind.i64 1, AV.b false]) h)
                    (onB (decide (a = 15)) (Post (AV.agg [AV.i IntKind.i64 0, AV.i IntKind.i64 4, AV.i IntKind.i64 0, AV.b false]) h)
                      (onB (decide (a = 16)) (Post (AV.agg [AV.i IntKind.i64 0, AV.i IntKind.i64 3, AV.i IntKind.i64 0, AV.b false]) h)
                        (onB (decide (a = 17)) (Post (AV.agg [AV.i IntKind.i64 0, AV.i IntKind.i64 16777215, AV.i IntKind.i64 0, AV.b true]) h)
                          (onB (decide (a = 18)) (Post (AV.agg [AV.i IntKind.i64 64, AV.i IntKind.i64 64000, AV.i IntKind.i64 1024, AV.b true]) h)
                            (Post (AV.agg [AV.i IntKind.i64 0, AV.i IntKind.i64 1073741824, AV.i IntKind.i64 0, AV.b false]) h))))))))
              (onB (decide (a = 7)) (Post (AV.agg [AV.i IntKind.i64 0, AV.i IntKind.i64 1099511627776, AV.i IntKind.i64 0, AV.b false]) h)
                (onB (decide (a = 9)) (Post (AV.agg [AV.i IntKind.i64 0, AV.i IntKind.i64 1048576, AV.i IntKind.i64 0, AV.b false]) h)
                  (onB (decide (a = 10)) (Post (AV.agg [AV.i IntKind.i64 0, AV.i IntKind.i64 1048576, AV.i IntKind.i64 1, AV.b false]) h)
                    (onB (decide (a = 15)) (Post (AV.agg [AV.i IntKind.i64 0, AV.i IntKind.i64 4, AV.i IntKind.i64 0, AV.b false]) h)
                      (onB (decide (a = 16)) (Post (AV.agg [AV.i IntKind.i64 0, AV.i IntKind.i64 3, AV.i IntKind.i64 0, AV.b false]) h)
                        (onB (decide (a = 17)) (Post (AV.agg [AV.i IntKind.i64 0, AV.i IntKind.i64 16777215, AV.i IntKind.i64 0, AV.b true]) h)
                          (onB (decide (a = 18)) (Post (AV.agg [AV.i IntKind.i64 64, AV.i IntKind.i64 64000, AV.i IntKind.i64 1024, AV.b true]) h)
                            (Post (AV.agg [AV.i IntKind.i64 0, AV.i IntKind.i64 1073741824, AV.i IntKind.i64 0, AV.b false]) h))))))))))
          (onB (decide (a = 4))
            (onB (decide (a = 4)) (Post (AV.agg [AV.i IntKind.i64 (-1), AV.i IntKind.i64 1099511627776, AV.i IntKind.i64 (-1), AV.b false]) h)
              (onB (decide (a = 5))
                (onB (decide (a = 5)) (Post (AV.agg [AV.i IntKind.i64 0, AV.i IntKind.i64 1099511627776, AV.i IntKind.i64 0, AV.b false]) h)
                  (onB (decide (a = 9)) (Post (AV.agg [AV.i IntKind.i64 0, AV.i IntKind.i64 1048576, AV.i IntKind.i64 0, AV.b false]) h)
                    (onB (decide (a = 10)) (Post (AV.agg [AV.i IntKind.i64 0, AV.i IntKind.i64 1048576, AV.i IntKind.i64 1, AV.b false]) h)
                      (onB (decide (a = 15)) (Post (AV.agg [AV.i IntKind.i64 0, AV.i IntKind.i64 4, AV.i IntKind.i64 0, AV.b false]) h)
                        (onB (decide (a = 16)) (Post (AV.agg [AV.i IntKind.i64 0, AV.i IntKind.i64 3, AV.i IntKind.i64 0, AV.b false]) h)
                          (onB (decide (a = 17)) (Post (AV.agg [AV.i IntKind.i64 0, AV.i IntKind.i64 16777215, AV.i IntKind.i64 0, AV.b true]) h)
                            (onB (decide (a = 18)) (Post (AV.agg [AV.i IntKind.i64 64, AV.i IntKind.i64 64000, AV.i IntKind.i64 1024, AV.b true]) h)
                              (Post (AV.agg [AV.i IntKind.i64 0, AV.i IntKind.i64 1073741824, AV.i IntKind.i64 0, AV.b false]) h))))))))
                (onB (decide (a = 7)) (Post (AV.agg [AV.i IntKind.i64 0, AV.i IntKind.i64 1099511627776, AV.i IntKind.i64 0, AV.b false]) h)
                  (onB (decide (a = 9)) (Post (AV.agg [AV.i IntKind.i64 0, AV.i IntKind.i64 1048576, AV.i IntKind.i64 0, AV.b false]) h)
                    (onB (decide (a = 10)) (Post (AV.agg [AV.i IntKind.i64 0, AV.i IntKind.i64 1048576, AV.i IntKind.i64 1, AV.b false]) h)
                      (onB (decide (a = 15)) (Post (AV.agg [AV.i IntKind.i64 0, AV.i IntKind.i64 4, AV.i IntKind.i64 0, AV.b false]) h)
                        (onB (decide (a = 16)) (Post (AV.agg [AV.i IntKind.i64 0, AV.i IntKind.i64 3, AV.i IntKind.i64 0, AV.b false]) h)
                          (onB (decide (a = 17)) (Post (AV.agg [AV.i IntKind.i64 0, AV.i IntKind.i64 16777215, AV.i IntKind.i64 0, AV.b true]) h)
                            (onB (decide (a = 18)) (Post (AV.agg [AV.i IntKind.i64 64, AV.i IntKind.i64 64000, AV.i IntKind.i64 1024, AV.b true]) h)
                              (Post (AV.agg [AV.i IntKind.i64 0, AV.i IntKind.i64 1073741824, AV.i IntKind.i64 0, AV.b false]) h))))))))))
            (onB (decide (a = 6))
              (onB (decide (a = 6)) (Post (AV.agg [AV.i IntKind.i64 (-1), AV.i IntKind.i64 1099511627776, AV.i IntKind.i64 (-1), AV.b false]) h)
                (onB (decide (a = 5))
                  (onB (decide (a = 5)) (Post (AV.agg [AV.i IntKind.i64 0, AV.i IntKind.i64 1099511627776, AV.i IntKind.i64 0, AV.b false]) h)
                    (onB (decide (a = 9)) (Post (AV.agg [AV.i IntKind.i64 0, AV.i IntKind.i64 1048576, AV.i IntKind.i64 0, AV.b false]) h)
                      (onB (decide (a = 10)) (Post (AV.agg [AV.i IntKind.i64 0, AV.i IntKind.i64 1048576, AV.i IntKind.i64 1, AV.b false]) h)
                        (onB (decide (a = 15)) (Post (AV.agg [AV.i IntKind.i64 0, AV.i IntKind.i64 4, AV.i IntKind.i64 0, AV.b false]) h)
                          (onB (decide (a = 16)) (Post (AV.agg [AV.i IntKind.i64 0, AV.i IntKind.i64 3, AV.i IntKind.i64 0, AV.b false]) h)
                            (onB (decide (a = 17)) (Post (AV.agg [AV.i IntKind.i64 0, AV.i IntKind.i64 16777215, AV.i IntKind.i64 0, AV.b true]) h)
                              (onB (decide (a = 18)) (Post (AV.agg [AV.i IntKind.i64 64, AV.i IntKind.i64 64000, AV.i IntKind.i64 1024, AV.b true]) h)
                                (Post (AV.agg [AV.i IntKind.i64 0, AV.i IntKind.i64 1073741824, AV.i IntKind.i64 0, AV.b false]) h))))))))
                  (onB (decide (a = 7)) (Post (AV.agg [AV.i IntKind.i64 0, AV.i IntKind.i64 1099511627776, AV.i IntKind.i64 0, AV.b false]) h)
                    (onB (decide (a = 9)) (Post (AV.agg [AV.i IntKind.i64 0, AV.i IntKind.i64 1048576, AV.i IntKind.i64 0, AV.b false]) h)
                      (onB (decide (a = 10)) (Post (AV.agg [AV.i IntKind.i64 0, AV.i IntKind.i64 1048576, AV.i IntKind.i64 1, AV.b false]) h)
                        (onB (decide (a = 15)) (Post (AV.agg [AV.i IntKind.i64 0, AV.i IntKind.i64 4, AV.i IntKind.i64 0, AV.b false]) h)
                          (onB (decide (a = 16)) (Post (AV.agg [AV.i IntKind.i64 0, AV.i IntKind.i64 3, AV.i IntKind.i64 0, AV.b false]) h)
                            (onB (decide (a = 17)) (Post (AV.agg [AV.i IntKind.i64 0, AV.i IntKind.i64 16777215, AV.i IntKind.i64 0, AV.b true]) h)
                              (onB (decide (a = 18)) (Post (AV.agg [AV.i IntKind.i64 64, AV.i IntKind.i64 64000, AV.i IntKind.i64 1024, AV.b true]) h)
                                (Post (AV.agg [AV.i IntKind.i64 0, AV.i IntKind.i64 1073741824, AV.i IntKind.i64 0, AV.b false]) h))))))))))
              (onB (decide (a = 8))
                (onB (decide (a = 8)) (Post (AV.agg [AV.i IntKind.i64 (-1), AV.i IntKind.i64 1099511627776, AV.i IntKind.i64 (-1), AV.b false]) h)
                  (onB (decide (a = 5))
                    (onB (decide (a = 5)) (Post (AV.agg [AV.i IntKind.i64 0, AV.i IntKind.i64 1099511627776, AV.i IntKind.i64 0, AV.b false]) h)
                      (onB (decide (a = 9)) (Post (AV.agg [AV.i IntKind.i64 0, AV.i IntKind.i64 1048576, AV.i IntKind.i64 0, AV.b false]) h)
                        (onB (decide (a = 10)) (Post (AV.agg [AV.i IntKind.i64 0, AV.i IntKind.i64 1048576, AV.i IntKind.i64 1, AV.b false]) h)
                          (onB (decide (a = 15)) (Post (AV.agg [AV.i IntKind.i64 0, AV.i IntKind.i64 4, AV.i IntKind.i64 0, AV.b false]) h)
                            (onB (decide (a = 16)) (Post (AV.agg [AV.i IntKind.i64 0, AV.i IntKind.i64 3, AV.i IntKind.i64 0, AV.b false]) h)
                              (onB (decide (a = 17)) (Post (AV.agg [AV.i IntKind.i64 0, AV.i IntKind.i64 16777215, AV.i IntKind.i64 0, AV.b true]) h)
                                (onB (decide (a = 18)) (Post (AV.agg [AV.i IntKind.i64 64, AV.i IntKind.i64 64000, AV.i IntKind.i64 1024, AV.b true]) h)
                                  (Post (AV.agg [AV.i IntKind.i64 0, AV.i IntKind.i64 1073741824, AV.i IntKind.i64 0, AV.b false]) h))))))))
                    (onB (decide (a = 7)) (Post (AV.agg [AV.i IntKind.i64 0, AV.i IntKind.i64 1099511627776, AV.i IntKind.i64 0, AV.b false]) h)
                      (onB (decide (a = 9)) (Post (AV.agg [AV.i IntKind.i64 0, AV.i IntKind.i64 1048576, AV.i IntKind.i64 0, AV.b false]) h)
                        (onB (decide (a = 10)) (Post (AV.agg [AV.i IntKind.i64 0, AV.i IntKind.i64 1048576, AV.i IntKind.i64 1, AV.b false]) h)
                          (onB (decide (a = 15)) (Post (AV.agg [AV.i IntKind.i64 0, AV.i IntKind.i64 4, AV.i IntKind.i64 0, AV.b false]) h)
                            (onB (decide (a = 16)) (Post (AV.agg [AV.i IntKind.i64 0, AV.i IntKind.i64 3, AV.i IntKind.i64 0, AV.b false]) h)
                              (onB (decide (a = 17)) (Post (AV.agg [AV.i IntKind.i64 0, AV.i IntKind.i64 16777215, AV.i IntKind.i64 0, AV.b true]) h)
                                (onB (decide (a = 18)) (Post (AV.agg [AV.i IntKind.i64 64, AV.i IntKind.i64 64000, AV.i IntKind.i64 1024, AV.b true]) h)
                                  (Post (AV.agg [AV.i IntKind.i64 0, AV.i IntKind.i64 1073741824, AV.i IntKind.i64 0, AV.b false]) h))))))))))
                (onB (decide (a = 11)) (Post (AV.agg [AV.i IntKind.i64 (-1), AV.i IntKind.i64 1099511627776, AV.i IntKind.i64 (-1), AV.b false]) h)
                  (onB (decide (a = 5))
                    (onB (decide (a = 5)) (Post (AV.agg [AV.i IntKind.i64 0, AV.i IntKind.i64 1099511627776, AV.i IntKind.i64 0, AV.b false]) h)
                      (onB (decide (a = 9)) (Post (AV.agg [AV.i IntKind.i64 0, AV.i IntKind.i64 1048576, AV.i IntKind.i64 0, AV.b false]) h)
                        (onB (decide (a = 10)) (Post (AV.agg [AV.i IntKind.i64 0, AV.i IntKind.i64 1048576, AV.i IntKind.i64 1, AV.b false]) h)
                          (onB (decide (a = 15)) (Post (AV.agg [AV.i IntKind.i64 0, AV.i IntKind.i64 4, AV.i IntKind.i64 0, AV.b false]) h)
                            (onB (decide (a = 16)) (Post (AV.agg [AV.i IntKind.i64 0, AV.i IntKind.i64 3, AV.i IntKind.i64 0, AV.b false]) h)
                              (onB (decide (a = 17)) (Post (AV.agg [AV.i IntKind.i64 0, AV.i IntKind.i64 16777215, AV.i IntKind.i64 0, AV.b true]) h)
                                (onB (decide (a = 18)) (Post (AV.agg [AV.i IntKind.i64 64, AV.i IntKind.i64 64000, AV.i IntKind.i64 1024, AV.b true]) h)
                                  (Post (AV.agg [AV.i IntKind.i64 0, AV.i IntKind.i64 1073741824, AV.i IntKind.i64 0, AV.b false]) h))))))))
                    (onB (decide (a = 7)) (Post (AV.agg [AV.i IntKind.i64 0, AV.i IntKind.i64 1099511627776, AV.i IntKind.i64 0, AV.b false]) h)
                      (onB (decide (a = 9)) (Post (AV.agg [AV.i IntKind.i64 0, AV.i IntKind.i64 1048576, AV.i IntKind.i64 0, AV.b false]) h)
                        (onB (decide (a = 10)) (Post (AV.agg [AV.i IntKind.i64 0, AV.i IntKind.i64 1048576, AV.i IntKind.i64 1, AV.b false]) h)
                          (onB (decide (a = 15)) (Post (AV.agg [AV.i IntKind.i64 0, AV.i IntKind.i64 4, AV.i IntKind.i64 0, AV.b false]) h)
                            (onB (decide (a = 16)) (Post (AV.agg [AV.i IntKind.i64 0, AV.i IntKind.i64 3, AV.i IntKind.i64 0, AV.b false]) h)
                              (onB (decide (a = 17)) (Post (AV.agg [AV.i IntKind.i64 0, AV.i IntKind.i64 16777215, AV.i IntKind.i64 0, AV.b true]) h)
                                (onB (decide (a = 18)) (Post (AV.agg [AV.i IntKind.i64 64, AV.i IntKind.i64 64000, AV.i IntKind.i64 1024, AV.b true]) h)
                                  (Post (AV.agg [AV.i IntKind.i64 0, AV.i IntKind.i64 1073741824, AV.i IntKind.i64 0, AV.b false]) h))))))))))))))))) := by kernel_rfl
def isS (s : D.Stamp) : Bool := decide (1 ≤ s.time) && (decide (s.time ≤ 1099511627776) && (decide (0 ≤ s.rep) && decide (s.rep < 16)))
def propP (a : Int) : Bool := decide (0 ≤ a) && decide (a < 19)
def lowP : Nat → Int
  | 3 | 4 | 6 | 8 | 11 => -1
  | 18 => 64
  | _ => 0
def highP : Nat → Int
  | 0 => 2 | 1 | 2 => 1
  | 3 | 4 | 5 | 6 | 7 | 8 | 11 => 1099511627776
  | 9 | 10 => 1048576
  | 12 | 13 | 14 => 1073741824
  | 15 => 4 | 16 => 3 | 17 => 16777215 | 18 => 64000
  | _ => 0
def plainP : Nat → Int
  | 3 | 4 | 6 | 8 | 11 => -1
  | 10 => 1
  | 18 => 1024
  | _ => 0
def goesP : Nat → Bool
  | 17 | 18 => true
  | _ => false
def mayP (a b : Int) : Bool := propP a && (decide (lowP a.toNat ≤ b) && decide (b ≤ highP a.toNat))
section
variable {h : Hp} {Post : AV → Hp → Prop}
theorem c86 {s : D.Stamp} (k : Post (.b (isS s)) h) : wpC Try.prog 86 [.agg [.i .i64 s.time, .i .i64 s.rep]] Post h := by
  refine call_sound (args := [.ag [.ii .i64 s.time, .ii .i64 s.rep]]) (cuts := []) ⟨⟨trivial, trivial, trivial⟩, trivial⟩ ?_
  rw [vc86]
  intro _
  unfold isS at k
  refine onB.dec (fun e => onB.dec (fun e1 => onB.dec (fun e2 => ?_) (fun e2 => ?_)) (fun e1 => ?_)) (fun e => ?_)
  · simpa only [e, e1, e2, decide_true, Bool.true_and] using k
  · simpa only [e, e1, e2, decide_true, decide_false, Bool.true_and, Bool.false_and] using k
  · simpa only [e, e1, decide_true, decide_false, Bool.true_and, Bool.false_and] using k
  · simpa only [e, decide_false, Bool.false_and] using k
end
section
variable {h : Hp} {Post : AV → Hp → Prop}
theorem c49 {a b : Int} (k : Post (.b (decide (0 ≤ a) && decide (a ≤ b))) h) : wpC Try.prog 49 [.i .i64 a, .i .i64 b] Post h := by
  refine call_sound (args := [.ii .i64 a, .ii .i64 b]) (cuts := []) ⟨trivial, trivial, trivial⟩ ?_
  rw [vc49]
  refine onB.dec (fun e => ?_) (fun e => ?_)
  · simpa only [e, decide_true, Bool.true_and] using k
  · simpa only [e, decide_false, Bool.false_and] using k
theorem c30 {s : D.Stamp} (k : Post (.b (isS s)) h) : wpC Try.prog 30 [.agg [.i .i64 s.time, .i .i64 s.rep]] Post h := by
  refine call_sound (args := [.ag [.ii .i64 s.time, .ii .i64 s.rep]]) (cuts := []) ⟨⟨trivial, trivial, trivial⟩, trivial⟩ ?_
  rw [vc30]
  intro _
  unfold isS at k
  refine onB.dec (fun e => onB.dec (fun e1 => c49 (onRet.b ?_)) (fun e1 => ?_)) (fun e => ?_)
  · have e2 : decide (s.rep ≤ 15) = decide (s.rep < 16) := by rw [decide_eq_decide]; omega
    simpa only [e, e1, e2, decide_true, Bool.true_and] using k
  · simpa only [e, e1, decide_true, decide_false, Bool.true_and, Bool.false_and] using k
  · simpa only [e, decide_false, Bool.false_and] using k
theorem c103 {a : Int} (k : Post (.b (propP a)) h) : wpC Try.prog 103 [.i .i64 a] Post h := by
  refine call_sound (args := [.ii .i64 a]) (cuts := []) ⟨trivial, trivial⟩ ?_
  rw [vc103]
  unfold propP at k
  refine onB.dec (fun e => ?_) (fun e => ?_)
  · simpa only [e, decide_true, Bool.true_and] using k
  · simpa only [e, decide_false, Bool.false_and] using k
theorem prop_cases {a : Int} (h0 : 0 ≤ a) (h1 : a < 19) : a = 0 ∨ a = 1 ∨ a = 2 ∨ a = 3 ∨ a = 4 ∨ a = 5 ∨ a = 6 ∨ a = 7 ∨ a = 8 ∨ a = 9 ∨ a = 10 ∨ a = 11 ∨ a = 12 ∨ a = 13 ∨ a = 14 ∨ a = 15 ∨ a = 16 ∨ a = 17 ∨ a = 18 := by omega
theorem c104 {a : Int} (h0 : 0 ≤ a) (h1 : a < 19) (k : Post (.agg [.i .i64 (lowP a.toNat), .i .i64 (highP a.toNat), .i .i64 (plainP a.toNat), .b (goesP a.toNat)]) h) : wpC Try.prog 104 [.i .i64 a] Post h := by
  refine call_sound (args := [.ii .i64 a]) (cuts := []) ⟨trivial, trivial⟩ ?_
  rw [vc104]
  intro _
  rcases prop_cases h0 h1 with rfl | rfl | rfl | rfl | rfl | rfl | rfl | rfl | rfl | rfl | rfl | rfl | rfl | rfl | rfl | rfl | rfl | rfl | rfl
  all_goals repeat' first
    | exact k
    | refine onB.pos rfl ?_
    | refine onB.neg rfl ?_
theorem c53 {a : Int} (k : ∀ n, (propP a = true → n = plainP a.toNat) → Post (.tup [.i .i64 (if propP a then lowP a.toNat else 0), .i .i64 (if propP a then highP a.toNat else 0), .i .i64 n, .b (propP a)]) h) : wpC Try.prog 53 [.i .i64 a] Post h := by
  refine call_sound (args := [.ii .i64 a]) (cuts := []) ⟨trivial, trivial⟩ ?_
  rw [vc53]
  by_cases hr : 0 ≤ a ∧ a < 19
  · have hp : propP a = true := by simp [propP, hr]
    rcases prop_cases hr.1 hr.2 with rfl | rfl | rfl | rfl | rfl | rfl | rfl | rfl | rfl | rfl | rfl | rfl | rfl | rfl | rfl | rfl | rfl | rfl | rfl
    all_goals repeat' first
      | exact k _ (fun _ => rfl)
      | refine onB.pos rfl ?_
      | refine onB.neg rfl ?_
  · have hp : propP a = false := by
      cases hb : propP a with
      | false => rfl
      | true => simp [propP] at hb; exact absurd hb hr
    have k := k 0 (fun e => by rw [hp] at e; cases e)
    rw [hp] at k
    repeat' first
      | exact k
      | refine onB.neg (decide_eq_false (by omega)) ?_
theorem c100 {a b : Int} (k : Post (.b (mayP a b)) h) : wpC Try.prog 100 [.i .i64 a, .i .i64 b] Post h := by
  refine call_sound (args := [.ii .i64 a, .ii .i64 b]) (cuts := []) ⟨trivial, trivial, trivial⟩ ?_
  rw [vc100]
  refine c103 (onRet.b ?_)
  unfold mayP at k
  refine onB.mk (fun e => ?_) (fun e => ?_)
  · have hr : 0 ≤ a ∧ a < 19 := by simpa [propP] using e
    refine c104 hr.1 hr.2 ?_
    refine onB.dec (fun e1 => c104 hr.1 hr.2 ?_) (fun e1 => ?_)
    · rw [e, decide_eq_true e1, Bool.true_and, Bool.true_and] at k; exact k
    · rw [e, decide_eq_false e1] at k; exact k
  · rw [e] at k; exact k
def checkP (a b : Int) : Int := if propP a = true then (if mayP a b = true then 0 else 9) else 3
theorem checkP_ok {a b : Int} : decide (checkP a b = 0) = mayP a b := by
  unfold checkP
  cases h1 : propP a with
  | false => simp [mayP, h1]
  | true =>
    cases h2 : mayP a b <;> simp
theorem c35 {a b : Int} (k : Post (.i .i64 (checkP a b)) h) : wpC Try.prog 35 [.i .i64 a, .i .i64 b] Post h := by
  refine call_sound (args := [.ii .i64 a, .ii .i64 b]) (cuts := []) ⟨trivial, trivial, trivial⟩ ?_
  rw [vc35]
  refine c53 fun n _ => ?_
  unfold checkP mayP at k
  show onB (!(propP a)) _ _
  cases hp : propP a with
  | false => rw [hp] at k; exact onB.pos rfl k
  | true =>
    rw [hp] at k
    simp only [if_true, Bool.true_and] at k
    refine onB.neg rfl (onB.dec (fun e => ?_) (fun e => onB.dec (fun e1 => ?_) (fun e1 => ?_)))
    · simp only [if_true] at e
      have : ¬ lowP a.toNat ≤ b := by omega
      simpa [this] using k
    · simp only [if_true] at e1
      have : ¬ b ≤ highP a.toNat := by omega
      simpa [this] using k
    · simp only [if_true] at e e1
      have e2 : lowP a.toNat ≤ b := by omega
      have e3 : b ≤ highP a.toNat := by omega
      simpa [e2, e3] using k
end
theorem drop_of {α : Type} {l : List α} {k : Nat} {x : α} (h : l[k]? = some x) : l.drop k = x :: l.drop (k + 1) := by
  obtain ⟨hk, e⟩ := List.getElem?_eq_some_iff.1 h
  rw [List.drop_eq_getElem_cons hk, e]
theorem get_lt {α : Type} {l : List α} {k : Nat} (h : k < l.length) : ∃ x, l[k]? = some x := ⟨_, List.getElem?_eq_getElem h⟩
theorem take_succ' {α : Type} {l : List α} {k : Nat} {x : α} (h : l[k]? = some x) : l.take (k + 1) = l.take k ++ [x] := by
  rw [List.take_add_one, h]; rfl
section
variable {h : Hp} {a : AV}
theorem Kn.Row.all {α : Type} {d : Kn α} {h : Hp} {a : AV} {l : List α} (r : d.Row h a l) {x : α} (hx : x ∈ l) : ∃ c, d.K h x c := by
  obtain ⟨css, _, r2⟩ := r
  obtain ⟨i, hi, rfl⟩ := List.getElem_of_mem hx
  obtain ⟨c, _, k⟩ := r2.get (List.getElem?_eq_getElem hi)
  exact ⟨c, k⟩
theorem inc64 {k : Nat} (h : k < 1000000000000) : intO .add .i64 (k : Int) 1 = some ((k + 1 : Nat) : Int) := by
  rw [add64 (by omega) (by omega)]; rfl
end
/- arras/arrasref6.Vector -/
theorem vc31 (a : AV) (h : Hp) (Post : AV → Hp → Prop) : vcCall Try.prog [] 31 [(SV.vv a)] h Post = (
  ∃ I0 : Nat → Bool → Int → Hp → Prop,
  (∃ p0, I0 p0 false 0 h) ∧
    ∀ (p1 : Nat) (h0 : Hp) (lc0 : Bool) (n0 : Int),
      I0 p1 lc0 n0 h0 →
        onO (lenV a) fun p2 =>
          onB (decide (n0 < ↑p2))
            (onO (idxV a n0 1) fun r0 =>
              onO (rdH h0 r0.fst r0.snd 1) fun l0 =>
                onL [Kd.int IntKind.i64] l0 fun n1 =>
                  wpC Try.prog 49 [AV.i IntKind.i64 n1, AV.i IntKind.i64 1099511627776]
                    (fun a0 h1 => onRet [Sh.one Kd.bool] a0 fun lc1 => onB (!lc1) (Post (AV.b false) h1) (onO (intO BinOp.add IntKind.i64 n0 1) fun n2 => ∃ p3, ltN p3 p1 ∧ I0 p3 lc0 n2 h1)) h0)
            (onO (lenV a) fun p4 => onB (decide ((1 : Int) ≤ ↑p4)) (onO (lenV a) fun p5 => Post (AV.b (decide ((↑p5 : Int) ≤ 16))) h0) (Post (AV.b false) h0))) := by kernel_rfl
/- arras/arrasref8.Key -/
theorem vc34 (a : List Nat) (h : Hp) (Post : AV → Hp → Prop) : vcCall Try.prog [] 34 [(SV.ss a)] h Post = (
  onB (decide ((1 : Int) ≤ ↑a.length))
  (onB (decide ((↑a.length : Int) ≤ 64))
    (onO (intO BinOp.sub IntKind.i64 (↑a.length) 1) fun n0 => onO ((natI n0).bind fun j => nthL a j) fun p1 => Post (AV.b !decide ((↑p1 : Int) = 0)) h)
    (Post (AV.b false) h))
  (Post (AV.b false) h)) := by kernel_rfl
/- arras/key.Is -/
theorem vc99 (a : List Nat) (h : Hp) (Post : AV → Hp → Prop) : vcCall Try.prog [] 99 [(SV.ss a)] h Post = (
  onB (decide ((1 : Int) ≤ ↑a.length))
  (onB (decide ((↑a.length : Int) ≤ 64))
    (onO (intO BinOp.sub IntKind.i64 (↑a.length) 1) fun n0 => onO ((natI n0).bind fun j => nthL a j) fun p1 => Post (AV.b !decide ((↑p1 : Int) = 0)) h)
    (Post (AV.b false) h))
  (Post (AV.b false) h)) := by kernel_rfl
/- arras/arrasref6.Place -/
theorem vc33 (a0 : Int) (a1 : Int) (h : Hp) (Post : AV → Hp → Prop) : vcCall Try.prog [] 33 [(SV.ag [(SV.ii .i64 a0), (SV.ii .i64 a1)])] h Post = (
  ∀ (p0 : Nat),
  wpC Try.prog 30 [AV.agg [AV.i IntKind.i64 a0, AV.i IntKind.i64 a1]]
    (fun a0_1 h0 =>
      onRet [Sh.one Kd.bool] a0_1 fun lc0 =>
        onB lc0 (Post (AV.b true) h0)
          (wpC Try.prog 51 []
            (fun a1_1 h1 =>
              onRet [Sh.agg [Kd.int IntKind.i64, Kd.int IntKind.i64]] a1_1 fun n0 n1 =>
                onB (decide (a0 = n0) && decide (a1 = n1)) (Post (AV.b true) h1)
                  (wpC Try.prog 52 [] (fun a2 h2 => onRet [Sh.agg [Kd.int IntKind.i64, Kd.int IntKind.i64]] a2 fun n2 n3 => Post (AV.b (decide (a0 = n2) && decide (a1 = n3))) h2) h1))
            h0))
    h) := by kernel_rfl
/- arras/stamp.Place -/
theorem vc98 (a0 : Int) (a1 : Int) (h : Hp) (Post : AV → Hp → Prop) : vcCall Try.prog [] 98 [(SV.ag [(SV.ii .i64 a0), (SV.ii .i64 a1)])] h Post = (
  ∀ (p0 : Nat),
  wpC Try.prog 86 [AV.agg [AV.i IntKind.i64 a0, AV.i IntKind.i64 a1]]
    (fun a0_1 h0 =>
      onRet [Sh.one Kd.bool] a0_1 fun lc0 =>
        onB lc0 (Post (AV.b true) h0)
          (wpC Try.prog 101 []
            (fun a1_1 h1 =>
              onRet [Sh.agg [Kd.int IntKind.i64, Kd.int IntKind.i64]] a1_1 fun n0 n1 =>
                onB (decide (a0 = n0) && decide (a1 = n1)) (Post (AV.b true) h1)
                  (wpC Try.prog 102 [] (fun a2 h2 => onRet [Sh.agg [Kd.int IntKind.i64, Kd.int IntKind.i64]] a2 fun n2 n3 => Post (AV.b (decide (a0 = n2) && decide (a1 = n3))) h2) h1))
            h0))
    h) := by kernel_rfl
/- arras/stamp.Root -/
theorem vc101  (h : Hp) (Post : AV → Hp → Prop) : vcCall Try.prog [] 101 [] h Post = (
  ∀ (p0 : Nat), Post (AV.agg [AV.i IntKind.i64 0, AV.i IntKind.i64 0]) h) := by kernel_rfl
/- arras/stamp.Trash -/
theorem vc102  (h : Hp) (Post : AV → Hp → Prop) : vcCall Try.prog [] 102 [] h Post = (
  ∀ (p0 : Nat), Post (AV.agg [AV.i IntKind.i64 0, AV.i IntKind.i64 1]) h) := by kernel_rfl
/- arras/arrasref6.Root -/
theorem vc51  (h : Hp) (Post : AV → Hp → Prop) : vcCall Try.prog [] 51 [] h Post = (
  ∀ (p0 : Nat), Post (AV.agg [AV.i IntKind.i64 0, AV.i IntKind.i64 0]) h) := by kernel_rfl
/- arras/arrasref6.Trash -/
theorem vc52  (h : Hp) (Post : AV → Hp → Prop) : vcCall Try.prog [] 52 [] h Post = (
  ∀ (p0 : Nat), Post (AV.agg [AV.i IntKind.i64 0, AV.i IntKind.i64 1]) h) := by kernel_rfl
/- arras/op.May -/
theorem vc68 (a0 : Int) (a1 : Int) (a2 : Int) (a3 : AV) (a4 : Int) (a5 : Int) (a6 : Int) (a7 : Int) (a8 : Int) (a9 : List Nat) (a10 : Int) (a11 : Int) (h : Hp) (Post : AV → Hp → Prop) : vcCall Try.prog [] 68 [(SV.ag [(SV.ii .i64 a0), (SV.ii .i64 a1), (SV.ii .i64 a2), (SV.vv a3), (SV.ii .i64 a4), (SV.ii .i64 a5), (SV.ii .i64 a6), (SV.ii .i64 a7), (SV.ii .i64 a8), (SV.ss a9), (SV.ii .i64 a10), (SV.ii .i64 a11)])] h Post = (
  ∀ (p0 : Nat),
  wpC Try.prog 86 [AV.agg [AV.i IntKind.i64 a0, AV.i IntKind.i64 a1]]
    (fun a0_1 h0 =>
      onRet [Sh.one Kd.bool] a0_1 fun lc0 =>
        onB (!lc0) (Post (AV.b false) h0)
          (wpC Try.prog 87 [a3]
            (fun a1_1 h1 =>
              onRet [Sh.one Kd.bool] a1_1 fun lc1 =>
                onB (!lc1) (Post (AV.b false) h1)
                  (onO (lenV a3) fun p1 =>
                    onB (decide ((↑p1 : Int) ≤ a1)) (Post (AV.b false) h1)
                      (wpC Try.prog 86 [AV.agg [AV.i IntKind.i64 a5, AV.i IntKind.i64 a6]]
                        (fun a2_1 h2 =>
                          onRet [Sh.one Kd.bool] a2_1 fun lc2 =>
                            onB (!lc2) (Post (AV.b false) h2)
                              (onO (idxV a3 a1 1) fun r0 =>
                                onO (rdH h2 r0.fst r0.snd 1) fun l0 =>
                                  onL [Kd.int IntKind.i64] l0 fun n0 =>
                                    onO (intO BinOp.add IntKind.i64 n0 1) fun n1 =>
                                      onB (decide (a2 = n1))
                                        (onB (decide (a2 ≤ 1099511627776))
                                          (wpC Try.prog 88
                                            [AV.agg
                                                [AV.i IntKind.i64 a0, AV.i IntKind.i64 a1, AV.i IntKind.i64 a2, a3, AV.i IntKind.i64 a4, AV.i IntKind.i64 a5, AV.i IntKind.i64 a6, AV.i IntKind.i64 a7,
                                                  AV.i IntKind.i64 a8, AV.s a9, AV.i IntKind.i64 a10, AV.i IntKind.i64 a11]]
                                            (fun a3 h3 => onRet [Sh.one Kd.bool] a3 fun lc3 => Post (AV.b lc3) h3) h2)
                                          (Post (AV.b false) h2))
                                        (Post (AV.b false) h2)))
                        h1)))
            h0))
    h) := by kernel_rfl
/- arras/arrasref10.Op -/
theorem vc12 (a0 : Int) (a1 : Int) (a2 : Int) (a3 : AV) (a4 : Int) (a5 : Int) (a6 : Int) (a7 : Int) (a8 : Int) (a9 : List Nat) (a10 : Int) (a11 : Int) (h : Hp) (Post : AV → Hp → Prop) : vcCall Try.prog [] 12 [(SV.ag [(SV.ii .i64 a0), (SV.ii .i64 a1), (SV.ii .i64 a2), (SV.vv a3), (SV.ii .i64 a4), (SV.ii .i64 a5), (SV.ii .i64 a6), (SV.ii .i64 a7), (SV.ii .i64 a8), (SV.ss a9), (SV.ii .i64 a10), (SV.ii .i64 a11)])] h Post = (
  ∀ (p0 : Nat),
  wpC Try.prog 30 [AV.agg [AV.i IntKind.i64 a0, AV.i IntKind.i64 a1]]
    (fun a0_1 h0 =>
      onRet [Sh.one Kd.bool] a0_1 fun lc0 =>
        onB (!lc0) (Post (AV.b false) h0)
          (wpC Try.prog 31 [a3]
            (fun a1_1 h1 =>
              onRet [Sh.one Kd.bool] a1_1 fun lc1 =>
                onB (!lc1) (Post (AV.b false) h1)
                  (onO (lenV a3) fun p1 =>
                    onB (decide ((↑p1 : Int) ≤ a1)) (Post (AV.b false) h1)
                      (onB (decide (a2 < 1)) (Post (AV.b false) h1)
                        (onB (decide (1099511627776 < a2)) (Post (AV.b false) h1)
                          (onO (idxV a3 a1 1) fun r0 =>
                            onO (rdH h1 r0.fst r0.snd 1) fun l0 =>
                              onL [Kd.int IntKind.i64] l0 fun n0 =>
                                onO (intO BinOp.add IntKind.i64 n0 1) fun n1 =>
                                  onB (!decide (a2 = n1)) (Post (AV.b false) h1)
                                    (wpC Try.prog 30 [AV.agg [AV.i IntKind.i64 a5, AV.i IntKind.i64 a6]]
                                      (fun a2_1 h2 =>
                                        onRet [Sh.one Kd.bool] a2_1 fun lc2 =>
                                          onB (!lc2) (Post (AV.b false) h2)
                                            (∀ (p2 : Nat),
                                              onB (decide (a4 = 1))
                                                (wpC Try.prog 32
                                                  [AV.agg
                                                      [AV.i IntKind.i64 a0, AV.i IntKind.i64 a1, AV.i IntKind.i64 a2, a3, AV.i IntKind.i64 a4, AV.i IntKind.i64 a5, AV.i IntKind.i64 a6,
                                                        AV.i IntKind.i64 a7, AV.i IntKind.i64 a8, AV.s a9, AV.i IntKind.i64 0, AV.i IntKind.i64 0],
                                                    AV.agg
                                                      [AV.i IntKind.i64 a0, AV.i IntKind.i64 a1, AV.i IntKind.i64 a2, a3, AV.i IntKind.i64 a4, AV.i IntKind.i64 a5, AV.i IntKind.i64 a6,
                                                        AV.i IntKind.i64 a7, AV.i IntKind.i64 a8, AV.s a9, AV.i IntKind.i64 a10, AV.i IntKind.i64 a11]]
                                                  (fun a3 h3 =>
                                                    onRet [Sh.one Kd.bool] a3 fun lc3 =>
                                                      onB lc3
                                                        (wpC Try.prog 33 [AV.agg [AV.i IntKind.i64 a7, AV.i IntKind.i64 a8]]
                                                          (fun a4 h4 =>
                                                            onRet [Sh.one Kd.bool] a4 fun lc4 =>
                                                              onB lc4 (wpC Try.prog 34 [AV.s a9] (fun a5 h5 => onRet [Sh.one Kd.bool] a5 fun lc5 => Post (AV.b lc5) h5) h4) (Post (AV.b false) h4))
                                                          h3)
                                                        (Post (AV.b false) h3))
                                                  h2)
                                                (onB (decide (a4 = 2))
                                                  (wpC Try.prog 32
                                                    [AV.agg
                                                        [AV.i IntKind.i64 a0, AV.i IntKind.i64 a1, AV.i IntKind.i64 a2, a3, AV.i IntKind.i64 a4, AV.i IntKind.i64 a5, AV.i IntKind.i64 a6,
                                                          AV.i IntKind.i64 0, AV.i IntKind.i64 0, AV.s [], AV.i IntKind.i64 a10, AV.i IntKind.i64 a11],
                                                      AV.agg
                                                        [AV.i IntKind.i64 a0, AV.i IntKind.i64 a1, AV.i IntKind.i64 a2, a3, AV.i IntKind.i64 a4, AV.i IntKind.i64 a5, AV.i IntKind.i64 a6,
                                                          AV.i IntKind.i64 a7, AV.i IntKind.i64 a8, AV.s a9, AV.i IntKind.i64 a10, AV.i IntKind.i64 a11]]
                                                    (fun a6 h6 =>
                                                      onRet [Sh.one Kd.bool] a6 fun lc6 =>
                                                        onB lc6
                                                          (wpC Try.prog 35 [AV.i IntKind.i64 a10, AV.i IntKind.i64 a11]
                                                            (fun a7 h7 => onRet [Sh.one (Kd.int IntKind.i64)] a7 fun n2 => Post (AV.b (decide (n2 = 0))) h7) h6)
                                                          (Post (AV.b false) h6))
                                                    h2)
                                                  (Post (AV.b false) h2))))
                                      h1))))))
            h0))
    h) := by kernel_rfl
/- arras/op.kind -/
theorem vc88 (a0 : Int) (a1 : Int) (a2 : Int) (a3 : AV) (a4 : Int) (a5 : Int) (a6 : Int) (a7 : Int) (a8 : Int) (a9 : List Nat) (a10 : Int) (a11 : Int) (h : Hp) (Post : AV → Hp → Prop) : vcCall Try.prog [] 88 [(SV.ag [(SV.ii .i64 a0), (SV.ii .i64 a1), (SV.ii .i64 a2), (SV.vv a3), (SV.ii .i64 a4), (SV.ii .i64 a5), (SV.ii .i64 a6), (SV.ii .i64 a7), (SV.ii .i64 a8), (SV.ss a9), (SV.ii .i64 a10), (SV.ii .i64 a11)])] h Post = (
  ∀ (p0 : Nat),
  onB (decide (a4 = 1))
    (wpC Try.prog 98 [AV.agg [AV.i IntKind.i64 a7, AV.i IntKind.i64 a8]]
      (fun a0 h0 =>
        onRet [Sh.one Kd.bool] a0 fun lc0 =>
          onB lc0
            (wpC Try.prog 99 [AV.s a9]
              (fun a1 h1 => onRet [Sh.one Kd.bool] a1 fun lc1 => onB lc1 (onB (decide (a10 = 0)) (Post (AV.b (decide (a11 = 0))) h1) (Post (AV.b false) h1)) (Post (AV.b false) h1)) h0)
            (Post (AV.b false) h0))
      h)
    (onB (decide (a4 = 2))
      (wpC Try.prog 100 [AV.i IntKind.i64 a10, AV.i IntKind.i64 a11]
        (fun a2 h2 =>
          onRet [Sh.one Kd.bool] a2 fun lc2 =>
            onB lc2
              (wpC Try.prog 101 []
                (fun a3 h3 =>
                  onRet [Sh.agg [Kd.int IntKind.i64, Kd.int IntKind.i64]] a3 fun n0 n1 =>
                    onB (decide (a7 = n0) && decide (a8 = n1)) (Post (AV.b (decide (a9 = bytesL { data := #[] }))) h3) (Post (AV.b false) h3))
                h2)
              (Post (AV.b false) h2))
        h)
      (Post (AV.b false) h))) := by kernel_rfl
/- arras/have.Is -/
theorem vc87 (a : AV) (h : Hp) (Post : AV → Hp → Prop) : vcCall Try.prog [0] 87 [(SV.vv a)] h Post = (
  ∃ I0 : Nat → Int → Bool → Hp → Prop,
  (∃ p0, I0 p0 0 false h) ∧
    ∀ (p1 : Nat) (h0 : Hp) (n0 : Int) (lc0 : Bool),
      I0 p1 n0 lc0 h0 →
        Dup
          (onO (lenV a) fun p2 =>
            onB (decide (n0 = ↑p2)) (onB (decide (1 ≤ n0)) (Post (AV.b (decide (n0 ≤ 16))) h0) (Post (AV.b false) h0))
              (onO (idxV a n0 1) fun r0 =>
                onO (rdH h0 r0.fst r0.snd 1) fun l0 =>
                  onL [Kd.int IntKind.i64] l0 fun n1 =>
                    onB (decide (0 ≤ n1))
                      (onO (idxV a n0 1) fun r1 =>
                        onO (rdH h0 r1.fst r1.snd 1) fun l1 =>
                          onL [Kd.int IntKind.i64] l1 fun n2 =>
                            onB (decide (n2 ≤ 1099511627776)) (onO (intO BinOp.add IntKind.i64 n0 1) fun n3 => ∃ p3, ltN p3 p1 ∧ I0 p3 n3 lc0 h0) (Post (AV.b false) h0))
                      (Post (AV.b false) h0)))) := by kernel_rfl
/- arras/arrasref0.EqNumbers -/
theorem vc50 (a : AV) (b : AV) (h : Hp) (Post : AV → Hp → Prop) : vcCall Try.prog [] 50 [(SV.vv a), (SV.vv b)] h Post = (
  onO (lenV a) fun p0 =>
  onO (lenV b) fun p1 =>
    onB (!decide ((↑p0 : Int) = ↑p1)) (Post (AV.b false) h)
      (∃ I0 : Nat → Bool → Int → Hp → Prop,
        (∃ p2, I0 p2 false 0 h) ∧
          ∀ (p3 : Nat) (h0 : Hp) (lc0 : Bool) (n0 : Int),
            I0 p3 lc0 n0 h0 →
              onO (lenV a) fun p4 =>
                onB (decide (n0 < ↑p4))
                  (onO (idxV a n0 1) fun r0 =>
                    onO (rdH h0 r0.fst r0.snd 1) fun l0 =>
                      onL [Kd.int IntKind.i64] l0 fun n1 =>
                        onO (idxV b n0 1) fun r1 =>
                          onO (rdH h0 r1.fst r1.snd 1) fun l1 =>
                            onL [Kd.int IntKind.i64] l1 fun n2 => onB (!decide (n1 = n2)) (Post (AV.b false) h0) (onO (intO BinOp.add IntKind.i64 n0 1) fun n3 => ∃ p5, ltN p5 p3 ∧ I0 p5 lc0 n3 h0))
                  (Post (AV.b true) h0))) := by kernel_rfl
/- arras/arrasref0.EqOp -/
theorem vc32 (a0 : Int) (a1 : Int) (a2 : Int) (a3 : AV) (a4 : Int) (a5 : Int) (a6 : Int) (a7 : Int) (a8 : Int) (a9 : List Nat) (a10 : Int) (a11 : Int) (b0 : Int) (b1 : Int) (b2 : Int) (b3 : AV) (b4 : Int) (b5 : Int) (b6 : Int) (b7 : Int) (b8 : Int) (b9 : List Nat) (b10 : Int) (b11 : Int) (h : Hp) (Post : AV → Hp → Prop) : vcCall Try.prog [] 32 [(SV.ag [(SV.ii .i64 a0), (SV.ii .i64 a1), (SV.ii .i64 a2), (SV.vv a3), (SV.ii .i64 a4), (SV.ii .i64 a5), (SV.ii .i64 a6), (SV.ii .i64 a7), (SV.ii .i64 a8), (SV.ss a9), (SV.ii .i64 a10), (SV.ii .i64 a11)]), (SV.ag [(SV.ii .i64 b0), (SV.ii .i64 b1), (SV.ii .i64 b2), (SV.vv b3), (SV.ii .i64 b4), (SV.ii .i64 b5), (SV.ii .i64 b6), (SV.ii .i64 b7), (SV.ii .i64 b8), (SV.ss b9), (SV.ii .i64 b10), (SV.ii .i64 b11)])] h Post = (
  ∀ (p0 p1 : Nat),
  onB (decide (a0 = b0) && decide (a1 = b1))
    (onB (decide (a2 = b2))
      (wpC Try.prog 50 [a3, b3]
        (fun a0 h0 =>
          onRet [Sh.one Kd.bool] a0 fun lc0 =>
            onB lc0
              (onB (decide (a4 = b4))
                (onB (decide (a5 = b5) && decide (a6 = b6))
                  (onB (decide (a7 = b7) && decide (a8 = b8)) (onB (decide (a9 = b9)) (onB (decide (a10 = b10)) (Post (AV.b (decide (a11 = b11))) h0) (Post (AV.b false) h0)) (Post (AV.b false) h0))
                    (Post (AV.b false) h0))
                  (Post (AV.b false) h0))
                (Post (AV.b false) h0))
              (Post (AV.b false) h0))
        h)
      (Post (AV.b false) h))
    (Post (AV.b false) h)) := by kernel_rfl
/- arras/arrasref0.CopyNumbers -/
theorem vc58 (a : AV) (h : Hp) (Post : AV → Hp → Prop) : vcCall Try.prog [] 58 [(SV.vv a)] h Post = (
  ∃ I0 : Nat → AV → Int → Hp → Prop,
  (∃ p0, I0 p0 AV.ns 0 h) ∧
    ∀ (p1 : Nat) (h0 : Hp) (a0 : AV),
      a0.sc = true →
        ∀ (n0 : Int),
          I0 p1 a0 n0 h0 →
            onO (lenV a) fun p2 =>
              onB (decide (n0 < ↑p2))
                (onO (idxV a n0 1) fun r0 =>
                  onO (rdH h0 r0.fst r0.snd 1) fun l0 =>
                    onL [Kd.int IntKind.i64] l0 fun n1 =>
                      ∀ (p3 : Nat),
                        wpE (Eff.app a0 1 (Src.lit [AV.i IntKind.i64 n1]) 1) (fun x0 h1 => onO x0 fun a1 => onO (intO BinOp.add IntKind.i64 n0 1) fun n2 => ∃ p4, ltN p4 p1 ∧ I0 p4 a1 n2 h1) h0)
                (Post a0 h0)) := by kernel_rfl
/- arras/arrasref0.CopyOp -/
theorem vc39 (a0 : Int) (a1 : Int) (a2 : Int) (a3 : AV) (a4 : Int) (a5 : Int) (a6 : Int) (a7 : Int) (a8 : Int) (a9 : List Nat) (a10 : Int) (a11 : Int) (h : Hp) (Post : AV → Hp → Prop) : vcCall Try.prog [] 39 [(SV.ag [(SV.ii .i64 a0), (SV.ii .i64 a1), (SV.ii .i64 a2), (SV.vv a3), (SV.ii .i64 a4), (SV.ii .i64 a5), (SV.ii .i64 a6), (SV.ii .i64 a7), (SV.ii .i64 a8), (SV.ss a9), (SV.ii .i64 a10), (SV.ii .i64 a11)])] h Post = (
  ∀ (p0 p1 p2 : Nat),
  wpC Try.prog 58 [a3]
    (fun a0_1 h0 =>
      onRet [Sh.one Kd.ref] a0_1 fun a1_1 =>
        Post
          (AV.agg
            [AV.i IntKind.i64 a0, AV.i IntKind.i64 a1, AV.i IntKind.i64 a2, a1_1, AV.i IntKind.i64 a4, AV.i IntKind.i64 a5, AV.i IntKind.i64 a6, AV.i IntKind.i64 a7, AV.i IntKind.i64 a8, AV.s a9,
              AV.i IntKind.i64 a10, AV.i IntKind.i64 a11])
          h0)
    h) := by kernel_rfl
/- arras/arrasref0.CopyOps -/
theorem vc19 (a : AV) (h : Hp) (Post : AV → Hp → Prop) : vcCall Try.prog [] 19 [(SV.vv a)] h Post = (
  ∃ I0 : Nat → AV → Int → Hp → Prop,
  (∃ p0, I0 p0 AV.ns 0 h) ∧
    ∀ (p1 : Nat) (h0 : Hp) (a0 : AV),
      a0.sc = true →
        ∀ (n0 : Int),
          I0 p1 a0 n0 h0 →
            onO (lenV a) fun p2 =>
              onB (decide (n0 < ↑p2))
                (onO (idxV a n0 12) fun r0 =>
                  onO (rdH h0 r0.fst r0.snd 12) fun l0 =>
                    onL
                      [Kd.int IntKind.i64, Kd.int IntKind.i64, Kd.int IntKind.i64, Kd.ref, Kd.int IntKind.i64, Kd.int IntKind.i64, Kd.int IntKind.i64, Kd.int IntKind.i64, Kd.int IntKind.i64, Kd.str,
                        Kd.int IntKind.i64, Kd.int IntKind.i64]
                      l0 fun n1 n2 n3 a1 n4 n5 n6 n7 n8 l1 n9 n10 =>
                      wpC Try.prog 39
                        [AV.agg
                            [AV.i IntKind.i64 n1, AV.i IntKind.i64 n2, AV.i IntKind.i64 n3, a1, AV.i IntKind.i64 n4, AV.i IntKind.i64 n5, AV.i IntKind.i64 n6, AV.i IntKind.i64 n7, AV.i IntKind.i64 n8,
                              AV.s l1, AV.i IntKind.i64 n9, AV.i IntKind.i64 n10]]
                        (fun a2 h1 =>
                          onRet
                            [Sh.agg
                                [Kd.int IntKind.i64, Kd.int IntKind.i64, Kd.int IntKind.i64, Kd.ref, Kd.int IntKind.i64, Kd.int IntKind.i64, Kd.int IntKind.i64, Kd.int IntKind.i64, Kd.int IntKind.i64,
                                  Kd.str, Kd.int IntKind.i64, Kd.int IntKind.i64]]
                            a2 fun n11 n12 n13 a3 n14 n15 n16 n17 n18 l2 n19 n20 =>
                            ∀ (p3 : Nat),
                              wpE
                                (Eff.app a0 1
                                  (Src.lit
                                    [AV.i IntKind.i64 n11, AV.i IntKind.i64 n12, AV.i IntKind.i64 n13, a3, AV.i IntKind.i64 n14, AV.i IntKind.i64 n15, AV.i IntKind.i64 n16, AV.i IntKind.i64 n17,
                                      AV.i IntKind.i64 n18, AV.s l2, AV.i IntKind.i64 n19, AV.i IntKind.i64 n20])
                                  12)
                                (fun x0 h2 => onO x0 fun a4 => onO (intO BinOp.add IntKind.i64 n0 1) fun n21 => ∃ p4, ltN p4 p1 ∧ I0 p4 a4 n21 h2) h1)
                        h0)
                (Post a0 h0)) := by kernel_rfl
/- arras/arrasref0.EqOps -/
theorem vc21 (a : AV) (b : AV) (h : Hp) (Post : AV → Hp → Prop) : vcCall Try.prog [] 21 [(SV.vv a), (SV.vv b)] h Post = (
  onO (lenV a) fun p0 =>
  onO (lenV b) fun p1 =>
    onB (!decide ((↑p0 : Int) = ↑p1)) (Post (AV.b false) h)
      (∃ I0 : Nat → Bool → Int → Hp → Prop,
        (∃ p2, I0 p2 false 0 h) ∧
          ∀ (p3 : Nat) (h0 : Hp) (lc0 : Bool) (n0 : Int),
            I0 p3 lc0 n0 h0 →
              onO (lenV a) fun p4 =>
                onB (decide (n0 < ↑p4))
                  (onO (idxV a n0 12) fun r0 =>
                    onO (rdH h0 r0.fst r0.snd 12) fun l0 =>
                      onL
                        [Kd.int IntKind.i64, Kd.int IntKind.i64, Kd.int IntKind.i64, Kd.ref, Kd.int IntKind.i64, Kd.int IntKind.i64, Kd.int IntKind.i64, Kd.int IntKind.i64, Kd.int IntKind.i64, Kd.str,
                          Kd.int IntKind.i64, Kd.int IntKind.i64]
                        l0 fun n1 n2 n3 a0 n4 n5 n6 n7 n8 l1 n9 n10 =>
                        onO (idxV b n0 12) fun r1 =>
                          onO (rdH h0 r1.fst r1.snd 12) fun l2 =>
                            onL
                              [Kd.int IntKind.i64, Kd.int IntKind.i64, Kd.int IntKind.i64, Kd.ref, Kd.int IntKind.i64, Kd.int IntKind.i64, Kd.int IntKind.i64, Kd.int IntKind.i64, Kd.int IntKind.i64,
                                Kd.str, Kd.int IntKind.i64, Kd.int IntKind.i64]
                              l2 fun n11 n12 n13 a1 n14 n15 n16 n17 n18 l3 n19 n20 =>
                              wpC Try.prog 32
                                [AV.agg
                                    [AV.i IntKind.i64 n1, AV.i IntKind.i64 n2, AV.i IntKind.i64 n3, a0, AV.i IntKind.i64 n4, AV.i IntKind.i64 n5, AV.i IntKind.i64 n6, AV.i IntKind.i64 n7,
                                      AV.i IntKind.i64 n8, AV.s l1, AV.i IntKind.i64 n9, AV.i IntKind.i64 n10],
                                  AV.agg
                                    [AV.i IntKind.i64 n11, AV.i IntKind.i64 n12, AV.i IntKind.i64 n13, a1, AV.i IntKind.i64 n14, AV.i IntKind.i64 n15, AV.i IntKind.i64 n16, AV.i IntKind.i64 n17,
                                      AV.i IntKind.i64 n18, AV.s l3, AV.i IntKind.i64 n19, AV.i IntKind.i64 n20]]
                                (fun a2 h1 => onRet [Sh.one Kd.bool] a2 fun lc1 => onB (!lc1) (Post (AV.b false) h1) (onO (intO BinOp.add IntKind.i64 n0 1) fun n21 => ∃ p5, ltN p5 p3 ∧ I0 p5 lc0 n21 h1))
                                h0)
                  (Post (AV.b true) h0))) := by kernel_rfl
/- slices.Clone[[]int,int] -/
theorem vc69 (a : AV) (h : Hp) (Post : AV → Hp → Prop) : vcCall Try.prog [] 69 [(SV.vv a)] h Post = (
  onO (nilSl a) fun lc0 =>
  onB lc0 (Post AV.ns h)
    (∀ (p0 : Nat),
      h.g p0 = none →
        h.lo.le p0 →
          onO (srcV 1 a) fun r0 =>
            onC (((4 * r0.fst + 4000) * 8).ble (OfNat.ofNat 17179869184)) (wpE (Eff.app (AV.sl p0 0 0 0 true 1) r0.fst r0.snd 1) (fun x0 h0 => onO x0 fun a0 => Post a0 h0) (h.put p0 [])))) := by kernel_rfl
/- arras/op.Own -/
theorem vc48 (a0 : Int) (a1 : Int) (a2 : Int) (a3 : AV) (a4 : Int) (a5 : Int) (a6 : Int) (a7 : Int) (a8 : Int) (a9 : List Nat) (a10 : Int) (a11 : Int) (h : Hp) (Post : AV → Hp → Prop) : vcCall Try.prog [] 48 [(SV.ag [(SV.ii .i64 a0), (SV.ii .i64 a1), (SV.ii .i64 a2), (SV.vv a3), (SV.ii .i64 a4), (SV.ii .i64 a5), (SV.ii .i64 a6), (SV.ii .i64 a7), (SV.ii .i64 a8), (SV.ss a9), (SV.ii .i64 a10), (SV.ii .i64 a11)])] h Post = (
  ∀ (p0 p1 : Nat),
  wpC Try.prog 69 [a3]
    (fun a0_1 h0 =>
      onRet [Sh.one Kd.ref] a0_1 fun a1_1 =>
        Post
          (AV.agg
            [AV.i IntKind.i64 a0, AV.i IntKind.i64 a1, AV.i IntKind.i64 a2, a1_1, AV.i IntKind.i64 a4, AV.i IntKind.i64 a5, AV.i IntKind.i64 a6, AV.i IntKind.i64 a7, AV.i IntKind.i64 a8, AV.s a9,
              AV.i IntKind.i64 a10, AV.i IntKind.i64 a11])
          h0)
    h) := by kernel_rfl
/-! ### plain -/
def numV (x : Int) : Bool := decide (0 ≤ x) && decide (x ≤ 1099511627776)
def vecV (l : List Int) : Bool := l.all numV && (decide (1 ≤ l.length) && decide (l.length ≤ 16))
abbrev IR := Kn.int.Row
theorem int_cells {h : Hp} {x : Int} : ∀ c, Kn.int.K h x c → c = [.i .i64 x] := fun c k => k.1
theorem int_flat : Kn.int.Flat := fun h h' x c k => k
section
variable {h : Hp} {a b : AV} {l la lb : List Int} {Post : AV → Hp → Prop}
theorem int0 (r : IR h a l) {k : Nat} {x : Int} (e : l[k]? = some x) {K : Int → Prop} (q : K x) : onO (idxV a (k : Int) 1) fun r0 => onO (rdH h r0.1 r0.2 1) fun l0 => onL [Kd.int .i64] l0 K :=
  r.whole (Int.natCast_nonneg k) (by simpa using e) int_cells rfl (onL.i1 q)
theorem c31 (r : IR h a l) (hb : l.length < 32000000) (k : Post (.b (vecV l)) h) : wpC Try.prog 31 [a] Post h := by
  refine call_sound (args := [.vv a]) (cuts := []) ⟨r.sc, trivial⟩ ?_
  rw [vc31]
  refine ⟨fun m _ i h' => h' = h ∧ ∃ k : Nat, i = k ∧ k ≤ l.length ∧ m = l.length - k ∧ l.all numV = (l.drop k).all numV, ⟨l.length, rfl, 0, rfl, by omega, rfl, rfl⟩, ?_⟩
  rintro m h0 _ _ ⟨rfl, j, rfl, hj, rfl, hp⟩
  refine onO.mk r.len (onB.dec (fun e => ?_) (fun e => ?_))
  · obtain ⟨x, hx⟩ := get_lt (l := l) (k := j) (by omega)
    rw [drop_of hx, List.all_cons] at hp
    refine int0 r hx (c49 (onRet.b (onB.not (fun e1 => ?_) (fun e1 => ?_))))
    · have e1 : numV x = false := e1
      rw [e1, Bool.false_and] at hp
      unfold vecV at k
      rw [hp, Bool.false_and] at k; exact k
    · have e1 : numV x = true := e1
      rw [e1, Bool.true_and] at hp
      exact onO.mk (inc64 (by omega)) ⟨_, by show l.length - (j + 1) < l.length - j; omega, rfl, j + 1, rfl, by omega, rfl, hp⟩
  · have : j = l.length := by omega
    subst this
    rw [List.drop_length] at hp
    unfold vecV at k
    rw [hp, List.all_nil, Bool.true_and] at k
    refine onO.mk r.len (onB.dec (fun e1 => onO.mk r.len ?_) (fun e1 => ?_))
    · have e2 : decide ((l.length : Int) ≤ 16) = decide (l.length ≤ 16) := by rw [decide_eq_decide]; omega
      rw [e2]
      rw [decide_eq_true (show 1 ≤ l.length by omega), Bool.true_and] at k; exact k
    · rw [decide_eq_false (show ¬ 1 ≤ l.length by omega), Bool.false_and] at k; exact k
theorem c87 (r : IR h a l) (hb : l.length < 32000000) (k : Post (.b (vecV l)) h) : wpC Try.prog 87 [a] Post h := by
  refine call_sound (args := [.vv a]) (cuts := [0]) ⟨r.sc, trivial⟩ ?_
  rw [vc87]
  refine ⟨fun m i _ h' => h' = h ∧ ∃ k : Nat, i = k ∧ k ≤ l.length ∧ m = l.length - k ∧ l.all numV = (l.drop k).all numV, ⟨l.length, rfl, 0, rfl, by omega, rfl, rfl⟩, ?_⟩
  rintro m h0 _ _ ⟨rfl, j, rfl, hj, rfl, hp⟩
  refine Dup.mk (onO.mk r.len (onB.dec (fun e => ?_) (fun e => ?_)))
  · have : j = l.length := by omega
    subst this
    rw [List.drop_length] at hp
    unfold vecV at k
    rw [hp, List.all_nil, Bool.true_and] at k
    refine onB.dec (fun e1 => ?_) (fun e1 => ?_)
    · have e2 : decide ((l.length : Int) ≤ 16) = decide (l.length ≤ 16) := by rw [decide_eq_decide]; omega
      rw [e2]
      rw [decide_eq_true (show 1 ≤ l.length by omega), Bool.true_and] at k; exact k
    · rw [decide_eq_false (show ¬ 1 ≤ l.length by omega), Bool.false_and] at k; exact k
  · obtain ⟨x, hx⟩ := get_lt (l := l) (k := j) (by omega)
    rw [drop_of hx, List.all_cons] at hp
    have bad : numV x = false → Post (.b false) h0 := fun e1 => by
      rw [e1, Bool.false_and] at hp
      unfold vecV at k
      rw [hp, Bool.false_and] at k; exact k
    refine int0 r hx (onB.dec (fun e1 => int0 r hx (onB.dec (fun e2 => ?_) (fun e2 => bad (by simp [numV, e2])))) (fun e1 => bad (by simp [numV, e1])))
    have e1 : numV x = true := by simp [numV, e1, e2]
    rw [e1, Bool.true_and] at hp
    exact onO.mk (inc64 (by omega)) ⟨_, by show l.length - (j + 1) < l.length - j; omega, rfl, j + 1, rfl, by omega, rfl, hp⟩
theorem c58 (r : IR h a l) (hb : l.length < 32000000) (k : ∀ r' h', Kn.int.Own h h' r' l → Post r' h') : wpC Try.prog 58 [a] Post h := by
  refine call_sound (args := [.vv a]) (cuts := []) ⟨r.sc, trivial⟩ ?_
  rw [vc58]
  refine ⟨fun m b i h' => ∃ k : Nat, i = k ∧ k ≤ l.length ∧ m = l.length - k ∧ Kn.int.Own h h' b (l.take k), ⟨l.length, 0, rfl, by omega, rfl, Kn.Own.nil _ _⟩, ?_⟩
  rintro m h0 b _ _ ⟨j, rfl, hj, rfl, ow⟩
  refine onO.mk r.len (onB.dec (fun e => ?_) (fun e => ?_))
  · obtain ⟨x, hx⟩ := get_lt (l := l) (k := j) (by omega)
    have r0 : IR h0 a l := r.mono ow.le
    obtain ⟨c, hc⟩ := r0.all (List.mem_of_getElem? hx)
    have := int_cells c hc
    subst this
    refine int0 r0 hx fun _ => ow.app1 rfl int_flat hc (by simp; omega) fun r' h' ow' => ?_
    exact onO.mk rfl (onO.mk (inc64 (by omega)) ⟨_, by show l.length - (j + 1) < l.length - j; omega, j + 1, rfl, by omega, rfl, by rw [take_succ' hx]; exact ow'⟩)
  · have : j = l.length := by omega
    subst this
    rw [List.take_length] at ow
    exact k _ _ ow
theorem c50 (ra : IR h a la) (rb : IR h b lb) (hb : la.length < 32000000) (k : Post (.b (decide (la = lb))) h) : wpC Try.prog 50 [a, b] Post h := by
  refine call_sound (args := [.vv a, .vv b]) (cuts := []) ⟨ra.sc, rb.sc, trivial⟩ ?_
  rw [vc50]
  refine onO.mk ra.len (onO.mk rb.len (onB.ndec (fun e => ?_) (fun e => ?_)))
  · rw [decide_eq_false (fun e' => e (by rw [e']))] at k
    exact k
  · have hl : la.length = lb.length := by omega
    refine ⟨fun m _ i h' => h' = h ∧ ∃ k : Nat, i = k ∧ k ≤ la.length ∧ m = la.length - k ∧ la.take k = lb.take k, ⟨la.length, rfl, 0, rfl, by omega, rfl, by simp⟩, ?_⟩
    rintro m h0 _ _ ⟨rfl, j, rfl, hj, rfl, hp⟩
    refine onO.mk ra.len (onB.dec (fun e => ?_) (fun e => ?_))
    · obtain ⟨x, hx⟩ := get_lt (l := la) (k := j) (by omega)
      obtain ⟨y, hy⟩ := get_lt (l := lb) (k := j) (by omega)
      refine int0 ra hx (int0 rb hy (onB.ndec (fun e1 => ?_) (fun e1 => ?_)))
      · have : la ≠ lb := by
          intro e2; subst e2; rw [hx] at hy; injection hy with hy; exact e1 hy
        rw [decide_eq_false this] at k; exact k
      · subst e1
        exact onO.mk (inc64 (by omega)) ⟨_, by show la.length - (j + 1) < la.length - j; omega, rfl, j + 1, rfl, by omega, rfl, by rw [take_succ' hx, take_succ' hy, hp]⟩
    · have : j = la.length := by omega
      subst this
      rw [List.take_length, hl, List.take_length] at hp
      rw [decide_eq_true hp] at k; exact k
end
/-! ### keys, places -/
def keyV (l : List Nat) : Bool := decide (1 ≤ l.length) && (decide (l.length ≤ 64) && !decide (l.getLast? = some 0))
section
variable {h : Hp} {Post : AV → Hp → Prop}
theorem nthL_get : ∀ {α : Type} (l : List α) (i : Nat), nthL l i = l[i]?
  | _, [], _ => rfl
  | _, _ :: _, 0 => rfl
  | _, _ :: l, i + 1 => (nthL_get l i).trans (by simp)
theorem key_body {l : List Nat} (k : Post (.b (keyV l)) h) : onB (decide ((1 : Int) ≤ ↑l.length))
    (onB (decide ((↑l.length : Int) ≤ 64))
      (onO (intO BinOp.sub IntKind.i64 (↑l.length) 1) fun n0 => onO ((natI n0).bind fun j => nthL l j) fun p1 => Post (AV.b !decide ((↑p1 : Int) = 0)) h)
      (Post (AV.b false) h))
    (Post (AV.b false) h) := by
  unfold keyV at k
  refine onB.dec (fun e => onB.dec (fun e1 => ?_) (fun e1 => ?_)) (fun e => ?_)
  · rw [decide_eq_true (show 1 ≤ l.length by omega), decide_eq_true (show l.length ≤ 64 by omega), Bool.true_and, Bool.true_and] at k
    have hs : intO .sub .i64 (l.length : Int) 1 = some ((l.length - 1 : Nat) : Int) := by rw [sub64 (by omega) (by omega)]; congr 1; omega
    obtain ⟨x, hx⟩ := get_lt (l := l) (k := l.length - 1) (by omega)
    refine onO.mk hs (onO.mk (a := x) (by show nthL l (l.length - 1) = some x; rw [nthL_get]; exact hx) ?_)
    have : l.getLast? = some x := by rw [List.getLast?_eq_getElem?]; exact hx
    rw [this] at k
    have e3 : decide ((x : Int) = 0) = decide (some x = some 0) := by rw [decide_eq_decide, Option.some.injEq]; omega
    rw [e3]; exact k
  · rw [decide_eq_false (show ¬ l.length ≤ 64 by omega), Bool.false_and, Bool.and_false] at k; exact k
  · rw [decide_eq_false (show ¬ 1 ≤ l.length by omega), Bool.false_and] at k; exact k
theorem c34 {l : List Nat} (k : Post (.b (keyV l)) h) : wpC Try.prog 34 [.s l] Post h := by
  refine call_sound (args := [.ss l]) (cuts := []) ⟨trivial, trivial⟩ ?_
  rw [vc34]
  exact key_body k
theorem c99 {l : List Nat} (k : Post (.b (keyV l)) h) : wpC Try.prog 99 [.s l] Post h := by
  refine call_sound (args := [.ss l]) (cuts := []) ⟨trivial, trivial⟩ ?_
  rw [vc99]
  exact key_body k
end
/-! ### plain -/
def placeV (s : D.Stamp) : Bool := isS s || (decide (s = ⟨0, 0⟩) || decide (s = ⟨0, 1⟩))
def kindV (o : D.Op) : Bool :=
  if o.kind = 1 then placeV o.parent && (keyV o.key && (decide (o.prop = 0) && decide (o.value = 0)))
  else if o.kind = 2 then mayP o.prop o.value && (decide (o.parent = ⟨0, 0⟩) && decide (o.key = [])) else false
def seqV (o : D.Op) : Bool := match o.deps[o.stamp.rep.toNat]? with
  | some x => decide (o.seq = x + 1) && decide (o.seq ≤ 1099511627776)
  | none => false
def mayO (o : D.Op) : Bool := isS o.stamp && (vecV o.deps && (isS o.node && (seqV o && kindV o)))
def opC (o : D.Op) (a : AV) : List AV := [.i .i64 o.stamp.time, .i .i64 o.stamp.rep, .i .i64 o.seq, a, .i .i64 o.kind, .i .i64 o.node.time, .i .i64 o.node.rep, .i .i64 o.parent.time, .i .i64 o.parent.rep, .s o.key, .i .i64 o.prop, .i .i64 o.value]
def opS (o : D.Op) (a : AV) : SV := .ag [.ii .i64 o.stamp.time, .ii .i64 o.stamp.rep, .ii .i64 o.seq, .vv a, .ii .i64 o.kind, .ii .i64 o.node.time, .ii .i64 o.node.rep, .ii .i64 o.parent.time, .ii .i64 o.parent.rep, .ss o.key, .ii .i64 o.prop, .ii .i64 o.value]
theorem opS_good {o : D.Op} {a : AV} (ha : a.sc = true) : (opS o a).Good (fun _ => 0) 0 := ⟨trivial, trivial, trivial, ha, trivial, trivial, trivial, trivial, trivial, trivial, trivial, trivial, trivial⟩
theorem onRet.a2 {n m : Int} {K : Int → Int → Prop} (k : K n m) : onRet [Sh.agg [Kd.int .i64, Kd.int .i64]] (.agg [.i .i64 n, .i .i64 m]) K := k
theorem stamp_eq {a : D.Stamp} {x y : Int} : (decide (a.time = x) && decide (a.rep = y)) = decide (a = ⟨x, y⟩) := by
  cases a with
  | mk t r =>
    rw [← Bool.decide_and, decide_eq_decide]
    simp
theorem vecV_at {l : List Int} (h : vecV l = true) {k : Nat} {x : Int} (e : l[k]? = some x) : 0 ≤ x ∧ x ≤ 1099511627776 := by
  unfold vecV at h
  simp only [Bool.and_eq_true, List.all_eq_true] at h
  have := h.1 x (List.mem_of_getElem? e)
  simpa [numV] using this
theorem vecV_len {l : List Int} (h : vecV l = true) : 1 ≤ l.length ∧ l.length ≤ 16 := by
  unfold vecV at h
  simp only [Bool.and_eq_true, decide_eq_true_eq] at h
  exact h.2
theorem isS_rep {s : D.Stamp} (h : isS s = true) : 0 ≤ s.rep ∧ s.rep < 16 := by
  unfold isS at h
  simp only [Bool.and_eq_true, decide_eq_true_eq] at h
  exact h.2.2
section
variable {h : Hp} {Post : AV → Hp → Prop}
theorem c101 (k : Post (.agg [.i .i64 0, .i .i64 0]) h) : wpC Try.prog 101 [] Post h := by
  refine call_sound (args := []) (cuts := []) trivial ?_
  rw [vc101]; exact fun _ => k
theorem c102 (k : Post (.agg [.i .i64 0, .i .i64 1]) h) : wpC Try.prog 102 [] Post h := by
  refine call_sound (args := []) (cuts := []) trivial ?_
  rw [vc102]; exact fun _ => k
theorem c51 (k : Post (.agg [.i .i64 0, .i .i64 0]) h) : wpC Try.prog 51 [] Post h := by
  refine call_sound (args := []) (cuts := []) trivial ?_
  rw [vc51]; exact fun _ => k
theorem c52 (k : Post (.agg [.i .i64 0, .i .i64 1]) h) : wpC Try.prog 52 [] Post h := by
  refine call_sound (args := []) (cuts := []) trivial ?_
  rw [vc52]; exact fun _ => k
theorem c98 {s : D.Stamp} (k : Post (.b (placeV s)) h) : wpC Try.prog 98 [.agg [.i .i64 s.time, .i .i64 s.rep]] Post h := by
  refine call_sound (args := [.ag [.ii .i64 s.time, .ii .i64 s.rep]]) (cuts := []) ⟨⟨trivial, trivial, trivial⟩, trivial⟩ ?_
  rw [vc98]
  intro _
  unfold placeV at k
  refine c86 (onRet.b (onB.mk (fun e => ?_) (fun e => c101 (onRet.a2 ?_))))
  · rw [e] at k; exact k
  · rw [e, Bool.false_or] at k
    rw [stamp_eq]
    refine onB.mk (fun e1 => ?_) (fun e1 => c102 (onRet.a2 ?_))
    · rw [e1] at k; exact k
    · rw [e1, Bool.false_or] at k
      rw [stamp_eq]; exact k
theorem c33 {s : D.Stamp} (k : Post (.b (placeV s)) h) : wpC Try.prog 33 [.agg [.i .i64 s.time, .i .i64 s.rep]] Post h := by
  refine call_sound (args := [.ag [.ii .i64 s.time, .ii .i64 s.rep]]) (cuts := []) ⟨⟨trivial, trivial, trivial⟩, trivial⟩ ?_
  rw [vc33]
  intro _
  unfold placeV at k
  refine c30 (onRet.b (onB.mk (fun e => ?_) (fun e => c51 (onRet.a2 ?_))))
  · rw [e] at k; exact k
  · rw [e, Bool.false_or] at k
    rw [stamp_eq]
    refine onB.mk (fun e1 => ?_) (fun e1 => c52 (onRet.a2 ?_))
    · rw [e1] at k; exact k
    · rw [e1, Bool.false_or] at k
      rw [stamp_eq]; exact k
theorem c88 {o : D.Op} {a : AV} (ha : a.sc = true) (k : Post (.b (kindV o)) h) : wpC Try.prog 88 [.agg (opC o a)] Post h := by
  refine call_sound (args := [opS o a]) (cuts := []) ⟨opS_good ha, trivial⟩ ?_
  unfold opS
  rw [vc88]
  intro _
  unfold kindV at k
  refine onB.dec (fun e => c98 (onRet.b (onB.mk (fun e1 => c99 (onRet.b (onB.mk (fun e2 => onB.dec (fun e3 => ?_) (fun e3 => ?_)) (fun e2 => ?_)))) (fun e1 => ?_)))) (fun e => onB.dec (fun e0 => c100 (onRet.b (onB.mk (fun e1 => c101 (onRet.a2 ?_)) (fun e1 => ?_)))) (fun e0 => ?_))
  · rw [if_pos e, e1, e2, decide_eq_true e3] at k; exact k
  · rw [if_pos e, e1, e2, decide_eq_false e3] at k; exact k
  · rw [if_pos e, e1, e2] at k; exact k
  · rw [if_pos e, e1] at k; exact k
  · rw [if_neg e, if_pos e0, e1, Bool.true_and] at k
    rw [stamp_eq]
    refine onB.mk (fun e2 => ?_) (fun e2 => ?_)
    · rw [e2, Bool.true_and] at k; exact k
    · rw [e2, Bool.false_and] at k; exact k
  · rw [if_neg e, if_pos e0, e1] at k; exact k
  · rw [if_neg e, if_neg e0] at k; exact k
theorem c68 {o : D.Op} {a : AV} (r : IR h a o.deps) (hb : o.deps.length < 32000000) (k : Post (.b (mayO o)) h) : wpC Try.prog 68 [.agg (opC o a)] Post h := by
  refine call_sound (args := [opS o a]) (cuts := []) ⟨opS_good r.sc, trivial⟩ ?_
  unfold opS
  rw [vc68]
  intro _
  unfold mayO at k
  refine c86 (onRet.b (onB.not (fun e1 => ?_) (fun e1 => c87 r hb (onRet.b (onB.not (fun e2 => ?_) (fun e2 => onO.mk r.len (onB.dec (fun e3 => ?_) (fun e3 => c86 (onRet.b (onB.not (fun e4 => ?_) (fun e4 => ?_)))))))))))
  · rw [e1] at k; exact k
  · rw [e1, e2] at k; exact k
  · have hs : seqV o = false := by
      unfold seqV
      rw [List.getElem?_eq_none (by have := isS_rep e1; omega)]
    rw [hs, Bool.false_and, Bool.and_false, Bool.and_false, Bool.and_false] at k; exact k
  · rw [e1, e2, e4] at k; exact k
  · obtain ⟨g0, g1⟩ := isS_rep e1
    obtain ⟨j, hj⟩ := Int.eq_ofNat_of_zero_le g0
    obtain ⟨x, hx⟩ := get_lt (l := o.deps) (k := j) (by omega)
    have hx2 := vecV_at e2 hx
    have hjt : o.stamp.rep.toNat = j := by omega
    rw [e1, e2, e4, Bool.true_and, Bool.true_and, Bool.true_and] at k
    unfold seqV at k
    rw [hjt, hx] at k
    rw [hj]
    refine int0 r hx (onO.mk (add64 (by omega) (by omega)) (onB.dec (fun e5 => onB.dec (fun e6 => ?_) (fun e6 => ?_)) (fun e5 => ?_)))
    · rw [← hj]
      refine c88 (o := o) r.sc (onRet.b ?_)
      simpa only [decide_eq_true e5, decide_eq_true e6, Bool.true_and] using k
    · simpa only [decide_eq_true e5, decide_eq_false e6, Bool.true_and, Bool.false_and] using k
    · simpa only [decide_eq_false e5, Bool.false_and] using k
theorem c32 {o p : D.Op} {a b : AV} (ra : IR h a o.deps) (rb : IR h b p.deps) (hb : o.deps.length < 32000000) (k : Post (.b (decide (o = p))) h) : wpC Try.prog 32 [.agg (opC o a), .agg (opC p b)] Post h := by
  refine call_sound (args := [opS o a, opS p b]) (cuts := []) ⟨opS_good ra.sc, opS_good rb.sc, trivial⟩ ?_
  unfold opS
  rw [vc32]
  intro _ _
  rw [stamp_eq, stamp_eq, stamp_eq]
  have bad : o ≠ p → Post (.b false) h := fun e => by rw [decide_eq_false e] at k; exact k
  refine onB.dec (fun e1 => onB.dec (fun e2 => c50 ra rb hb (onRet.b (onB.dec (fun e3 => onB.dec (fun e4 => onB.dec (fun e5 => onB.dec (fun e6 => onB.dec (fun e7 => onB.dec (fun e8 => ?_) (fun e8 => bad ?_)) (fun e7 => bad ?_)) (fun e6 => bad ?_)) (fun e5 => bad ?_)) (fun e4 => bad ?_)) (fun e3 => bad ?_)))) (fun e2 => bad ?_)) (fun e1 => bad ?_)
  · have : decide (o.value = p.value) = decide (o = p) := by
      rw [decide_eq_decide]
      constructor
      · intro e9
        cases o; cases p
        simp_all
      · intro e; rw [e]
    rw [this]; exact k
  · intro e; exact e8 (by rw [e])
  · intro e; exact e7 (by rw [e])
  · intro e; subst e; exact e6 rfl
  · intro e; subst e; exact e5 rfl
  · intro e; exact e4 (by rw [e])
  · intro e; exact e3 (by rw [e])
  · intro e; exact e2 (by rw [e])
  · intro e; subst e; exact e1 rfl
end
section
variable {h : Hp} {Post : AV → Hp → Prop}
theorem c12 {o : D.Op} {a : AV} (r : IR h a o.deps) (hb : o.deps.length < 32000000) (k : Post (.b (mayO o)) h) : wpC Try.prog 12 [.agg (opC o a)] Post h := by
  refine call_sound (args := [opS o a]) (cuts := []) ⟨opS_good r.sc, trivial⟩ ?_
  unfold opS
  rw [vc12]
  intro _
  unfold mayO at k
  refine c30 (onRet.b (onB.not (fun e1 => ?_) (fun e1 => c31 r hb (onRet.b (onB.not (fun e2 => ?_) (fun e2 => onO.mk r.len (onB.dec (fun e3 => ?_) (fun e3 => ?_)))))))) 
  · rw [e1] at k; exact k
  · rw [e1, e2] at k; exact k
  · have hs : seqV o = false := by
      unfold seqV
      rw [List.getElem?_eq_none (by have := isS_rep e1; omega)]
    rw [hs, Bool.false_and, Bool.and_false, Bool.and_false, Bool.and_false] at k; exact k
  · obtain ⟨g0, g1⟩ := isS_rep e1
    obtain ⟨j, hj⟩ := Int.eq_ofNat_of_zero_le g0
    obtain ⟨x, hx⟩ := get_lt (l := o.deps) (k := j) (by omega)
    have hx2 := vecV_at e2 hx
    have hjt : o.stamp.rep.toNat = j := by omega
    rw [e1, e2, Bool.true_and, Bool.true_and] at k
    unfold seqV at k
    rw [hjt, hx] at k
    simp only at k
    have bad : (decide (o.seq = x + 1) && decide (o.seq ≤ 1099511627776)) = false → Post (.b false) h := fun e => by
      rw [e, Bool.false_and, Bool.and_false] at k; exact k
    refine onB.dec (fun e4 => bad ?_) (fun e4 => onB.dec (fun e5 => bad ?_) (fun e5 => ?_))
    · rw [decide_eq_false (by omega), Bool.false_and]
    · rw [decide_eq_false (p := o.seq ≤ _) (by omega), Bool.and_false]
    · rw [hj]
      refine int0 r hx (onO.mk (add64 (by omega) (by omega)) (onB.ndec (fun e6 => bad ?_) (fun e6 => ?_)))
      · rw [decide_eq_false e6, Bool.false_and]
      · rw [← hj]
        rw [decide_eq_true e6, decide_eq_true (p := o.seq ≤ _) (by omega), Bool.true_and, Bool.true_and] at k
        refine c30 (onRet.b (onB.not (fun e7 => ?_) (fun e7 => ?_)))
        · rw [e7] at k; exact k
        · rw [e7, Bool.true_and] at k
          unfold kindV at k
          intro _
          refine onB.dec (fun e8 => ?_) (fun e8 => onB.dec (fun e9 => ?_) (fun e9 => ?_))
          · rw [if_pos e8] at k
            refine c32 (o := { o with prop := 0, value := 0 }) (p := o) r r hb (onRet.b ?_)
            have he : decide (({ o with prop := 0, value := 0 } : D.Op) = o) = (decide (o.prop = 0) && decide (o.value = 0)) := by
              rw [← Bool.decide_and, decide_eq_decide]
              constructor
              · intro e; constructor
                · have := congrArg D.Op.prop e; exact this.symm
                · have := congrArg D.Op.value e; exact this.symm
              · rintro ⟨e, e'⟩; cases o; simp_all
            rw [he]
            refine onB.mk (fun e10 => c33 (onRet.b (onB.mk (fun e11 => c34 (onRet.b ?_)) (fun e11 => ?_)))) (fun e10 => ?_)
            · rw [e11, e10, Bool.true_and, Bool.and_true] at k; exact k
            · rw [e11] at k; exact k
            · rw [e10, Bool.and_false, Bool.and_false] at k; exact k
          · rw [if_neg e8, if_pos e9] at k
            refine c32 (o := { o with parent := ⟨0, 0⟩, key := [] }) (p := o) r r hb (onRet.b ?_)
            have he : decide (({ o with parent := ⟨0, 0⟩, key := [] } : D.Op) = o) = (decide (o.parent = ⟨0, 0⟩) && decide (o.key = [])) := by
              rw [← Bool.decide_and, decide_eq_decide]
              constructor
              · intro e; constructor
                · have := congrArg D.Op.parent e; exact this.symm
                · have := congrArg D.Op.key e; exact this.symm
              · rintro ⟨e, e'⟩; cases o; simp_all
            rw [he]
            refine onB.mk (fun e10 => c35 (onRet.i ?_)) (fun e10 => ?_)
            · rw [e10, Bool.and_true] at k
              rw [checkP_ok]; exact k
            · rw [e10, Bool.and_false] at k; exact k
          · rw [if_neg e8, if_neg e9] at k; exact k
end
/-! ### Clone -/
theorem Raw.src {h : Hp} {a : AV} {sz : Nat} {css : List (List AV)} (r : Raw h a sz css) : ∃ s, srcV sz a = some (css.length, s) ∧ srcH h s = some css.flatten := by
  obtain ⟨hc, r⟩ := r
  cases a <;> first | exact r.elim | skip
  · rename_i b o len lo ex z
    obtain ⟨r1, r2, r3, r4⟩ := r
    subst r1; subst r2
    refine ⟨_, by show cond (Nat.beq z z) _ _ = _; rw [Nat.beq_refl, cond_true], ?_⟩
    cases hl : Nat.beq css.length 0 with
    | true =>
      have : css = [] := List.length_eq_zero_iff.1 (beq_eq' hl)
      subst this; rfl
    | false =>
      rcases r4 with r4 | r4
      · subst r4; cases hl
      · exact r4
  all_goals
    have r : css = [] := r
    subst r
    exact ⟨.lit [], rfl, rfl⟩
theorem Raw.nil {h : Hp} {a : AV} {sz : Nat} {css : List (List AV)} (r : Raw h a sz css) : ∃ c, nilSl a = some c ∧ (c = true → css = []) := by
  obtain ⟨hc, r⟩ := r
  cases a <;> first | exact r.elim | skip
  · exact ⟨false, rfl, fun e => by cases e⟩
  · exact ⟨true, rfl, fun _ => r⟩
  · exact ⟨false, rfl, fun e => by cases e⟩
/-- a copy by append to an empty row of its own -/
theorem clone_body {α : Type} {d : Kn α} {h : Hp} {a : AV} {l : List α} {sz nb : Nat} {Post : AV → Hp → Prop} (r : d.Row h a l) (hsz : d.sz = sz) (fl : d.Flat) (hb : l.length < 32000000) (hm : Nat.ble ((4 * l.length + 4000) * nb) 17179869184 = true) (k : ∀ r' h', d.Own h h' r' l → Post r' h') :
    onO (nilSl a) fun lc0 => onB lc0 (Post AV.ns h) (∀ (p0 : Nat), h.g p0 = none → h.lo.le p0 → onO (srcV sz a) fun r0 =>
      onC (((4 * r0.fst + 4000) * nb).ble (OfNat.ofNat 17179869184)) (wpE (Eff.app (AV.sl p0 0 0 0 true sz) r0.fst r0.snd sz) (fun x0 h0 => onO x0 fun a0 => Post a0 h0) (h.put p0 []))) := by
  subst hsz
  obtain ⟨css, r1, r2⟩ := r
  obtain ⟨c, e1, e2⟩ := r1.nil
  have hl := r2.length
  refine onO.mk e1 (onB.mk (fun e => ?_) (fun _ p hp hlo => ?_))
  · have := e2 e
    subst this
    have : l = [] := List.length_eq_zero_iff.1 hl
    subst this
    exact k _ _ (Kn.Own.nil d h)
  · obtain ⟨s, s1, s2⟩ := r1.src
    refine onO.mk s1 (onC.mk (by rw [← hl]; exact hm) ?_)
    have f := Fresh.put (Hp.le_refl h) rfl hp hlo (css := []) (sz := d.sz) (len := 0) true (fun c hc => by cases hc) rfl (cs := []) rfl
    have ow : d.Own h (h.put p []) (.sl p 0 0 0 true d.sz) [] := ⟨h, [], Hp.le_refl h, rfl, f, .nil⟩
    have s3 : srcH (h.put p []) s = some css.flatten := by
      cases s with
      | lit l => exact s2
      | mem b o n => exact rdH_le (Hp.le_put hp) s2
    exact ow.app rfl fl (r2.mono fun _ _ q => fl _ _ _ _ q) s3 hl (by simp; omega) fun r' h' o' => onO.mk rfl (k _ _ (by simpa using o'))
section
variable {h : Hp} {a : AV} {l : List Int} {Post : AV → Hp → Prop}
theorem c69 (r : IR h a l) (hb : l.length < 32000000) (k : ∀ r' h', Kn.int.Own h h' r' l → Post r' h') : wpC Try.prog 69 [a] Post h := by
  refine call_sound (args := [.vv a]) (cuts := []) ⟨r.sc, trivial⟩ ?_
  rw [vc69]
  exact clone_body r rfl int_flat hb (Nat.ble_eq_true_of_le (by omega)) k
theorem c48 {o : D.Op} (r : IR h a o.deps) (hb : o.deps.length < 32000000) (k : ∀ r' h', Kn.int.Own h h' r' o.deps → Post (.agg (opC o r')) h') : wpC Try.prog 48 [.agg (opC o a)] Post h := by
  refine call_sound (args := [opS o a]) (cuts := []) ⟨opS_good r.sc, trivial⟩ ?_
  unfold opS
  rw [vc48]
  intro _ _
  exact c69 r hb fun r' h' ow => onRet.r ow.sc (k _ _ ow)
theorem c39 {o : D.Op} (r : IR h a o.deps) (hb : o.deps.length < 32000000) (k : ∀ r' h', Kn.int.Own h h' r' o.deps → Post (.agg (opC o r')) h') : wpC Try.prog 39 [.agg (opC o a)] Post h := by
  refine call_sound (args := [opS o a]) (cuts := []) ⟨opS_good r.sc, trivial⟩ ?_
  unfold opS
  rw [vc39]
  intro _ _ _
  exact c58 r hb fun r' h' ow => onRet.r ow.sc (k _ _ ow)
end
abbrev OpRow := D.kOp.Row
/-- deps that are not too many -/
def opOk (o : D.Op) : Prop := o.deps.length < 32000000
section
variable {h : Hp} {a b : AV} {l la lb : List D.Op} {Post : AV → Hp → Prop}
theorem op_cells {o : D.Op} {c : List AV} (k : D.kOp.K h o c) : ∃ d, c = opC o d ∧ IR h d o.deps := by
  obtain ⟨d, e, f⟩ := D.kOp_open k
  exact ⟨d, e, f.2.2.2.1.1⟩
theorem onL.op {o : D.Op} {d : AV} (hd : d.sc = true) {K : Int → Int → Int → AV → Int → Int → Int → Int → Int → List Nat → Int → Int → Prop} (q : K o.stamp.time o.stamp.rep o.seq d o.kind o.node.time o.node.rep o.parent.time o.parent.rep o.key o.prop o.value) :
    onL [Kd.int .i64, Kd.int .i64, Kd.int .i64, Kd.ref, Kd.int .i64, Kd.int .i64, Kd.int .i64, Kd.int .i64, Kd.int .i64, Kd.str, Kd.int .i64, Kd.int .i64] (opC o d) K :=
  onRef.mk (K := fun d => K o.stamp.time o.stamp.rep o.seq d o.kind o.node.time o.node.rep o.parent.time o.parent.rep o.key o.prop o.value) hd q
theorem onRet.op {o : D.Op} {d : AV} (hd : d.sc = true) {K : Int → Int → Int → AV → Int → Int → Int → Int → Int → List Nat → Int → Int → Prop} (q : K o.stamp.time o.stamp.rep o.seq d o.kind o.node.time o.node.rep o.parent.time o.parent.rep o.key o.prop o.value) :
    onRet [Sh.agg [Kd.int .i64, Kd.int .i64, Kd.int .i64, Kd.ref, Kd.int .i64, Kd.int .i64, Kd.int .i64, Kd.int .i64, Kd.int .i64, Kd.str, Kd.int .i64, Kd.int .i64]] (.agg (opC o d)) K := by
  unfold onRet onS
  have e : flatV [Sh.agg [Kd.int .i64, Kd.int .i64, Kd.int .i64, Kd.ref, Kd.int .i64, Kd.int .i64, Kd.int .i64, Kd.int .i64, Kd.int .i64, Kd.str, Kd.int .i64, Kd.int .i64]] [.agg (opC o d)] = some (opC o d) := rfl
  rw [e]
  exact onL.op hd q
theorem opW {h1 : Hp} (r : OpRow h a l) (le : h.le h1) {k : Nat} {o : D.Op} (e : l[k]? = some o) {K : Int → Int → Int → AV → Int → Int → Int → Int → Int → List Nat → Int → Int → Prop}
    (q : ∀ d, IR h d o.deps → D.kOp.K h o (opC o d) → K o.stamp.time o.stamp.rep o.seq d o.kind o.node.time o.node.rep o.parent.time o.parent.rep o.key o.prop o.value) :
    onO (idxV a (k : Int) 12) fun r0 => onO (rdH h1 r0.1 r0.2 12) fun l0 => onL [Kd.int .i64, Kd.int .i64, Kd.int .i64, Kd.ref, Kd.int .i64, Kd.int .i64, Kd.int .i64, Kd.int .i64, Kd.int .i64, Kd.str, Kd.int .i64, Kd.int .i64] l0 K := by
  obtain ⟨b, p, c, e1, e2, e3⟩ := r.idx (i := (k : Int)) (Int.natCast_nonneg k) (by simpa using e)
  obtain ⟨d, rfl, e4⟩ := op_cells e3
  exact onO.mk e1 (onO.mk (rdH_le le e2) (onL.op e4.sc (q d e4 e3)))
theorem c21 (ra : OpRow h a la) (rb : OpRow h b lb) (hb : la.length < 32000000) (ho : ∀ o ∈ la, opOk o) (k : Post (.b (decide (la = lb))) h) : wpC Try.prog 21 [a, b] Post h := by
  refine call_sound (args := [.vv a, .vv b]) (cuts := []) ⟨ra.sc, rb.sc, trivial⟩ ?_
  rw [vc21]
  refine onO.mk ra.len (onO.mk rb.len (onB.ndec (fun e => ?_) (fun e => ?_)))
  · rw [decide_eq_false (fun e' => e (by rw [e']))] at k
    exact k
  · have hl : la.length = lb.length := by omega
    refine ⟨fun m _ i h' => h' = h ∧ ∃ k : Nat, i = k ∧ k ≤ la.length ∧ m = la.length - k ∧ la.take k = lb.take k, ⟨la.length, rfl, 0, rfl, by omega, rfl, by simp⟩, ?_⟩
    rintro m h0 _ _ ⟨rfl, j, rfl, hj, rfl, hp⟩
    refine onO.mk ra.len (onB.dec (fun e => ?_) (fun e => ?_))
    · obtain ⟨x, hx⟩ := get_lt (l := la) (k := j) (by omega)
      obtain ⟨y, hy⟩ := get_lt (l := lb) (k := j) (by omega)
      refine opW ra (Hp.le_refl _) hx fun d rd _ => opW rb (Hp.le_refl _) hy fun d' rd' _ => c32 (o := x) (p := y) rd rd' (ho x (List.mem_of_getElem? hx)) (onRet.b (onB.not (fun e1 => ?_) (fun e1 => ?_)))
      · have e1 := of_decide_eq_false e1
        have : la ≠ lb := by
          intro e2; subst e2; rw [hx] at hy; injection hy with hy; exact e1 hy
        rw [decide_eq_false this] at k; exact k
      · have e1 := of_decide_eq_true e1
        subst e1
        exact onO.mk (inc64 (by omega)) ⟨_, by show la.length - (j + 1) < la.length - j; omega, rfl, j + 1, rfl, by omega, rfl, by rw [take_succ' hx, take_succ' hy, hp]⟩
    · have : j = la.length := by omega
      subst this
      rw [List.take_length, hl, List.take_length] at hp
      rw [decide_eq_true hp] at k; exact k
theorem in64_of {n : Int} (k : In64 n) : Kn.int.K h n [.i .i64 n] := ⟨rfl, k⟩
/-- an operation's cells, with another row of the same deps -/
theorem op_again {o : D.Op} {d d' : AV} (k : D.kOp.K h o (opC o d)) {h' : Hp} (r : IR h' d' o.deps) : D.kOp.K h' o (opC o d') := by
  obtain ⟨d0, e, f1, f2, f3, f4, f5, f6, f7, f8, f9, f10, f11, f12⟩ := D.kOp_open k
  refine ⟨_, _, rfl, ⟨_, _, rfl, in64_of f1, in64_of f2⟩, _, _, rfl, in64_of f3, _, _, rfl, ⟨d', rfl, r, f4.2⟩, _, _, rfl, in64_of f5, _, _, rfl, ⟨_, _, rfl, in64_of f6, in64_of f7⟩, _, _, rfl, ⟨_, _, rfl, in64_of f8, in64_of f9⟩, _, _, rfl, ⟨rfl, f10⟩, _, _, rfl, in64_of f11, in64_of f12⟩
end
/- arras/arraslaw0.Within -/
theorem vc16 (a : Int) (b : Int) (h : Hp) (Post : AV → Hp → Prop) : vcCall Try.prog [] 16 [(SV.ii .i64 a), (SV.ii .i64 b)] h Post = (
  onO (wrO IntKind.u64 a) fun n0 => onO (wrO IntKind.u64 b) fun n1 => onO (intO BinOp.rem IntKind.u64 n0 n1) fun n2 => onO (wrO IntKind.i64 n2) fun n3 => Post (AV.i IntKind.i64 n3) h) := by kernel_rfl
/- arras/arraslaw10.O -/
theorem vc36  (h : Hp) (Post : AV → Hp → Prop) : vcCall Try.prog [] 36 [] h Post = (
  ∀ (p0 p1 : Nat),
  h.g p1 = none →
    h.lo.le p1 →
      Post
        (AV.agg
          [AV.i IntKind.i64 1, AV.i IntKind.i64 0, AV.i IntKind.i64 1, AV.sl p1 0 1 1 true 1, AV.i IntKind.i64 1, AV.i IntKind.i64 1, AV.i IntKind.i64 0, AV.i IntKind.i64 0, AV.i IntKind.i64 0,
            AV.s [107], AV.i IntKind.i64 0, AV.i IntKind.i64 0])
        (h.put p1 [AV.i IntKind.i64 0])) := by kernel_rfl
/- arras/arraslaw0.OpWeight -/
theorem vc54 (a0 : Int) (a1 : Int) (a2 : Int) (a3 : AV) (a4 : Int) (a5 : Int) (a6 : Int) (a7 : Int) (a8 : Int) (a9 : List Nat) (a10 : Int) (a11 : Int) (h : Hp) (Post : AV → Hp → Prop) : vcCall Try.prog [] 54 [(SV.ag [(SV.ii .i64 a0), (SV.ii .i64 a1), (SV.ii .i64 a2), (SV.vv a3), (SV.ii .i64 a4), (SV.ii .i64 a5), (SV.ii .i64 a6), (SV.ii .i64 a7), (SV.ii .i64 a8), (SV.ss a9), (SV.ii .i64 a10), (SV.ii .i64 a11)])] h Post = (
  ∀ (p0 : Nat), onO (lenV a3) fun p1 => onO (intO BinOp.add IntKind.i64 1 ↑p1) fun n0 => onO (intO BinOp.add IntKind.i64 n0 ↑a9.length) fun n1 => Post (AV.i IntKind.i64 n1) h) := by kernel_rfl
/- arras/arraslaw0.OpsWeight -/
theorem vc37 (a : AV) (h : Hp) (Post : AV → Hp → Prop) : vcCall Try.prog [] 37 [(SV.vv a)] h Post = (
  onO (lenV a) fun p0 =>
  ∃ I0 : Nat → Int → Int → Hp → Prop,
    (∃ p1, I0 p1 (↑p0) 0 h) ∧
      ∀ (p2 : Nat) (h0 : Hp) (n0 n1 : Int),
        I0 p2 n0 n1 h0 →
          onO (lenV a) fun p3 =>
            onB (decide (n1 < ↑p3))
              (onB (decide (n0 < 1048576))
                (onO (idxV a n1 12) fun r0 =>
                  onO (rdH h0 r0.fst r0.snd 12) fun l0 =>
                    onL
                      [Kd.int IntKind.i64, Kd.int IntKind.i64, Kd.int IntKind.i64, Kd.ref, Kd.int IntKind.i64, Kd.int IntKind.i64, Kd.int IntKind.i64, Kd.int IntKind.i64, Kd.int IntKind.i64, Kd.str,
                        Kd.int IntKind.i64, Kd.int IntKind.i64]
                      l0 fun n2 n3 n4 a0 n5 n6 n7 n8 n9 l1 n10 n11 =>
                      wpC Try.prog 54
                        [AV.agg
                            [AV.i IntKind.i64 n2, AV.i IntKind.i64 n3, AV.i IntKind.i64 n4, a0, AV.i IntKind.i64 n5, AV.i IntKind.i64 n6, AV.i IntKind.i64 n7, AV.i IntKind.i64 n8, AV.i IntKind.i64 n9,
                              AV.s l1, AV.i IntKind.i64 n10, AV.i IntKind.i64 n11]]
                        (fun a1 h1 =>
                          onRet [Sh.one (Kd.int IntKind.i64)] a1 fun n12 =>
                            onO (intO BinOp.add IntKind.i64 n0 n12) fun n13 => onO (intO BinOp.add IntKind.i64 n1 1) fun n14 => ∃ p4, ltN p4 p2 ∧ I0 p4 n13 n14 h1)
                        h0)
                (Post (AV.i IntKind.i64 n0) h0))
              (Post (AV.i IntKind.i64 n0) h0)) := by kernel_rfl
/-! ### operations with memory of their own -/
def intC (l : List Int) : List (List AV) := l.map fun x => [.i .i64 x]
/-- an operation whose deps stand in this part, in a row of its own -/
def eOp (q : Hp) (o : D.Op) (c : List AV) : Prop := D.kOp.K q o c ∧ ∃ d, c = opC o d ∧ Fresh (Hp.none q.lo) q d 1 (intC o.deps)
abbrev OpOwn (g h : Hp) (a : AV) (l : List D.Op) : Prop := OwnD eOp 12 g h a l
theorem OpOwn.kn {g h : Hp} {a : AV} {l : List D.Op} (o : OpOwn g h a l) : D.kOp.Own g h a l := OwnD.own o rfl fun _ _ _ e => e.1
theorem ints_css {h : Hp} : ∀ {l : List Int} {css : List (List AV)}, All2 (Kn.int.K h) l css → css = intC l
  | [], _, .nil => rfl
  | _ :: _, _, .cons k t => by rw [k.1, ints_css t]; rfl
theorem Kn.Own.part {g h : Hp} {a : AV} {l : List Int} (o : Kn.int.Own g h a l) : ∃ q, q.le h ∧ Disj q g ∧ q.lo = g.lo ∧ (∀ b, q.g b ≠ none → g.lo ≤ b) ∧ Fresh (Hp.none g.lo) q a 1 (intC l) ∧ IR q a l := by
  obtain ⟨p, css, h0, h1, f, h2⟩ := o
  obtain ⟨q, q1, q2, q3, q4, q5⟩ := f.part
  have e := ints_css h2
  subst e
  rw [h1] at q3 q4 q5
  exact ⟨q, q1, q2.le_right h0, q3, q4, q5, _, q5.row, h2.mono fun _ _ k => k⟩
/-- one more operation, copied -/
theorem OpOwn.snoc {g p p' h' : Hp} {a : AV} {l : List D.Op} {css : List (List AV)} {qs : Nat → Hp} {h : Hp} (o : OwnE eOp 12 g h a l p css qs) (fr : Fresh p' h' a 12 css) (hl : p'.lo = p.lo) {x : D.Op} {d : AV} {h0 : Hp} (kx : D.kOp.K h0 x (opC x d)) {r : AV} (ow : Kn.int.Own p p' r x.deps)
    (hbig : l.length + 1 < 32000000) {Post : Option AV → Hp → Prop} (k : ∀ r h2, OpOwn g h2 r (l ++ [x]) → Post (some r) h2) : wpE (.app a 1 (.lit (opC x r)) 12) Post h' := by
  obtain ⟨q, q1, q2, q3, q4, q5, q6⟩ := ow.part
  have kk := op_again kx q6
  exact OwnE.snoc o fr ow.le hl q1 q2 q3 q4 ⟨kk, r, rfl, by rw [q3]; exact q5⟩ rfl (D.kOp.sc kk) hbig k
def lacks (v : List Int) (o : D.Op) : Bool := match v[o.stamp.rep.toNat]? with
  | some x => decide (x < o.seq)
  | none => false
def behind (v : List Int) (l : List D.Op) : List D.Op := (l.filter (lacks v)).take 8
section
variable {h : Hp} {Post : AV → Hp → Prop}
theorem rem64 {a b : Int} (h : b ≠ 0) : intO .rem .u64 a b = some (a.tmod b) := by
  have : eqI b 0 = false := by
    cases b with
    | ofNat n => cases n with
      | zero => exact absurd rfl h
      | succ n => rfl
    | negSucc n => rfl
  unfold intO intA
  simp only [this, cond_false]
theorem wru64 (n : Int) : wrO .u64 n = some (n % 18446744073709551616) := by unfold wrO; rw [wrap_mod rfl]; rfl
theorem c16 {a b : Int} (h0 : 0 < b) (h1 : b < 9223372036854775808) (k : ∀ n, 0 ≤ n → n < b → Post (.i .i64 n) h) : wpC Try.prog 16 [.i .i64 a, .i .i64 b] Post h := by
  refine call_sound (args := [.ii .i64 a, .ii .i64 b]) (cuts := []) ⟨trivial, trivial, trivial⟩ ?_
  rw [vc16]
  have e : b % 18446744073709551616 = b := by omega
  have h2 := Int.emod_nonneg a (show (18446744073709551616 : Int) ≠ 0 by omega)
  refine onO.mk (wru64 _) (onO.mk (wru64 _) ?_)
  rw [e]
  have h3 : (a % 18446744073709551616).tmod b = (a % 18446744073709551616) % b := Int.tmod_eq_emod_of_nonneg h2
  have h4 := Int.emod_nonneg (a % 18446744073709551616) (show b ≠ 0 by omega)
  have h5 := Int.emod_lt_of_pos (a % 18446744073709551616) h0
  refine onO.mk (rem64 (by omega)) ?_
  rw [h3]
  exact onO.mk (wr64 (by omega) (by omega)) (k _ h4 h5)
end
section
variable {h : Hp} {Post : AV → Hp → Prop}
theorem op_mk {h : Hp} {o : D.Op} {d : AV} (k1 : In64 o.stamp.time) (k2 : In64 o.stamp.rep) (k3 : In64 o.seq) (r : IR h d o.deps) (k4 : o.deps.length * 8 ≤ 140737488351232) (k5 : In64 o.kind) (k6 : In64 o.node.time) (k7 : In64 o.node.rep) (k8 : In64 o.parent.time) (k9 : In64 o.parent.rep)
    (k10 : o.key.length ≤ 140737488351232) (k11 : ∀ x ∈ o.key, x < 256) (k12 : In64 o.prop) (k13 : In64 o.value) : D.kOp.K h o (opC o d) :=
  ⟨_, _, rfl, ⟨_, _, rfl, in64_of k1, in64_of k2⟩, _, _, rfl, in64_of k3, _, _, rfl, ⟨d, rfl, r, k4⟩, _, _, rfl, in64_of k5, _, _, rfl, ⟨_, _, rfl, in64_of k6, in64_of k7⟩, _, _, rfl, ⟨_, _, rfl, in64_of k8, in64_of k9⟩, _, _, rfl, ⟨rfl, k10, k11⟩, _, _, rfl, in64_of k12, in64_of k13⟩
end
open Classical in
/-- what is seen of some blocks -/
noncomputable def Hp.res (h : Hp) (S : Nat → Prop) : Hp := ⟨fun k => if S k then h.g k else Option.none, h.lo⟩
open Classical in
theorem Hp.res_le (h : Hp) (S : Nat → Prop) : (h.res S).le h := fun k c e => by
  have e : (if S k then h.g k else Option.none) = some c := e
  by_cases hs : S k
  · rw [if_pos hs] at e; exact e
  · rw [if_neg hs] at e; cases e
theorem Hp.res_in {h : Hp} {S : Nat → Prop} {k : Nat} (hs : S k) : (h.res S).g k = h.g k := if_pos hs
theorem Hp.res_out {h : Hp} {S : Nat → Prop} {k : Nat} (hs : ¬ S k) : (h.res S).g k = Option.none := if_neg hs
theorem Hp.res_has {h : Hp} {S : Nat → Prop} {k : Nat} {c : List AV} (e : (h.res S).g k = some c) : S k := by
  by_cases hs : S k
  · exact hs
  · rw [Hp.res_out hs] at e; cases e
/-- all of a row of one's own, apart from the rest -/
theorem OwnD.part {α : Type} {E : Hp → α → List AV → Prop} {sz : Nat} {g h : Hp} {a : AV} {l : List α} (o : OwnD E sz g h a l) : ∃ q, q.le h ∧ Disj q g ∧ q.lo = g.lo ∧ OwnD E sz (Hp.none g.lo) q a l := by
  obtain ⟨p, css, qs, o⟩ := o
  have hin : ∀ i k, (qs i).g k ≠ none → h.g k = (qs i).g k := fun i k e => by
    cases hq : (qs i).g k with
    | none => exact absurd hq e
    | some c => exact o.fr.le k c (o.sub i k c hq)
  have hlo : h.lo = g.lo := o.fr.lo.trans o.lo
  refine ⟨h.res fun k => (∃ b of len lo ex z, a = .sl b of len lo ex z ∧ k = b) ∨ ∃ i, (qs i).g k ≠ none, Hp.res_le _ _, fun k c e => ?_, hlo, h.res fun k => ∃ i, (qs i).g k ≠ none, css, qs, none_le _ _, hlo, ?_, o.len, fun i k c e => ?_, fun i k c e => rfl, o.dd, o.qlo, o.own, o.el⟩
  · rcases Hp.res_has e with ⟨b, of, len, lo, ex, z, ea, rfl⟩ | ⟨i, hi⟩
    · exact le_none o.le (o.fr.new _ _ _ _ _ _ ea).1
    · cases hq : (qs i).g k with
      | none => exact absurd hq hi
      | some c' => exact o.dj i k c' hq
  · refine ⟨fun k c e => ?_, rfl, ⟨o.fr.row.1, ?_⟩, fun b of len lo ex z ea => ?_⟩
    · have hk := Hp.res_has e
      rw [Hp.res_in hk] at e
      rw [Hp.res_in (.inr hk)]; exact e
    · have r := o.fr.row.2
      cases a <;> first | exact r | skip
      obtain ⟨r1, r2, r3, r4⟩ := r
      refine ⟨r1, r2, r3, r4.imp id fun e => ?_⟩
      unfold rdH at e ⊢
      rw [Hp.res_in (.inl ⟨_, _, _, _, _, _, rfl, rfl⟩)]; exact e
    · obtain ⟨n1, n2, cs, n3, n4⟩ := o.fr.new _ _ _ _ _ _ ea
      refine ⟨?_, by show h.lo ≤ b; rw [o.fr.lo]; exact n2, cs, ?_, n4⟩
      · apply Hp.res_out
        rintro ⟨i, hi⟩
        cases hq : (qs i).g b with
        | none => exact hi hq
        | some c' => rw [o.sub i b c' hq] at n1; cases n1
      · rw [Hp.res_in (.inl ⟨_, _, _, _, _, _, ea, rfl⟩)]; exact n3
  · have hi : (qs i).g k ≠ none := by rw [e]; simp
    rw [Hp.res_in ⟨i, hi⟩, hin i k hi]; exact e
section
variable {g h : Hp} {a b : AV} {Post : AV → Hp → Prop}
theorem onTup.z {K : Prop} (k : K) : onTup [] (.tup []) K := k
end
section
variable {h : Hp} {a b : AV} {l : List D.Op} {v : List Int} {Post : AV → Hp → Prop}
theorem nsI : IR h .ns [] := ⟨[], ⟨fun _ h => (by cases h), rfl⟩, .nil⟩
theorem nsO : OpRow h .ns [] := ⟨[], ⟨fun _ h => (by cases h), rfl⟩, .nil⟩
end
section
variable {h : Hp} {a b : AV} {l : List D.Op} {v : List Int} {Post : AV → Hp → Prop}
def opFits (o : D.Op) : Prop := o.deps.length ≤ 140737488351232 ∧ o.key.length ≤ 140737488351232
theorem op_fits {o : D.Op} {c : List AV} (k : D.kOp.K h o c) : opFits o := by
  obtain ⟨d, e, f1, f2, f3, ⟨f4, f4'⟩, f5, f6, f7, f8, f9, f10, f11⟩ := D.kOp_open k
  exact ⟨by omega, f10.1⟩
theorem c54 {o : D.Op} {d : AV} (rd : IR h d o.deps) (hf : opFits o) (k : Post (.i .i64 ((1 + o.deps.length + o.key.length : Nat) : Int)) h) : wpC Try.prog 54 [.agg (opC o d)] Post h := by
  refine call_sound (args := [opS o d]) (cuts := []) ⟨opS_good rd.sc, trivial⟩ ?_
  unfold opS
  rw [vc54]
  obtain ⟨h1, h2⟩ := hf
  intro _
  refine onO.mk rd.len (onO.mk (add64 (by omega) (by omega)) (onO.mk (add64 (by omega) (by omega)) ?_))
  have e : (1 : Int) + o.deps.length + o.key.length = ((1 + o.deps.length + o.key.length : Nat) : Int) := by omega
  rw [e]; exact k
theorem onL.ask {a b : AV} (ha : a.sc = true) (hb : b.sc = true) {x y z w : Int} {K : AV → AV → Int → Int → Int → Int → Prop} (k : K a b x y z w) : onL [Kd.ref, Kd.ref, Kd.int .i64, Kd.int .i64, Kd.int .i64, Kd.int .i64] [a, b, .i .i64 x, .i .i64 y, .i .i64 z, .i .i64 w] K :=
  onRef.mk (K := fun a => onL [Kd.ref, Kd.int .i64, Kd.int .i64, Kd.int .i64, Kd.int .i64] [b, .i .i64 x, .i .i64 y, .i .i64 z, .i .i64 w] (K a)) ha (onRef.mk (K := fun b => onL [Kd.int .i64, Kd.int .i64, Kd.int .i64, Kd.int .i64] [.i .i64 x, .i .i64 y, .i .i64 z, .i .i64 w] (K a b)) hb k)
end
/- arras/code.Put -/
theorem vc91 (a : AV) (b : Int) (h : Hp) (Post : AV → Hp → Prop) : vcCall Try.prog [0] 91 [(SV.vv a), (SV.ii .i64 b)] h Post = (
  ∃ I0 : Nat → AV → Int → AV → Hp → Prop,
  (∃ p0, I0 p0 a b AV.ns h) ∧
    ∀ (p1 : Nat) (h0 : Hp) (a0 : AV),
      a0.sc = true →
        ∀ (n0 : Int) (a1 : AV),
          a1.sc = true →
            I0 p1 a0 n0 a1 h0 →
              Dup
                (onB (decide (128 ≤ n0))
                  (onO (wrO IntKind.u8 n0) fun n1 =>
                    onO (intO BinOp.or IntKind.u8 n1 128) fun n2 =>
                      ∀ (p2 : Nat),
                        wpE (Eff.app a0 1 (Src.lit [AV.i IntKind.u8 n2]) 1) (fun x0 h1 => onO x0 fun a2 => onO (shO BinOp.shr IntKind.i64 n0 7) fun n3 => ∃ p3, ltN p3 p1 ∧ I0 p3 a2 n3 a1 h1) h0)
                  (onO (wrO IntKind.u8 n0) fun n4 => ∀ (p4 : Nat), wpE (Eff.app a0 1 (Src.lit [AV.i IntKind.u8 n4]) 1) (fun x1 h2 => onO x1 fun a3 => Post a3 h2) h0))) := by kernel_rfl
/- arras/code.PutAll -/
theorem vc89 (a : AV) (b : AV) (h : Hp) (Post : AV → Hp → Prop) : vcCall Try.prog [] 89 [(SV.vv a), (SV.vv b)] h Post = (
  onO (lenV b) fun p0 =>
  wpC Try.prog 91 [a, AV.i IntKind.i64 ↑p0]
    (fun a0 h0 =>
      onRet [Sh.one Kd.ref] a0 fun a1 =>
        onO (lenV b) fun p1 =>
          ∃ I0 : Nat → AV → Int → Hp → Prop,
            (∃ p2, I0 p2 a1 0 h0) ∧
              ∀ (p3 : Nat) (h1 : Hp) (a2 : AV),
                a2.sc = true →
                  ∀ (n0 : Int),
                    I0 p3 a2 n0 h1 →
                      onB (decide (n0 < ↑p1))
                        (onO (idxV b n0 1) fun r0 =>
                          onO (rdH h1 r0.fst r0.snd 1) fun l0 =>
                            onL [Kd.int IntKind.i64] l0 fun n1 =>
                              wpC Try.prog 91 [a2, AV.i IntKind.i64 n1]
                                (fun a3 h2 => onRet [Sh.one Kd.ref] a3 fun a4 => onO (intO BinOp.add IntKind.i64 n0 1) fun n2 => ∃ p4, ltN p4 p3 ∧ I0 p4 a4 n2 h2) h1)
                        (Post a2 h1))
    h) := by kernel_rfl
/- arras/code.PutText -/
theorem vc92 (a : AV) (b : List Nat) (h : Hp) (Post : AV → Hp → Prop) : vcCall Try.prog [] 92 [(SV.vv a), (SV.ss b)] h Post = (
  wpC Try.prog 91 [a, AV.i IntKind.i64 ↑b.length]
  (fun a0 h0 =>
    onRet [Sh.one Kd.ref] a0 fun a1 =>
      onO (srcV 1 (AV.s b)) fun r0 => onC (((4 * r0.fst + 4000) * 1).ble (OfNat.ofNat 17179869184)) (wpE (Eff.app a1 r0.fst r0.snd 1) (fun x0 h1 => onO x0 fun a2 => Post a2 h1) h0))
  h) := by kernel_rfl
/- arras/stamp.Put -/
theorem vc90 (a : AV) (b0 : Int) (b1 : Int) (h : Hp) (Post : AV → Hp → Prop) : vcCall Try.prog [] 90 [(SV.vv a), (SV.ag [(SV.ii .i64 b0), (SV.ii .i64 b1)])] h Post = (
  ∀ (p0 : Nat),
  wpC Try.prog 91 [a, AV.i IntKind.i64 b0] (fun a0 h0 => onRet [Sh.one Kd.ref] a0 fun a1 => wpC Try.prog 91 [a1, AV.i IntKind.i64 b1] (fun a2 h1 => onRet [Sh.one Kd.ref] a2 fun a3 => Post a3 h1) h0)
    h) := by kernel_rfl
/- arras/op.Put -/
theorem vc70 (a : AV) (b0 : Int) (b1 : Int) (b2 : Int) (b3 : AV) (b4 : Int) (b5 : Int) (b6 : Int) (b7 : Int) (b8 : Int) (b9 : List Nat) (b10 : Int) (b11 : Int) (h : Hp) (Post : AV → Hp → Prop) : vcCall Try.prog [] 70 [(SV.vv a), (SV.ag [(SV.ii .i64 b0), (SV.ii .i64 b1), (SV.ii .i64 b2), (SV.vv b3), (SV.ii .i64 b4), (SV.ii .i64 b5), (SV.ii .i64 b6), (SV.ii .i64 b7), (SV.ii .i64 b8), (SV.ss b9), (SV.ii .i64 b10), (SV.ii .i64 b11)])] h Post = (
  ∀ (p0 : Nat),
  wpC Try.prog 90 [a, AV.agg [AV.i IntKind.i64 b0, AV.i IntKind.i64 b1]]
    (fun a0 h0 =>
      onRet [Sh.one Kd.ref] a0 fun a1 =>
        wpC Try.prog 89 [a1, b3]
          (fun a2 h1 =>
            onRet [Sh.one Kd.ref] a2 fun a3 =>
              wpC Try.prog 91 [a3, AV.i IntKind.i64 b4]
                (fun a4 h2 =>
                  onRet [Sh.one Kd.ref] a4 fun a5 =>
                    wpC Try.prog 90 [a5, AV.agg [AV.i IntKind.i64 b5, AV.i IntKind.i64 b6]]
                      (fun a6 h3 =>
                        onRet [Sh.one Kd.ref] a6 fun a7 =>
                          onB (decide (b4 = 1))
                            (wpC Try.prog 90 [a7, AV.agg [AV.i IntKind.i64 b7, AV.i IntKind.i64 b8]]
                              (fun a8 h4 => onRet [Sh.one Kd.ref] a8 fun a9 => wpC Try.prog 92 [a9, AV.s b9] (fun a10 h5 => onRet [Sh.one Kd.ref] a10 fun a11 => Post a11 h5) h4) h3)
                            (wpC Try.prog 91 [a7, AV.i IntKind.i64 b10]
                              (fun a12 h6 =>
                                onRet [Sh.one Kd.ref] a12 fun a13 =>
                                  onO (intO BinOp.add IntKind.i64 b11 1) fun n0 => wpC Try.prog 91 [a13, AV.i IntKind.i64 n0] (fun a14 h7 => onRet [Sh.one Kd.ref] a14 fun a15 => Post a15 h7) h6)
                              h3))
                      h2)
                h1)
          h0)
    h) := by kernel_rfl
/- arras/op.Bytes -/
theorem vc59 (a0 : Int) (a1 : Int) (a2 : Int) (a3 : AV) (a4 : Int) (a5 : Int) (a6 : Int) (a7 : Int) (a8 : Int) (a9 : List Nat) (a10 : Int) (a11 : Int) (h : Hp) (Post : AV → Hp → Prop) : vcCall Try.prog [] 59 [(SV.ag [(SV.ii .i64 a0), (SV.ii .i64 a1), (SV.ii .i64 a2), (SV.vv a3), (SV.ii .i64 a4), (SV.ii .i64 a5), (SV.ii .i64 a6), (SV.ii .i64 a7), (SV.ii .i64 a8), (SV.ss a9), (SV.ii .i64 a10), (SV.ii .i64 a11)])] h Post = (
  ∀ (p0 : Nat),
  wpC Try.prog 68
    [AV.agg
        [AV.i IntKind.i64 a0, AV.i IntKind.i64 a1, AV.i IntKind.i64 a2, a3, AV.i IntKind.i64 a4, AV.i IntKind.i64 a5, AV.i IntKind.i64 a6, AV.i IntKind.i64 a7, AV.i IntKind.i64 a8, AV.s a9,
          AV.i IntKind.i64 a10, AV.i IntKind.i64 a11]]
    (fun a0_1 h0 =>
      onRet [Sh.one Kd.bool] a0_1 fun lc0 =>
        onB (!lc0) (Post (AV.tup [AV.ns, AV.i IntKind.i64 1]) h0)
          (wpC Try.prog 70
            [AV.ns,
              AV.agg
                [AV.i IntKind.i64 a0, AV.i IntKind.i64 a1, AV.i IntKind.i64 a2, a3, AV.i IntKind.i64 a4, AV.i IntKind.i64 a5, AV.i IntKind.i64 a6, AV.i IntKind.i64 a7, AV.i IntKind.i64 a8, AV.s a9,
                  AV.i IntKind.i64 a10, AV.i IntKind.i64 a11]]
            (fun a1 h1 => onRet [Sh.one Kd.ref] a1 fun a2 => Post (AV.tup [a2, AV.i IntKind.i64 0]) h1) h0))
    h) := by kernel_rfl
/- arras/code.TakeNum -/
theorem vc97 (a : AV) (h : Hp) (Post : AV → Hp → Prop) : vcCall Try.prog [0] 97 [(SV.vv a)] h Post = (
  ∃ I0 : Nat → Int → Int → Int → Int → Hp → Prop,
  (∃ p0, I0 p0 0 0 0 0 h) ∧
    ∀ (p1 : Nat) (h0 : Hp) (n0 n1 n2 n3 : Int),
      I0 p1 n0 n1 n2 n3 h0 →
        Dup
          (onO (lenV a) fun p2 =>
            onB (decide (n0 = ↑p2)) (Post (AV.tup [AV.i IntKind.i64 0, AV.i IntKind.i64 0, AV.i IntKind.i64 7]) h0)
              (onO (idxV a n0 1) fun r0 =>
                onO (rdH h0 r0.fst r0.snd 1) fun l0 =>
                  onL [Kd.int IntKind.u8] l0 fun n4 =>
                    onB (decide (128 ≤ n4))
                      (onB (decide (n0 = 8)) (Post (AV.tup [AV.i IntKind.i64 0, AV.i IntKind.i64 0, AV.i IntKind.i64 1]) h0)
                        (onO (idxV a n0 1) fun r1 =>
                          onO (rdH h0 r1.fst r1.snd 1) fun l1 =>
                            onL [Kd.int IntKind.u8] l1 fun n5 =>
                              onO (intO BinOp.and IntKind.u8 n5 127) fun n6 =>
                                onO (wrO IntKind.i64 n6) fun n7 =>
                                  onO (intO BinOp.mul IntKind.i64 7 n0) fun n8 =>
                                    onO (shO BinOp.shl IntKind.i64 n7 n8) fun n9 =>
                                      onO (intO BinOp.or IntKind.i64 n1 n9) fun n10 =>
                                        onO (idxV a n0 1) fun r2 =>
                                          onO (rdH h0 r2.fst r2.snd 1) fun l2 =>
                                            onL [Kd.int IntKind.u8] l2 fun n11 =>
                                              onB (decide (128 ≤ n11)) (onO (intO BinOp.add IntKind.i64 n0 1) fun n12 => ∃ p3, ltN p3 p1 ∧ I0 p3 n12 n10 n2 n3 h0)
                                                (onO (idxV a n0 1) fun r3 =>
                                                  onO (rdH h0 r3.fst r3.snd 1) fun l3 =>
                                                    onL [Kd.int IntKind.u8] l3 fun n13 =>
                                                      onB (decide (n13 = 0))
                                                        (onB (decide (0 < n0)) (Post (AV.tup [AV.i IntKind.i64 0, AV.i IntKind.i64 0, AV.i IntKind.i64 1]) h0)
                                                          (onB (decide (4611686018427387904 < n10)) (Post (AV.tup [AV.i IntKind.i64 0, AV.i IntKind.i64 0, AV.i IntKind.i64 1]) h0)
                                                            (onO (intO BinOp.add IntKind.i64 n0 1) fun n14 => Post (AV.tup [AV.i IntKind.i64 n10, AV.i IntKind.i64 n14, AV.i IntKind.i64 0]) h0)))
                                                        (onB (decide (4611686018427387904 < n10)) (Post (AV.tup [AV.i IntKind.i64 0, AV.i IntKind.i64 0, AV.i IntKind.i64 1]) h0)
                                                          (onO (intO BinOp.add IntKind.i64 n0 1) fun n15 => Post (AV.tup [AV.i IntKind.i64 n10, AV.i IntKind.i64 n15, AV.i IntKind.i64 0]) h0)))))
                      (onO (idxV a n0 1) fun r4 =>
                        onO (rdH h0 r4.fst r4.snd 1) fun l4 =>
                          onL [Kd.int IntKind.u8] l4 fun n16 =>
                            onO (intO BinOp.and IntKind.u8 n16 127) fun n17 =>
                              onO (wrO IntKind.i64 n17) fun n18 =>
                                onO (intO BinOp.mul IntKind.i64 7 n0) fun n19 =>
                                  onO (shO BinOp.shl IntKind.i64 n18 n19) fun n20 =>
                                    onO (intO BinOp.or IntKind.i64 n1 n20) fun n21 =>
                                      onO (idxV a n0 1) fun r5 =>
                                        onO (rdH h0 r5.fst r5.snd 1) fun l5 =>
                                          onL [Kd.int IntKind.u8] l5 fun n22 =>
                                            onB (decide (128 ≤ n22)) (onO (intO BinOp.add IntKind.i64 n0 1) fun n23 => ∃ p4, ltN p4 p1 ∧ I0 p4 n23 n21 n2 n3 h0)
                                              (onO (idxV a n0 1) fun r6 =>
                                                onO (rdH h0 r6.fst r6.snd 1) fun l6 =>
                                                  onL [Kd.int IntKind.u8] l6 fun n24 =>
                                                    onB (decide (n24 = 0))
                                                      (onB (decide (0 < n0)) (Post (AV.tup [AV.i IntKind.i64 0, AV.i IntKind.i64 0, AV.i IntKind.i64 1]) h0)
                                                        (onB (decide (4611686018427387904 < n21)) (Post (AV.tup [AV.i IntKind.i64 0, AV.i IntKind.i64 0, AV.i IntKind.i64 1]) h0)
                                                          (onO (intO BinOp.add IntKind.i64 n0 1) fun n25 => Post (AV.tup [AV.i IntKind.i64 n21, AV.i IntKind.i64 n25, AV.i IntKind.i64 0]) h0)))
                                                      (onB (decide (4611686018427387904 < n21)) (Post (AV.tup [AV.i IntKind.i64 0, AV.i IntKind.i64 0, AV.i IntKind.i64 1]) h0)
                                                        (onO (intO BinOp.add IntKind.i64 n0 1) fun n26 => Post (AV.tup [AV.i IntKind.i64 n21, AV.i IntKind.i64 n26, AV.i IntKind.i64 0]) h0))))))) := by kernel_rfl
/- arras/code.TakeNums -/
theorem vc96 (a : AV) (h : Hp) (Post : AV → Hp → Prop) : vcCall Try.prog [] 96 [(SV.vv a)] h Post = (
  wpC Try.prog 97 [a]
  (fun a0 h0 =>
    onTup [Sh.one (Kd.int IntKind.i64), Sh.one (Kd.int IntKind.i64), Sh.one (Kd.int IntKind.i64)] a0 fun n0 n1 n2 =>
      onB (!decide (n2 = 0)) (Post (AV.tup [AV.ns, AV.i IntKind.i64 0, AV.i IntKind.i64 n2]) h0)
        (onB (decide (1024 < n0)) (Post (AV.tup [AV.ns, AV.i IntKind.i64 0, AV.i IntKind.i64 1]) h0)
          (∃ I0 : Nat → Int → AV → Int → Int → Hp → Prop,
            (∃ p0, I0 p0 n2 AV.ns n1 0 h0) ∧
              ∀ (p1 : Nat) (h1 : Hp) (n3 : Int) (a1 : AV),
                a1.sc = true →
                  ∀ (n4 n5 : Int),
                    I0 p1 n3 a1 n4 n5 h1 →
                      onB (decide (n5 < n0))
                        (onO (slV a (some n4) none none 1) fun a2 =>
                          wpC Try.prog 97 [a2]
                            (fun a3 h2 =>
                              onTup [Sh.one (Kd.int IntKind.i64), Sh.one (Kd.int IntKind.i64), Sh.one (Kd.int IntKind.i64)] a3 fun n6 n7 n8 =>
                                onB (!decide (n8 = 0)) (Post (AV.tup [AV.ns, AV.i IntKind.i64 0, AV.i IntKind.i64 n8]) h2)
                                  (∀ (p2 : Nat),
                                    wpE (Eff.app a1 1 (Src.lit [AV.i IntKind.i64 n6]) 1)
                                      (fun x0 h3 =>
                                        onO x0 fun a4 => onO (intO BinOp.add IntKind.i64 n4 n7) fun n9 => onO (intO BinOp.add IntKind.i64 n5 1) fun n10 => ∃ p3, ltN p3 p1 ∧ I0 p3 n3 a4 n9 n10 h3)
                                      h2))
                            h1)
                        (Post (AV.tup [a1, AV.i IntKind.i64 n4, AV.i IntKind.i64 0]) h1))))
  h) := by kernel_rfl
/- arras/code.TakeText -/
theorem vc85 (a : AV) (h : Hp) (Post : AV → Hp → Prop) : vcCall Try.prog [] 85 [(SV.vv a)] h Post = (
  wpC Try.prog 97 [a]
  (fun a0 h0 =>
    onTup [Sh.one (Kd.int IntKind.i64), Sh.one (Kd.int IntKind.i64), Sh.one (Kd.int IntKind.i64)] a0 fun n0 n1 n2 =>
      onB (!decide (n2 = 0)) (Post (AV.tup [AV.s [], AV.i IntKind.i64 0, AV.i IntKind.i64 n2]) h0)
        (onB (decide (65536 < n0)) (Post (AV.tup [AV.s [], AV.i IntKind.i64 0, AV.i IntKind.i64 1]) h0)
          (onO (lenV a) fun p0 =>
            onO (intO BinOp.sub IntKind.i64 (↑p0) n1) fun n3 =>
              onB (decide (n3 < n0)) (Post (AV.tup [AV.s [], AV.i IntKind.i64 0, AV.i IntKind.i64 7]) h0)
                (onO (intO BinOp.add IntKind.i64 n1 n0) fun n4 =>
                  onO (slV a (some n1) (some n4) none 1) fun a1 =>
                    onO (strAt h0 a1) fun r0 => onO (intO BinOp.add IntKind.i64 n1 n0) fun n5 => Post (AV.tup [AV.s r0.fst, AV.i IntKind.i64 n5, AV.i IntKind.i64 0]) h0))))
  h) := by kernel_rfl
/- arras/stamp.Take -/
theorem vc95 (a : AV) (h : Hp) (Post : AV → Hp → Prop) : vcCall Try.prog [] 95 [(SV.vv a)] h Post = (
  ∀ (p0 : Nat),
  wpC Try.prog 97 [a]
    (fun a0 h0 =>
      onTup [Sh.one (Kd.int IntKind.i64), Sh.one (Kd.int IntKind.i64), Sh.one (Kd.int IntKind.i64)] a0 fun n0 n1 n2 =>
        onB (!decide (n2 = 0)) (Post (AV.tup [AV.agg [AV.i IntKind.i64 0, AV.i IntKind.i64 0], AV.i IntKind.i64 0, AV.i IntKind.i64 n2]) h0)
          (onO (slV a (some n1) none none 1) fun a1 =>
            wpC Try.prog 97 [a1]
              (fun a2 h1 =>
                onTup [Sh.one (Kd.int IntKind.i64), Sh.one (Kd.int IntKind.i64), Sh.one (Kd.int IntKind.i64)] a2 fun n3 n4 n5 =>
                  onB (!decide (n5 = 0)) (Post (AV.tup [AV.agg [AV.i IntKind.i64 0, AV.i IntKind.i64 0], AV.i IntKind.i64 0, AV.i IntKind.i64 n5]) h1)
                    (wpC Try.prog 98 [AV.agg [AV.i IntKind.i64 n0, AV.i IntKind.i64 n3]]
                      (fun a3 h2 =>
                        onRet [Sh.one Kd.bool] a3 fun lc0 =>
                          onB (!lc0) (Post (AV.tup [AV.agg [AV.i IntKind.i64 0, AV.i IntKind.i64 0], AV.i IntKind.i64 0, AV.i IntKind.i64 1]) h2)
                            (onO (intO BinOp.add IntKind.i64 n1 n4) fun n6 => Post (AV.tup [AV.agg [AV.i IntKind.i64 n0, AV.i IntKind.i64 n3], AV.i IntKind.i64 n6, AV.i IntKind.i64 0]) h2))
                      h1))
              h0))
    h) := by kernel_rfl
/- arras/have.Take -/
theorem vc82 (a : AV) (h : Hp) (Post : AV → Hp → Prop) : vcCall Try.prog [] 82 [(SV.vv a)] h Post = (
  wpC Try.prog 96 [a]
  (fun a0 h0 =>
    onTup [Sh.one Kd.ref, Sh.one (Kd.int IntKind.i64), Sh.one (Kd.int IntKind.i64)] a0 fun a1 n0 n1 =>
      onB (!decide (n1 = 0)) (Post (AV.tup [AV.ns, AV.i IntKind.i64 0, AV.i IntKind.i64 n1]) h0)
        (wpC Try.prog 87 [a1]
          (fun a2 h1 =>
            onRet [Sh.one Kd.bool] a2 fun lc0 => onB (!lc0) (Post (AV.tup [AV.ns, AV.i IntKind.i64 0, AV.i IntKind.i64 1]) h1) (Post (AV.tup [a1, AV.i IntKind.i64 n0, AV.i IntKind.i64 0]) h1))
          h0))
  h) := by kernel_rfl
/- (*arras/op.reader).part -/
theorem vc83 (a : AV) (b : Int) (c : Int) (h : Hp) (Post : AV → Hp → Prop) : vcCall Try.prog [] 83 [(SV.vv a), (SV.ii .i64 b), (SV.ii .i64 c)] h Post = (
  onO (ptrV a) fun r0 =>
  onO (rdH h r0.fst (r0.snd + 2) 1) fun l0 =>
    onL [Kd.int IntKind.i64] l0 fun n0 =>
      onB (decide (n0 = 0))
        (onO (ptrV a) fun r1 =>
          onO (rdH h r1.fst (r1.snd + 1) 1) fun l1 =>
            onL [Kd.int IntKind.i64] l1 fun n1 =>
              onO (intO BinOp.add IntKind.i64 n1 b) fun n2 =>
                onO (ptrV a) fun r2 =>
                  wpE (Eff.w r2.fst (r2.snd + 1) (Src.lit [AV.i IntKind.i64 n2]) none)
                    (fun x0 h0 => onO (ptrV a) fun r3 => wpE (Eff.w r3.fst (r3.snd + 2) (Src.lit [AV.i IntKind.i64 c]) none) (fun x1 h1 => Post (AV.tup []) h1) h0) h)
        (Post (AV.tup []) h)) := by kernel_rfl
/- (*arras/op.reader).number -/
theorem vc84 (a : AV) (h : Hp) (Post : AV → Hp → Prop) : vcCall Try.prog [] 84 [(SV.vv a)] h Post = (
  onO (ptrV a) fun r0 =>
  onO (rdH h r0.fst (r0.snd + 0) 1) fun l0 =>
    onL [Kd.ref] l0 fun a0 =>
      onO (ptrV a) fun r1 =>
        onO (rdH h r1.fst (r1.snd + 1) 1) fun l1 =>
          onL [Kd.int IntKind.i64] l1 fun n0 =>
            onO (slV a0 (some n0) none none 1) fun a1 =>
              wpC Try.prog 97 [a1]
                (fun a2 h0 =>
                  onTup [Sh.one (Kd.int IntKind.i64), Sh.one (Kd.int IntKind.i64), Sh.one (Kd.int IntKind.i64)] a2 fun n1 n2 n3 =>
                    wpC Try.prog 83 [a, AV.i IntKind.i64 n2, AV.i IntKind.i64 n3] (fun a3 h1 => onTup [] a3 (Post (AV.i IntKind.i64 n1) h1)) h0)
                h) := by kernel_rfl
/- (*arras/op.reader).place -/
theorem vc81 (a : AV) (h : Hp) (Post : AV → Hp → Prop) : vcCall Try.prog [] 81 [(SV.vv a)] h Post = (
  ∀ (p0 : Nat),
  onO (ptrV a) fun r0 =>
    onO (rdH h r0.fst (r0.snd + 0) 1) fun l0 =>
      onL [Kd.ref] l0 fun a0 =>
        onO (ptrV a) fun r1 =>
          onO (rdH h r1.fst (r1.snd + 1) 1) fun l1 =>
            onL [Kd.int IntKind.i64] l1 fun n0 =>
              onO (slV a0 (some n0) none none 1) fun a1 =>
                wpC Try.prog 95 [a1]
                  (fun a2 h0 =>
                    onTup [Sh.agg [Kd.int IntKind.i64, Kd.int IntKind.i64], Sh.one (Kd.int IntKind.i64), Sh.one (Kd.int IntKind.i64)] a2 fun n1 n2 n3 n4 =>
                      ∀ (p1 : Nat), wpC Try.prog 83 [a, AV.i IntKind.i64 n3, AV.i IntKind.i64 n4] (fun a3 h1 => onTup [] a3 (Post (AV.agg [AV.i IntKind.i64 n1, AV.i IntKind.i64 n2]) h1)) h0)
                  h) := by kernel_rfl
/- (*arras/op.reader).read -/
theorem vc67 (a : AV) (h : Hp) (Post : AV → Hp → Prop) : vcCall Try.prog [] 67 [(SV.vv a)] h Post = (
  ∀ (p0 : Nat),
  wpC Try.prog 81 [a]
    (fun a0 h0 =>
      onRet [Sh.agg [Kd.int IntKind.i64, Kd.int IntKind.i64]] a0 fun n0 n1 =>
        onO (ptrV a) fun r0 =>
          onO (rdH h0 r0.fst (r0.snd + 0) 1) fun l0 =>
            onL [Kd.ref] l0 fun a1 =>
              onO (ptrV a) fun r1 =>
                onO (rdH h0 r1.fst (r1.snd + 1) 1) fun l1 =>
                  onL [Kd.int IntKind.i64] l1 fun n2 =>
                    onO (slV a1 (some n2) none none 1) fun a2 =>
                      wpC Try.prog 82 [a2]
                        (fun a3 h1 =>
                          onTup [Sh.one Kd.ref, Sh.one (Kd.int IntKind.i64), Sh.one (Kd.int IntKind.i64)] a3 fun a4 n3 n4 =>
                            wpC Try.prog 83 [a, AV.i IntKind.i64 n3, AV.i IntKind.i64 n4]
                              (fun a5 h2 =>
                                onTup [] a5
                                  (wpC Try.prog 84 [a]
                                    (fun a6 h3 =>
                                      onRet [Sh.one (Kd.int IntKind.i64)] a6 fun n5 =>
                                        onB (!decide (n5 = 1))
                                          (onB (!decide (n5 = 2))
                                            (wpC Try.prog 83 [a, AV.i IntKind.i64 0, AV.i IntKind.i64 1]
                                              (fun a7 h4 =>
                                                onTup [] a7
                                                  (wpC Try.prog 81 [a]
                                                    (fun a8 h5 =>
                                                      onRet [Sh.agg [Kd.int IntKind.i64, Kd.int IntKind.i64]] a8 fun n6 n7 =>
                                                        onB (decide (n5 = 1))
                                                          (wpC Try.prog 81 [a]
                                                            (fun a9 h6 =>
                                                              onRet [Sh.agg [Kd.int IntKind.i64, Kd.int IntKind.i64]] a9 fun n8 n9 =>
                                                                onO (ptrV a) fun r2 =>
                                                                  onO (rdH h6 r2.fst (r2.snd + 0) 1) fun l2 =>
                                                                    onL [Kd.ref] l2 fun a10 =>
                                                                      onO (ptrV a) fun r3 =>
                                                                        onO (rdH h6 r3.fst (r3.snd + 1) 1) fun l3 =>
                                                                          onL [Kd.int IntKind.i64] l3 fun n10 =>
                                                                            onO (slV a10 (some n10) none none 1) fun a11 =>
                                                                              wpC Try.prog 85 [a11]
                                                                                (fun a12 h7 =>
                                                                                  onTup [Sh.one Kd.str, Sh.one (Kd.int IntKind.i64), Sh.one (Kd.int IntKind.i64)] a12 fun l4 n11 n12 =>
                                                                                    wpC Try.prog 83 [a, AV.i IntKind.i64 n11, AV.i IntKind.i64 n12]
                                                                                      (fun a13 h8 =>
                                                                                        onTup [] a13
                                                                                          (Post
                                                                                            (AV.agg
                                                                                              [AV.i IntKind.i64 n0, AV.i IntKind.i64 n1, AV.i IntKind.i64 0, a4, AV.i IntKind.i64 n5,
                                                                                                AV.i IntKind.i64 n6, AV.i IntKind.i64 n7, AV.i IntKind.i64 n8, AV.i IntKind.i64 n9, AV.s l4,
                                                                                                AV.i IntKind.i64 0, AV.i IntKind.i64 0])
                                                                                            h8))
                                                                                      h7)
                                                                                h6)
                                                            h5)
                                                          (wpC Try.prog 84 [a]
                                                            (fun a14 h9 =>
                                                              onRet [Sh.one (Kd.int IntKind.i64)] a14 fun n13 =>
                                                                wpC Try.prog 84 [a]
                                                                  (fun a15 h10 =>
                                                                    onRet [Sh.one (Kd.int IntKind.i64)] a15 fun n14 =>
                                                                      onO (intO BinOp.sub IntKind.i64 n14 1) fun n15 =>
                                                                        Post
                                                                          (AV.agg
                                                                            [AV.i IntKind.i64 n0, AV.i IntKind.i64 n1, AV.i IntKind.i64 0, a4, AV.i IntKind.i64 n5, AV.i IntKind.i64 n6,
                                                                              AV.i IntKind.i64 n7, AV.i IntKind.i64 0, AV.i IntKind.i64 0, AV.s [], AV.i IntKind.i64 n13, AV.i IntKind.i64 n15])
                                                                          h10)
                                                                  h9)
                                                            h5))
                                                    h4))
                                              h3)
                                            (wpC Try.prog 81 [a]
                                              (fun a16 h11 =>
                                                onRet [Sh.agg [Kd.int IntKind.i64, Kd.int IntKind.i64]] a16 fun n16 n17 =>
                                                  onB (decide (n5 = 1))
                                                    (wpC Try.prog 81 [a]
                                                      (fun a17 h12 =>
                                                        onRet [Sh.agg [Kd.int IntKind.i64, Kd.int IntKind.i64]] a17 fun n18 n19 =>
                                                          onO (ptrV a) fun r4 =>
                                                            onO (rdH h12 r4.fst (r4.snd + 0) 1) fun l5 =>
                                                              onL [Kd.ref] l5 fun a18 =>
                                                                onO (ptrV a) fun r5 =>
                                                                  onO (rdH h12 r5.fst (r5.snd + 1) 1) fun l6 =>
                                                                    onL [Kd.int IntKind.i64] l6 fun n20 =>
                                                                      onO (slV a18 (some n20) none none 1) fun a19 =>
                                                                        wpC Try.prog 85 [a19]
                                                                          (fun a20 h13 =>
                                                                            onTup [Sh.one Kd.str, Sh.one (Kd.int IntKind.i64), Sh.one (Kd.int IntKind.i64)] a20 fun l7 n21 n22 =>
                                                                              wpC Try.prog 83 [a, AV.i IntKind.i64 n21, AV.i IntKind.i64 n22]
                                                                                (fun a21 h14 =>
                                                                                  onTup [] a21
                                                                                    (Post
                                                                                      (AV.agg
                                                                                        [AV.i IntKind.i64 n0, AV.i IntKind.i64 n1, AV.i IntKind.i64 0, a4, AV.i IntKind.i64 n5, AV.i IntKind.i64 n16,
                                                                                          AV.i IntKind.i64 n17, AV.i IntKind.i64 n18, AV.i IntKind.i64 n19, AV.s l7, AV.i IntKind.i64 0,
                                                                                          AV.i IntKind.i64 0])
                                                                                      h14))
                                                                                h13)
                                                                          h12)
                                                      h11)
                                                    (wpC Try.prog 84 [a]
                                                      (fun a22 h15 =>
                                                        onRet [Sh.one (Kd.int IntKind.i64)] a22 fun n23 =>
                                                          wpC Try.prog 84 [a]
                                                            (fun a23 h16 =>
                                                              onRet [Sh.one (Kd.int IntKind.i64)] a23 fun n24 =>
                                                                onO (intO BinOp.sub IntKind.i64 n24 1) fun n25 =>
                                                                  Post
                                                                    (AV.agg
                                                                      [AV.i IntKind.i64 n0, AV.i IntKind.i64 n1, AV.i IntKind.i64 0, a4, AV.i IntKind.i64 n5, AV.i IntKind.i64 n16,
                                                                        AV.i IntKind.i64 n17, AV.i IntKind.i64 0, AV.i IntKind.i64 0, AV.s [], AV.i IntKind.i64 n23, AV.i IntKind.i64 n25])
                                                                    h16)
                                                            h15)
                                                      h11))
                                              h3))
                                          (wpC Try.prog 81 [a]
                                            (fun a24 h17 =>
                                              onRet [Sh.agg [Kd.int IntKind.i64, Kd.int IntKind.i64]] a24 fun n26 n27 =>
                                                onB (decide (n5 = 1))
                                                  (wpC Try.prog 81 [a]
                                                    (fun a25 h18 =>
                                                      onRet [Sh.agg [Kd.int IntKind.i64, Kd.int IntKind.i64]] a25 fun n28 n29 =>
                                                        onO (ptrV a) fun r6 =>
                                                          onO (rdH h18 r6.fst (r6.snd + 0) 1) fun l8 =>
                                                            onL [Kd.ref] l8 fun a26 =>
                                                              onO (ptrV a) fun r7 =>
                                                                onO (rdH h18 r7.fst (r7.snd + 1) 1) fun l9 =>
                                                                  onL [Kd.int IntKind.i64] l9 fun n30 =>
                                                                    onO (slV a26 (some n30) none none 1) fun a27 =>
                                                                      wpC Try.prog 85 [a27]
                                                                        (fun a28 h19 =>
                                                                          onTup [Sh.one Kd.str, Sh.one (Kd.int IntKind.i64), Sh.one (Kd.int IntKind.i64)] a28 fun l10 n31 n32 =>
                                                                            wpC Try.prog 83 [a, AV.i IntKind.i64 n31, AV.i IntKind.i64 n32]
                                                                              (fun a29 h20 =>
                                                                                onTup [] a29
                                                                                  (Post
                                                                                    (AV.agg
                                                                                      [AV.i IntKind.i64 n0, AV.i IntKind.i64 n1, AV.i IntKind.i64 0, a4, AV.i IntKind.i64 n5, AV.i IntKind.i64 n26,
                                                                                        AV.i IntKind.i64 n27, AV.i IntKind.i64 n28, AV.i IntKind.i64 n29, AV.s l10, AV.i IntKind.i64 0,
                                                                                        AV.i IntKind.i64 0])
                                                                                    h20))
                                                                              h19)
                                                                        h18)
                                                    h17)
                                                  (wpC Try.prog 84 [a]
                                                    (fun a30 h21 =>
                                                      onRet [Sh.one (Kd.int IntKind.i64)] a30 fun n33 =>
                                                        wpC Try.prog 84 [a]
                                                          (fun a31 h22 =>
                                                            onRet [Sh.one (Kd.int IntKind.i64)] a31 fun n34 =>
                                                              onO (intO BinOp.sub IntKind.i64 n34 1) fun n35 =>
                                                                Post
                                                                  (AV.agg
                                                                    [AV.i IntKind.i64 n0, AV.i IntKind.i64 n1, AV.i IntKind.i64 0, a4, AV.i IntKind.i64 n5, AV.i IntKind.i64 n26, AV.i IntKind.i64 n27,
                                                                      AV.i IntKind.i64 0, AV.i IntKind.i64 0, AV.s [], AV.i IntKind.i64 n33, AV.i IntKind.i64 n35])
                                                                  h22)
                                                          h21)
                                                    h17))
                                            h3))
                                    h2))
                              h1)
                        h0)
    h) := by kernel_rfl
/- arras/op.Take -/
theorem vc46 (a : AV) (h : Hp) (Post : AV → Hp → Prop) : vcCall Try.prog [] 46 [(SV.vv a)] h Post = (
  ∀ (p0 p1 : Nat),
  h.g p1 = none →
    h.lo.le p1 →
      wpC Try.prog 67 [AV.p p1 0]
        (fun a0 h0 =>
          onRet
            [Sh.agg
                [Kd.int IntKind.i64, Kd.int IntKind.i64, Kd.int IntKind.i64, Kd.ref, Kd.int IntKind.i64, Kd.int IntKind.i64, Kd.int IntKind.i64, Kd.int IntKind.i64, Kd.int IntKind.i64, Kd.str,
                  Kd.int IntKind.i64, Kd.int IntKind.i64]]
            a0 fun n0 n1 n2 a1 n3 n4 n5 n6 n7 l0 n8 n9 =>
            onO (rdH h0 p1 2 1) fun l1 =>
              onL [Kd.int IntKind.i64] l1 fun n10 =>
                onB (!decide (n10 = 0))
                  (Post
                    (AV.tup
                      [AV.agg
                          [AV.i IntKind.i64 0, AV.i IntKind.i64 0, AV.i IntKind.i64 0, AV.ns, AV.i IntKind.i64 0, AV.i IntKind.i64 0, AV.i IntKind.i64 0, AV.i IntKind.i64 0, AV.i IntKind.i64 0,
                            AV.s [], AV.i IntKind.i64 0, AV.i IntKind.i64 0],
                        AV.i IntKind.i64 0, AV.i IntKind.i64 n10])
                    h0)
                  (onO (lenV a1) fun p2 =>
                    onB (decide ((↑p2 : Int) ≤ n1))
                      (Post
                        (AV.tup
                          [AV.agg
                              [AV.i IntKind.i64 0, AV.i IntKind.i64 0, AV.i IntKind.i64 0, AV.ns, AV.i IntKind.i64 0, AV.i IntKind.i64 0, AV.i IntKind.i64 0, AV.i IntKind.i64 0, AV.i IntKind.i64 0,
                                AV.s [], AV.i IntKind.i64 0, AV.i IntKind.i64 0],
                            AV.i IntKind.i64 0, AV.i IntKind.i64 1])
                        h0)
                      (onO (idxV a1 n1 1) fun r0 =>
                        onO (rdH h0 r0.fst r0.snd 1) fun l2 =>
                          onL [Kd.int IntKind.i64] l2 fun n11 =>
                            onO (intO BinOp.add IntKind.i64 n11 1) fun n12 =>
                              wpC Try.prog 68
                                [AV.agg
                                    [AV.i IntKind.i64 n0, AV.i IntKind.i64 n1, AV.i IntKind.i64 n12, a1, AV.i IntKind.i64 n3, AV.i IntKind.i64 n4, AV.i IntKind.i64 n5, AV.i IntKind.i64 n6,
                                      AV.i IntKind.i64 n7, AV.s l0, AV.i IntKind.i64 n8, AV.i IntKind.i64 n9]]
                                (fun a2 h1 =>
                                  onRet [Sh.one Kd.bool] a2 fun lc0 =>
                                    onB lc0
                                      (onO (rdH h1 p1 1 1) fun l3 =>
                                        onL [Kd.int IntKind.i64] l3 fun n13 =>
                                          Post
                                            (AV.tup
                                              [AV.agg
                                                  [AV.i IntKind.i64 n0, AV.i IntKind.i64 n1, AV.i IntKind.i64 n12, a1, AV.i IntKind.i64 n3, AV.i IntKind.i64 n4, AV.i IntKind.i64 n5,
                                                    AV.i IntKind.i64 n6, AV.i IntKind.i64 n7, AV.s l0, AV.i IntKind.i64 n8, AV.i IntKind.i64 n9],
                                                AV.i IntKind.i64 n13, AV.i IntKind.i64 0])
                                            h1)
                                      (Post
                                        (AV.tup
                                          [AV.agg
                                              [AV.i IntKind.i64 0, AV.i IntKind.i64 0, AV.i IntKind.i64 0, AV.ns, AV.i IntKind.i64 0, AV.i IntKind.i64 0, AV.i IntKind.i64 0, AV.i IntKind.i64 0,
                                                AV.i IntKind.i64 0, AV.s [], AV.i IntKind.i64 0, AV.i IntKind.i64 0],
                                            AV.i IntKind.i64 0, AV.i IntKind.i64 1])
                                        h1))
                                h0)))
        (h.put p1 [a, AV.i IntKind.i64 0, AV.i IntKind.i64 0])) := by kernel_rfl
/-! ### plain: written -/
def encF : Nat → Nat → List Nat
  | 0, n => [n % 256]
  | f + 1, n => if n < 128 then [n] else (n % 128 + 128) :: encF f (n / 128)
/-- a number's bytes -/
def enc (n : Nat) : List Nat := encF n n
theorem encF_more : ∀ (f n : Nat), n ≤ f → encF (f + 1) n = encF f n
  | 0, n, h => by
    have : n = 0 := by omega
    subst this; rfl
  | f + 1, n, h => by
    show (if n < 128 then [n] else (n % 128 + 128) :: encF (f + 1) (n / 128)) = (if n < 128 then [n] else (n % 128 + 128) :: encF f (n / 128))
    by_cases hn : n < 128
    · rw [if_pos hn, if_pos hn]
    · rw [if_neg hn, if_neg hn, encF_more f (n / 128) (by omega)]
theorem encF_eq : ∀ (f n : Nat), n ≤ f → encF f n = enc n := by
  intro f n h
  induction h with
  | refl => rfl
  | step h ih => rw [encF_more _ _ h, ih]
theorem enc_small {n : Nat} (h : n < 128) : enc n = [n] := by
  cases n with
  | zero => rfl
  | succ n => show (if n + 1 < 128 then [n + 1] else _) = _; rw [if_pos h]
theorem enc_big {n : Nat} (h : 128 ≤ n) : enc n = (n % 128 + 128) :: enc (n / 128) := by
  obtain ⟨m, rfl⟩ : ∃ m, n = m + 1 := ⟨n - 1, by omega⟩
  show (if m + 1 < 128 then [m + 1] else ((m + 1) % 128 + 128) :: encF m ((m + 1) / 128)) = _
  rw [if_neg (by omega), encF_eq m _ (by omega)]
theorem enc_len : ∀ (k n : Nat), n < 128 ^ (k + 1) → (enc n).length ≤ k + 1
  | 0, n, h => by rw [enc_small (by omega)]; simp
  | k + 1, n, h => by
    by_cases hn : n < 128
    · rw [enc_small hn]; simp
    · rw [enc_big (by omega), List.length_cons]
      have := enc_len k (n / 128) (by rw [Nat.pow_succ] at h; omega)
      omega
theorem enc_len10 {n : Nat} (h : n < 9223372036854775808) : (enc n).length ≤ 9 := enc_len 8 n (by omega)
def encs (l : List Int) : List Nat := (l.map fun x => enc x.toNat).flatten
def opE (o : D.Op) : List Nat := enc o.stamp.time.toNat ++ enc o.stamp.rep.toNat ++ (enc o.deps.length ++ encs o.deps) ++ enc o.kind.toNat ++ (enc o.node.time.toNat ++ enc o.node.rep.toNat) ++
  (if o.kind = 1 then (enc o.parent.time.toNat ++ enc o.parent.rep.toNat) ++ (enc o.key.length ++ o.key) else enc o.prop.toNat ++ enc (o.value + 1).toNat)
/-- what was taken, how many bytes, the error -/
abbrev Tk (α : Type) := α × Nat × Int
def tkF : List Nat → Nat → Nat → Tk Int
  | [], _, _ => (0, 0, 7)
  | b :: l, i, acc => if 128 ≤ b ∧ i = 8 then (0, 0, 1) else if 128 ≤ b then tkF l (i + 1) (acc + b % 128 * 2 ^ (7 * i)) else
    if b = 0 ∧ 0 < i ∨ 4611686018427387904 < acc + b * 2 ^ (7 * i) then (0, 0, 1) else ((acc + b * 2 ^ (7 * i) : Nat), i + 1, 0)
def tkN (l : List Nat) : Tk Int := tkF l 0 0
theorem tkF_len : ∀ (l : List Nat) (i acc : Nat), (tkF l i acc).2.1 ≤ l.length + i
  | [], i, acc => by simp [tkF]
  | b :: l, i, acc => by
    unfold tkF
    split
    · simp
    · split
      · have := tkF_len l (i + 1) (acc + b % 128 * 2 ^ (7 * i)); simp; omega
      · split
        · simp
        · simp; omega
theorem tkN_len (l : List Nat) : (tkN l).2.1 ≤ l.length := by have := tkF_len l 0 0; unfold tkN; omega
theorem tkF_num : ∀ (l : List Nat) (i acc : Nat), 0 ≤ (tkF l i acc).1 ∧ (tkF l i acc).1 ≤ 4611686018427387904
  | [], i, acc => by simp [tkF]
  | b :: l, i, acc => by
    unfold tkF
    split
    · simp
    · split
      · exact tkF_num l _ _
      · split
        · simp
        · rename_i h
          have : ¬ 4611686018427387904 < acc + b * 2 ^ (7 * i) := fun h' => h (.inr h')
          constructor
          · exact Int.natCast_nonneg _
          · show ((acc + b * 2 ^ (7 * i) : Nat) : Int) ≤ _; omega
theorem tkN_num (l : List Nat) : 0 ≤ (tkN l).1 ∧ (tkN l).1 ≤ 4611686018427387904 := tkF_num l 0 0
def tkNsF : Nat → List Nat → List Int → Nat → Tk (List Int)
  | 0, _, acc, k => (acc, k, 0)
  | m + 1, l, acc, k => if (tkN (l.drop k)).2.2 = 0 then tkNsF m l (acc ++ [(tkN (l.drop k)).1]) (k + (tkN (l.drop k)).2.1) else ([], 0, (tkN (l.drop k)).2.2)
def tkNs (l : List Nat) : Tk (List Int) := if (tkN l).2.2 = 0 then (if 1024 < (tkN l).1 then ([], 0, 1) else tkNsF (tkN l).1.toNat l [] (tkN l).2.1) else ([], 0, (tkN l).2.2)
def tkT (l : List Nat) : Tk (List Nat) := if (tkN l).2.2 = 0 then (if 65536 < (tkN l).1 then ([], 0, 1) else if (l.length : Int) - (tkN l).2.1 < (tkN l).1 then ([], 0, 7) else ((l.drop (tkN l).2.1).take (tkN l).1.toNat, (tkN l).2.1 + (tkN l).1.toNat, 0)) else ([], 0, (tkN l).2.2)
def tkS (l : List Nat) : Tk D.Stamp := if (tkN l).2.2 = 0 then (if (tkN (l.drop (tkN l).2.1)).2.2 = 0 then (if placeV ⟨(tkN l).1, (tkN (l.drop (tkN l).2.1)).1⟩ = true then (⟨(tkN l).1, (tkN (l.drop (tkN l).2.1)).1⟩, (tkN l).2.1 + (tkN (l.drop (tkN l).2.1)).2.1, 0) else (⟨0, 0⟩, 0, 1)) else (⟨0, 0⟩, 0, (tkN (l.drop (tkN l).2.1)).2.2)) else (⟨0, 0⟩, 0, (tkN l).2.2)
def tkV (l : List Nat) : Tk (List Int) := if (tkNs l).2.2 = 0 then (if vecV (tkNs l).1 = true then tkNs l else ([], 0, 1)) else ([], 0, (tkNs l).2.2)
theorem tkNsF_len : ∀ (m : Nat) (l : List Nat) (acc : List Int) (k : Nat), k ≤ l.length → (tkNsF m l acc k).2.1 ≤ l.length
  | 0, l, acc, k, h => h
  | m + 1, l, acc, k, h => by
    unfold tkNsF
    split
    · refine tkNsF_len m l _ _ ?_
      have := tkN_len (l.drop k)
      rw [List.length_drop] at this; omega
    · simp
theorem tkNs_len (l : List Nat) : (tkNs l).2.1 ≤ l.length := by
  unfold tkNs
  split
  · split
    · simp
    · exact tkNsF_len _ _ _ _ (tkN_len l)
  · simp
theorem tkT_len (l : List Nat) : (tkT l).2.1 ≤ l.length := by
  unfold tkT
  split
  · split
    · simp
    · split
      · simp
      · have := tkN_num l
        show (tkN l).2.1 + (tkN l).1.toNat ≤ l.length
        omega
  · simp
theorem tkS_len (l : List Nat) : (tkS l).2.1 ≤ l.length := by
  unfold tkS
  split
  · split
    · split
      · have := tkN_len (l.drop (tkN l).2.1)
        have h2 := tkN_len l
        rw [List.length_drop] at this
        show (tkN l).2.1 + (tkN (l.drop (tkN l).2.1)).2.1 ≤ l.length
        omega
      · simp
    · simp
  · simp
theorem tkV_len (l : List Nat) : (tkV l).2.1 ≤ l.length := by
  unfold tkV
  split
  · split
    · exact tkNs_len l
    · simp
  · simp
abbrev BR := Kn.byte.Row
abbrev BO := Kn.byte.Own
theorem byte_cells {h : Hp} {x : Nat} : ∀ c, Kn.byte.K h x c → c = [.i .u8 (.ofNat x)] := fun c k => k.1
theorem byte_flat : Kn.byte.Flat := fun h h' x c k => k
theorem byte_lt {h : Hp} {a : AV} {l : List Nat} (r : BR h a l) {x : Nat} (hx : x ∈ l) : x < 256 := by
  obtain ⟨c, k⟩ := r.all hx
  exact k.2
section
variable {g h : Hp} {a b : AV} {l m : List Nat} {Post : AV → Hp → Prop}
theorem byte0 (r : BR h a l) {k : Nat} {x : Nat} (e : l[k]? = some x) {K : Int → Prop} (q : K (x : Int)) : onO (idxV a (k : Int) 1) fun r0 => onO (rdH h r0.1 r0.2 1) fun l0 => onL [Kd.int .u8] l0 K :=
  r.whole (Int.natCast_nonneg k) (by simpa using e) byte_cells rfl (onL.u1 q)
theorem app_byte (ow : BO g h a l) {x : Nat} (hx : x < 256) (hb : l.length + 1 < 32000000) (k : ∀ r h', BO g h' r (l ++ [x]) → Post r h') : wpE (.app a 1 (.lit [.i .u8 (x : Int)]) 1) (fun x0 h1 => onO x0 fun a2 => Post a2 h1) h :=
  ow.app1 (c := [.i .u8 (.ofNat x)]) rfl byte_flat ⟨rfl, hx⟩ hb fun r' h' o => onO.mk rfl (k _ _ o)
theorem wr8n {n : Nat} : wrO .u8 (n : Int) = some ((n % 256 : Nat) : Int) := by rw [wr8]; rfl
theorem or128 {n : Nat} (h : n < 256) : intO .or .u8 (n : Int) 128 = some ((n % 128 + 128 : Nat) : Int) := by
  unfold intO
  have e : intA .or .u8 (n : Int) 128 = some (.i .u8 (wrapA .u8 (.ofNat (Nat.lor n 128)))) := by
    show (cond (Nat.blt n 256 && Nat.blt 128 256) _ none : Option AV) = _
    rw [blt_of h]; rfl
  rw [e]
  have h2 : Nat.lor n 128 = n % 128 + 128 := by
    have : ∀ m : Fin 256, Nat.lor m.val 128 = m.val % 128 + 128 := by decide
    exact this ⟨n, h⟩
  rw [h2]
  show some (wrapA .u8 ((n % 128 + 128 : Nat) : Int)) = _
  rw [wrap_mod rfl]
  congr 1
  show ((n % 128 + 128 : Nat) : Int) % 256 = _
  omega
theorem shr7 {n : Nat} (h : n < 9223372036854775808) : shO .shr .i64 (n : Int) 7 = some ((n / 128 : Nat) : Int) := by
  unfold shO
  show (match some (AV.i .i64 (Int.fdiv (n : Int) ((128 : Nat) : Int))) with | some (.i _ c) => some c | _ => none) = _
  show some (Int.fdiv (n : Int) ((128 : Nat) : Int)) = _
  rw [Int.fdiv_eq_ediv_of_nonneg _ (by omega)]
  rfl
theorem c91 {n : Nat} (ow : BO g h a l) (hn : n < 9223372036854775808) (hb : l.length + 10 < 32000000) (k : ∀ r h', BO g h' r (l ++ enc n) → Post r h') : wpC Try.prog 91 [a, .i .i64 (n : Int)] Post h := by
  refine call_sound (args := [.vv a, .ii .i64 n]) (cuts := [0]) ⟨ow.sc, trivial, trivial⟩ ?_
  rw [vc91]
  refine ⟨fun q r i _ h' => ∃ (n' : Nat) (l' : List Nat), i = n' ∧ n' < 9223372036854775808 ∧ q = n' ∧ BO g h' r l' ∧ l' ++ enc n' = l ++ enc n ∧ l'.length + (enc n').length < 32000000, ⟨n, n, l, rfl, hn, rfl, ow, rfl, by have := enc_len10 hn; omega⟩, ?_⟩
  rintro q h0 r _ _ x _ ⟨n', l', rfl, hn', hq, ow', he, hl⟩
  have hq := hq.symm
  subst hq
  refine Dup.mk (onB.dec (fun e => ?_) (fun e => ?_))
  · have e : 128 ≤ n' := by omega
    rw [enc_big e, List.length_cons] at hl
    refine onO.mk wr8n (onO.mk (or128 (Nat.mod_lt _ (by omega))) fun _ => app_byte (Post := fun a2 h1 => onO (shO .shr .i64 (n' : Int) 7) fun n3 => ∃ p3, ltN p3 n' ∧ (∃ (n'' : Nat) (l'' : List Nat), n3 = n'' ∧ n'' < 9223372036854775808 ∧ p3 = n'' ∧ BO g h1 a2 l'' ∧ l'' ++ enc n'' = l ++ enc n ∧ l''.length + (enc n'').length < 32000000)) ow' (by omega) (by omega) fun r' h' o => ?_)
    refine onO.mk (shr7 hn') ⟨_, by show n' / 128 < n'; omega, n' / 128, _, rfl, by omega, rfl, o, ?_, by simp; omega⟩
    rw [← he, enc_big e, List.append_assoc]
    congr 1
    show [n' % 256 % 128 + 128] ++ enc (n' / 128) = _
    rw [show n' % 256 % 128 = n' % 128 by omega]; rfl
  · have e : n' < 128 := by omega
    rw [enc_small e, List.length_singleton] at hl
    refine onO.mk wr8n fun _ => app_byte ow' (by omega) (by omega) fun r' h' o => k _ _ ?_
    rw [← he, enc_small e, show n' = n' % 256 by omega]
    exact o
theorem encs_take {v : List Int} {k : Nat} {x : Int} (e : v[k]? = some x) : encs (v.take (k + 1)) = encs (v.take k) ++ enc x.toNat := by
  unfold encs
  rw [take_succ' e, List.map_append, List.flatten_append]; simp
theorem encs_len : ∀ {v : List Int}, (∀ x ∈ v, x < 9223372036854775808) → (encs v).length ≤ 9 * v.length
  | [], _ => by simp [encs]
  | x :: v, h => by
    have h1 := enc_len10 (n := x.toNat) (by have := h x (by simp); omega)
    have h2 := encs_len (v := v) fun y hy => h y (by simp [hy])
    unfold encs at h2 ⊢
    simp only [List.map_cons, List.flatten_cons, List.length_append, List.length_cons]; omega
theorem c89 {v : List Int} (ow : BO g h a l) (rb : IR g b v) (h0 : ∀ x ∈ v, 0 ≤ x ∧ x < 9223372036854775808) (hv : v.length < 32000000) (hb : l.length + 10 + 9 * v.length + 10 < 32000000) (k : ∀ r h', BO g h' r (l ++ (enc v.length ++ encs v)) → Post r h') : wpC Try.prog 89 [a, b] Post h := by
  refine call_sound (args := [.vv a, .vv b]) (cuts := []) ⟨ow.sc, rb.sc, trivial⟩ ?_
  rw [vc89]
  have hl := enc_len10 (n := v.length) (by omega)
  refine onO.mk rb.len (c91 ow (by omega) (by omega) fun r1 h1 o1 => onRet.r o1.sc (onO.mk rb.len ⟨fun q r i h' => ∃ k : Nat, i = k ∧ k ≤ v.length ∧ q = v.length - k ∧ BO g h' r (l ++ (enc v.length ++ encs (v.take k))), ⟨v.length, 0, rfl, by omega, rfl, by simpa [encs] using o1⟩, ?_⟩))
  rintro q h2 r _ _ ⟨j, rfl, hj, rfl, o2⟩
  refine onB.dec (fun e => ?_) (fun e => ?_)
  · obtain ⟨x, hx⟩ := get_lt (l := v) (k := j) (by omega)
    obtain ⟨x0, x1⟩ := h0 x (List.mem_of_getElem? hx)
    obtain ⟨n, rfl⟩ := Int.eq_ofNat_of_zero_le x0
    have hel := encs_len (v := v.take j) fun y hy => (h0 y (List.mem_of_mem_take hy)).2
    have htl : (v.take j).length ≤ v.length := by simp; omega
    refine int0 (rb.mono o2.le) hx (c91 o2 (by omega) (by simp only [List.length_append]; omega) fun r3 h3 o3 => onRet.r o3.sc (onO.mk (inc64 (by omega)) ⟨_, by show v.length - (j + 1) < v.length - j; omega, j + 1, rfl, by omega, rfl, ?_⟩))
    rw [encs_take hx]
    simpa [List.append_assoc] using o3
  · have : j = v.length := by omega
    subst this
    rw [List.take_length] at o2
    exact k _ _ o2
theorem bytes_all {s : List Nat} (hs : ∀ x ∈ s, x < 256) : All2 (Kn.byte.K h) s (s.map fun x => [.i .u8 (.ofNat x)]) :=
  All2.of_get (by simp) fun i x c hx hc => by
    simp [hx] at hc
    subst hc
    exact ⟨rfl, hs x (List.mem_of_getElem? hx)⟩
theorem ofU8_flat : ∀ s : List Nat, ofU8 s = (s.map fun x => [AV.i .u8 (.ofNat x)]).flatten
  | [] => rfl
  | x :: s => by simp [ofU8, ofU8_flat s]
theorem c92 {s : List Nat} (ow : BO g h a l) (hs : ∀ x ∈ s, x < 256) (hb : l.length + 10 + s.length + 10 < 32000000) (k : ∀ r h', BO g h' r (l ++ (enc s.length ++ s)) → Post r h') : wpC Try.prog 92 [a, .s s] Post h := by
  refine call_sound (args := [.vv a, .ss s]) (cuts := []) ⟨ow.sc, trivial, trivial⟩ ?_
  rw [vc92]
  have hl := enc_len10 (n := s.length) (by omega)
  refine c91 ow (by omega) (by omega) fun r1 h1 o1 => onRet.r o1.sc (onO.mk (a := (s.length, .lit (ofU8 s))) rfl (onC.mk (Nat.ble_eq_true_of_le (by show (4 * s.length + 4000) * 1 ≤ 17179869184; omega)) ?_))
  refine o1.app (sz := 1) rfl byte_flat (bytes_all hs) (by simp [srcH, ofU8_flat]) rfl (by simp only [List.length_append]; omega) fun r2 h2 o2 => onO.mk rfl (k _ _ ?_)
  simpa [List.append_assoc] using o2
theorem c90 {s : D.Stamp} (ow : BO g h a l) (h1 : 0 ≤ s.time ∧ s.time < 9223372036854775808) (h2 : 0 ≤ s.rep ∧ s.rep < 9223372036854775808) (hb : l.length + 30 < 32000000) (k : ∀ r h', BO g h' r (l ++ (enc s.time.toNat ++ enc s.rep.toNat)) → Post r h') : wpC Try.prog 90 [a, .agg [.i .i64 s.time, .i .i64 s.rep]] Post h := by
  refine call_sound (args := [.vv a, .ag [.ii .i64 s.time, .ii .i64 s.rep]]) (cuts := []) ⟨ow.sc, ⟨trivial, trivial, trivial⟩, trivial⟩ ?_
  rw [vc90]
  intro _
  obtain ⟨t, ht⟩ := Int.eq_ofNat_of_zero_le h1.1
  obtain ⟨q, hq⟩ := Int.eq_ofNat_of_zero_le h2.1
  rw [ht, hq] at k ⊢
  have e1 := enc_len10 (n := t) (by omega)
  refine c91 ow (by omega) (by omega) fun r1 g1 o1 => onRet.r o1.sc (c91 o1 (by omega) (by simp only [List.length_append]; omega) fun r2 g2 o2 => onRet.r o2.sc (k _ _ ?_))
  simpa [List.append_assoc] using o2
end
theorem isS_fits {s : D.Stamp} (h : isS s = true) : 1 ≤ s.time ∧ s.time ≤ 1099511627776 ∧ 0 ≤ s.rep ∧ s.rep < 16 := by
  unfold isS at h
  simpa using h
theorem placeV_fits {s : D.Stamp} (h : placeV s = true) : 0 ≤ s.time ∧ s.time ≤ 1099511627776 ∧ 0 ≤ s.rep ∧ s.rep < 16 := by
  unfold placeV at h
  rw [Bool.or_eq_true, Bool.or_eq_true] at h
  rcases h with h | h | h
  · have := isS_fits h; omega
  · have := of_decide_eq_true h; subst this; simp
  · have := of_decide_eq_true h; subst this; simp
theorem mayP_fits {p v : Int} (h : mayP p v = true) : 0 ≤ p ∧ p < 19 ∧ -1 ≤ v ∧ v ≤ 1099511627776 := by
  unfold mayP propP at h
  simp only [Bool.and_eq_true, decide_eq_true_eq] at h
  obtain ⟨⟨h1, h2⟩, h3, h4⟩ := h
  obtain ⟨n, rfl⟩ := Int.eq_ofNat_of_zero_le h1
  have hn : n < 19 := by omega
  simp only [Int.toNat_natCast] at h3 h4
  have key : ∀ m : Fin 19, -1 ≤ lowP m.val ∧ highP m.val ≤ 1099511627776 := by decide
  have := key ⟨n, hn⟩
  simp only at this
  omega
/-- the numbers of what may be -/
structure OpNums (o : D.Op) : Prop where
  stamp : 1 ≤ o.stamp.time ∧ o.stamp.time ≤ 1099511627776 ∧ 0 ≤ o.stamp.rep ∧ o.stamp.rep < 16
  deps : ∀ x ∈ o.deps, 0 ≤ x ∧ x ≤ 1099511627776
  len : 1 ≤ o.deps.length ∧ o.deps.length ≤ 16
  node : 1 ≤ o.node.time ∧ o.node.time ≤ 1099511627776 ∧ 0 ≤ o.node.rep ∧ o.node.rep < 16
  kind : (o.kind = 1 ∧ (0 ≤ o.parent.time ∧ o.parent.time ≤ 1099511627776 ∧ 0 ≤ o.parent.rep ∧ o.parent.rep < 16) ∧ 1 ≤ o.key.length ∧ o.key.length ≤ 64 ∧ o.prop = 0 ∧ o.value = 0) ∨
    (o.kind = 2 ∧ (0 ≤ o.prop ∧ o.prop < 19 ∧ -1 ≤ o.value ∧ o.value ≤ 1099511627776) ∧ o.parent = ⟨0, 0⟩ ∧ o.key = [])
theorem mayO_nums {o : D.Op} (h : mayO o = true) : OpNums o := by
  unfold mayO at h
  simp only [Bool.and_eq_true] at h
  obtain ⟨h1, h2, h3, h4, h5⟩ := h
  have hv := h2
  unfold vecV at hv
  simp only [Bool.and_eq_true, List.all_eq_true, decide_eq_true_eq] at hv
  refine ⟨isS_fits h1, fun x hx => ?_, hv.2, isS_fits h3, ?_⟩
  · have := hv.1 x hx
    simpa [numV] using this
  · unfold kindV at h5
    split at h5
    · rename_i hk
      simp only [Bool.and_eq_true, decide_eq_true_eq] at h5
      obtain ⟨q1, q2, q3, q4⟩ := h5
      unfold keyV at q2
      simp only [Bool.and_eq_true, decide_eq_true_eq] at q2
      exact .inl ⟨hk, placeV_fits q1, q2.1, q2.2.1, q3, q4⟩
    · split at h5
      · rename_i hk
        simp only [Bool.and_eq_true, decide_eq_true_eq] at h5
        exact .inr ⟨hk, mayP_fits h5.1, h5.2.1, h5.2.2⟩
      · cases h5
section
variable {g h : Hp} {a b : AV} {l m : List Nat} {Post : AV → Hp → Prop}
theorem c70 {o : D.Op} {d : AV} (ow : BO g h a l) (rd : IR g d o.deps) (hm : mayO o = true) (hk : ∀ x ∈ o.key, x < 256) (hb : l.length < 31000000) (k : ∀ r h', BO g h' r (l ++ opE o) → Post r h') : wpC Try.prog 70 [a, .agg (opC o d)] Post h := by
  obtain ⟨s1, s2, s3, s4, s5⟩ := mayO_nums hm
  refine call_sound (args := [.vv a, opS o d]) (cuts := []) ⟨ow.sc, opS_good rd.sc, trivial⟩ ?_
  unfold opS
  rw [vc70]
  intro _
  have t1 := enc_len10 (n := o.stamp.time.toNat) (by omega)
  have t2 := enc_len10 (n := o.stamp.rep.toNat) (by omega)
  have t3 := enc_len10 (n := o.deps.length) (by omega)
  have t4 := encs_len (v := o.deps) fun x hx => by have := s2 x hx; omega
  have t5 : 0 ≤ o.kind ∧ o.kind ≤ 2 := by rcases s5 with s | s <;> omega
  obtain ⟨K, hK⟩ := Int.eq_ofNat_of_zero_le t5.1
  have t6 := enc_len10 (n := K) (by omega)
  have t7 := enc_len10 (n := o.node.time.toNat) (by omega)
  have t8 := enc_len10 (n := o.node.rep.toNat) (by omega)
  refine c90 (s := o.stamp) ow ⟨by omega, by omega⟩ ⟨by omega, by omega⟩ (by omega) fun r1 h1 o1 => onRet.r o1.sc ?_
  refine c89 o1 rd (fun x hx => by have := s2 x hx; omega) (by omega) (by simp only [List.length_append]; omega) fun r2 h2 o2 => onRet.r o2.sc ?_
  rw [hK]
  refine c91 o2 (by omega) (by simp only [List.length_append]; omega) fun r3 h3 o3 => onRet.r o3.sc ?_
  refine c90 (s := o.node) o3 ⟨by omega, by omega⟩ ⟨by omega, by omega⟩ (by simp only [List.length_append]; omega) fun r4 h4 o4 => onRet.r o4.sc ?_
  rcases s5 with ⟨k1, k2, k3, k4, k5, k6⟩ | ⟨k1, k2, k3, k4⟩
  · refine onB.pos (by rw [← hK, k1]; rfl) (c90 (s := o.parent) o4 ⟨by omega, by omega⟩ ⟨by omega, by omega⟩ (by simp only [List.length_append]; omega) fun r5 h5 o5 => onRet.r o5.sc ?_)
    have t9 := enc_len10 (n := o.parent.time.toNat) (by omega)
    have t10 := enc_len10 (n := o.parent.rep.toNat) (by omega)
    refine c92 o5 hk (by simp only [List.length_append]; omega) fun r6 h6 o6 => onRet.r o6.sc (k _ _ ?_)
    unfold opE
    rw [if_pos k1, hK]
    simpa [List.append_assoc] using o6
  · refine onB.neg (by rw [← hK, k1]; rfl) ?_
    obtain ⟨p, hp⟩ := Int.eq_ofNat_of_zero_le k2.1
    have t9 := enc_len10 (n := p) (by omega)
    obtain ⟨w, hw⟩ := Int.eq_ofNat_of_zero_le (a := o.value + 1) (by omega)
    rw [hp]
    refine c91 o4 (by omega) (by simp only [List.length_append]; omega) fun r5 h5 o5 => onRet.r o5.sc (onO.mk (add64 (by omega) (by omega)) ?_)
    rw [hw]
    refine c91 o5 (by omega) (by simp only [List.length_append]; omega) fun r6 h6 o6 => onRet.r o6.sc (k _ _ ?_)
    unfold opE
    rw [if_neg (by omega), hK, hp, hw]
    simpa [List.append_assoc] using o6
theorem c59 {o : D.Op} {d : AV} (rd : IR h d o.deps) (hd : o.deps.length < 32000000) (hk : ∀ x ∈ o.key, x < 256) (k1 : mayO o = false → Post (.tup [.ns, .i .i64 1]) h) (k2 : mayO o = true → ∀ r h', BO h h' r (opE o) → Post (.tup [r, .i .i64 0]) h') : wpC Try.prog 59 [.agg (opC o d)] Post h := by
  refine call_sound (args := [opS o d]) (cuts := []) ⟨opS_good rd.sc, trivial⟩ ?_
  unfold opS
  rw [vc59]
  intro _
  refine c68 (o := o) rd hd (onRet.b (onB.not k1 fun e => ?_))
  exact c70 (o := o) (l := []) (Kn.Own.nil _ _) rd e hk (by simp) fun r h' o' => onRet.r o'.sc (k2 e _ _ o')
end
theorem and127 {n : Nat} (h : n < 256) : intO .and .u8 (n : Int) 127 = some ((n % 128 : Nat) : Int) := by
  unfold intO
  have e : intA .and .u8 (n : Int) 127 = some (.i .u8 (wrapA .u8 (.ofNat (Nat.land n 127)))) := by
    show (cond (Nat.blt n 256 && Nat.blt 127 256) _ none : Option AV) = _
    rw [blt_of h]; rfl
  rw [e]
  have h2 : Nat.land n 127 = n % 128 := Nat.and_two_pow_sub_one_eq_mod n 7
  rw [h2]
  show some (wrapA .u8 ((n % 128 : Nat) : Int)) = _
  rw [wrap_mod rfl]
  congr 1
  show ((n % 128 : Nat) : Int) % 256 = _
  omega
theorem pow7 {i : Nat} (h : i ≤ 8) : 2 ^ (7 * i) ≤ 72057594037927936 := by
  have : (2 : Nat) ^ (7 * i) ≤ 2 ^ 56 := Nat.pow_le_pow_right (by omega) (by omega)
  simpa using this
theorem mul_lt128 {c p : Nat} (hc : c < 128) (hp : p ≤ 72057594037927936) : c * p ≤ 9151314442816847872 := by
  have : c * p ≤ 127 * 72057594037927936 := Nat.mul_le_mul (by omega) hp
  omega
theorem shl7 {c i : Nat} (hc : c < 128) (hi : i ≤ 8) : shO .shl .i64 (c : Int) ((7 * i : Nat) : Int) = some ((c * 2 ^ (7 * i) : Nat) : Int) := by
  unfold shO
  have hb : Nat.ble (7 * i) 64 = true := Nat.ble_eq_true_of_le (by omega)
  have e : shiftA .shl .i64 (c : Int) ((7 * i : Nat) : Int) = some (.i .i64 (wrapA .i64 (Int.mul (c : Int) (.ofNat (Nat.pow 2 (cond (Nat.ble (7 * i) 64) (7 * i) 64)))))) := rfl
  rw [e, hb, cond_true]
  have h1 := mul_lt128 hc (pow7 hi)
  have h2 : Int.mul (c : Int) (.ofNat (Nat.pow 2 (7 * i))) = ((c * 2 ^ (7 * i) : Nat) : Int) := by
    rw [Int.natCast_mul]; rfl
  rw [h2, wrap64 (by omega) (by omega)]
theorem or64 {a c i : Nat} (ha : a < 2 ^ (7 * i)) (hc : c < 128) (hi : i ≤ 8) : intO .or .i64 (a : Int) ((c * 2 ^ (7 * i) : Nat) : Int) = some ((a + c * 2 ^ (7 * i) : Nat) : Int) := by
  have h1 := mul_lt128 hc (pow7 hi)
  have h0 := pow7 hi
  unfold intO
  have e : intA .or .i64 (a : Int) ((c * 2 ^ (7 * i) : Nat) : Int) = some (.i .i64 (wrapA .i64 (.ofNat (Nat.lor a (c * 2 ^ (7 * i)))))) := by
    show (cond (Nat.blt a 18446744073709551616 && Nat.blt (c * 2 ^ (7 * i)) 18446744073709551616) _ none : Option AV) = _
    rw [blt_of (by omega), blt_of (by omega)]; rfl
  rw [e]
  have h2 : Nat.lor a (c * 2 ^ (7 * i)) = a + c * 2 ^ (7 * i) := by
    have := Nat.two_pow_add_eq_or_of_lt ha c
    show a ||| (c * 2 ^ (7 * i)) = _
    rw [Nat.or_comm, Nat.mul_comm c, ← this]; omega
  rw [h2]
  have hs : a + c * 2 ^ (7 * i) < 9223372036854775808 := by
    have : a + c * 2 ^ (7 * i) < 72057594037927936 + 9151314442816847872 := by omega
    omega
  show some (wrapA .i64 ((a + c * 2 ^ (7 * i) : Nat) : Int)) = _
  rw [wrap64 (by omega) (by omega)]
theorem onTup.iii' {n m p : Int} {K : Int → Int → Int → Prop} (k : K n m p) : onTup [Sh.one (Kd.int .i64), Sh.one (Kd.int .i64), Sh.one (Kd.int .i64)] (.tup [.i .i64 n, .i .i64 m, .i .i64 p]) K := k
theorem onTup.rii {a : AV} (hs : a.sc = true) {n m : Int} {K : AV → Int → Int → Prop} (k : K a n m) : onTup [Sh.one Kd.ref, Sh.one (Kd.int .i64), Sh.one (Kd.int .i64)] (.tup [a, .i .i64 n, .i .i64 m]) K := by
  show onS [Sh.one Kd.ref, Sh.one (Kd.int .i64), Sh.one (Kd.int .i64)] [a, .i .i64 n, .i .i64 m] K
  unfold onS
  have e : flatV [Sh.one Kd.ref, Sh.one (Kd.int .i64), Sh.one (Kd.int .i64)] [a, .i .i64 n, .i .i64 m] = some [a, .i .i64 n, .i .i64 m] := by
    cases a <;> first | rfl | cases hs
  rw [e]
  exact onRef.mk (K := fun a => K a n m) hs k
theorem onTup.sii {s : List Nat} {n m : Int} {K : List Nat → Int → Int → Prop} (k : K s n m) : onTup [Sh.one Kd.str, Sh.one (Kd.int .i64), Sh.one (Kd.int .i64)] (.tup [.s s, .i .i64 n, .i .i64 m]) K := k
theorem onTup.aii {x y n m : Int} {K : Int → Int → Int → Int → Prop} (k : K x y n m) : onTup [Sh.agg [Kd.int .i64, Kd.int .i64], Sh.one (Kd.int .i64), Sh.one (Kd.int .i64)] (.tup [.agg [.i .i64 x, .i .i64 y], .i .i64 n, .i .i64 m]) K := k
/-- a part of a row of data -/
theorem Kn.Row.cut {α : Type} {d : Kn α} {h : Hp} {a : AV} {l : List α} (r : d.Row h a l) {lo hi : Option Int} {i j sz : Nat} (hsz : d.sz = sz) (hlo : natO 0 lo = some i) (hhi : natO l.length hi = some j) (h1 : i ≤ j) (h2 : j ≤ l.length) :
    ∃ r', slV a lo hi none sz = some r' ∧ d.Row h r' ((l.drop i).take (j - i)) := by
  subst hsz
  obtain ⟨css, r1, r2⟩ := r
  have hl := r2.length
  obtain ⟨r', e1, e2⟩ := r1.slice (lo := lo) (hi := hi) hlo (by rw [← hl]; exact hhi) h1 (by omega) (fun _ => trivial)
  exact ⟨r', e1, _, e2, (r2.drop i).take (j - i)⟩
theorem Kn.Row.from {α : Type} {d : Kn α} {h : Hp} {a : AV} {l : List α} (r : d.Row h a l) {i sz : Nat} (hsz : d.sz = sz) (h1 : i ≤ l.length) {K : AV → Prop} (k : ∀ r', d.Row h r' (l.drop i) → K r') : onO (slV a (some (i : Int)) none none sz) K := by
  obtain ⟨r', e1, e2⟩ := r.cut (lo := some (i : Int)) (hi := none) (i := i) (j := l.length) hsz rfl rfl h1 (Nat.le_refl _)
  rw [List.take_of_length_le (by simp)] at e2
  exact onO.mk e1 (k r' e2)
section
variable {g h : Hp} {a b : AV} {l m : List Nat} {Post : AV → Hp → Prop}
theorem c97 (r : BR h a l) (hb : l.length < 32000000) (k : Post (.tup [.i .i64 (tkN l).1, .i .i64 ((tkN l).2.1 : Nat), .i .i64 (tkN l).2.2]) h) : wpC Try.prog 97 [a] Post h := by
  refine call_sound (args := [.vv a]) (cuts := [0]) ⟨r.sc, trivial⟩ ?_
  rw [vc97]
  refine ⟨fun q n0 n1 _ _ h' => h' = h ∧ ∃ i acc : Nat, n0 = i ∧ n1 = acc ∧ i ≤ l.length ∧ i ≤ 8 ∧ q = l.length - i ∧ acc < 2 ^ (7 * i) ∧ tkN l = tkF (l.drop i) i acc, ⟨l.length, rfl, 0, 0, rfl, rfl, by omega, by omega, rfl, by simp, rfl⟩, ?_⟩
  rintro q h0 _ _ _ _ ⟨rfl, i, acc, rfl, rfl, hi, hi8, rfl, hacc, hp⟩
  refine Dup.mk (onO.mk r.len (onB.dec (fun e => ?_) (fun e => ?_)))
  · have : i = l.length := by omega
    rw [hp, this, List.drop_length] at k
    exact k
  · obtain ⟨x, hx⟩ := get_lt (l := l) (k := i) (by omega)
    have hx8 := byte_lt r (List.mem_of_getElem? hx)
    rw [drop_of hx] at hp
    unfold tkF at hp
    have hm7 : intO .mul .i64 7 (i : Int) = some ((7 * i : Nat) : Int) := by rw [mul64 (by omega) (by omega)]; rfl
    have hc := Nat.mod_lt x (show 128 > 0 by omega)
    have hp0 := pow7 hi8
    have hlt := mul_lt128 hc hp0
    refine byte0 r hx (onB.dec (fun e1 => ?_) (fun e1 => ?_))
    · refine onB.dec (fun e2 => ?_) (fun e2 => ?_)
      · rw [if_pos ⟨by omega, by omega⟩] at hp
        rw [hp] at k; exact k
      · rw [if_neg (by omega), if_pos (by omega)] at hp
        refine byte0 r hx (onO.mk (and127 hx8) (onO.mk (wr64 (by omega) (by omega)) (onO.mk hm7 (onO.mk (shl7 hc hi8) (onO.mk (or64 hacc hc hi8) (byte0 r hx (onB.pos (decide_eq_true e1) ?_)))))))
        refine onO.mk (inc64 (by omega)) ⟨_, by show l.length - (i + 1) < l.length - i; omega, rfl, i + 1, _, rfl, rfl, by omega, by omega, rfl, ?_, hp⟩
        have : 2 ^ (7 * (i + 1)) = 128 * 2 ^ (7 * i) := by rw [Nat.mul_succ, Nat.pow_add]; omega
        have h3 : x % 128 * 2 ^ (7 * i) + 2 ^ (7 * i) ≤ 128 * 2 ^ (7 * i) := by
          rw [← Nat.succ_mul]; exact Nat.mul_le_mul_right _ hc
        omega
    · rw [if_neg (by omega), if_neg (by omega)] at hp
      have hx7 : x % 128 = x := by omega
      rw [hx7] at hc hlt
      refine byte0 r hx (onO.mk (and127 hx8) (onO.mk (wr64 (by omega) (by omega)) (onO.mk hm7 (onO.mk (shl7 (by omega) hi8) (onO.mk (or64 hacc (by omega) hi8) (byte0 r hx (onB.neg (decide_eq_false e1) ?_)))))))
      rw [hx7]
      have fin : (¬ (x = 0 ∧ 0 < i)) → onB (decide ((4611686018427387904 : Int) < ((acc + x * 2 ^ (7 * i) : Nat) : Int))) (Post (.tup [.i .i64 0, .i .i64 0, .i .i64 1]) h0) (onO (intO .add .i64 (i : Int) 1) fun n => Post (.tup [.i .i64 ((acc + x * 2 ^ (7 * i) : Nat) : Int), .i .i64 n, .i .i64 0]) h0) := fun hz => by
        refine onB.dec (fun e3 => ?_) (fun e3 => ?_)
        · rw [if_pos (.inr (by omega))] at hp
          rw [hp] at k; exact k
        · rw [if_neg (by omega)] at hp
          rw [hp] at k
          exact onO.mk (inc64 (by omega)) k
      refine byte0 r hx (onB.dec (fun e2 => onB.dec (fun e3 => ?_) (fun e3 => fin (by omega))) (fun e2 => fin (by omega)))
      rw [if_pos (.inl ⟨by omega, by omega⟩)] at hp
      rw [hp] at k; exact k
theorem tkNsF_succ (m : Nat) (l : List Nat) (acc : List Int) (k : Nat) : tkNsF (m + 1) l acc k = if (tkN (l.drop k)).2.2 = 0 then tkNsF m l (acc ++ [(tkN (l.drop k)).1]) (k + (tkN (l.drop k)).2.1) else ([], 0, (tkN (l.drop k)).2.2) := rfl
theorem c96 (r : BR h a l) (hb : l.length < 32000000) (k : ∀ r' h', Kn.int.Own h h' r' (tkNs l).1 → Post (.tup [r', .i .i64 ((tkNs l).2.1 : Nat), .i .i64 (tkNs l).2.2]) h') : wpC Try.prog 96 [a] Post h := by
  refine call_sound (args := [.vv a]) (cuts := []) ⟨r.sc, trivial⟩ ?_
  rw [vc96]
  have hn := tkN_num l
  have hnl := tkN_len l
  unfold tkNs at k
  refine c97 r hb (onTup.iii' (onB.ndec (fun e => ?_) (fun e => onB.dec (fun e1 => ?_) (fun e1 => ?_))))
  · rw [if_neg e] at k; exact k _ _ (Kn.Own.nil _ _)
  · rw [if_pos e, if_pos e1] at k; exact k _ _ (Kn.Own.nil _ _)
  · rw [if_pos e, if_neg e1] at k
    obtain ⟨M, hM⟩ := Int.eq_ofNat_of_zero_le hn.1
    rw [hM] at k e1 ⊢
    refine ⟨fun q _ b kk j h' => ∃ (c : Nat) (acc : List Int) (K : Nat), j = c ∧ kk = K ∧ c ≤ M ∧ q = M - c ∧ K ≤ l.length ∧ acc.length = c ∧ Kn.int.Own h h' b acc ∧ tkNsF M l [] (tkN l).2.1 = tkNsF (M - c) l acc K, ⟨M, 0, [], _, rfl, rfl, by omega, rfl, hnl, rfl, Kn.Own.nil _ _, rfl⟩, ?_⟩
    rintro q h1 _ b _ _ _ ⟨c, acc, K, rfl, rfl, hc, rfl, hK, ha, ow, hp⟩
    refine onB.dec (fun e2 => ?_) (fun e2 => ?_)
    · obtain ⟨d, hd⟩ : ∃ d, M - c = d + 1 := ⟨M - c - 1, by omega⟩
      rw [hd, tkNsF_succ] at hp
      have hn2 := tkN_num (l.drop K)
      have hl2 := tkN_len (l.drop K)
      rw [List.length_drop] at hl2
      refine (r.mono ow.le).from rfl hK fun r2 br2 => c97 br2 (by simp; omega) (onTup.iii' (onB.ndec (fun e3 => ?_) (fun e3 => fun _ => ?_)))
      · rw [if_neg e3] at hp
        have hp : tkNsF ((M : Int)).toNat l [] (tkN l).2.1 = _ := hp
        rw [hp] at k
        exact k _ _ ((Kn.Own.nil _ h1).mono ow.le ow.lo)
      · rw [if_pos e3] at hp
        refine ow.app1 rfl int_flat (x := (tkN (l.drop K)).1) ⟨rfl, by omega, by omega⟩ (by omega) fun r3 h3 o3 => onO.mk rfl (onO.mk (add64 (by omega) (by omega)) (onO.mk (inc64 (by omega)) ⟨_, by show M - (c + 1) < M - c; omega, c + 1, _, K + (tkN (l.drop K)).2.1, rfl, by omega, by omega, rfl, by omega, by simp [ha], o3, ?_⟩))
        rw [show M - (c + 1) = d by omega]; exact hp
    · have : c = M := by omega
      subst this
      rw [Nat.sub_self] at hp
      have hp : tkNsF ((c : Int)).toNat l [] (tkN l).2.1 = (acc, K, 0) := hp
      rw [hp] at k
      exact k _ _ ow
theorem strAt_row (r : BR h a l) : ∃ b o n, strAt h a = some (l, b, o, n) := by
  obtain ⟨css, r1, r2⟩ := r
  have key : ∀ {l : List Nat} {css : List (List AV)}, All2 (Kn.byte.K h) l css → allU8 css.flatten = some l := by
    intro l css r2
    induction r2 with
    | nil => rfl
    | @cons x c l css hx _ ih =>
      obtain ⟨hx, hlt⟩ := hx
      subst hx
      show (cond (Nat.blt x 256) ((allU8 css.flatten).map fun r => x :: r) none) = _
      rw [blt_of hlt, ih]; rfl
  have hl := r2.length
  obtain ⟨hc, r⟩ := r1
  cases a <;> first | exact r.elim | skip
  · rename_i b o len lo ex z
    obtain ⟨r1, r2', r3, r4⟩ := r
    subst r1; subst r2'
    cases hz : Nat.beq css.length 0 with
    | true =>
      have h0 := beq_eq' hz
      have : l = [] := List.length_eq_zero_iff.1 (by omega)
      subst this
      refine ⟨b, o, 0, ?_⟩
      show (cond (Nat.beq Kn.byte.sz 1) (cond (Nat.beq css.length 0) _ _) none : Option (List Nat × Nat × Nat × Nat)) = _
      rw [hz]; rfl
    | false =>
      rcases r4 with r4 | r4
      · subst r4; cases hz
      · refine ⟨b, o, css.length, ?_⟩
        show (cond (Nat.beq Kn.byte.sz 1) (cond (Nat.beq css.length 0) _ (((rdH h b o css.length).bind allU8).map fun l => (l, b, o, css.length))) none : Option (List Nat × Nat × Nat × Nat)) = _
        rw [hz]
        have r4 : rdH h b o (css.length * 1) = some css.flatten := r4
        rw [Nat.mul_one] at r4
        rw [r4, cond_false, Option.bind_some, key r2]; rfl
  all_goals
    have r : css = [] := r
    subst r
    have : l = [] := List.length_eq_zero_iff.1 hl
    subst this
    exact ⟨0, 0, 0, rfl⟩
theorem c85 (r : BR h a l) (hb : l.length < 32000000) (k : Post (.tup [.s (tkT l).1, .i .i64 ((tkT l).2.1 : Nat), .i .i64 (tkT l).2.2]) h) : wpC Try.prog 85 [a] Post h := by
  refine call_sound (args := [.vv a]) (cuts := []) ⟨r.sc, trivial⟩ ?_
  rw [vc85]
  have hn := tkN_num l
  have hnl := tkN_len l
  unfold tkT at k
  refine c97 r hb (onTup.iii' (onB.ndec (fun e => ?_) (fun e => onB.dec (fun e1 => ?_) (fun e1 => onO.mk r.len (onO.mk (sub64 (by omega) (by omega)) (onB.dec (fun e2 => ?_) (fun e2 => ?_)))))))
  · rw [if_neg e] at k; exact k
  · rw [if_pos e, if_pos e1] at k; exact k
  · rw [if_pos e, if_neg e1, if_pos e2] at k; exact k
  · rw [if_pos e, if_neg e1, if_neg e2] at k
    obtain ⟨M, hM⟩ := Int.eq_ofNat_of_zero_le hn.1
    rw [hM] at k e2 e1 ⊢
    have hadd : intO .add .i64 (((tkN l).2.1 : Nat) : Int) (M : Int) = some (((tkN l).2.1 + M : Nat) : Int) := by rw [add64 (by omega) (by omega)]; rfl
    obtain ⟨r', e3, e4⟩ := r.cut (lo := some (((tkN l).2.1 : Nat) : Int)) (hi := some (((tkN l).2.1 + M : Nat) : Int)) (sz := 1) rfl rfl rfl (by omega) (by omega)
    rw [Nat.add_sub_cancel_left] at e4
    obtain ⟨b, o, n, e5⟩ := strAt_row e4
    exact onO.mk hadd (onO.mk e3 (onO.mk e5 (onO.mk hadd k)))
theorem c95 (r : BR h a l) (hb : l.length < 32000000) (k : Post (.tup [.agg [.i .i64 (tkS l).1.time, .i .i64 (tkS l).1.rep], .i .i64 ((tkS l).2.1 : Nat), .i .i64 (tkS l).2.2]) h) : wpC Try.prog 95 [a] Post h := by
  refine call_sound (args := [.vv a]) (cuts := []) ⟨r.sc, trivial⟩ ?_
  rw [vc95]
  have hnl := tkN_len l
  have hn2 := tkN_len (l.drop (tkN l).2.1)
  rw [List.length_drop] at hn2
  unfold tkS at k
  refine fun _ => c97 r hb (onTup.iii' (onB.ndec (fun e => ?_) (fun e => r.from rfl hnl fun r2 br2 => c97 br2 (by simp; omega) (onTup.iii' (onB.ndec (fun e1 => ?_) (fun e1 => c98 (s := ⟨(tkN l).1, (tkN (l.drop (tkN l).2.1)).1⟩) (onRet.b (onB.not (fun e2 => ?_) (fun e2 => ?_)))))))))
  · rw [if_neg e] at k; exact k
  · rw [if_pos e, if_neg e1] at k; exact k
  · rw [if_pos e, if_pos e1, e2] at k; exact k
  · rw [if_pos e, if_pos e1, if_pos e2] at k
    exact onO.mk (add64 (by omega) (by omega)) k
theorem tkNsF_cnt : ∀ (m : Nat) (l : List Nat) (acc : List Int) (k : Nat), (tkNsF m l acc k).1.length ≤ acc.length + m
  | 0, l, acc, k => Nat.le_refl _
  | m + 1, l, acc, k => by
    unfold tkNsF
    split
    · have := tkNsF_cnt m l (acc ++ [(tkN (l.drop k)).1]) (k + (tkN (l.drop k)).2.1)
      simp at this; omega
    · simp
theorem tkNs_cnt (l : List Nat) : (tkNs l).1.length ≤ 1024 := by
  unfold tkNs
  split
  · split
    · simp
    · rename_i h
      have := tkNsF_cnt (tkN l).1.toNat l [] (tkN l).2.1
      have := tkN_num l
      simp at *; omega
  · simp
theorem c82 (r : BR h a l) (hb : l.length < 32000000) (k : ∀ r' h', Kn.int.Own h h' r' (tkV l).1 → Post (.tup [r', .i .i64 ((tkV l).2.1 : Nat), .i .i64 (tkV l).2.2]) h') : wpC Try.prog 82 [a] Post h := by
  refine call_sound (args := [.vv a]) (cuts := []) ⟨r.sc, trivial⟩ ?_
  rw [vc82]
  have hc := tkNs_cnt l
  unfold tkV at k
  refine c96 r hb fun r2 h2 o2 => onTup.rii o2.sc (onB.ndec (fun e => ?_) (fun e => c87 o2.row (by omega) (onRet.b (onB.not (fun e1 => ?_) (fun e1 => ?_)))))
  · rw [if_neg e] at k; exact k _ _ ((Kn.Own.nil _ h2).mono o2.le o2.lo)
  · rw [if_pos e, e1] at k; exact k _ _ ((Kn.Own.nil _ h2).mono o2.le o2.lo)
  · rw [if_pos e, if_pos e1] at k
    rw [e] at k
    have e : (tkNs l).2.2 = 0 := e
    exact k _ _ o2
end
end Go.Proofs.YtiidgjdogekpfaaAn
