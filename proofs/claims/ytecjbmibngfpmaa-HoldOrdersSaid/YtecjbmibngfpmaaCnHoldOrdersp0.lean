/- What the functions that the law reaches come to, down to the law itself. -/
import Derived.Test.YtecjbmibngfpmaaBnH
import Derived.Test.YtecjbmibngfpmaaProg
import Derived.Lib.Overlaps
set_option linter.unusedVariables false
set_option linter.unusedSimpArgs false
set_option maxRecDepth 100000
namespace Go.Proofs.YtecjbmibngfpmaaAn
open Go
/-- a function, by its number -/
abbrev fno (fn : Nat) : Nat := fn
abbrev tyo (t : Nat) : Nat := t
theorem ov_ext [Hook] {P : Program} {f : FuncId} {g : Func} {tS tR e : TypeId} {size : Nat} (hf : P.funcs[f]? = some g) (h1 : (g.name == "runtime.NumGoroutine") = false) (h2 : g.body.isNone = true) (h3 : Extern.findNext g = none)
    (h4 : Extern.find g = some (Extern.SlicesOverlaps.overlaps #[tS, tS] #[tR])) (ht : P.underlying tS = some (.slice e)) (hz : szOf P e = some size) (w : World) {rb oo la ca rb2 oo2 lb cb : Nat} {rc : Array Value} {ty : TypeId} {k : Nat} {rc2 : Array Value} {ty2 : TypeId} {fz2 : Nat × Nat}
    (w1 : w.heap[rb]? = some (.cells rc ty (k, k))) (w2 : w.heap[rb2]? = some (.cells rc2 ty2 fz2)) (w3 : rc2.size ≠ 0) (hne : rb ≠ rb2) :
    (callFunc f #[.slice (some ⟨rb, oo, none⟩) la ca, .slice (some ⟨rb2, oo2, none⟩) lb cb]).run P w = .ok (.value (.bool false)) w := by
  have fz : ∀ o, w.frozen? ⟨rb, o, none⟩ = false := fun o => by
    simp only [World.frozen?, w1]
    simp only [Bool.and_eq_false_iff, decide_eq_false_iff_not]
    omega
  rw [run_callFunc_extern hf h1 h2 h3 h4, Lib.run_overlaps_apart w tS tR e ht size (fun w => run_sizeOf' w hz) ⟨rb, oo, none⟩ ⟨rb2, oo2, none⟩ la ca lb cb hne ty ty2 rc.size rc2.size (by simp only [World.shape?, w1]) (by simp only [World.shape?, w2]) w3 (fz _) (fz _)]
  rfl
theorem no_call (P : Program) : CallOk P fun _ _ _ => none := fun f args H v H' j w args' h => by cases h
theorem hk_mixed : Try.prog.follows .mixedOrders = true := by kernel_rfl
noncomputable abbrev hookO0 : Hook := ⟨fun _ => false, fun _ _ _ => none, fun f => Nat.beq f (fno (fn := 79))⟩
theorem extO0 : @ExtOk hookO0 Try.prog :=
  letI := hookO0
  ⟨fun f hf w rb oo la ca rb2 oo2 lb cb rc ty k rc2 ty2 fz2 w1 w2 w3 hne => by
    have e : f = fno (fn := 79) := beq_eq' hf
    subst e
    exact ov_ext (g := Try.f79) (tS := tyo (t := 25)) (tR := tyo (t := 4)) Try.func79 (by kernel_rfl) (by kernel_rfl) (by kernel_rfl) (by kernel_rfl) Try.underlying25 (size := 12) (by kernel_rfl) w w1 w2 w3 hne⟩
theorem vc72 (s : AV) (i : Int) (v : AV) (h : Hp) (Post : AV → Hp → Prop) : (letI := hookO0; vcCall Try.prog [] 72 [.vv s, .ii .i64 i, .vv v] h Post) = InsVC 12 120 [.i .i64 0, .i .i64 0, .i .i64 0, .ns, .i .i64 0, .i .i64 0, .i .i64 0, .i .i64 0, .i .i64 0, .s [], .i .i64 0, .i .i64 0] s i v h Post := by kernel_rfl
theorem specO : @InsSpec hookO0 Try.prog (fno (fn := 72)) 12 := by
  letI := hookO0
  refine ⟨fun h sb cap len i vb vo vn vl vx cells2 old new h1 h2 h3 h4 h5 h6 h7 h8 h9 h10 h11 h12 h13 h14 => ?_, fun h s vb vo vn vl vx new hsn h1 h2 h3 h4 h5 h6 => ?_⟩
  · refine call_sound (args := [.vv (.sl sb 0 len cap true 12), .ii .i64 (.ofNat i), .vv (.sl vb vo vn vl vx 12)]) (cuts := []) ⟨rfl, trivial, rfl, trivial⟩ ?_
    rw [vc72]
    exact ins_sl (sz := 12) (bt := 120) (zs := [.i .i64 0, .i .i64 0, .i .i64 0, .ns, .i .i64 0, .i .i64 0, .i .i64 0, .i .i64 0, .i .i64 0, .s [], .i .i64 0, .i .i64 0]) rfl (by omega) (by omega) h1 h2 h3 h4 h5 h6 h7 h8 h9 h10 h11 h12 h13 h14
  · refine call_sound (args := [.vv s, .ii .i64 (.ofNat 0), .vv (.sl vb vo vn vl vx 12)]) (cuts := []) ⟨by rcases hsn with rfl | ⟨z, rfl⟩ <;> rfl, trivial, rfl, trivial⟩ ?_
    rw [vc72]
    exact ins_ns hsn (sz := 12) (bt := 120) (zs := [.i .i64 0, .i .i64 0, .i .i64 0, .ns, .i .i64 0, .i .i64 0, .i .i64 0, .i .i64 0, .i .i64 0, .s [], .i .i64 0, .i .i64 0]) (by omega) h2 h4 h6
noncomputable instance hookI : Hook := ⟨fun f => Nat.beq f (fno (fn := 72)), fun f a H => cond (Nat.beq f (fno (fn := 72))) (insA 12 a H) none, fun _ => false⟩
instance hookI_ext : ExtOk Try.prog := ⟨fun f h => by cases h⟩
theorem hookI_ok : CallOk Try.prog Hook.call := fun f args H v H' j w args' he hR hv => by
  have he : cond (Nat.beq f (fno (fn := 72))) (insA 12 args H) none = some (v, H') := he
  obtain ⟨hc, he⟩ := cond_some he
  have e := beq_eq' hc
  subst e
  exact insA_ok hookO0 extO0 (no_call _) hk_mixed specO he hR hv
/-- what 64 bits hold -/
noncomputable def In64 (n : Int) : Prop := -9223372036854775808 ≤ n ∧ n < 9223372036854775808
namespace D
structure Stamp where
  time : Int
  rep : Int
deriving DecidableEq
noncomputable def kStamp : Kn Stamp := Kn.iso (Kn.pair Kn.int Kn.int) fun s => (s.time, s.rep)
structure Op where
  stamp : Stamp
  seq : Int
  deps : List (Int)
  kind : Int
  node : Stamp
  parent : Stamp
  key : List Nat
  prop : Int
  value : Int
deriving DecidableEq
noncomputable def kOp : Kn Op := Kn.iso (Kn.pair kStamp (Kn.pair Kn.int (Kn.pair (Kn.slice Kn.int 8) (Kn.pair Kn.int (Kn.pair kStamp (Kn.pair kStamp (Kn.pair Kn.str (Kn.pair Kn.int Kn.int)))))))) fun s => (s.stamp, s.seq, s.deps, s.kind, s.node, s.parent, s.key, s.prop, s.value)
theorem kStamp_open {h : Hp} {s : Stamp} {cs : List AV} (k : kStamp.K h s cs) : cs = [.i .i64 s.time, .i .i64 s.rep] ∧ In64 s.time ∧ In64 s.rep := by
  obtain ⟨c0, r0, e0, q0, q1⟩ := k
  obtain ⟨z0, f0⟩ := q0
  obtain ⟨z1, f1⟩ := q1
  refine ⟨?_, f0, f1⟩
  rw [e0, z0, z1]; rfl
theorem kOp_open {h : Hp} {s : Op} {cs : List AV} (k : kOp.K h s cs) : ∃ a0, cs = [.i .i64 s.stamp.time, .i .i64 s.stamp.rep, .i .i64 s.seq, a0, .i .i64 s.kind, .i .i64 s.node.time, .i .i64 s.node.rep, .i .i64 s.parent.time, .i .i64 s.parent.rep, .s s.key, .i .i64 s.prop, .i .i64 s.value] ∧ In64 s.stamp.time ∧ In64 s.stamp.rep ∧ In64 s.seq ∧ (Kn.int.Row h a0 s.deps ∧ s.deps.length * 8 ≤ 140737488351232) ∧ In64 s.kind ∧ In64 s.node.time ∧ In64 s.node.rep ∧ In64 s.parent.time ∧ In64 s.parent.rep ∧ (s.key.length ≤ 140737488351232 ∧ ∀ x ∈ s.key, x < 256) ∧ In64 s.prop ∧ In64 s.value := by
  obtain ⟨c0, r0, e0, q0, c1, r1, e1, q1, c2, r2, e2, q2, c3, r3, e3, q3, c4, r4, e4, q4, c5, r5, e5, q5, c6, r6, e6, q6, c7, r7, e7, q7, q8⟩ := k
  obtain ⟨z0, f0_0, f0_1⟩ := kStamp_open q0
  obtain ⟨z1, f1⟩ := q1
  obtain ⟨b2, z2, f2⟩ := q2
  obtain ⟨z3, f3⟩ := q3
  obtain ⟨z4, f4_0, f4_1⟩ := kStamp_open q4
  obtain ⟨z5, f5_0, f5_1⟩ := kStamp_open q5
  obtain ⟨z6, f6⟩ := q6
  obtain ⟨z7, f7⟩ := q7
  obtain ⟨z8, f8⟩ := q8
  refine ⟨b2, ?_, f0_0, f0_1, f1, f2, f3, f4_0, f4_1, f5_0, f5_1, f6, f7, f8⟩
  rw [e0, z0, e1, z1, e2, z2, e3, z3, e4, z4, e5, z5, e6, z6, e7, z7, z8]; rfl
end D
/- arras/prop.May -/
theorem vc77 (a : Int) (b : Int) (h : Hp) (Post : AV → Hp → Prop) : vcCall Try.prog [] 77 [(SV.ii .i64 a), (SV.ii .i64 b)] h Post = (
  wpC Try.prog 83 [AV.i IntKind.i64 a]
  (fun a0 h0 =>
    onRet [Sh.one Kd.bool] a0 fun c0 =>
      onB c0
        (wpC Try.prog 84 [AV.i IntKind.i64 a]
          (fun a1 h1 =>
            onRet [Sh.agg [Kd.int IntKind.i64, Kd.int IntKind.i64, Kd.int IntKind.i64, Kd.bool]] a1 fun n0 n1 n2 c1 =>
              onB (decide (n0 ≤ b))
                (wpC Try.prog 84 [AV.i IntKind.i64 a]
                  (fun a2 h2 => onRet [Sh.agg [Kd.int IntKind.i64, Kd.int IntKind.i64, Kd.int IntKind.i64, Kd.bool]] a2 fun n3 n4 n5 c2 => Post (AV.b (decide (b ≤ n4))) h2) h1)
                (Post (AV.b false) h1))
          h0)
        (Post (AV.b false) h0))
  h) := by kernel_rfl
/- arras/prop.Is -/
theorem vc83 (a : Int) (h : Hp) (Post : AV → Hp → Prop) : vcCall Try.prog [] 83 [(SV.ii .i64 a)] h Post = (
  onB (decide (0 ≤ a)) (Post (AV.b (decide (a < 19))) h) (Post (AV.b false) h)) := by kernel_rfl
/- arras/stamp.Is -/
theorem vc68 (a0 : Int) (a1 : Int) (h : Hp) (Post : AV → Hp → Prop) : vcCall Try.prog [] 68 [(SV.ag [(SV.ii .i64 a0), (SV.ii .i64 a1)])] h Post = (
  ∀ (p0 : Nat), onB (decide (1 ≤ a0)) (onB (decide (a0 ≤ 1099511627776)) (onB (decide (0 ≤ a1)) (Post (AV.b (decide (a1 < 16))) h) (Post (AV.b false) h)) (Post (AV.b false) h)) (Post (AV.b false) h)) := by kernel_rfl
/- cmp.Compare[int] -/
theorem vc74 (a : Int) (b : Int) (h : Hp) (Post : AV → Hp → Prop) : vcCall Try.prog [] 74 [(SV.ii .i64 a), (SV.ii .i64 b)] h Post = (
  wpC Try.prog 81 [AV.i IntKind.i64 a]
  (fun a0 h0 =>
    onRet [Sh.one Kd.bool] a0 fun c0 =>
      wpC Try.prog 81 [AV.i IntKind.i64 b]
        (fun a1 h1 =>
          onRet [Sh.one Kd.bool] a1 fun c1 =>
            onB c0 (onB c1 (Post (AV.i IntKind.i64 0) h1) (Post (AV.i IntKind.i64 (-1)) h1))
              (onB c1 (Post (AV.i IntKind.i64 1) h1) (onB (decide (a < b)) (Post (AV.i IntKind.i64 (-1)) h1) (onB (decide (b < a)) (Post (AV.i IntKind.i64 1) h1) (Post (AV.i IntKind.i64 0) h1)))))
        h0)
  h) := by kernel_rfl
/- cmp.isNaN[int] -/
theorem vc81 (a : Int) (h : Hp) (Post : AV → Hp → Prop) : vcCall Try.prog [] 81 [(SV.ii .i64 a)] h Post = (
  Post (AV.b !decide (a = a)) h) := by kernel_rfl
/- arras/stamp.Cmp -/
theorem vc67 (a0 : Int) (a1 : Int) (b0 : Int) (b1 : Int) (h : Hp) (Post : AV → Hp → Prop) : vcCall Try.prog [] 67 [(SV.ag [(SV.ii .i64 a0), (SV.ii .i64 a1)]), (SV.ag [(SV.ii .i64 b0), (SV.ii .i64 b1)])] h Post = (
  ∀ (p0 p1 : Nat),
  wpC Try.prog 74 [AV.i IntKind.i64 a0, AV.i IntKind.i64 b0]
    (fun a0 h0 =>
      onRet [Sh.one (Kd.int IntKind.i64)] a0 fun n0 =>
        wpC Try.prog 74 [AV.i IntKind.i64 a1, AV.i IntKind.i64 b1]
          (fun a1 h1 =>
            onRet [Sh.one (Kd.int IntKind.i64)] a1 fun n1 =>
              ∀ (p2 : Nat),
                h1.g p2 = none →
                  h1.lo.le p2 →
                    wpC Try.prog 73 [AV.sl p2 0 2 2 true 1] (fun a2 h2 => onRet [Sh.one (Kd.int IntKind.i64)] a2 fun n2 => Post (AV.i IntKind.i64 n2) h2)
                      (h1.put p2 [AV.i IntKind.i64 n0, AV.i IntKind.i64 n1]))
          h0)
    h) := by kernel_rfl
/- cmp.Or[int] -/
theorem vc73 (a : AV) (h : Hp) (Post : AV → Hp → Prop) : vcCall Try.prog [] 73 [(SV.vv a)] h Post = (
  onO (lenV a) fun p0 =>
  ∃ I0 : Nat → Int → Int → Hp → Prop,
    (∃ p1, I0 p1 0 0 h) ∧
      ∀ (p2 : Nat) (h0 : Hp) (n0 n1 : Int),
        I0 p2 n0 n1 h0 →
          onB (decide (n1 < ↑p0))
            (onO (idxV a n1 1) fun r0 =>
              onO (rdH h0 r0.fst r0.snd 1) fun l0 =>
                onL [Kd.int IntKind.i64] l0 fun n2 => onB (!decide (n2 = 0)) (Post (AV.i IntKind.i64 n2) h0) (onO (intO BinOp.add IntKind.i64 n1 1) fun n3 => ∃ p3, ltN p3 p2 ∧ I0 p3 n0 n3 h0))
            (Post (AV.i IntKind.i64 0) h0)) := by kernel_rfl
/- arras/arrasref8.Check -/
theorem vc39 (a : Int) (b : Int) (h : Hp) (Post : AV → Hp → Prop) : vcCall Try.prog [] 39 [(SV.ii .i64 a), (SV.ii .i64 b)] h Post = (
  wpC Try.prog 64 [AV.i IntKind.i64 a]
  (fun a0 h0 =>
    onTup [Sh.one (Kd.int IntKind.i64), Sh.one (Kd.int IntKind.i64), Sh.one (Kd.int IntKind.i64), Sh.one Kd.bool] a0 fun n0 n1 n2 c0 =>
      onB (!c0) (Post (AV.i IntKind.i64 3) h0) (onB (decide (b < n0)) (Post (AV.i IntKind.i64 9) h0) (onB (decide (n1 < b)) (Post (AV.i IntKind.i64 9) h0) (Post (AV.i IntKind.i64 0) h0))))
  h) := by kernel_rfl
/- arras/arrasref6.Stamp -/
theorem vc35 (a0 : Int) (a1 : Int) (h : Hp) (Post : AV → Hp → Prop) : vcCall Try.prog [] 35 [(SV.ag [(SV.ii .i64 a0), (SV.ii .i64 a1)])] h Post = (
  ∀ (p0 : Nat),
  onB (decide (1 ≤ a0))
    (onB (decide (a0 ≤ 1099511627776)) (wpC Try.prog 61 [AV.i IntKind.i64 a1, AV.i IntKind.i64 15] (fun a0 h0 => onRet [Sh.one Kd.bool] a0 fun c0 => Post (AV.b c0) h0) h) (Post (AV.b false) h))
    (Post (AV.b false) h)) := by kernel_rfl
/- arras/arrasref0.Num -/
theorem vc61 (a : Int) (b : Int) (h : Hp) (Post : AV → Hp → Prop) : vcCall Try.prog [] 61 [(SV.ii .i64 a), (SV.ii .i64 b)] h Post = (
  onB (decide (0 ≤ a)) (Post (AV.b (decide (a ≤ b))) h) (Post (AV.b false) h)) := by kernel_rfl
/- arras/arrasref8.value -/
theorem vc64 (a : Int) (h : Hp) (Post : AV → Hp → Prop) : vcCall Try.prog [] 64 [(SV.ii .i64 a)] h Post = (
  onB (decide (a = 0)) (Post (AV.tup [AV.i IntKind.i64 0, AV.i IntKind.i64 2, AV.i IntKind.i64 0, AV.b true]) h)
  (onB (decide (a = 1))
    (onB (decide (a = 1)) (Post (AV.tup [AV.i IntKind.i64 0, AV.i IntKind.i64 1, AV.i IntKind.i64 0, AV.b true]) h)
      (onB (decide (a = 3))
        (onB (decide (a = 3)) (Post (AV.tup [AV.i IntKind.i64 (-1), AV.i IntKind.i64 1099511627776, AV.i IntKind.i64 (-1), AV.b true]) h)
          (onB (decide (a = 5))
            (onB (decide (a = 5)) (Post (AV.tup [AV.i IntKind.i64 0, AV.i IntKind.i64 1099511627776, AV.i IntKind.i64 0, AV.b true]) h)
              (onB (decide (a = 9)) (Post (AV.tup [AV.i IntKind.i64 0, AV.i IntKind.i64 1048576, AV.i IntKind.i64 0, AV.b true]) h)
                (onB (decide (a = 10)) (Post (AV.tup [AV.i IntKind.i64 0, AV.i IntKind.i64 1048576, AV.i IntKind.i64 1, AV.b true]) h)
                  (onB (decide (a = 12))
                    (onB (decide (a = 12)) (Post (AV.tup [AV.i IntKind.i64 0, AV.i IntKind.i64 1073741824, AV.i IntKind.i64 0, AV.b true]) h)
                      (onB (decide (a = 15)) (Post (AV.tup [AV.i IntKind.i64 0, AV.i IntKind.i64 4, AV.i IntKind.i64 0, AV.b true]) h)
                        (onB (decide (a = 16)) (Post (AV.tup [AV.i IntKind.i64 0, AV.i IntKind.i64 3, AV.i IntKind.i64 0, AV.b true]) h)
                          (onB (decide (a = 17)) (Post (AV.tup [AV.i IntKind.i64 0, AV.i IntKind.i64 16777215, AV.i IntKind.i64 0, AV.b true]) h)
                            (onB (decide (a = 18)) (Post (AV.tup [AV.i IntKind.i64 64, AV.i IntKind.i64 64000, AV.i IntKind.i64 1024, AV.b true]) h)
                              (Post (AV.tup [AV.i IntKind.i64 0, AV.i IntKind.i64 0, AV.i IntKind.i64 0, AV.b false]) h))))))
                    (onB (decide (a = 13))
                      (onB (decide (a = 13)) (Post (AV.tup [AV.i IntKind.i64 0, AV.i IntKind.i64 1073741824, AV.i IntKind.i64 0, AV.b true]) h)
                        (onB (decide (a = 15)) (Post (AV.tup [AV.i IntKind.i64 0, AV.i IntKind.i64 4, AV.i IntKind.i64 0, AV.b true]) h)
                          (onB (decide (a = 16)) (Post (AV.tup [AV.i IntKind.i64 0, AV.i IntKind.i64 3, AV.i IntKind.i64 0, AV.b true]) h)
                            (onB (decide (a = 17)) (Post (AV.tup [AV.i IntKind.i64 0, AV.i IntKind.i64 16777215, AV.i IntKind.i64 0, AV.b true]) h)
                              (onB (decide (a = 18)) (Post (AV.tup [AV.i IntKind.i64 64, AV.i IntKind.i64 64000, AV.i IntKind.i64 1024, AV.b true]) h)
                                (Post (AV.tup [AV.i IntKind.i64 0, AV.i IntKind.i64 0, AV.i IntKind.i64 0, AV.b false]) h))))))
                      (onB (decide (a = 14)) (Post (AV.tup [AV.i IntKind.i64 0, AV.i IntKind.i64 1073741824, AV.i IntKind.i64 0, AV.b true]) h)
                        (onB (decide (a = 15)) (Post (AV.tup [AV.i IntKind.i64 0, AV.i IntKind.i64 4, AV.i IntKind.i64 0, AV.b true]) h)
                          (onB (decide (a = 16)) (Post (AV.tup [AV.i IntKind.i64 0, AV.i IntKind.i64 3, AV.i IntKind.i64 0, AV.b true]) h)
                            (onB (decide (a = 17)) (Post (AV.tup [AV.i IntKind.i64 0, AV.i IntKind.i64 16777215, AV.i IntKind.i64 0, AV.b true]) h)
                              (onB (decide (a = 18)) (Post (AV.tup [AV.i IntKind.i64 64, AV.i IntKind.i64 64000, AV.i IntKind.i64 1024, AV.b true]) h)
                                (Post (AV.tup [AV.i IntKind.i64 0, AV.i IntKind.i64 0, AV.i IntKind.i64 0, AV.b false]) h)))))))))))
            (onB (decide (a = 7)) (Post (AV.tup [AV.i IntKind.i64 0, AV.i IntKind.i64 1099511627776, AV.i IntKind.i64 0, AV.b true]) h)
              (onB (decide (a = 9)) (Post (AV.tup [AV.i IntKind.i64 0, AV.i IntKind.i64 1048576, AV.i IntKind.i64 0, AV.b true]) h)
                (onB (decide (a = 10)) (Post (AV.tup [AV.i IntKind.i64 0, AV.i IntKind.i64 1048576, AV.i IntKind.i64 1, AV.b true]) h)
                  (onB (decide (a = 12))
                    (onB (decide (a = 12)) (Post (AV.tup [AV.i IntKind.i64 0, AV.i IntKind.i64 1073741824, AV.i IntKind.i64 0, AV.b true]) h)
                      (onB (decide (a = 15)) (Post (AV.tup [AV.i IntKind.i64 0, AV.i IntKind.i64 4, AV.i IntKind.i64 0, AV.b true]) h)
                        (onB (decide (a = 16)) (Post (AV.tup [AV.i IntKind.i64 0, AV.i IntKind.i64 3, AV.i IntKind.i64 0, AV.b true]) h)
                          (onB (decide (a = 17)) (Post (AV.tup [AV.i IntKind.i64 0, AV.i IntKind.i64 16777215, AV.i IntKind.i64 0, AV.b true]) h)
                            (onB (decide (a = 18)) (Post (AV.tup [AV.i IntKind.i64 64, AV.i IntKind.i64 64000, AV.i IntKind.i64 1024, AV.b true]) h)
                              (Post (AV.tup [AV.i IntKind.i64 0, AV.i IntKind.i64 0, AV.i IntKind.i64 0, AV.b false]) h))))))
                    (onB (decide (a = 13))
                      (onB (decide (a = 13)) (Post (AV.tup [AV.i IntKind.i64 0, AV.i IntKind.i64 1073741824, AV.i IntKind.i64 0, AV.b true]) h)
                        (onB (decide (a = 15)) (Post (AV.tup [AV.i IntKind.i64 0, AV.i IntKind.i64 4, AV.i IntKind.i64 0, AV.b true]) h)
                          (onB (decide (a = 16)) (Post (AV.tup [AV.i IntKind.i64 0, AV.i IntKind.i64 3, AV.i IntKind.i64 0, AV.b true]) h)
                            (onB (decide (a = 17)) (Post (AV.tup [AV.i IntKind.i64 0, AV.i IntKind.i64 16777215, AV.i IntKind.i64 0, AV.b true]) h)
                              (onB (decide (a = 18)) (Post (AV.tup [AV.i IntKind.i64 64, AV.i IntKind.i64 64000, AV.i IntKind.i64 1024, AV.b true]) h)
                                (Post (AV.tup [AV.i IntKind.i64 0, AV.i IntKind.i64 0, AV.i IntKind.i64 0, AV.b false]) h))))))
                      (onB (decide (a = 14)) (Post (AV.tup [AV.i IntKind.i64 0, AV.i IntKind.i64 1073741824, AV.i IntKind.i64 0, AV.b true]) h)
                        (onB (decide (a = 15)) (Post (AV.tup [AV.i IntKind.i64 0, AV.i IntKind.i64 4, AV.i IntKind.i64 0, AV.b true]) h)
                          (onB (decide (a = 16)) (Post (AV.tup [AV.i IntKind.i64 0, AV.i IntKind.i64 3, AV.i IntKind.i64 0, AV.b true]) h)
                            (onB (decide (a = 17)) (Post (AV.tup [AV.i IntKind.i64 0, AV.i IntKind.i64 16777215, AV.i IntKind.i64 0, AV.b true]) h)
                              (onB (decide (a = 18)) (Post (AV.tup [AV.i IntKind.i64 64, AV.i IntKind.i64 64000, AV.i IntKind.i64 1024, AV.b true]) h)
                                (Post (AV.tup [AV.i IntKind.i64 0, AV.i IntKind.i64 0, AV.i IntKind.i64 0, AV.b false]) h)))))))))))))
        (onB (decide (a = 4))
          (onB (decide (a = 4)) (Post (AV.tup [AV.i IntKind.i64 (-1), AV.i IntKind.i64 1099511627776, AV.i IntKind.i64 (-1), AV.b true]) h)
            (onB (decide (a = 5))
              (onB (decide (a = 5)) (Post (AV.tup [AV.i IntKind.i64 0, AV.i IntKind.i64 1099511627776, AV.i IntKind.i64 0, AV.b true]) h)
                (onB (decide (a = 9)) (Post (AV.tup [AV.i IntKind.i64 0, AV.i IntKind.i64 1048576, AV.i IntKind.i64 0, AV.b true]) h)
                  (onB (decide (a = 10)) (Post (AV.tup [AV.i IntKind.i64 0, AV.i IntKind.i64 1048576, AV.i IntKind.i64 1, AV.b true]) h)
                    (onB (decide (a = 12))
                      (onB (decide (a = 12)) (Post (AV.tup [AV.i IntKind.i64 0, AV.i IntKind.i64 1073741824, AV.i IntKind.i64 0, AV.b true]) h)
                        (onB (decide (a = 15)) (Post (AV.tup [AV.i IntKind.i64 0, AV.i IntKind.i64 4, AV.i IntKind.i64 0, AV.b true]) h)
                          (onB (decide (a = 16)) (Post (AV.tup [AV.i IntKind.i64 0, AV.i IntKind.i64 3, AV.i IntKind.i64 0, AV.b true]) h)
                            (onB (decide (a = 17)) (Post (AV.tup [AV.i IntKind.i64 0, AV.i IntKind.i64 16777215, AV.i IntKind.i64 0, AV.b true]) h)
                              (onB (decide (a = 18)) (Post (AV.tup [AV.i IntKind.i64 64, AV.i IntKind.i64 64000, AV.i IntKind.i64 1024, AV.b true]) h)
                                (Post (AV.tup [AV.i IntKind.i64 0, AV.i IntKind.i64 0, AV.i IntKind.i64 0, AV.b false]) h))))))
                      (onB (decide (a = 13))
                        (onB (decide (a = 13)) (Post (AV.tup [AV.i IntKind.i64 0, AV.i IntKind.i64 1073741824, AV.i IntKind.i64 0, AV.b true]) h)
                          (onB (decide (a = 15)) (Post (AV.tup [AV.i IntKind.i64 0, AV.i IntKind.i64 4, AV.i IntKind.i64 0, AV.b true]) h)
                            (onB (decide (a = 16)) (Post (AV.tup [AV.i IntKind.i64 0, AV.i IntKind.i64 3, AV.i IntKind.i64 0, AV.b true]) h)
                              (onB (decide (a = 17)) (Post (AV.tup [AV.i IntKind.i64 0, AV.i IntKind.i64 16777215, AV.i IntKind.i64 0, AV.b true]) h)
                                (onB (decide (a = 18)) (Post (AV.tup [AV.i IntKind.i64 64, AV.i IntKind.i64 64000, AV.i IntKind.i64 1024, AV.b true]) h)
                                  (Post (AV.tup [AV.i IntKind.i64 0, AV.i IntKind.i64 0, AV.i IntKind.i64 0, AV.b false]) h))))))
                        (onB (decide (a = 14)) (Post (AV.tup [AV.i IntKind.i64 0, AV.i IntKind.i64 1073741824, AV.i IntKind.i64 0, AV.b true]) h)
                          (onB (decide (a = 15)) (Post (AV.tup [AV.i IntKind.i64 0, AV.i IntKind.i64 4, AV.i IntKind.i64 0, AV.b true]) h)
                            (onB (decide (a = 16)) (Post (AV.tup [AV.i IntKind.i64 0, AV.i IntKind.i64 3, AV.i IntKind.i64 0, AV.b true]) h)
                              (onB (decide (a = 17)) (Post (AV.tup [AV.i IntKind.i64 0, AV.i IntKind.i64 16777215, AV.i IntKind.i64 0, AV.b true]) h)
                                (onB (decide (a = 18)) (Post (AV.tup [AV.i IntKind.i64 64, AV.i IntKind.i64 64000, AV.i IntKind.i64 1024, AV.b true]) h)
                                  (Post (AV.tup [AV.i IntKind.i64 0, AV.i IntKind.i64 0, AV.i IntKind.i64 0, AV.b false]) h)))))))))))
              (onB (decide (a = 7)) (Post (AV.tup [AV.i IntKind.i64 0, AV.i IntKind.i64 1099511627776, AV.i IntKind.i64 0, AV.b true]) h)
                (onB (decide (a = 9)) (Post (AV.tup [AV.i IntKind.i64 0, AV.i IntKind.i64 1048576, AV.i IntKind.i64 0, AV.b true]) h)
                  (onB (decide (a = 10)) (Post (AV.tup [AV.i IntKind.i64 0, AV.i IntKind.i64 1048576, AV.i IntKind.i64 1, AV.b true]) h)
                    (onB (decide (a = 12))
                      (onB (decide (a = 12)) (Post (AV.tup [AV.i IntKind.i64 0, AV.i IntKind.i64 1073741824, AV.i IntKind.i64 0, AV.b true]) h)
                        (onB (decide (a = 15)) (Post (AV.tup [AV.i IntKind.i64 0, AV.i IntKind.i64 4, AV.i IntKind.i64 0, AV.b true]) h)
                          (onB (decide (a = 16)) (Post (AV.tup [AV.i IntKind.i64 0, AV.i IntKind.i64 3, AV.i IntKind.i64 0, AV.b true]) h)
                            (onB (decide (a = 17)) (Post (AV.tup [AV.i IntKind.i64 0, AV.i IntKind.i64 16777215, AV.i IntKind.i64 0, AV.b true]) h)
                              (onB (decide (a = 18)) (Post (AV.tup [AV.i IntKind.i64 64, AV.i IntKind.i64 64000, AV.i IntKind.i64 1024, AV.b true]) h)
                                (Post (AV.tup [AV.i IntKind.i64 0, AV.i IntKind.i64 0, AV.i IntKind.i64 0, AV.b false]) h))))))
                      (onB (decide (a = 13))
                        (onB (decide (a = 13)) (Post (AV.tup [AV.i IntKind.i64 0, AV.i IntKind.i64 1073741824, AV.i IntKind.i64 0, AV.b true]) h)
                          (onB (decide (a = 15)) (Post (AV.tup [AV.i IntKind.i64 0, AV.i IntKind.i64 4, AV.i IntKind.i64 0, AV.b true]) h)
                            (onB (decide (a = 16)) (Post (AV.tup [AV.i IntKind.i64 0, AV.i IntKind.i64 3, AV.i IntKind.i64 0, AV.b true]) h)
                              (onB (decide (a = 17)) (Post (AV.tup [AV.i IntKind.i64 0, AV.i IntKind.i64 16777215, AV.i IntKind.i64 0, AV.b true]) h)
                                (onB (decide (a = 18)) (Post (AV.tup [AV.i IntKind.i64 64, AV.i IntKind.i64 64000, AV.i IntKind.i64 1024, AV.b true]) h)
                                  (Post (AV.tup [AV.i IntKind.i64 0, AV.i IntKind.i64 0, AV.i IntKind.i64 0, AV.b false]) h))))))
                        (onB (decide (a = 14)) (Post (AV.tup [AV.i IntKind.i64 0, AV.i IntKind.i64 1073741824, AV.i IntKind.i64 0, AV.b true]) h)
                          (onB (decide (a = 15)) (Post (AV.tup [AV.i IntKind.i64 0, AV.i IntKind.i64 4, AV.i IntKind.i64 0, AV.b true]) h)
                            (onB (decide (a = 16)) (Post (AV.tup [AV.i IntKind.i64 0, AV.i IntKind.i64 3, AV.i IntKind.i64 0, AV.b true]) h)
                              (onB (decide (a = 17)) (Post (AV.tup [AV.i IntKind.i64 0, AV.i IntKind.i64 16777215, AV.i IntKind.i64 0, AV.b true]) h)
                                (onB (decide (a = 18)) (Post (AV.tup [AV.i IntKind.i64 64, AV.i IntKind.i64 64000, AV.i IntKind.i64 1024, AV.b true]) h)
                                  (Post (AV.tup [AV.i IntKind.i64 0, AV.i IntKind.i64 0, AV.i IntKind.i64 0, AV.b false]) h)))))))))))))
          (onB (decide (a = 6))
            (onB (decide (a = 6)) (Post (AV.tup [AV.i IntKind.i64 (-1), AV.i IntKind.i64 1099511627776, AV.i IntKind.i64 (-1), AV.b true]) h)
              (onB (decide (a = 5))
                (onB (decide (a = 5)) (Post (AV.tup [AV.i IntKind.i64 0, AV.i IntKind.i64 1099511627776, AV.i IntKind.i64 0, AV.b true]) h)
                  (onB (decide (a = 9)) (Post (AV.tup [AV.i IntKind.i64 0, AV.i IntKind.i64 1048576, AV.i IntKind.i64 0, AV.b true]) h)
                    (onB (decide (a = 10)) (Post (AV.tup [AV.i IntKind.i64 0, AV.i IntKind.i64 1048576, AV.i IntKind.i64 1, AV.b true]) h)
                      (onB (decide (a = 12))
                        (onB (decide (a = 12)) (Post (AV.tup [AV.i IntKind.i64 0, AV.i IntKind.i64 1073741824, AV.i IntKind.i64 0, AV.b true]) h)
                          (onB (decide (a = 15)) (Post (AV.tup [AV.i IntKind.i64 0, AV.i IntKind.i64 4, AV.i IntKind.i64 0, AV.b true]) h)
                            (onB (decide (a = 16)) (Post (AV.tup [AV.i IntKind.i64 0, AV.i IntKind.i64 3, AV.i IntKind.i64 0, AV.b true]) h)
                              (onB (decide (a = 17)) (Post (AV.tup [AV.i IntKind.i64 0, AV.i IntKind.i64 16777215, AV.i IntKind.i64 0, AV.b true]) h)
                                (onB (decide (a = 18)) (Post (AV.tup [AV.i IntKind.i64 64, AV.i IntKind.i64 64000, AV.i IntKind.i64 1024, AV.b true]) h)
                                  (Post (AV.tup [AV.i IntKind.i64 0, AV.i IntKind.i64 0, AV.i IntKind.i64 0, AV.b false]) h))))))
                        (onB (decide (a = 13))
                          (onB (decide (a = 13)) (Post (AV.tup [AV.i IntKind.i64 0, AV.i IntKind.i64 1073741824, AV.i IntKind.i64 0, AV.b true]) h)
                            (onB (decide (a = 15)) (Post (AV.tup [AV.i IntKind.i64 0, AV.i IntKind.i64 4, AV.i IntKind.i64 0, AV.b true]) h)
                              (onB (decide (a = 16)) (Post (AV.tup [AV.i IntKind.i64 0, AV.i IntKind.i64 3, AV.i IntKind.i64 0, AV.b true]) h)
                                (onB (decide (a = 17)) (Post (AV.tup [AV.i IntKind.i64 0, AV.i IntKind.i64 16777215, AV.i IntKind.i64 0, AV.b true]) h)
                                  (onB (decide (a = 18)) (Post (AV.tup [AV.i IntKind.i64 64, AV.i IntKind.i64 64000, AV.i IntKind.i64 1024, AV.b true]) h)
                                    (Post (AV.tup [AV.i IntKind.i64 0, AV.i IntKind.i64 0, AV.i IntKind.i64 0, AV.b false]) h))))))
                          (onB (decide (a = 14)) (Post (AV.tup [AV.i IntKind.i64 0, AV.i IntKind.i64 1073741824, AV.i IntKind.i64 0, AV.b true]) h)
                            (onB (decide (a = 15)) (Post (AV.tup [AV.i IntKind.i64 0, AV.i IntKind.i64 4, AV.i IntKind.i64 0, AV.b true]) h)
                              (onB (decide (a = 16)) (Post (AV.tup [AV.i IntKind.i64 0, AV.i IntKind.i64 3, AV.i IntKind.i64 0, AV.b true]) h)
                                (onB (decide (a = 17)) (Post (AV.tup [AV.i IntKind.i64 0, AV.i IntKind.i64 16777215, AV.i IntKind.i64 0, AV.b true]) h)
                                  (onB (decide (a = 18)) (Post (AV.tup [AV.i IntKind.i64 64, AV.i IntKind.i64 64000, AV.i IntKind.i64 1024, AV.b true]) h)
                                    (Post (AV.tup [AV.i IntKind.i64 0, AV.i IntKind.i64 0, AV.i IntKind.i64 0, AV.b false]) h)))))))))))
                (onB (decide (a = 7)) (Post (AV.tup [AV.i IntKind.i64 0, AV.i IntKind.i64 1099511627776, AV.i IntKind.i64 0, AV.b true]) h)
                  (onB (decide (a = 9)) (Post (AV.tup [AV.i IntKind.i64 0, AV.i IntKind.i64 1048576, AV.i IntKind.i64 0, AV.b true]) h)
                    (onB (decide (a = 10)) (Post (AV.tup [AV.i IntKind.i64 0, AV.i IntKind.i64 1048576, AV.i IntKind.i64 1, AV.b true]) h)
                      (onB (decide (a = 12))
                        (onB (decide (a = 12)) (Post (AV.tup [AV.i IntKind.i64 0, AV.i IntKind.i64 1073741824, AV.i IntKind.i64 0, AV.b true]) h)
                          (onB (decide (a = 15)) (Post (AV.tup [AV.i IntKind.i64 0, AV.i IntKind.i64 4, AV.i IntKind.i64 0, AV.b true]) h)
                            (onB (decide (a = 16)) (Post (AV.tup [AV.i IntKind.i64 0, AV.i IntKind.i64 3, AV.i IntKind.i64 0, AV.b true]) h)
                              (onB (decide (a = 17)) (Post (AV.tup [AV.i IntKind.i64 0, AV.i IntKind.i64 16777215, AV.i IntKind.i64 0, AV.b true]) h)
                                (onB (decide (a = 18)) (Post (AV.tup [AV.i IntKind.i64 64, AV.i IntKind.i64 64000, AV.i IntKind.i64 1024, AV.b true]) h)
                                  (Post (AV.tup [AV.i IntKind.i64 0, AV.i IntKind.i64 0, AV.i IntKind.i64 0, AV.b false]) h))))))
                        (onB (decide (a = 13))
                          (onB (decide (a = 13)) (Post (AV.tup [AV.i IntKind.i64 0, AV.i IntKind.i64 1073741824, AV.i IntKind.i64 0, AV.b true]) h)
                            (onB (decide (a = 15)) (Post (AV.tup [AV.i IntKind.i64 0, AV.i IntKind.i64 4, AV.i IntKind.i64 0, AV.b true]) h)
                              (onB (decide (a = 16)) (Post (AV.tup [AV.i IntKind.i64 0, AV.i IntKind.i64 3, AV.i IntKind.i64 0, AV.b true]) h)
                                (onB (decide (a = 17)) (Post (AV.tup [AV.i IntKind.i64 0, AV.i IntKind.i64 16777215, AV.i IntKind.i64 0, AV.b true]) h)
                                  (onB (decide (a = 18)) (Post (AV.tup [AV.i IntKind.i64 64, AV.i IntKind.i64 64000, AV.i IntKind.i64 1024, AV.b true]) h)
                                    (Post (AV.tup [AV.i IntKind.i64 0, AV.i IntKind.i64 0, AV.i IntKind.i64 0, AV.b false]) h))))))
                          (onB (decide (a = 14)) (Post (AV.tup [AV.i IntKind.i64 0, AV.i IntKind.i64 1073741824, AV.i IntKind.i64 0, AV.b true]) h)
                            (onB (decide (a = 15)) (Post (AV.tup [AV.i IntKind.i64 0, AV.i IntKind.i64 4, AV.i IntKind.i64 0, AV.b true]) h)
                              (onB (decide (a = 16)) (Post (AV.tup [AV.i IntKind.i64 0, AV.i IntKind.i64 3, AV.i IntKind.i64 0, AV.b true]) h)
                                (onB (decide (a = 17)) (Post (AV.tup [AV.i IntKind.i64 0, AV.i IntKind.i64 16777215, AV.i IntKind.i64 0, AV.b true]) h)
                                  (onB (decide (a = 18)) (Post (AV.tup [AV.i IntKind.i64 64, AV.i IntKind.i64 64000, AV.i IntKind.i64 1024, AV.b true]) h)
                                    (Post (AV.tup [AV.i IntKind.i64 0, AV.i IntKind.i64 0, AV.i IntKind.i64 0, AV.b false]) h)))))))))))))
            (onB (decide (a = 8))
              (onB (decide (a = 8)) (Post (AV.tup [AV.i IntKind.i64 (-1), AV.i IntKind.i64 1099511627776, AV.i IntKind.i64 (-1), AV.b true]) h)
                (onB (decide (a = 5))
                  (onB (decide (a = 5)) (Post (AV.tup [AV.i IntKind.i64 0, AV.i IntKind.i64 1099511627776, AV.i IntKind.i64 0, AV.b true]) h)
                    (onB (decide (a = 9)) (Post (AV.tup [AV.i IntKind.i64 0, AV.i IntKind.i64 1048576, AV.i IntKind.i64 0, AV.b true]) h)
                      (onB (decide (a = 10)) (Post (AV.tup [AV.i IntKind.i64 0, AV.i IntKind.i64 1048576, AV.i IntKind.i64 1, AV.b true]) h)
                        (onB (decide (a = 12))
                          (onB (decide (a = 12)) (Post (AV.tup [AV.i IntKind.i64 0, AV.i IntKind.i64 1073741824, AV.i IntKind.i64 0, AV.b true]) h)
                            (onB (decide (a = 15)) (Post (AV.tup [AV.i IntKind.i64 0, AV.i IntKind.i64 4, AV.i IntKind.i64 0, AV.b true]) h)
                              (onB (decide (a = 16)) (Post (AV.tup [AV.i IntKind.i64 0, AV.i IntKind.i64 3, AV.i IntKind.i64 0, AV.b true]) h)
                                (onB (decide (a = 17)) (Post (AV.tup [AV.i IntKind.i64 0, AV.i IntKind.i64 16777215, AV.i IntKind.i64 0, AV.b true]) h)
                                  (onB (decide (a = 18)) (Post (AV.tup [AV.i IntKind.i64 64, AV.i IntKind.i64 64000, AV.i IntKind.i64 1024, AV.b true]) h)
                                    (Post (AV.tup [AV.i IntKind.i64 0, AV.i IntKind.i64 0, AV.i IntKind.i64 0, AV.b false]) h))))))
                          (onB (decide (a = 13))
                            (onB (decide (a = 13)) (Post (AV.tup [AV.i IntKind.i64 0, AV.i IntKind.i64 1073741824, AV.i IntKind.i64 0, AV.b true]) h)
                              (onB (decide (a = 15)) (Post (AV.tup [AV.i IntKind.i64 0, AV.i IntKind.i64 4, AV.i IntKind.i64 0, AV.b true]) h)
                                (onB (decide (a = 16)) (Post (AV.tup [AV.i IntKind.i64 0, AV.i IntKind.i64 3, AV.i IntKind.i64 0, AV.b true]) h)
                                  (onB (decide (a = 17)) (Post (AV.tup [AV.i IntKind.i64 0, AV.i IntKind.i64 16777215, AV.i IntKind.i64 0, AV.b true]) h)
                                    (onB (decide (a = 18)) (Post (AV.tup [AV.i IntKind.i64 64, AV.i IntKind.i64 64000, AV.i IntKind.i64 1024, AV.b true]) h)
                                      (Post (AV.tup [AV.i IntKind.i64 0, AV.i IntKind.i64 0, AV.i IntKind.i64 0, AV.b false]) h))))))
                            (onB (decide (a = 14)) (Post (AV.tup [AV.i IntKind.i64 0, AV.i IntKind.i64 1073741824, AV.i IntKind.i64 0, AV.b true]) h)
                              (onB (decide (a = 15)) (Post (AV.tup [AV.i IntKind.i64 0, AV.i IntKind.i64 4, AV.i IntKind.i64 0, AV.b true]) h)
                                (onB (decide (a = 16)) (Post (AV.tup [AV.i IntKind.i64 0, AV.i IntKind.i64 3, AV.i IntKind.i64 0, AV.b true]) h)
                                  (onB (decide (a = 17)) (Post (AV.tup [AV.i IntKind.i64 0, AV.i IntKind.i64 16777215, AV.i IntKind.i64 0, AV.b true]) h)
                                    (onB (decide (a = 18)) (Post (AV.tup [AV.i IntKind.i64 64, AV.i IntKind.i64 64000, AV.i IntKind.i64 1024, AV.b true]) h)
                                      (Post (AV.tup [AV.i IntKind.i64 0, AV.i IntKind.i64 0, AV.i IntKind.i64 0, AV.b false]) h)))))))))))
                  (onB (decide (a = 7)) (Post (AV.tup [AV.i IntKind.i64 0, AV.i IntKind.i64 1099511627776, AV.i IntKind.i64 0, AV.b true]) h)
                    (onB (decide (a = 9)) (Post (AV.tup [AV.i IntKind.i64 0, AV.i IntKind.i64 1048576, AV.i IntKind.i64 0, AV.b true]) h)
                      (onB (decide (a = 10)) (Post (AV.tup [AV.i IntKind.i64 0, AV.i IntKind.i64 1048576, AV.i IntKind.i64 1, AV.b true]) h)
                        (onB (decide (a = 12))
                          (onB (decide (a = 12)) (Post (AV.tup [AV.i IntKind.i64 0, AV.i IntKind.i64 1073741824, AV.i IntKind.i64 0, AV.b true]) h)
                            (onB (decide (a = 15)) (Post (AV.tup [AV.i IntKind.i64 0, AV.i IntKind.i64 4, AV.i IntKind.i64 0, AV.b true]) h)
                              (onB (decide (a = 16)) (Post (AV.tup [AV.i IntKind.i64 0, AV.i IntKind.i64 3, AV.i IntKind.i64 0, AV.b true]) h)
                                (onB (decide (a = 17)) (Post (AV.tup [AV.i IntKind.i64 0, AV.i IntKind.i64 16777215, AV.i IntKind.i64 0, AV.b true]) h)
                                  (onB (decide (a = 18)) (Post (AV.tup [AV.i IntKind.i64 64, AV.i IntKind.i64 64000, AV.i IntKind.i64 1024, AV.b true]) h)
                                    (Post (AV.tup [AV.i IntKind.i64 0, AV.i IntKind.i64 0, AV.i IntKind.i64 0, AV.b false]) h))))))
                          (onB (decide (a = 13))
                            (onB (decide (a = 13)) (Post (AV.tup [AV.i IntKind.i64 0, AV.i IntKind.i64 1073741824, AV.i IntKind.i64 0, AV.b true]) h)
                              (onB (decide (a = 15)) (Post (AV.tup [AV.i IntKind.i64 0, AV.i IntKind.i64 4, AV.i IntKind.i64 0, AV.b true]) h)
                                (onB (decide (a = 16)) (Post (AV.tup [AV.i IntKind.i64 0, AV.i IntKind.i64 3, AV.i IntKind.i64 0, AV.b true]) h)
                                  (onB (decide (a = 17)) (Post (AV.tup [AV.i IntKind.i64 0, AV.i IntKind.i64 16777215, AV.i IntKind.i64 0, AV.b true]) h)
                                    (onB (decide (a = 18)) (Post (AV.tup [AV.i IntKind.i64 64, AV.i IntKind.i64 64000, AV.i IntKind.i64 1024, AV.b true]) h)
                                      (Post (AV.tup [AV.i IntKind.i64 0, AV.i IntKind.i64 0, AV.i IntKind.i64 0, AV.b false]) h))))))
                            (onB (decide (a = 14)) (Post (AV.tup [AV.i IntKind.i64 0, AV.i IntKind.i64 1073741824, AV.i IntKind.i64 0, AV.b true]) h)
                              (onB (decide (a = 15)) (Post (AV.tup [AV.i IntKind.i64 0, AV.i IntKind.i64 4, AV.i IntKind.i64 0, AV.b true]) h)
                                (onB (decide (a = 16)) (Post (AV.tup [AV.i IntKind.i64 0, AV.i IntKind.i64 3, AV.i IntKind.i64 0, AV.b true]) h)
                                  (onB (decide (a = 17)) (Post (AV.tup [AV.i IntKind.i64 0, AV.i IntKind.i64 16777215, AV.i IntKind.i64 0, AV.b true]) h)
                                    (onB (decide (a = 18)) (Post (AV.tup [AV.i IntKind.i64 64, AV.i IntKind.i64 64000, AV.i IntKind.i64 1024, AV.b true]) h)
                                      (Post (AV.tup [AV.i IntKind.i64 0, AV.i IntKind.i64 0, AV.i IntKind.i64 0, AV.b false]) h)))))))))))))
              (onB (decide (a = 11)) (Post (AV.tup [AV.i IntKind.i64 (-1), AV.i IntKind.i64 1099511627776, AV.i IntKind.i64 (-1), AV.b true]) h)
                (onB (decide (a = 5))
                  (onB (decide (a = 5)) (Post (AV.tup [AV.i IntKind.i64 0, AV.i IntKind.i64 1099511627776, AV.i IntKind.i64 0, AV.b true]) h)
                    (onB (decide (a = 9)) (Post (AV.tup [AV.i IntKind.i64 0, AV.i IntKind.i64 1048576, AV.i IntKind.i64 0, AV.b true]) h)
                      (onB (decide (a = 10)) (Post (AV.tup [AV.i IntKind.i64 0, AV.i IntKind.i64 1048576, AV.i IntKind.i64 1, AV.b true]) h)
                        (onB (decide (a = 12))
                          (onB (decide (a = 12)) (Post (AV.tup [AV.i IntKind.i64 0, AV.i IntKind.i64 1073741824, AV.i IntKind.i64 0, AV.b true]) h)
                            (onB (decide (a = 15)) (Post (AV.tup [AV.i IntKind.i64 0, AV.i IntKind.i64 4, AV.i IntKind.i64 0, AV.b true]) h)
                              (onB (decide (a = 16)) (Post (AV.tup [AV.i IntKind.i64 0, AV.i IntKind.i64 3, AV.i IntKind.i64 0, AV.b true]) h)
                                (onB (decide (a = 17)) (Post (AV.tup [AV.i IntKind.i64 0, AV.i IntKind.i64 16777215, AV.i IntKind.i64 0, AV.b true]) h)
                                  (onB (decide (a = 18)) (Post (AV.tup [AV.i IntKind.i64 64, AV.i IntKind.i64 64000, AV.i IntKind.i64 1024, AV.b true]) h)
                                    (Post (AV.tup [AV.i IntKind.i64 0, AV.i IntKind.i64 0, AV.i IntKind.i64 0, AV.b false]) h))))))
                          (onB (decide (a = 13))
                            (onB (decide (a = 13)) (Post (AV.tup [AV.i IntKind.i64 0, AV.i IntKind.i64 1073741824, AV.i IntKind.i64 0, AV.b true]) h)
                              (onB (decide (a = 15)) (Post (AV.tup [AV.i IntKind.i64 0, AV.i IntKind.i64 4, AV.i IntKind.i64 0, AV.b true]) h)
                                (onB (decide (a = 16)) (Post (AV.tup [AV.i IntKind.i64 0, AV.i IntKind.i64 3, AV.i IntKind.i64 0, AV.b true]) h)
                                  (onB (decide (a = 17)) (Post (AV.tup [AV.i IntKind.i64 0, AV.i IntKind.i64 16777215, AV.i IntKind.i64 0, AV.b true]) h)
                                    (onB (decide (a = 18)) (Post (AV.tup [AV.i IntKind.i64 64, AV.i IntKind.i64 64000, AV.i IntKind.i64 1024, AV.b true]) h)
                                      (Post (AV.tup [AV.i IntKind.i64 0, AV.i IntKind.i64 0, AV.i IntKind.i64 0, AV.b false]) h))))))
                            (onB (decide (a = 14)) (Post (AV.tup [AV.i IntKind.i64 0, AV.i IntKind.i64 1073741824, AV.i IntKind.i64 0, AV.b true]) h)
                              (onB (decide (a = 15)) (Post (AV.tup [AV.i IntKind.i64 0, AV.i IntKind.i64 4, AV.i IntKind.i64 0, AV.b true]) h)
                                (onB (decide (a = 16)) (Post (AV.tup [AV.i IntKind.i64 0, AV.i IntKind.i64 3, AV.i IntKind.i64 0, AV.b true]) h)
                                  (onB (decide (a = 17)) (Post (AV.tup [AV.i IntKind.i64 0, AV.i IntKind.i64 16777215, AV.i IntKind.i64 0, AV.b true]) h)
                                    (onB (decide (a = 18)) (Post (AV.tup [AV.i IntKind.i64 64, AV.i IntKind.i64 64000, AV.i IntKind.i64 1024, AV.b true]) h)
                                      (Post (AV.tup [AV.i IntKind.i64 0, AV.i IntKind.i64 0, AV.i IntKind.i64 0, AV.b false]) h)))))))))))
                  (onB (decide (a = 7)) (Post (AV.tup [AV.i IntKind.i64 0, AV.i IntKind.i64 1099511627776, AV.i IntKind.i64 0, AV.b true]) h)
                    (onB (decide (a = 9)) (Post (AV.tup [AV.i IntKind.i64 0, AV.i IntKind.i64 1048576, AV.i IntKind.i64 0, AV.b true]) h)
                      (onB (decide (a = 10)) (Post (AV.tup [AV.i IntKind.i64 0, AV.i IntKind.i64 1048576, AV.i IntKind.i64 1, AV.b true]) h)
                        (onB (decide (a = 12))
                          (onB (decide (a = 12)) (Post (AV.tup [AV.i IntKind.i64 0, AV.i IntKind.i64 1073741824, AV.i IntKind.i64 0, AV.b true]) h)
                            (onB (decide (a = 15)) (Post (AV.tup [AV.i IntKind.i64 0, AV.i IntKind.i64 4, AV.i IntKind.i64 0, AV.b true]) h)
                              (onB (decide (a = 16)) (Post (AV.tup [AV.i IntKind.i64 0, AV.i IntKind.i64 3, AV.i IntKind.i64 0, AV.b true]) h)
                                (onB (decide (a = 17)) (Post (AV.tup [AV.i IntKind.i64 0, AV.i IntKind.i64 16777215, AV.i IntKind.i64 0, AV.b true]) h)
                                  (onB (decide (a = 18)) (Post (AV.tup [AV.i IntKind.i64 64, AV.i IntKind.i64 64000, AV.i IntKind.i64 1024, AV.b true]) h)
                                    (Post (AV.tup [AV.i IntKind.i64 0, AV.i IntKind.i64 0, AV.i IntKind.i64 0, AV.b false]) h))))))
                          (onB (decide (a = 13))
                            (onB (decide (a = 13)) (Post (AV.tup [AV.i IntKind.i64 0, AV.i IntKind.i64 1073741824, AV.i IntKind.i64 0, AV.b true]) h)
                              (onB (decide (a = 15)) (Post (AV.tup [AV.i IntKind.i64 0, AV.i IntKind.i64 4, AV.i IntKind.i64 0, AV.b true]) h)
                                (onB (decide (a = 16)) (Post (AV.tup [AV.i IntKind.i64 0, AV.i IntKind.i64 3, AV.i IntKind.i64 0, AV.b true]) h)
                                  (onB (decide (a = 17)) (Post (AV.tup [AV.i IntKind.i64 0, AV.i IntKind.i64 16777215, AV.i IntKind.i64 0, AV.b true]) h)
                                    (onB (decide (a = 18)) (Post (AV.tup [AV.i IntKind.i64 64, AV.i IntKind.i64 64000, AV.i IntKind.i64 1024, AV.b true]) h)
                                      (Post (AV.tup [AV.i IntKind.i64 0, AV.i IntKind.i64 0, AV.i IntKind.i64 0, AV.b false]) h))))))
                            (onB (decide (a = 14)) (Post (AV.tup [AV.i IntKind.i64 0, AV.i IntKind.i64 1073741824, AV.i IntKind.i64 0, AV.b true]) h)
                              (onB (decide (a = 15)) (Post (AV.tup [AV.i IntKind.i64 0, AV.i IntKind.i64 4, AV.i IntKind.i64 0, AV.b true]) h)
                                (onB (decide (a = 16)) (Post (AV.tup [AV.i IntKind.i64 0, AV.i IntKind.i64 3, AV.i IntKind.i64 0, AV.b true]) h)
                                  (onB (decide (a = 17)) (Post (AV.tup [AV.i IntKind.i64 0, AV.i IntKind.i64 16777215, AV.i IntKind.i64 0, AV.b true]) h)
                                    (onB (decide (a = 18)) (Post (AV.tup [AV.i IntKind.i64 64, AV.i IntKind.i64 64000, AV.i IntKind.i64 1024, AV.b true]) h)
                                      (Post (AV.tup [AV.i IntKind.i64 0, AV.i IntKind.i64 0, AV.i IntKind.i64 0, AV.b false]) h))))))))))))))))))
    (onB (decide (a = 2)) (Post (AV.tup [AV.i IntKind.i64 0, AV.i IntKind.i64 1, AV.i IntKind.i64 0, AV.b true]) h)
      (onB (decide (a = 3))
        (onB (decide (a = 3)) (Post (AV.tup [AV.i IntKind.i64 (-1), AV.i IntKind.i64 1099511627776, AV.i IntKind.i64 (-1), AV.b true]) h)
          (onB (decide (a = 5))
            (onB (decide (a = 5)) (Post (AV.tup [AV.i IntKind.i64 0, AV.i IntKind.i64 1099511627776, AV.i IntKind.i64 0, AV.b true]) h)
              (onB (decide (a = 9)) (Post (AV.tup [AV.i IntKind.i64 0, AV.i IntKind.i64 1048576, AV.i IntKind.i64 0, AV.b true]) h)
                (onB (decide (a = 10)) (Post (AV.tup [AV.i IntKind.i64 0, AV.i IntKind.i64 1048576, AV.i IntKind.i64 1, AV.b true]) h)
                  (onB (decide (a = 12))
                    (onB (decide (a = 12)) (Post (AV.tup [AV.i IntKind.i64 0, AV.i IntKind.i64 1073741824, AV.i IntKind.i64 0, AV.b true]) h)
                      (onB (decide (a = 15)) (Post (AV.tup [AV.i IntKind.i64 0, AV.i IntKind.i64 4, AV.i IntKind.i64 0, AV.b true]) h)
                        (onB (decide (a = 16)) (Post (AV.tup [AV.i IntKind.i64 0, AV.i IntKind.i64 3, AV.i IntKind.i64 0, AV.b true]) h)
                          (onB (decide (a = 17)) (Post (AV.tup [AV.i IntKind.i64 0, AV.i IntKind.i64 16777215, AV.i IntKind.i64 0, AV.b true]) h)
                            (onB (decide (a = 18)) (Post (AV.tup [AV.i IntKind.i64 64, AV.i IntKind.i64 64000, AV.i IntKind.i64 1024, AV.b true]) h)
                              (Post (AV.tup [AV.i IntKind.i64 0, AV.i IntKind.i64 0, AV.i IntKind.i64 0, AV.b false]) h))))))
                    (onB (decide (a = 13))
                      (onB (decide (a = 13)) (Post (AV.tup [AV.i IntKind.i64 0, AV.i IntKind.i64 1073741824, AV.i IntKind.i64 0, AV.b true]) h)
                        (onB (decide (a = 15)) (Post (AV.tup [AV.i IntKind.i64 0, AV.i IntKind.i64 4, AV.i IntKind.i64 0, AV.b true]) h)
                          (onB (decide (a = 16)) (Post (AV.tup [AV.i IntKind.i64 0, AV.i IntKind.i64 3, AV.i IntKind.i64 0, AV.b true]) h)
                            (onB (decide (a = 17)) (Post (AV.tup [AV.i IntKind.i64 0, AV.i IntKind.i64 16777215, AV.i IntKind.i64 0, AV.b true]) h)
                              (onB (decide (a = 18)) (Post (AV.tup [AV.i IntKind.i64 64, AV.i IntKind.i64 64000, AV.i IntKind.i64 1024, AV.b true]) h)
                                (Post (AV.tup [AV.i IntKind.i64 0, AV.i IntKind.i64 0, AV.i IntKind.i64 0, AV.b false]) h))))))
                      (onB (decide (a = 14)) (Post (AV.tup [AV.i IntKind.i64 0, AV.i IntKind.i64 1073741824, AV.i IntKind.i64 0, AV.b true]) h)
                        (onB (decide (a = 15)) (Post (AV.tup [AV.i IntKind.i64 0, AV.i IntKind.i64 4, AV.i IntKind.i64 0, AV.b true]) h)
                          (onB (decide (a = 16)) (Post (AV.tup [AV.i IntKind.i64 0, AV.i IntKind.i64 3, AV.i IntKind.i64 0, AV.b true]) h)
                            (onB (decide (a = 17)) (Post (AV.tup [AV.i IntKind.i64 0, AV.i IntKind.i64 16777215, AV.i IntKind.i64 0, AV.b true]) h)
                              (onB (decide (a = 18)) (Post (AV.tup [AV.i IntKind.i64 64, AV.i IntKind.i64 64000, AV.i IntKind.i64 1024, AV.b true]) h)
                                (Post (AV.tup [AV.i IntKind.i64 0, AV.i IntKind.i64 0, AV.i IntKind.i64 0, AV.b false]) h)))))))))))
            (onB (decide (a = 7)) (Post (AV.tup [AV.i IntKind.i64 0, AV.i IntKind.i64 1099511627776, AV.i IntKind.i64 0, AV.b true]) h)
              (onB (decide (a = 9)) (Post (AV.tup [AV.i IntKind.i64 0, AV.i IntKind.i64 1048576, AV.i IntKind.i64 0, AV.b true]) h)
                (onB (decide (a = 10)) (Post (AV.tup [AV.i IntKind.i64 0, AV.i IntKind.i64 1048576, AV.i IntKind.i64 1, AV.b true]) h)
                  (onB (decide (a = 12))
                    (onB (decide (a = 12)) (Post (AV.tup [AV.i IntKind.i64 0, AV.i IntKind.i64 1073741824, AV.i IntKind.i64 0, AV.b true]) h)
                      (onB (decide (a = 15)) (Post (AV.tup [AV.i IntKind.i64 0, AV.i IntKind.i64 4, AV.i IntKind.i64 0, AV.b true]) h)
                        (onB (decide (a = 16)) (Post (AV.tup [AV.i IntKind.i64 0, AV.i IntKind.i64 3, AV.i IntKind.i64 0, AV.b true]) h)
                          (onB (decide (a = 17)) (Post (AV.tup [AV.i IntKind.i64 0, AV.i IntKind.i64 16777215, AV.i IntKind.i64 0, AV.b true]) h)
                            (onB (decide (a = 18)) (Post (AV.tup [AV.i IntKind.i64 64, AV.i IntKind.i64 64000, AV.i IntKind.i64 1024, AV.b true]) h)
                              (Post (AV.tup [AV.i IntKind.i64 0, AV.i IntKind.i64 0, AV.i IntKind.i64 0, AV.b false]) h))))))
                    (onB (decide (a = 13))
                      (onB (decide (a = 13)) (Post (AV.tup [AV.i IntKind.i64 0, AV.i IntKind.i64 1073741824, AV.i IntKind.i64 0, AV.b true]) h)
                        (onB (decide (a = 15)) (Post (AV.tup [AV.i IntKind.i64 0, AV.i IntKind.i64 4, AV.i IntKind.i64 0, AV.b true]) h)
                          (onB (decide (a = 16)) (Post (AV.tup [AV.i IntKind.i64 0, AV.i IntKind.i64 3, AV.i IntKind.i64 0, AV.b true]) h)
                            (onB (decide (a = 17)) (Post (AV.tup [AV.i IntKind.i64 0, AV.i IntKind.i64 16777215, AV.i IntKind.i64 0, AV.b true]) h)
                              (onB (decide (a = 18)) (Post (AV.tup [AV.i IntKind.i64 64, AV.i IntKind.i64 64000, AV.i IntKind.i64 1024, AV.b true]) h)
                                (Post (AV.tup [AV.i IntKind.i64 0, AV.i IntKind.i64 0, AV.i IntKind.i64 0, AV.b false]) h))))))
                      (onB (decide (a = 14)) (Post (AV.tup [AV.i IntKind.i64 0, AV.i IntKind.i64 1073741824, AV.i IntKind.i64 0, AV.b true]) h)
                        (onB (decide (a = 15)) (Post (AV.tup [AV.i IntKind.i64 0, AV.i IntKind.i64 4, AV.i IntKind.i64 0, AV.b true]) h)
                          (onB (decide (a = 16)) (Post (AV.tup [AV.i IntKind.i64 0, AV.i IntKind.i64 3, AV.i IntKind.i64 0, AV.b true]) h)
                            (onB (decide (a = 17)) (Post (AV.tup [AV.i IntKind.i64 0, AV.i IntKind.i64 16777215, AV.i IntKind.i64 0, AV.b true]) h)
                              (onB (decide (a = 18)) (Post (AV.tup [AV.i IntKind.i64 64, AV.i IntKind.i64 64000, AV.i IntKind.i64 1024, AV.b true]) h)
                                (Post (AV.tup [AV.i IntKind.i64 0, AV.i IntKind.i64 0, AV.i IntKind.i64 0, AV.b false]) h)))))))))))))
        (onB (decide (a = 4))
          (onB (decide (a = 4)) (Post (AV.tup [AV.i IntKind.i64 (-1), AV.i IntKind.i64 1099511627776, AV.i IntKind.i64 (-1), AV.b true]) h)
            (onB (decide (a = 5))
              (onB (decide (a = 5)) (Post (AV.tup [AV.i IntKind.i64 0, AV.i IntKind.i64 1099511627776, AV.i IntKind.i64 0, AV.b true]) h)
                (onB (decide (a = 9)) (Post (AV.tup [AV.i IntKind.i64 0, AV.i IntKind.i64 1048576, AV.i IntKind.i64 0, AV.b true]) h)
                  (onB (decide (a = 10)) (Post (AV.tup [AV.i IntKind.i64 0, AV.i IntKind.i64 1048576, AV.i IntKind.i64 1, AV.b true]) h)
                    (onB (decide (a = 12))
                      (onB (decide (a = 12)) (Post (AV.tup [AV.i IntKind.i64 0, AV.i IntKind.i64 1073741824, AV.i IntKind.i64 0, AV.b true]) h)
                        (onB (decide (a = 15)) (Post (AV.tup [AV.i IntKind.i64 0, AV.i IntKind.i64 4, AV.i IntKind.i64 0, AV.b true]) h)
                          (onB (decide (a = 16)) (Post (AV.tup [AV.i IntKind.i64 0, AV.i IntKind.i64 3, AV.i IntKind.i64 0, AV.b true]) h)
                            (onB (decide (a = 17)) (Post (AV.tup [AV.i IntKind.i64 0, AV.i IntKind.i64 16777215, AV.i IntKind.i64 0, AV.b true]) h)
                              (onB (decide (a = 18)) (Post (AV.tup [AV.i IntKind.i64 64, AV.i IntKind.i64 64000, AV.i IntKind.i64 1024, AV.b true]) h)
                                (Post (AV.tup [AV.i IntKind.i64 0, AV.i IntKind.i64 0, AV.i IntKind.i64 0, AV.b false]) h))))))
                      (onB (decide (a = 13))
                        (onB (decide (a = 13)) (Post (AV.tup [AV.i IntKind.i64 0, AV.i IntKind.i64 1073741824, AV.i IntKind.i64 0, AV.b true]) h)
                          (onB (decide (a = 15)) (Post (AV.tup [AV.i IntKind.i64 0, AV.i IntKind.i64 4, AV.i IntKind.i64 0, AV.b true]) h)
                            (onB (decide (a = 16)) (Post (AV.tup [AV.i IntKind.i64 0, AV.i IntKind.i64 3, AV.i IntKind.i64 0, AV.b true]) h)
                              (onB (decide (a = 17)) (Post (AV.tup [AV.i IntKind.i64 0, AV.i IntKind.i64 16777215, AV.i IntKind.i64 0, AV.b true]) h)
                                (onB (decide (a = 18)) (Post (AV.tup [AV.i IntKind.i64 64, AV.i IntKind.i64 64000, AV.i IntKind.i64 1024, AV.b true]) h)
                                  (Post (AV.tup [AV.i IntKind.i64 0, AV.i IntKind.i64 0, AV.i IntKind.i64 0, AV.b false]) h))))))
                        (onB (decide (a = 14)) (Post (AV.tup [AV.i IntKind.i64 0, AV.i IntKind.i64 1073741824, AV.i IntKind.i64 0, AV.b true]) h)
                          (onB (decide (a = 15)) (Post (AV.tup [AV.i IntKind.i64 0, AV.i IntKind.i64 4, AV.i IntKind.i64 0, AV.b true]) h)
                            (onB (decide (a = 16)) (Post (AV.tup [AV.i IntKind.i64 0, AV.i IntKind.i64 3, AV.i IntKind.i64 0, AV.b true]) h)
                              (onB (decide (a = 17)) (Post (AV.tup [AV.i IntKind.i64 0, AV.i IntKind.i64 16777215, AV.i IntKind.i64 0, AV.b true]) h)
                                (onB (decide (a = 18)) (Post (AV.tup [AV.i IntKind.i64 64, AV.i IntKind.i64 64000, AV.i IntKind.i64 1024, AV.b true]) h)
                                  (Post (AV.tup [AV.i IntKind.i64 0, AV.i IntKind.i64 0, AV.i IntKind.i64 0, AV.b false]) h)))))))))))
              (onB (decide (a = 7)) (Post (AV.tup [AV.i IntKind.i64 0, AV.i IntKind.i64 1099511627776, AV.i IntKind.i64 0, AV.b true]) h)
                (onB (decide (a = 9)) (Post (AV.tup [AV.i IntKind.i64 0, AV.i IntKind.i64 1048576, AV.i IntKind.i64 0, AV.b true]) h)
                  (onB (decide (a = 10)) (Post (AV.tup [AV.i IntKind.i64 0, AV.i IntKind.i64 1048576, AV.i IntKind.i64 1, AV.b true]) h)
                    (onB (decide (a = 12))
                      (onB (decide (a = 12)) (Post (AV.tup [AV.i IntKind.i64 0, AV.i IntKind.i64 1073741824, AV.i IntKind.i64 0, AV.b true]) h)
                        (onB (decide (a = 15)) (Post (AV.tup [AV.i IntKind.i64 0, AV.i IntKind.i64 4, AV.i IntKind.i64 0, AV.b true]) h)
                          (onB (decide (a = 16)) (Post (AV.tup [AV.i IntKind.i64 0, AV.i IntKind.i64 3, AV.i IntKind.i64 0, AV.b true]) h)
                            (onB (decide (a = 17)) (Post (AV.tup [AV.i IntKind.i64 0, AV.i IntKind.i64 16777215, AV.i IntKind.i64 0, AV.b true]) h)
                              (onB (decide (a = 18)) (Post (AV.tup [AV.i IntKind.i64 64, AV.i IntKind.i64 64000, AV.i IntKind.i64 1024, AV.b true]) h)
                                (Post (AV.tup [AV.i IntKind.i64 0, AV.i IntKind.i64 0, AV.i IntKind.i64 0, AV.b false]) h))))))
                      (onB (decide (a = 13))
                        (onB (decide (a = 13)) (Post (AV.tup [AV.i IntKind.i64 0, AV.i IntKind.i64 1073741824, AV.i IntKind.i64 0, AV.b true]) h)
                          (onB (decide (a = 15)) (Post (AV.tup [AV.i IntKind.i64 0, AV.i IntKind.i64 4, AV.i IntKind.i64 0, AV.b true]) h)
                            (onB (decide (a = 16)) (Post (AV.tup [AV.i IntKind.i64 0, AV.i IntKind.i64 3, AV.i IntKind.i64 0, AV.b true]) h)
                              (onB (decide (a = 17)) (Post (AV.tup [AV.i IntKind.i64 0, AV.i IntKind.i64 16777215, AV.i IntKind.i64 0, AV.b true]) h)
                                (onB (decide (a = 18)) (Post (AV.tup [AV.i IntKind.i64 64, AV.i IntKind.i64 64000, AV.i IntKind.i64 1024, AV.b true]) h)
                                  (Post (AV.tup [AV.i IntKind.i64 0, AV.i IntKind.i64 0, AV.i IntKind.i64 0, AV.b false]) h))))))
                        (onB (decide (a = 14)) (Post (AV.tup [AV.i IntKind.i64 0, AV.i IntKind.i64 1073741824, AV.i IntKind.i64 0, AV.b true]) h)
                          (onB (decide (a = 15)) (Post (AV.tup [AV.i IntKind.i64 0, AV.i IntKind.i64 4, AV.i IntKind.i64 0, AV.b true]) h)
                            (onB (decide (a = 16)) (Post (AV.tup [AV.i IntKind.i64 0, AV.i IntKind.i64 3, AV.i IntKind.i64 0, AV.b true]) h)
                              (onB (decide (a = 17)) (Post (AV.tup [AV.i IntKind.i64 0, AV.i IntKind.i64 16777215, AV.i IntKind.i64 0, AV.b true]) h)
                                (onB (decide (a = 18)) (Post (AV.tup [AV.i IntKind.i64 64, AV.i IntKind.i64 64000, AV.i IntKind.i64 1024, AV.b true]) h)
                                  (Post (AV.tup [AV.i IntKind.i64 0, AV.i IntKind.i64 0, AV.i IntKind.i64 0, AV.b false]) h)))))))))))))
          (onB (decide (a = 6))
            (onB (decide (a = 6)) (Post (AV.tup [AV.i IntKind.i64 (-1), AV.i IntKind.i64 1099511627776, AV.i IntKind.i64 (-1), AV.b true]) h)
              (onB (decide (a = 5))
                (onB (decide (a = 5)) (Post (AV.tup [AV.i IntKind.i64 0, AV.i IntKind.i64 1099511627776, AV.i IntKind.i64 0, AV.b true]) h)
                  (onB (decide (a = 9)) (Post (AV.tup [AV.i IntKind.i64 0, AV.i IntKind.i64 1048576, AV.i IntKind.i64 0, AV.b true]) h)
                    (onB (decide (a = 10)) (Post (AV.tup [AV.i IntKind.i64 0, AV.i IntKind.i64 1048576, AV.i IntKind.i64 1, AV.b true]) h)
                      (onB (decide (a = 12))
                        (onB (decide (a = 12)) (Post (AV.tup [AV.i IntKind.i64 0, AV.i IntKind.i64 1073741824, AV.i IntKind.i64 0, AV.b true]) h)
                          (onB (decide (a = 15)) (Post (AV.tup [AV.i IntKind.i64 0, AV.i IntKind.i64 4, AV.i IntKind.i64 0, AV.b true]) h)
                            (onB (decide (a = 16)) (Post (AV.tup [AV.i IntKind.i64 0, AV.i IntKind.i64 3, AV.i IntKind.i64 0, AV.b true]) h)
                              (onB (decide (a = 17)) (Post (AV.tup [AV.i IntKind.i64 0, AV.i IntKind.i64 16777215, AV.i IntKind.i64 0, AV.b true]) h)
                                (onB (decide (a = 18)) (Post (AV.tup [AV.i IntKind.i64 64, AV.i IntKind.i64 64000, AV.i IntKind.i64 1024, AV.b true]) h)
                                  (Post (AV.tup [AV.i IntKind.i64 0, AV.i IntKind.i64 0, AV.i IntKind.i64 0, AV.b false]) h))))))
                        (onB (decide (a = 13))
                          (onB (decide (a = 13)) (Post (AV.tup [AV.i IntKind.i64 0, AV.i IntKind.i64 1073741824, AV.i IntKind.i64 0, AV.b true]) h)
                            (onB (decide (a = 15)) (Post (AV.tup [AV.i IntKind.i64 0, AV.i IntKind.i64 4, AV.i IntKind.i64 0, AV.b true]) h)
                              (onB (decide (a = 16)) (Post (AV.tup [AV.i IntKind.i64 0, AV.i IntKind.i64 3, AV.i IntKind.i64 0, AV.b true]) h)
                                (onB (decide (a = 17)) (Post (AV.tup [AV.i IntKind.i64 0, AV.i IntKind.i64 16777215, AV.i IntKind.i64 0, AV.b true]) h)
                                  (onB (decide (a = 18)) (Post (AV.tup [AV.i IntKind.i64 64, AV.i IntKind.i64 64000, AV.i IntKind.i64 1024, AV.b true]) h)
                                    (Post (AV.tup [AV.i IntKind.i64 0, AV.i IntKind.i64 0, AV.i IntKind.i64 0, AV.b false]) h))))))
                          (onB (decide (a = 14)) (Post (AV.tup [AV.i IntKind.i64 0, AV.i IntKind.i64 1073741824, AV.i IntKind.i64 0, AV.b true]) h)
                            (onB (decide (a = 15)) (Post (AV.tup [AV.i IntKind.i64 0, AV.i IntKind.i64 4, AV.i IntKind.i64 0, AV.b true]) h)
                              (onB (decide (a = 16)) (Post (AV.tup [AV.i IntKind.i64 0, AV.i IntKind.i64 3, AV.i IntKind.i64 0, AV.b true]) h)
                                (onB (decide (a = 17)) (Post (AV.tup [AV.i IntKind.i64 0, AV.i IntKind.i64 16777215, AV.i IntKind.i64 0, AV.b true]) h)
                                  (onB (decide (a = 18)) (Post (AV.tup [AV.i IntKind.i64 64, AV.i IntKind.i64 64000, AV.i IntKind.i64 1024, AV.b true]) h)
                                    (Post (AV.tup [AV.i IntKind.i64 0, AV.i IntKind.i64 0, AV.i IntKind.i64 0, AV.b false]) h)))))))))))
                (onB (decide (a = 7)) (Post (AV.tup [AV.i IntKind.i64 0, AV.i IntKind.i64 1099511627776, AV.i IntKind.i64 0, AV.b true]) h)
                  (onB (decide (a = 9)) (Post (AV.tup [AV.i IntKind.i64 0, AV.i IntKind.i64 1048576, AV.i IntKind.i64 0, AV.b true]) h)
                    (onB (decide (a = 10)) (Post (AV.tup [AV.i IntKind.i64 0, AV.i IntKind.i64 1048576, AV.i IntKind.i64 1, AV.b true]) h)
                      (onB (decide (a = 12))
                        (onB (decide (a = 12)) (Post (AV.tup [AV.i IntKind.i64 0, AV.i IntKind.i64 1073741824, AV.i IntKind.i64 0, AV.b true]) h)
                          (onB (decide (a = 15)) (Post (AV.tup [AV.i IntKind.i64 0, AV.i IntKind.i64 4, AV.i IntKind.i64 0, AV.b true]) h)
                            (onB (decide (a = 16)) (Post (AV.tup [AV.i IntKind.i64 0, AV.i IntKind.i64 3, AV.i IntKind.i64 0, AV.b true]) h)
                              (onB (decide (a = 17)) (Post (AV.tup [AV.i IntKind.i64 0, AV.i IntKind.i64 16777215, AV.i IntKind.i64 0, AV.b true]) h)
                                (onB (decide (a = 18)) (Post (AV.tup [AV.i IntKind.i64 64, AV.i IntKind.i64 64000, AV.i IntKind.i64 1024, AV.b true]) h)
                                  (Post (AV.tup [AV.i IntKind.i64 0, AV.i IntKind.i64 0, AV.i IntKind.i64 0, AV.b false]) h))))))
                        (onB (decide (a = 13))
                          (onB (decide (a = 13)) (Post (AV.tup [AV.i IntKind.i64 0, AV.i IntKind.i64 1073741824, AV.i IntKind.i64 0, AV.b true]) h)
                            (onB (decide (a = 15)) (Post (AV.tup [AV.i IntKind.i64 0, AV.i IntKind.i64 4, AV.i IntKind.i64 0, AV.b true]) h)
                              (onB (decide (a = 16)) (Post (AV.tup [AV.i IntKind.i64 0, AV.i IntKind.i64 3, AV.i IntKind.i64 0, AV.b true]) h)
                                (onB (decide (a = 17)) (Post (AV.tup [AV.i IntKind.i64 0, AV.i IntKind.i64 16777215, AV.i IntKind.i64 0, AV.b true]) h)
                                  (onB (decide (a = 18)) (Post (AV.tup [AV.i IntKind.i64 64, AV.i IntKind.i64 64000, AV.i IntKind.i64 1024, AV.b true]) h)
                                    (Post (AV.tup [AV.i IntKind.i64 0, AV.i IntKind.i64 0, AV.i IntKind.i64 0, AV.b false]) h))))))
                          (onB (decide (a = 14)) (Post (AV.tup [AV.i IntKind.i64 0, AV.i IntKind.i64 1073741824, AV.i IntKind.i64 0, AV.b true]) h)
                            (onB (decide (a = 15)) (Post (AV.tup [AV.i IntKind.i64 0, AV.i IntKind.i64 4, AV.i IntKind.i64 0, AV.b true]) h)
                              (onB (decide (a = 16)) (Post (AV.tup [AV.i IntKind.i64 0, AV.i IntKind.i64 3, AV.i IntKind.i64 0, AV.b true]) h)
                                (onB (decide (a = 17)) (Post (AV.tup [AV.i IntKind.i64 0, AV.i IntKind.i64 16777215, AV.i IntKind.i64 0, AV.b true]) h)
                                  (onB (decide (a = 18)) (Post (AV.tup [AV.i IntKind.i64 64, AV.i IntKind.i64 64000, AV.i IntKind.i64 1024, AV.b true]) h)
                                    (Post (AV.tup [AV.i IntKind.i64 0, AV.i IntKind.i64 0, AV.i IntKind.i64 0, AV.b false]) h)))))))))))))
            (onB (decide (a = 8))
              (onB (decide (a = 8)) (Post (AV.tup [AV.i IntKind.i64 (-1), AV.i IntKind.i64 1099511627776, AV.i IntKind.i64 (-1), AV.b true]) h)
                (onB (decide (a = 5))
                  (onB (decide (a = 5)) (Post (AV.tup [AV.i IntKind.i64 0, AV.i IntKind.i64 1099511627776, AV.i IntKind.i64 0, AV.b true]) h)
                    (onB (decide (a = 9)) (Post (AV.tup [AV.i IntKind.i64 0, AV.i IntKind.i64 1048576, AV.i IntKind.i64 0, AV.b true]) h)
                      (onB (decide (a = 10)) (Post (AV.tup [AV.i IntKind.i64 0, AV.i IntKind.i64 1048576, AV.i IntKind.i64 1, AV.b true]) h)
                        (onB (decide (a = 12))
                          (onB (decide (a = 12)) (Post (AV.tup [AV.i IntKind.i64 0, AV.i IntKind.i64 1073741824, AV.i IntKind.i64 0, AV.b true]) h)
                            (onB (decide (a = 15)) (Post (AV.tup [AV.i IntKind.i64 0, AV.i IntKind.i64 4, AV.i IntKind.i64 0, AV.b true]) h)
                              (onB (decide (a = 16)) (Post (AV.tup [AV.i IntKind.i64 0, AV.i IntKind.i64 3, AV.i IntKind.i64 0, AV.b true]) h)
                                (onB (decide (a = 17)) (Post (AV.tup [AV.i IntKind.i64 0, AV.i IntKind.i64 16777215, AV.i IntKind.i64 0, AV.b true]) h)
                                  (onB (decide (a = 18)) (Post (AV.tup [AV.i IntKind.i64 64, AV.i IntKind.i64 64000, AV.i IntKind.i64 1024, AV.b true]) h)
                                    (Post (AV.tup [AV.i IntKind.i64 0, AV.i IntKind.i64 0, AV.i IntKind.i64 0, AV.b false]) h))))))
                          (onB (decide (a = 13))
                            (onB (decide (a = 13)) (Post (AV.tup [AV.i IntKind.i64 0, AV.i IntKind.i64 1073741824, AV.i IntKind.i64 0, AV.b true]) h)
                              (onB (decide (a = 15)) (Post (AV.tup [AV.i IntKind.i64 0, AV.i IntKind.i64 4, AV.i IntKind.i64 0, AV.b true]) h)
                                (onB (decide (a = 16)) (Post (AV.tup [AV.i IntKind.i64 0, AV.i IntKind.i64 3, AV.i IntKind.i64 0, AV.b true]) h)
                                  (onB (decide (a = 17)) (Post (AV.tup [AV.i IntKind.i64 0, AV.i IntKind.i64 16777215, AV.i IntKind.i64 0, AV.b true]) h)
                                    (onB (decide (a = 18)) (Post (AV.tup [AV.i IntKind.i64 64, AV.i IntKind.i64 64000, AV.i IntKind.i64 1024, AV.b true]) h)
                                      (Post (AV.tup [AV.i IntKind.i64 0, AV.i IntKind.i64 0, AV.i IntKind.i64 0, AV.b false]) h))))))
                            (onB (decide (a = 14)) (Post (AV.tup [AV.i IntKind.i64 0, AV.i IntKind.i64 1073741824, AV.i IntKind.i64 0, AV.b true]) h)
                              (onB (decide (a = 15)) (Post (AV.tup [AV.i IntKind.i64 0, AV.i IntKind.i64 4, AV.i IntKind.i64 0, AV.b true]) h)
                                (onB (decide (a = 16)) (Post (AV.tup [AV.i IntKind.i64 0, AV.i IntKind.i64 3, AV.i IntKind.i64 0, AV.b true]) h)
                                  (onB (decide (a = 17)) (Post (AV.tup [AV.i IntKind.i64 0, AV.i IntKind.i64 16777215, AV.i IntKind.i64 0, AV.b true]) h)
                                    (onB (decide (a = 18)) (Post (AV.tup [AV.i IntKind.i64 64, AV.i IntKind.i64 64000, AV.i IntKind.i64 1024, AV.b true]) h)
                                      (Post (AV.tup [AV.i IntKind.i64 0, AV.i IntKind.i64 0, AV.i IntKind.i64 0, AV.b false]) h)))))))))))
                  (onB (decide (a = 7)) (Post (AV.tup [AV.i IntKind.i64 0, AV.i IntKind.i64 1099511627776, AV.i IntKind.i64 0, AV.b true]) h)
                    (onB (decide (a = 9)) (Post (AV.tup [AV.i IntKind.i64 0, AV.i IntKind.i64 1048576, AV.i IntKind.i64 0, AV.b true]) h)
                      (onB (decide (a = 10)) (Post (AV.tup [AV.i IntKind.i64 0, AV.i IntKind.i64 1048576, AV.i IntKind.i64 1, AV.b true]) h)
                        (onB (decide (a = 12))
                          (onB (decide (a = 12)) (Post (AV.tup [AV.i IntKind.i64 0, AV.i IntKind.i64 1073741824, AV.i IntKind.i64 0, AV.b true]) h)
                            (onB (decide (a = 15)) (Post (AV.tup [AV.i IntKind.i64 0, AV.i IntKind.i64 4, AV.i IntKind.i64 0, AV.b true]) h)
                              (onB (decide (a = 16)) (Post (AV.tup [AV.i IntKind.i64 0, AV.i IntKind.i64 3, AV.i IntKind.i64 0, AV.b true]) h)
                                (onB (decide (a = 17)) (Post (AV.tup [AV.i IntKind.i64 0, AV.i IntKind.i64 16777215, AV.i IntKind.i64 0, AV.b true]) h)
                                  (onB (decide (a = 18)) (Post (AV.tup [AV.i IntKind.i64 64, AV.i IntKind.i64 64000, AV.i IntKind.i64 1024, AV.b true]) h)
                                    (Post (AV.tup [AV.i IntKind.i64 0, AV.i IntKind.i64 0, AV.i IntKind.i64 0, AV.b false]) h))))))
                          (onB (decide (a = 13))
                            (onB (decide (a = 13)) (Post (AV.tup [AV.i IntKind.i64 0, AV.i IntKind.i64 1073741824, AV.i IntKind.i64 0, AV.b true]) h)
                              (onB (decide (a = 15)) (Post (AV.tup [AV.i IntKind.i64 0, AV.i IntKind.i64 4, AV.i IntKind.i64 0, AV.b true]) h)
                                (onB (decide (a = 16)) (Post (AV.tup [AV.i IntKind.i64 0, AV.i IntKind.i64 3, AV.i IntKind.i64 0, AV.b true]) h)
                                  (onB (decide (a = 17)) (Post (AV.tup [AV.i IntKind.i64 0, AV.i IntKind.i64 16777215, AV.i IntKind.i64 0, AV.b true]) h)
                                    (onB (decide (a = 18)) (Post (AV.tup [AV.i IntKind.i64 64, AV.i IntKind.i64 64000, AV.i IntKind.i64 1024, AV.b true]) h)
                                      (Post (AV.tup [AV.i IntKind.i64 0, AV.i IntKind.i64 0, AV.i IntKind.i64 0, AV.b false]) h))))))
                            (onB (decide (a = 14)) (Post (AV.tup [AV.i IntKind.i64 0, AV.i IntKind.i64 1073741824, AV.i IntKind.i64 0, AV.b true]) h)
                              (onB (decide (a = 15)) (Post (AV.tup [AV.i IntKind.i64 0, AV.i IntKind.i64 4, AV.i IntKind.i64 0, AV.b true]) h)
                                (onB (decide (a = 16)) (Post (AV.tup [AV.i IntKind.i64 0, AV.i IntKind.i64 3, AV.i IntKind.i64 0, AV.b true]) h)
                                  (onB (decide (a = 17)) (Post (AV.tup [AV.i IntKind.i64 0, AV.i IntKind.i64 16777215, AV.i IntKind.i64 0, AV.b true]) h)
                                    (onB (decide (a = 18)) (Post (AV.tup [AV.i IntKind.i64 64, AV.i IntKind.i64 64000, AV.i IntKind.i64 1024, AV.b true]) h)
                                      (Post (AV.tup [AV.i IntKind.i64 0, AV.i IntKind.i64 0, AV.i IntKind.i64 0, AV.b false]) h)))))))))))))
              (onB (decide (a = 11)) (Post (AV.tup [AV.i IntKind.i64 (-1), AV.i IntKind.i64 1099511627776, AV.i IntKind.i64 (-1), AV.b true]) h)
                (onB (decide (a = 5))
                  (onB (decide (a = 5)) (Post (AV.tup [AV.i IntKind.i64 0, AV.i IntKind.i64 1099511627776, AV.i IntKind.i64 0, AV.b true]) h)
                    (onB (decide (a = 9)) (Post (AV.tup [AV.i IntKind.i64 0, AV.i IntKind.i64 1048576, AV.i IntKind.i64 0, AV.b true]) h)
                      (onB (decide (a = 10)) (Post (AV.tup [AV.i IntKind.i64 0, AV.i IntKind.i64 1048576, AV.i IntKind.i64 1, AV.b true]) h)
                        (onB (decide (a = 12))
                          (onB (decide (a = 12)) (Post (AV.tup [AV.i IntKind.i64 0, AV.i IntKind.i64 1073741824, AV.i IntKind.i64 0, AV.b true]) h)
                            (onB (decide (a = 15)) (Post (AV.tup [AV.i IntKind.i64 0, AV.i IntKind.i64 4, AV.i IntKind.i64 0, AV.b true]) h)
                              (onB (decide (a = 16)) (Post (AV.tup [AV.i IntKind.i64 0, AV.i IntKind.i64 3, AV.i IntKind.i64 0, AV.b true]) h)
                                (onB (decide (a = 17)) (Post (AV.tup [AV.i IntKind.i64 0, AV.i IntKind.i64 16777215, AV.i IntKind.i64 0, AV.b true]) h)
                                  (onB (decide (a = 18)) (Post (AV.tup [AV.i IntKind.i64 64, AV.i IntKind.i64 64000, AV.i IntKind.i64 1024, AV.b true]) h)
                                    (Post (AV.tup [AV.i IntKind.i64 0, AV.i IntKind.i64 0, AV.i IntKind.i64 0, AV.b false]) h))))))
                          (onB (decide (a = 13))
                            (onB (decide (a = 13)) (Post (AV.tup [AV.i IntKind.i64 0, AV.i IntKind.i64 1073741824, AV.i IntKind.i64 0, AV.b true]) h)
                              (onB (decide (a = 15)) (Post (AV.tup [AV.i IntKind.i64 0, AV.i IntKind.i64 4, AV.i IntKind.i64 0, AV.b true]) h)
                                (onB (decide (a = 16)) (Post (AV.tup [AV.i IntKind.i64 0, AV.i IntKind.i64 3, AV.i IntKind.i64 0, AV.b true]) h)
                                  (onB (decide (a = 17)) (Post (AV.tup [AV.i IntKind.i64 0, AV.i IntKind.i64 16777215, AV.i IntKind.i64 0, AV.b true]) h)
                                    (onB (decide (a = 18)) (Post (AV.tup [AV.i IntKind.i64 64, AV.i IntKind.i64 64000, AV.i IntKind.i64 1024, AV.b true]) h)
                                      (Post (AV.tup [AV.i IntKind.i64 0, AV.i IntKind.i64 0, AV.i IntKind.i64 0, AV.b false]) h))))))
                            (onB (decide (a = 14)) (Post (AV.tup [AV.i IntKind.i64 0, AV.i IntKind.i64 1073741824, AV.i IntKind.i64 0, AV.b true]) h)
                              (onB (decide (a = 15)) (Post (AV.tup [AV.i IntKind.i64 0, AV.i IntKind.i64 4, AV.i IntKind.i64 0, AV.b true]) h)
                                (onB (decide (a = 16)) (Post (AV.tup [AV.i IntKind.i64 0, AV.i IntKind.i64 3, AV.i IntKind.i64 0, AV.b true]) h)
                                  (onB (decide (a = 17)) (Post (AV.tup [AV.i IntKind.i64 0, AV.i IntKind.i64 16777215, AV.i IntKind.i64 0, AV.b true]) h)
                                    (onB (decide (a = 18)) (Post (AV.tup [AV.i IntKind.i64 64, AV.i IntKind.i64 64000, AV.i IntKind.i64 1024, AV.b true]) h)
                                      (Post (AV.tup [AV.i IntKind.i64 0, AV.i IntKind.i64 0, AV.i IntKind.i64 0, AV.b false]) h)))))))))))
                  (onB (decide (a = 7)) (Post (AV.tup [AV.i IntKind.i64 0, AV.i IntKind.i64 1099511627776, AV.i IntKind.i64 0, AV.b true]) h)
                    (onB (decide (a = 9)) (Post (AV.tup [AV.i IntKind.i64 0, AV.i IntKind.i64 1048576, AV.i IntKind.i64 0, AV.b true]) h)
                      (onB (decide (a = 10)) (Post (AV.tup [AV.i IntKind.i64 0, AV.i IntKind.i64 1048576, AV.i IntKind.i64 1, AV.b true]) h)
                        (onB (decide (a = 12))
                          (onB (decide (a = 12)) (Post (AV.tup [AV.i IntKind.i64 0, AV.i IntKind.i64 1073741824, AV.i IntKind.i64 0, AV.b true]) h)
                            (onB (decide (a = 15)) (Post (AV.tup [AV.i IntKind.i64 0, AV.i IntKind.i64 4, AV.i IntKind.i64 0, AV.b true]) h)
                              (onB (decide (a = 16)) (Post (AV.tup [AV.i IntKind.i64 0, AV.i IntKind.i64 3, AV.i IntKind.i64 0, AV.b true]) h)
                                (onB (decide (a = 17)) (Post (AV.tup [AV.i IntKind.i64 0, AV.i IntKind.i64 16777215, AV.i IntKind.i64 0, AV.b true]) h)
                                  (onB (decide (a = 18)) (Post (AV.tup [AV.i IntKind.i64 64, AV.i IntKind.i64 64000, AV.i IntKind.i64 1024, AV.b true]) h)
                                    (Post (AV.tup [AV.i IntKind.i64 0, AV.i IntKind.i64 0, AV.i IntKind.i64 0, AV.b false]) h))))))
                          (onB (decide (a = 13))
                            (onB (decide (a = 13)) (Post (AV.tup [AV.i IntKind.i64 0, AV.i IntKind.i64 1073741824, AV.i IntKind.i64 0, AV.b true]) h)
                              (onB (decide (a = 15)) (Post (AV.tup [AV.i IntKind.i64 0, AV.i IntKind.i64 4, AV.i IntKind.i64 0, AV.b true]) h)
                                (onB (decide (a = 16)) (Post (AV.tup [AV.i IntKind.i64 0, AV.i IntKind.i64 3, AV.i IntKind.i64 0, AV.b true]) h)
                                  (onB (decide (a = 17)) (Post (AV.tup [AV.i IntKind.i64 0, AV.i IntKind.i64 16777215, AV.i IntKind.i64 0, AV.b true]) h)
                                    (onB (decide (a = 18)) (Post (AV.tup [AV.i IntKind.i64 64, AV.i IntKind.i64 64000, AV.i IntKind.i64 1024, AV.b true]) h)
                                      (Post (AV.tup [AV.i IntKind.i64 0, AV.i IntKind.i64 0, AV.i IntKind.i64 0, AV.b false]) h))))))
                            (onB (decide (a = 14)) (Post (AV.tup [AV.i IntKind.i64 0, AV.i IntKind.i64 1073741824, AV.i IntKind.i64 0, AV.b true]) h)
                              (onB (decide (a = 15)) (Post (AV.tup [AV.i IntKind.i64 0, AV.i IntKind.i64 4, AV.i IntKind.i64 0, AV.b true]) h)
                                (onB (decide (a = 16)) (Post (AV.tup [AV.i IntKind.i64 0, AV.i IntKind.i64 3, AV.i IntKind.i64 0, AV.b true]) h)
                                  (onB (decide (a = 17)) (Post (AV.tup [AV.i IntKind.i64 0, AV.i IntKind.i64 16777215, AV.i IntKind.i64 0, AV.b true]) h)
                                    (onB (decide (a = 18)) (Post (AV.tup [AV.i IntKind.i64 64, AV.i IntKind.i64 64000, AV.i IntKind.i64 1024, AV.b true]) h)
                                      (Post (AV.tup [AV.i IntKind.i64 0, AV.i IntKind.i64 0, AV.i IntKind.i64 0, AV.b false]) h)))))))))))))))))))) := by kernel_rfl
/- arras/prop.ruleOf -/
theorem vc84 (a : Int) (h : Hp) (Post : AV → Hp → Prop) : vcCall Try.prog [] 84 [(SV.ii .i64 a)] h Post = (
  ∀ (p0 : Nat),
  onB (decide (a = 0)) (Post (AV.agg [AV.i IntKind.i64 0, AV.i IntKind.i64 2, AV.i IntKind.i64 0, AV.b false]) h)
    (onB (decide (a = 1))
      (onB (decide (a = 1)) (Post (AV.agg [AV.i IntKind.i64 0, AV.i IntKind.i64 1, AV.i IntKind.i64 0, AV.b false]) h)
        (onB (decide (a = 3))
          (onB (decide (a = 3)) (Post (AV.agg [AV.i IntKind.i64 (-1), AV.i IntKind.i64 1099511627776, AV.i IntKind.i64 (-1), AV.b false]) h)
            (onB (decide (a = 5))
              (onB (decide (a = 5)) (Post (AV.agg [AV.i IntKind.i64 0, AV.i IntKind.i64 1099511627776, AV.i IntKind.i64 0, AV.b false]) h)
                (onB (decide (a = 9)) (Post (AV.agg [AV.i IntKind.i64 0, AV.i IntKind.i64 1048576, AV.i IntKind.i64 0, AV.b false]) h)
                  (onB (decide (a = 10)) (Post (AV.agg [AV.i IntKind.i64 0, AV.i IntKind.i64 1048576, AV.i IntKind.i64 1, AV.b false]) h)
                    (onB (decide (a = 15)) (Post (AV.agg [AV.i IntKind.i64 0, AV.i IntKind.i64 4, AV.i IntKind.i64 0, AV.b false]) h)
                      (onB (decide (a = 16)) (Post (AV.agg [AV.i IntKind.i64 0, AV.i IntKind.i64 3, AV.i IntKind.i64 0, AV.b false]) h)
                        (onB (decide (a = 17)) (Post (AV.agg [AV.i IntKind.i64 0, AV.i IntKind.i64 16777215, AV.i IntKind.i64 0, AV.b true]) h)
                          (onB (decide (a = 18)) (Post (AV.agg [AV.i IntKind.i64 64, AV.i IntKind.i64 64000, AV.i IntKind.i64 1024, AV.b true]) h)
                            (Post (AV.agg [AV.i IntKind.i64 0, AV.i IntKind.i64 1073741824, AV.i IntKind.i64 0, AV.b false]) h))))))))
              (onB (decide (a = 7)) (Post (AV.agg [AV.i IntKind.i64 0, AV.i IntKind.i64 1099511627776, AV.i IntKind.i64 0, AV.b false]) h)
                (onB (decide (a = 9)) (Post (AV.agg [AV.i IntKind.i64 0, AV.i IntKind.i64 1048576, AV.i IntKind.i64 0, AV.b false]) h)
                  (onB (decide (a = 10)) (Post (AV.agg [AV.i IntKind.i64 0, AV.i IntKind.i64 1048576, AV.i IntKind.i64 1, AV.b false]) h)
                    (onB (decide (a = 15)) (Post (AV.agg [AV.i IntKind.i64 0, AV.i IntKind.i64 4, AV.i IntKind.i64 0, AV.b false]) h)
                      (onB (decide (a = 16)) (Post (AV.agg [AV.i IntKind.i64 0, AV.i IntKind.i64 3, AV.i IntKind.i64 0, AV.b false]) h)
                        (onB (decide (a = 17)) (Post (AV.agg [AV.i IntKind.i64 0, AV.i IntKind.i64 16777215, AV.i IntKind.i64 0, AV.b true]) h)
                          (onB (decide (a = 18)) (Post (AV.agg [AV.i IntKind.i64 64, AV.i IntKind.i64 64000, AV.i IntKind.i64 1024, AV.b true]) h)
                            (Post (AV.agg [AV.i IntKind.i64 0, AV.i IntKind.i64 1073741824, AV.i IntKind.i64 0, AV.b false]) h))))))))))
          (onB (decide (a = 4))
            (onB (decide (a = 4)) (Post (AV.agg [AV.i IntKind.i64 (-1), AV.i IntKind.i64 1099511627776, AV.i IntKind.i64 (-1), AV.b false]) h)
              (onB (decide (a = 5))
                (onB (decide (a = 5)) (Post (AV.agg [AV.i IntKind.i64 0, AV.i IntKind.i64 1099511627776, AV.i IntKind.i64 0, AV.b false]) h)
                  (onB (decide (a = 9)) (Post (AV.agg [AV.i IntKind.i64 0, AV.i IntKind.i64 1048576, AV.i IntKind.i64 0, AV.b false]) h)
                    (onB (decide (a = 10)) (Post (AV.agg [AV.i IntKind.i64 0, AV.i IntKind.i64 1048576, AV.i IntKind.i64 1, AV.b false]) h)
                      (onB (decide (a = 15)) (Post (AV.agg [AV.i IntKind.i64 0, AV.i IntKind.i64 4, AV.i IntKind.i64 0, AV.b false]) h)
                        (onB (decide (a = 16)) (Post (AV.agg [AV.i IntKind.i64 0, AV.i IntKind.i64 3, AV.i IntKind.i64 0, AV.b false]) h)
                          (onB (decide (a = 17)) (Post (AV.agg [AV.i IntKind.i64 0, AV.i IntKind.i64 16777215, AV.i IntKind.i64 0, AV.b true]) h)
                            (onB (decide (a = 18)) (Post (AV.agg [AV.i IntKind.i64 64, AV.i IntKind.i64 64000, AV.i IntKind.i64 1024, AV.b true]) h)
                              (Post (AV.agg [AV.i IntKind.i64 0, AV.i IntKind.i64 1073741824, AV.i IntKind.i64 0, AV.b false]) h))))))))
                (onB (decide (a = 7)) (Post (AV.agg [AV.i IntKind.i64 0, AV.i IntKind.i64 1099511627776, AV.i IntKind.i64 0, AV.b false]) h)
                  (onB (decide (a = 9)) (Post (AV.agg [AV.i IntKind.i64 0, AV.i IntKind.i64 1048576, AV.i IntKind.i64 0, AV.b false]) h)
                    (onB (decide (a = 10)) (Post (AV.agg [AV.i IntKind.i64 0, AV.i IntKind.i64 1048576, AV.i IntKind.i64 1, AV.b false]) h)
                      (onB (decide (a = 15)) (Post (AV.agg [AV.i IntKind.i64 0, AV.i IntKind.i64 4, AV.i IntKind.i64 0, AV.b false]) h)
                        (onB (decide (a = 16)) (Post (AV.agg [AV.i IntKind.i64 0, AV.i IntKind.i64 3, AV.i IntKind.i64 0, AV.b false]) h)
                          (onB (decide (a = 17)) (Post (AV.agg [AV.i IntKind.i64 0, AV.i IntKind.i64 16777215, AV.i IntKind.i64 0, AV.b true]) h)
                            (onB (decide (a = 18)) (Post (AV.agg [AV.i IntKind.i64 64, AV.i IntKind.i64 64000, AV.i IntKind.i64 1024, AV.b true]) h)
                              (Post (AV.agg [AV.i IntKind.i64 0, AV.i IntKind.i64 1073741824, AV.i IntKind.i64 0, AV.b false]) h))))))))))
            (onB (decide (a = 6))
              (onB (decide (a = 6)) (Post (AV.agg [AV.i IntKind.i64 (-1), AV.i IntKind.i64 1099511627776, AV.i IntKind.i64 (-1), AV.b false]) h)
                (onB (decide (a = 5))
                  (onB (decide (a = 5)) (Post (AV.agg [AV.i IntKind.i64 0, AV.i IntKind.i64 1099511627776, AV.i IntKind.i64 0, AV.b false]) h)
                    (onB (decide (a = 9)) (Post (AV.agg [AV.i IntKind.i64 0, AV.i IntKind.i64 1048576, AV.i IntKind.i64 0, AV.b false]) h)
                      (onB (decide (a = 10)) (Post (AV.agg [AV.i IntKind.i64 0, AV.i IntKind.i64 1048576, AV.i IntKind.i64 1, AV.b false]) h)
                        (onB (decide (a = 15)) (Post (AV.agg [AV.i IntKind.i64 0, AV.i IntKind.i64 4, AV.i IntKind.i64 0, AV.b false]) h)
                          (onB (decide (a = 16)) (Post (AV.agg [AV.i IntKind.i64 0, AV.i IntKind.i64 3, AV.i IntKind.i64 0, AV.b false]) h)
                            (onB (decide (a = 17)) (Post (AV.agg [AV.i IntKind.i64 0, AV.i IntKind.i64 16777215, AV.i IntKind.i64 0, AV.b true]) h)
                              (onB (decide (a = 18)) (Post (AV.agg [AV.i IntKind.i64 64, AV.i IntKind.i64 64000, AV.i IntKind.i64 1024, AV.b true]) h)
                                (Post (AV.agg [AV.i IntKind.i64 0, AV.i IntKind.i64 1073741824, AV.i IntKind.i64 0, AV.b false]) h))))))))
                  (onB (decide (a = 7)) (Post (AV.agg [AV.i IntKind.i64 0, AV.i IntKind.i64 1099511627776, AV.i IntKind.i64 0, AV.b false]) h)
                    (onB (decide (a = 9)) (Post (AV.agg [AV.i IntKind.i64 0, AV.i IntKind.i64 1048576, AV.i IntKind.i64 0, AV.b false]) h)
                      (onB (decide (a = 10)) (Post (AV.agg [AV.i IntKind.i64 0, AV.i IntKind.i64 1048576, AV.i IntKind.i64 1, AV.b false]) h)
                        (onB (decide (a = 15)) (Post (AV.agg [AV.i IntKind.i64 0, AV.i IntKind.i64 4, AV.i IntKind.i64 0, AV.b false]) h)
                          (onB (decide (a = 16)) (Post (AV.agg [AV.i IntKind.i64 0, AV.i IntKind.i64 3, AV.i IntKind.i64 0, AV.b false]) h)
                            (onB (decide (a = 17)) (Post (AV.agg [AV.i IntKind.i64 0, AV.i IntKind.i64 16777215, AV.i IntKind.i64 0, AV.b true]) h)
                              (onB (decide (a = 18)) (Post (AV.agg [AV.i IntKind.i64 64, AV.i IntKind.i64 64000, AV.i IntKind.i64 1024, AV.b true]) h)
                                (Post (AV.agg [AV.i IntKind.i64 0, AV.i IntKind.i64 1073741824, AV.i IntKind.i64 0, AV.b false]) h))))))))))
              (onB (decide (a = 8))
                (onB (decide (a = 8)) (Post (AV.agg [AV.i IntKind.i64 (-1), AV.i IntKind.i64 1099511627776, AV.i IntKind.i64 (-1), AV.b false]) h)
                  (onB (decide (a = 5))
                    (onB (decide (a = 5)) (Post (AV.agg [AV.i IntKind.i64 0, AV.i IntKind.i64 1099511627776, AV.i IntKind.i64 0, AV.b false]) h)
                      (onB (decide (a = 9)) (Post (AV.agg [AV.i IntKind.i64 0, AV.i IntKind.i64 1048576, AV.i IntKind.i64 0, AV.b false]) h)
                        (onB (decide (a = 10)) (Post (AV.agg [AV.i IntKind.i64 0, AV.i IntKind.i64 1048576, AV.i IntKind.i64 1, AV.b false]) h)
                          (onB (decide (a = 15)) (Post (AV.agg [AV.i IntKind.i64 0, AV.i IntKind.i64 4, AV.i IntKind.i64 0, AV.b false]) h)
                            (onB (decide (a = 16)) (Post (AV.agg [AV.i IntKind.i64 0, AV.i IntKind.i64 3, AV.i IntKind.i64 0, AV.b false]) h)
                              (onB (decide (a = 17)) (Post (AV.agg [AV.i IntKind.i64 0, AV.i IntKind.i64 16777215, AV.i IntKind.i64 0, AV.b true]) h)
                                (onB (decide (a = 18)) (Post (AV.agg [AV.i IntKind.i64 64, AV.i IntKind.i64 64000, AV.i IntKind.i64 1024, AV.b true]) h)
                                  (Post (AV.agg [AV.i IntKind.i64 0, AV.i IntKind.i64 1073741824, AV.i IntKind.i64 0, AV.b false]) h))))))))
                    (onB (decide (a = 7)) (Post (AV.agg [AV.i IntKind.i64 0, AV.i IntKind.i64 1099511627776, AV.i IntKind.i64 0, AV.b false]) h)
                      (onB (decide (a = 9)) (Post (AV.agg [AV.i IntKind.i64 0, AV.i IntKind.i64 1048576, AV.i IntKind.i64 0, AV.b false]) h)
                        (onB (decide (a = 10)) (Post (AV.agg [AV.i IntKind.i64 0, AV.i IntKind.i64 1048576, AV.i IntKind.i64 1, AV.b false]) h)
                          (onB (decide (a = 15)) (Post (AV.agg [AV.i IntKind.i64 0, AV.i IntKind.i64 4, AV.i IntKind.i64 0, AV.b false]) h)
                            (onB (decide (a = 16)) (Post (AV.agg [AV.i IntKind.i64 0, AV.i IntKind.i64 3, AV.i IntKind.i64 0, AV.b false]) h)
                              (onB (decide (a = 17)) (Post (AV.agg [AV.i IntKind.i64 0, AV.i IntKind.i64 16777215, AV.i IntKind.i64 0, AV.b true]) h)
                                (onB (decide (a = 18)) (Post (AV.agg [AV.i IntKind.i64 64, AV.i IntKind.i64 64000, AV.i IntKind.i64 1024, AV.b true]) h)
                                  (Post (AV.agg [AV.i IntKind.i64 0, AV.i IntKind.i64 1073741824, AV.i IntKind.i64 0, AV.b false]) h))))))))))
                (onB (decide (a = 11)) (Post (AV.agg [AV.i IntKind.i64 (-1), AV.i IntKind.i64 1099511627776, AV.i IntKind.i64 (-1), AV.b false]) h)
                  (onB (decide (a = 5))
                    (onB (decide (a = 5)) (Post (AV.agg [AV.i IntKind.i64 0, AV.i IntKind.i64 1099511627776, AV.i IntKind.i64 0, AV.b false]) h)
                      (onB (decide (a = 9)) (Post (AV.agg [AV.i IntKind.i64 0, AV.i IntKind.i64 1048576, AV.i IntKind.i64 0, AV.b false]) h)
                        (onB (decide (a = 10)) (Post (AV.agg [AV.i IntKind.i64 0, AV.i IntKind.i64 1048576, AV.i IntKind.i64 1, AV.b false]) h)
                          (onB (decide (a = 15)) (Post (AV.agg [AV.i IntKind.i64 0, AV.i IntKind.i64 4, AV.i IntKind.i64 0, AV.b false]) h)
                            (onB (decide (a = 16)) (Post (AV.agg [AV.i IntKind.i64 0, AV.i IntKind.i64 3, AV.i IntKind.i64 0, AV.b false]) h)
                              (onB (decide (a = 17)) (Post (AV.agg [AV.i IntKind.i64 0, AV.i IntKind.i64 16777215, AV.i IntKind.i64 0, AV.b true]) h)
                                (onB (decide (a = 18)) (Post (AV.agg [AV.i IntKind.i64 64, AV.i IntKind.i64 64000, AV.i IntKind.i64 1024, AV.b true]) h)
                                  (Post (AV.agg [AV.i IntKind.i64 0, AV.i IntKind.i64 1073741824, AV.i IntKind.i64 0, AV.b false]) h))))))))
                    (onB (decide (a = 7)) (Post (AV.agg [AV.i IntKind.i64 0, AV.i IntKind.i64 1099511627776, AV.i IntKind.i64 0, AV.b false]) h)
                      (onB (decide (a = 9)) (Post (AV.agg [AV.i IntKind.i64 0, AV.i IntKind.i64 1048576, AV.i IntKind.i64 0, AV.b false]) h)
                        (onB (decide (a = 10)) (Post (AV.agg [AV.i IntKind.i64 0, AV.i IntKind.i64 1048576, AV.i IntKind.i64 1, AV.b false]) h)
                          (onB (decide (a = 15)) (Post (AV.agg [AV.i IntKind.i64 0, AV.i IntKind.i64 4, AV.i IntKind.i64 0, AV.b false]) h)
                            (onB (decide (a = 16)) (Post (AV.agg [AV.i IntKind.i64 0, AV.i IntKind.i64 3, AV.i IntKind.i64 0, AV.b false]) h)
                              (onB (decide (a = 17)) (Post (AV.agg [AV.i IntKind.i64 0, AV.i IntKind.i64 16777215, AV.i IntKind.i64 0, AV.b true]) h)
                                (onB (decide (a = 18)) (Post (AV.agg [AV.i IntKind.i64 64, AV.i IntKind.i64 64000, AV.i IntKind.i64 1024, AV.b true]) h)
                                  (Post (AV.agg [AV.i IntKind.i64 0, AV.i IntKind.i64 1073741824, AV.i IntKind.i64 0, AV.b false]) h)))))))))))))))
      (onB (decide (a = 2)) (Post (AV.agg [AV.i IntKind.i64 0, AV.i IntKind.i64 1, AV.i IntKind.i64 0, AV.b false]) h)
        (onB (decide (a = 3))
          (onB (decide (a = 3)) (Post (AV.agg [AV.i IntKind.i64 (-1), AV.i IntKind.i64 1099511627776, AV.i IntKind.i64 (-1), AV.b false]) h)
            (onB (decide (a = 5))
              (onB (decide (a = 5)) (Post (AV.agg [AV.i IntKind.i64 0, AV.i IntKind.i64 1099511627776, AV.i IntKind.i64 0, AV.b false]) h)
                (onB (decide (a = 9)) (Post (AV.agg [AV.i IntKind.i64 0, AV.i IntKind.i64 1048576, AV.i IntKind.i64 0, AV.b false]) h)
                  (onB (decide (a = 10)) (Post (AV.agg [AV.i IntKind.i64 0, AV.i IntKind.i64 1048576, AV.i IntKind.i64 1, AV.b false]) h)
                    (onB (decide (a = 15)) (Post (AV.agg [AV.i IntKind.i64 0, AV.i IntKind.i64 4, AV.i IntKind.i64 0, AV.b false]) h)
                      (onB (decide (a = 16)) (Post (AV.agg [AV.i IntKind.i64 0, AV.i IntKind.i64 3, AV.i IntKind.i64 0, AV.b false]) h)
                        (onB (decide (a = 17)) (Post (AV.agg [AV.i IntKind.i64 0, AV.i IntKind.i64 16777215, AV.i IntKind.i64 0, AV.b true]) h)
                          (onB (decide (a = 18)) (Post (AV.agg [AV.i IntKind.i64 64, AV.i IntKind.i64 64000, AV.i IntKind.i64 1024, AV.b true]) h)
                            (Post (AV.agg [AV.i IntKind.i64 0, AV.i IntKind.i64 1073741824, AV.i IntKind.i64 0, AV.b false]) h))))))))
              (onB (decide (a = 7)) (Post (AV.agg [AV.i IntKind.i64 0, AV.i IntKind.i64 1099511627776, AV.i IntKind.i64 0, AV.b false]) h)
                (onB (decide (a = 9)) (Post (AV.agg [AV.i IntKind.i64 0, AV.i IntKind.i64 1048576, AV.i IntKind.i64 0, AV.b false]) h)
                  (onB (decide (a = 10)) (Post (AV.agg [AV.i IntKind.i64 0, AV.i IntKind.i64 1048576, AV.i IntKind.i64 1, AV.b false]) h)
                    (onB (decide (a = 15)) (Post (AV.agg [AV.i IntKind.i64 0, AV.i IntKind.i64 4, AV.i IntKind.i64 0, AV.b false]) h)
                      (onB (decide (a = 16)) (Post (AV.agg [AV.i IntKind.i64 0, AV.i IntKind.i64 3, AV.i IntKind.i64 0, AV.b false]) h)
                        (onB (decide (a = 17)) (Post (AV.agg [AV.i IntKind.i64 0, AV.i IntKind.i64 16777215, AV.i IntKind.i64 0, AV.b true]) h)
                          (onB (decide (a = 18)) (Post (AV.agg [AV.i IntKind.i64 64, AV.i IntKind.i64 64000, AV.i IntKind.i64 1024, AV.b true]) h)
                            (Post (AV.agg [AV.i IntKind.i64 0, AV.i IntKind.i64 1073741824, AV.i IntKind.i64 0, AV.b false]) h))))))))))
          (onB (decide (a = 4))
            (onB (decide (a = 4)) (Post (AV.agg [AV.i IntKind.i64 (-1), AV.i IntKind.i64 1099511627776, AV.i IntKind.i64 (-1), AV.b false]) h)
              (onB (decide (a = 5))
                (onB (decide (a = 5)) (Post (AV.agg [AV.i IntKind.i64 0, AV.i IntKind.i64 1099511627776, AV.i IntKind.i64 0, AV.b false]) h)
                  (onB (decide (a = 9)) (Post (AV.agg [AV.i IntKind.i64 0, AV.i IntKind.i64 1048576, AV.i IntKind.i64 0, AV.b false]) h)
                    (onB (decide (a = 10)) (Post (AV.agg [AV.i IntKind.i64 0, AV.i IntKind.i64 1048576, AV.i IntKind.i64 1, AV.b false]) h)
                      (onB (decide (a = 15)) (Post (AV.agg [AV.i IntKind.i64 0, AV.i IntKind.i64 4, AV.i IntKind.i64 0, AV.b false]) h)
                        (onB (decide (a = 16)) (Post (AV.agg [AV.i IntKind.i64 0, AV.i IntKind.i64 3, AV.i IntKind.i64 0, AV.b false]) h)
                          (onB (decide (a = 17)) (Post (AV.agg [AV.i IntKind.i64 0, AV.i IntKind.i64 16777215, AV.i IntKind.i64 0, AV.b true]) h)
                            (onB (decide (a = 18)) (Post (AV.agg [AV.i IntKind.i64 64, AV.i IntKind.i64 64000, AV.i IntKind.i64 1024, AV.b true]) h)
                              (Post (AV.agg [AV.i IntKind.i64 0, AV.i IntKind.i64 1073741824, AV.i IntKind.i64 0, AV.b false]) h))))))))
                (onB (decide (a = 7)) (Post (AV.agg [AV.i IntKind.i64 0, AV.i IntKind.i64 1099511627776, AV.i IntKind.i64 0, AV.b false]) h)
                  (onB (decide (a = 9)) (Post (AV.agg [AV.i IntKind.i64 0, AV.i IntKind.i64 1048576, AV.i IntKind.i64 0, AV.b false]) h)
                    (onB (decide (a = 10)) (Post (AV.agg [AV.i IntKind.i64 0, AV.i IntKind.i64 1048576, AV.i IntKind.i64 1, AV.b false]) h)
                      (onB (decide (a = 15)) (Post (AV.agg [AV.i IntKind.i64 0, AV.i IntKind.i64 4, AV.i IntKind.i64 0, AV.b false]) h)
                        (onB (decide (a = 16)) (Post (AV.agg [AV.i IntKind.i64 0, AV.i IntKind.i64 3, AV.i IntKind.i64 0, AV.b false]) h)
                          (onB (decide (a = 17)) (Post (AV.agg [AV.i IntKind.i64 0, AV.i IntKind.i64 16777215, AV.i IntKind.i64 0, AV.b true]) h)
                            (onB (decide (a = 18)) (Post (AV.agg [AV.i IntKind.i64 64, AV.i IntKind.i64 64000, AV.i IntKind.i64 1024, AV.b true]) h)
                              (Post (AV.agg [AV.i IntKind.i64 0, AV.i IntKind.i64 1073741824, AV.i IntKind.i64 0, AV.b false]) h))))))))))
            (onB (decide (a = 6))
              (onB (decide (a = 6)) (Post (AV.agg [AV.i IntKind.i64 (-1), AV.i IntKind.i64 1099511627776, AV.i IntKind.i64 (-1), AV.b false]) h)
                (onB (decide (a = 5))
                  (onB (decide (a = 5)) (Post (AV.agg [AV.i IntKind.i64 0, AV.i IntKind.i64 1099511627776, AV.i IntKind.i64 0, AV.b false]) h)
                    (onB (decide (a = 9)) (Post (AV.agg [AV.i IntKind.i64 0, AV.i IntKind.i64 1048576, AV.i IntKind.i64 0, AV.b false]) h)
                      (onB (decide (a = 10)) (Post (AV.agg [AV.i IntKind.i64 0, AV.i IntKind.i64 1048576, AV.i IntKind.i64 1, AV.b false]) h)
                        (onB (decide (a = 15)) (Post (AV.agg [AV.i IntKind.i64 0, AV.i IntKind.i64 4, AV.i IntKind.i64 0, AV.b false]) h)
                          (onB (decide (a = 16)) (Post (AV.agg [AV.i IntKind.i64 0, AV.i IntKind.i64 3, AV.i IntKind.i64 0, AV.b false]) h)
                            (onB (decide (a = 17)) (Post (AV.agg [AV.i IntKind.i64 0, AV.i IntKind.i64 16777215, AV.i IntKind.i64 0, AV.b true]) h)
                              (onB (decide (a = 18)) (Post (AV.agg [AV.i IntKind.i64 64, AV.i IntKind.i64 64000, AV.i IntKind.i64 1024, AV.b true]) h)
                                (Post (AV.agg [AV.i IntKind.i64 0, AV.i IntKind.i64 1073741824, AV.i IntKind.i64 0, AV.b false]) h))))))))
                  (onB (decide (a = 7)) (Post (AV.agg [AV.i IntKind.i64 0, AV.i IntKind.i64 1099511627776, AV.i IntKind.i64 0, AV.b false]) h)
                    (onB (decide (a = 9)) (Post (AV.agg [AV.i IntKind.i64 0, AV.i IntKind.i64 1048576, AV.i IntKind.i64 0, AV.b false]) h)
                      (onB (decide (a = 10)) (Post (AV.agg [AV.i IntKind.i64 0, AV.i IntKind.i64 1048576, AV.i IntKind.i64 1, AV.b false]) h)
                        (onB (decide (a = 15)) (Post (AV.agg [AV.i IntKind.i64 0, AV.i IntKind.i64 4, AV.i IntKind.i64 0, AV.b false]) h)
                          (onB (decide (a = 16)) (Post (AV.agg [AV.i IntKind.i64 0, AV.i IntKind.i64 3, AV.i IntKind.i64 0, AV.b false]) h)
                            (onB (decide (a = 17)) (Post (AV.agg [AV.i IntKind.i64 0, AV.i IntKind.i64 16777215, AV.i IntKind.i64 0, AV.b true]) h)
                              (onB (decide (a = 18)) (Post (AV.agg [AV.i IntKind.i64 64, AV.i IntKind.i64 64000, AV.i IntKind.i64 1024, AV.b true]) h)
                                (Post (AV.agg [AV.i IntKind.i64 0, AV.i IntKind.i64 1073741824, AV.i IntKind.i64 0, AV.b false]) h))))))))))
              (onB (decide (a = 8))
                (onB (decide (a = 8)) (Post (AV.agg [AV.i IntKind.i64 (-1), AV.i IntKind.i64 1099511627776, AV.i IntKind.i64 (-1), AV.b false]) h)
                  (onB (decide (a = 5))
                    (onB (decide (a = 5)) (Post (AV.agg [AV.i IntKind.i64 0, AV.i IntKind.i64 1099511627776, AV.i IntKind.i64 0, AV.b false]) h)
                      (onB (decide (a = 9)) (Post (AV.agg [AV.i IntKind.i64 0, AV.i IntKind.i64 1048576, AV.i IntKind.i64 0, AV.b false]) h)
                        (onB (decide (a = 10)) (Post (AV.agg [AV.i IntKind.i64 0, AV.i IntKind.i64 1048576, AV.i IntKind.i64 1, AV.b false]) h)
                          (onB (decide (a = 15)) (Post (AV.agg [AV.i IntKind.i64 0, AV.i IntKind.i64 4, AV.i IntKind.i64 0, AV.b false]) h)
                            (onB (decide (a = 16)) (Post (AV.agg [AV.i IntKind.i64 0, AV.i IntKind.i64 3, AV.i IntKind.i64 0, AV.b false]) h)
                              (onB (decide (a = 17)) (Post (AV.agg [AV.i IntKind.i64 0, AV.i IntKind.i64 16777215, AV.i IntKind.i64 0, AV.b true]) h)
                                (onB (decide (a = 18)) (Post (AV.agg [AV.i IntKind.i64 64, AV.i IntKind.i64 64000, AV.i IntKind.i64 1024, AV.b true]) h)
                                  (Post (AV.agg [AV.i IntKind.i64 0, AV.i IntKind.i64 1073741824, AV.i IntKind.i64 0, AV.b false]) h))))))))
                    (onB (decide (a = 7)) (Post (AV.agg [AV.i IntKind.i64 0, AV.i IntKind.i64 1099511627776, AV.i IntKind.i64 0, AV.b false]) h)
                      (onB (decide (a = 9)) (Post (AV.agg [AV.i IntKind.i64 0, AV.i IntKind.i64 1048576, AV.i IntKind.i64 0, AV.b false]) h)
                        (onB (decide (a = 10)) (Post (AV.agg [AV.i IntKind.i64 0, AV.i IntKind.i64 1048576, AV.i IntKind.i64 1, AV.b false]) h)
                          (onB (decide (a = 15)) (Post (AV.agg [AV.i IntKind.i64 0, AV.i IntKind.i64 4, AV.i IntKind.i64 0, AV.b false]) h)
                            (onB (decide (a = 16)) (Post (AV.agg [AV.i IntKind.i64 0, AV.i IntKind.i64 3, AV.i IntKind.i64 0, AV.b false]) h)
                              (onB (decide (a = 17)) (Post (AV.agg [AV.i IntKind.i64 0, AV.i IntKind.i64 16777215, AV.i IntKind.i64 0, AV.b true]) h)
                                (onB (decide (a = 18)) (Post (AV.agg [AV.i IntKind.i64 64, AV.i IntKind.i64 64000, AV.i IntKind.i64 1024, AV.b true]) h)
                                  (Post (AV.agg [AV.i IntKind.i64 0, AV.i IntKind.i64 1073741824, AV.i IntKind.i64 0, AV.b false]) h))))))))))
                (onB (decide (a = 11)) (Post (AV.agg [AV.i IntKind.i64 (-1), AV.i IntKind.i64 1099511627776, AV.i IntKind.i64 (-1), AV.b false]) h)
                  (onB (decide (a = 5))
                    (onB (decide (a = 5)) (Post (AV.agg [AV.i IntKind.i64 0, AV.i IntKind.i64 1099511627776, AV.i IntKind.i64 0, AV.b false]) h)
                      (onB (decide (a = 9)) (Post (AV.agg [AV.i IntKind.i64 0, AV.i IntKind.i64 1048576, AV.i IntKind.i64 0, AV.b false]) h)
                        (onB (decide (a = 10)) (Post (AV.agg [AV.i IntKind.i64 0, AV.i IntKind.i64 1048576, AV.i IntKind.i64 1, AV.b false]) h)
                          (onB (decide (a = 15)) (Post (AV.agg [AV.i IntKind.i64 0, AV.i IntKind.i64 4, AV.i IntKind.i64 0, AV.b false]) h)
                            (onB (decide (a = 16)) (Post (AV.agg [AV.i IntKind.i64 0, AV.i IntKind.i64 3, AV.i IntKind.i64 0, AV.b false]) h)
                              (onB (decide (a = 17)) (Post (AV.agg [AV.i IntKind.i64 0, AV.i IntKind.i64 16777215, AV.i IntKind.i64 0, AV.b true]) h)
                                (onB (decide (a = 18)) (Post (AV.agg [AV.i IntKind.i64 64, AV.i IntKind.i64 64000, AV.i IntKind.i64 1024, AV.b true]) h)
                                  (Post (AV.agg [AV.i IntKind.i64 0, AV.i IntKind.i64 1073741824, AV.i IntKind.i64 0, AV.b false]) h))))))))
                    (onB (decide (a = 7)) (Post (AV.agg [AV.i IntKind.i64 0, AV.i IntKind.i64 1099511627776, AV.i IntKind.i64 0, AV.b false]) h)
                      (onB (decide (a = 9)) (Post (AV.agg [AV.i IntKind.i64 0, AV.i IntKind.i64 1048576, AV.i IntKind.i64 0, AV.b false]) h)
                        (onB (decide (a = 10)) (Post (AV.agg [AV.i IntKind.i64 0, AV.i IntKind.i64 1048576, AV.i IntKind.i64 1, AV.b false]) h)
                          (onB (decide (a = 15)) (Post (AV.agg [AV.i IntKind.i64 0, AV.i IntKind.i64 4, AV.i IntKind.i64 0, AV.b false]) h)
                            (onB (decide (a = 16)) (Post (AV.agg [AV.i IntKind.i64 0, AV.i IntKind.i64 3, AV.i IntKind.i64 0, AV.b false]) h)
                              (onB (decide (a = 17)) (Post (AV.agg [AV.i IntKind.i64 0, AV.i IntKind.i64 16777215, AV.i IntKind.i64 0, AV.b true]) h)
                                (onB (decide (a = 18)) (Post (AV.agg [AV.i IntKind.i64 64, AV.i IntKind.i64 64000, AV.i IntKind.i64 1024, AV.b true]) h)
                                  (Post (AV.agg [AV.i IntKind.i64 0, AV.i IntKind.i64 1073741824, AV.i IntKind.i64 0, AV.b false]) h))))))))))))))))) := by kernel_rfl
/-! ### plain -/
noncomputable def cmpN (a b : Int) : Int := if a < b then -1 else if b < a then 1 else 0
noncomputable def cmpT (a b : D.Stamp) : Int := if cmpN a.time b.time = 0 then cmpN a.rep b.rep else cmpN a.time b.time
noncomputable def isS (s : D.Stamp) : Bool := decide (1 ≤ s.time) && (decide (s.time ≤ 1099511627776) && (decide (0 ≤ s.rep) && decide (s.rep < 16)))
noncomputable def propP (a : Int) : Bool := decide (0 ≤ a) && decide (a < 19)
noncomputable def lowP : Nat → Int
  | 3 | 4 | 6 | 8 | 11 => -1
  | 18 => 64
  | _ => 0
noncomputable def highP : Nat → Int
  | 0 => 2 | 1 | 2 => 1
  | 3 | 4 | 5 | 6 | 7 | 8 | 11 => 1099511627776
  | 9 | 10 => 1048576
  | 12 | 13 | 14 => 1073741824
  | 15 => 4 | 16 => 3 | 17 => 16777215 | 18 => 64000
  | _ => 0
noncomputable def plainP : Nat → Int
  | 3 | 4 | 6 | 8 | 11 => -1
  | 10 => 1
  | 18 => 1024
  | _ => 0
noncomputable def goesP : Nat → Bool
  | 17 | 18 => true
  | _ => false
noncomputable def mayP (a b : Int) : Bool := propP a && (decide (lowP a.toNat ≤ b) && decide (b ≤ highP a.toNat))
section
variable {h : Hp} {Post : AV → Hp → Prop}
theorem c81 {a : Int} (k : Post (.b false) h) : wpC Try.prog 81 [.i .i64 a] Post h := by
  refine call_sound (args := [.ii .i64 a]) (cuts := []) ⟨trivial, trivial⟩ ?_
  rw [vc81]
  simpa using k
theorem c74 {a b : Int} (k : Post (.i .i64 (cmpN a b)) h) : wpC Try.prog 74 [.i .i64 a, .i .i64 b] Post h := by
  refine call_sound (args := [.ii .i64 a, .ii .i64 b]) (cuts := []) ⟨trivial, trivial, trivial⟩ ?_
  rw [vc74]
  refine c81 (onRet.b (c81 (onRet.b (onB.neg rfl (onB.neg rfl ?_)))))
  refine onB.dec (fun e => ?_) (fun e => onB.dec (fun e' => ?_) (fun e' => ?_))
  · simpa [cmpN, e] using k
  · simpa [cmpN, e, e'] using k
  · simpa [cmpN, e, e'] using k
theorem c73 {a : AV} {x y : Int} (r : Ints h a [x, y]) (k : Post (.i .i64 (if x = 0 then y else x)) h) : wpC Try.prog 73 [a] Post h := by
  refine call_sound (args := [.vv a]) (cuts := []) ⟨Raw.sc r, trivial⟩ ?_
  rw [vc73]
  refine onO.mk r.len ?_
  refine ⟨fun m _ i h' => h' = h ∧ 0 ≤ i ∧ i ≤ 2 ∧ m = 2 - i.toNat ∧ (0 < i → x = 0) ∧ (1 < i → y = 0), ⟨2, rfl, by omega, by omega, rfl, by omega, by omega⟩, ?_⟩
  rintro m h0 n0 i ⟨rfl, i0, i2, rfl, hx, hy⟩
  have hc : i = 0 ∨ i = 1 ∨ i = 2 := by omega
  refine onB.dec (fun e => ?_) (fun e => ?_)
  · rcases hc with rfl | rfl | rfl
    · obtain ⟨b, o, e1, e2⟩ := r.idx (i := 0) (x := x) (by omega) rfl
      refine onO.mk e1 (onO.mk e2 (onL.i1 (onB.ndec (fun e => ?_) (fun e => ?_))))
      · rw [if_neg e] at k; exact k
      · exact onO.mk (add64 (by omega) (by omega)) ⟨1, by show 1 < 2; omega, rfl, by omega, by omega, rfl, fun _ => e, by omega⟩
    · obtain ⟨b, o, e1, e2⟩ := r.idx (i := 1) (x := y) (by omega) rfl
      have hx := hx (by omega)
      rw [if_pos hx] at k
      refine onO.mk e1 (onO.mk e2 (onL.i1 (onB.ndec (fun e => k) (fun e => ?_))))
      exact onO.mk (add64 (by omega) (by omega)) ⟨0, by show 0 < 1; omega, rfl, by omega, by omega, rfl, fun _ => hx, fun _ => e⟩
    · exact absurd e (by simp)
  · rcases hc with rfl | rfl | rfl
    · exact absurd e (by simp)
    · exact absurd e (by simp)
    · rw [if_pos (hx (by omega)), hy (by omega)] at k; exact k
/-- stamp.Cmp: what is there then is more than before -/
theorem c67 {a b : D.Stamp} (k : ∀ h', h.le h' → h'.lo = h.lo → Post (.i .i64 (cmpT a b)) h') : wpC Try.prog 67 [.agg [.i .i64 a.time, .i .i64 a.rep], .agg [.i .i64 b.time, .i .i64 b.rep]] Post h := by
  refine call_sound (args := [.ag [.ii .i64 a.time, .ii .i64 a.rep], .ag [.ii .i64 b.time, .ii .i64 b.rep]]) (cuts := []) ⟨⟨trivial, trivial, trivial⟩, ⟨trivial, trivial, trivial⟩, trivial⟩ ?_
  rw [vc67]
  intro _ _
  refine c74 (onRet.i (c74 (onRet.i fun p hp hlo => ?_)))
  have f := Fresh.put (Hp.le_refl h) rfl hp hlo (css := [[.i .i64 (cmpN a.time b.time)], [.i .i64 (cmpN a.rep b.rep)]]) (sz := 1) (len := 2) true (fun c hc => by simp at hc; rcases hc with rfl | rfl <;> rfl) rfl rfl
  refine c73 (x := cmpN a.time b.time) (y := cmpN a.rep b.rep) f.row (onRet.i (k _ (Hp.le_put hp) rfl))
theorem c68 {s : D.Stamp} (k : Post (.b (isS s)) h) : wpC Try.prog 68 [.agg [.i .i64 s.time, .i .i64 s.rep]] Post h := by
  refine call_sound (args := [.ag [.ii .i64 s.time, .ii .i64 s.rep]]) (cuts := []) ⟨⟨trivial, trivial, trivial⟩, trivial⟩ ?_
  rw [vc68]
  intro _
  unfold isS at k
  refine onB.dec (fun e => onB.dec (fun e1 => onB.dec (fun e2 => ?_) (fun e2 => ?_)) (fun e1 => ?_)) (fun e => ?_)
  · simpa only [e, e1, e2, decide_true, Bool.true_and] using k
  · simpa only [e, e1, e2, decide_true, decide_false, Bool.true_and, Bool.false_and] using k
  · simpa only [e, e1, decide_true, decide_false, Bool.true_and, Bool.false_and] using k
  · simpa only [e, decide_false, Bool.false_and] using k
end
section
variable {h : Hp} {Post : AV → Hp → Prop}
theorem c61 {a b : Int} (k : Post (.b (decide (0 ≤ a) && decide (a ≤ b))) h) : wpC Try.prog 61 [.i .i64 a, .i .i64 b] Post h := by
  refine call_sound (args := [.ii .i64 a, .ii .i64 b]) (cuts := []) ⟨trivial, trivial, trivial⟩ ?_
  rw [vc61]
  refine onB.dec (fun e => ?_) (fun e => ?_)
  · simpa only [e, decide_true, Bool.true_and] using k
  · simpa only [e, decide_false, Bool.false_and] using k
theorem c35 {s : D.Stamp} (k : Post (.b (isS s)) h) : wpC Try.prog 35 [.agg [.i .i64 s.time, .i .i64 s.rep]] Post h := by
  refine call_sound (args := [.ag [.ii .i64 s.time, .ii .i64 s.rep]]) (cuts := []) ⟨⟨trivial, trivial, trivial⟩, trivial⟩ ?_
  rw [vc35]
  intro _
  unfold isS at k
  refine onB.dec (fun e => onB.dec (fun e1 => c61 (onRet.b ?_)) (fun e1 => ?_)) (fun e => ?_)
  · have e2 : decide (s.rep ≤ 15) = decide (s.rep < 16) := by rw [decide_eq_decide]; omega
    simpa only [e, e1, e2, decide_true, Bool.true_and] using k
  · simpa only [e, e1, decide_true, decide_false, Bool.true_and, Bool.false_and] using k
  · simpa only [e, decide_false, Bool.false_and] using k
theorem c83 {a : Int} (k : Post (.b (propP a)) h) : wpC Try.prog 83 [.i .i64 a] Post h := by
  refine call_sound (args := [.ii .i64 a]) (cuts := []) ⟨trivial, trivial⟩ ?_
  rw [vc83]
  unfold propP at k
  refine onB.dec (fun e => ?_) (fun e => ?_)
  · simpa only [e, decide_true, Bool.true_and] using k
  · simpa only [e, decide_false, Bool.false_and] using k
theorem prop_cases {a : Int} (h0 : 0 ≤ a) (h1 : a < 19) : a = 0 ∨ a = 1 ∨ a = 2 ∨ a = 3 ∨ a = 4 ∨ a = 5 ∨ a = 6 ∨ a = 7 ∨ a = 8 ∨ a = 9 ∨ a = 10 ∨ a = 11 ∨ a = 12 ∨ a = 13 ∨ a = 14 ∨ a = 15 ∨ a = 16 ∨ a = 17 ∨ a = 18 := by omega
theorem c84 {a : Int} (h0 : 0 ≤ a) (h1 : a < 19) (k : Post (.agg [.i .i64 (lowP a.toNat), .i .i64 (highP a.toNat), .i .i64 (plainP a.toNat), .b (goesP a.toNat)]) h) : wpC Try.prog 84 [.i .i64 a] Post h := by
  refine call_sound (args := [.ii .i64 a]) (cuts := []) ⟨trivial, trivial⟩ ?_
  rw [vc84]
  intro _
  rcases prop_cases h0 h1 with rfl | rfl | rfl | rfl | rfl | rfl | rfl | rfl | rfl | rfl | rfl | rfl | rfl | rfl | rfl | rfl | rfl | rfl | rfl
  all_goals repeat' first
    | exact k
    | refine onB.pos rfl ?_
    | refine onB.neg rfl ?_
theorem c64 {a : Int} (k : ∀ n, (propP a = true → n = plainP a.toNat) → Post (.tup [.i .i64 (if propP a then lowP a.toNat else 0), .i .i64 (if propP a then highP a.toNat else 0), .i .i64 n, .b (propP a)]) h) : wpC Try.prog 64 [.i .i64 a] Post h := by
  refine call_sound (args := [.ii .i64 a]) (cuts := []) ⟨trivial, trivial⟩ ?_
  rw [vc64]
  by_cases hr : 0 ≤ a ∧ a < 19
  · have hp : propP a = true := by simp [propP, hr]
    rcases prop_cases hr.1 hr.2 with rfl | rfl | rfl | rfl | rfl | rfl | rfl | rfl | rfl | rfl | rfl | rfl | rfl | rfl | rfl | rfl | rfl | rfl | rfl
    all_goals repeat' first
      | exact k _ (fun _ => rfl)
      | refine onB.pos rfl ?_
      | refine onB.neg rfl ?_
  · have hp : propP a = false := by
      cases hb : propP a with
      | false => rfl
      | true => simp [propP] at hb; exact absurd hb hr
    have k := k 0 (fun e => by rw [hp] at e; cases e)
    rw [hp] at k
    repeat' first
      | exact k
      | refine onB.neg (decide_eq_false (by omega)) ?_
theorem c77 {a b : Int} (k : Post (.b (mayP a b)) h) : wpC Try.prog 77 [.i .i64 a, .i .i64 b] Post h := by
  refine call_sound (args := [.ii .i64 a, .ii .i64 b]) (cuts := []) ⟨trivial, trivial, trivial⟩ ?_
  rw [vc77]
  refine c83 (onRet.b ?_)
  unfold mayP at k
  refine onB.mk (fun e => ?_) (fun e => ?_)
  · have hr : 0 ≤ a ∧ a < 19 := by simpa [propP] using e
    refine c84 hr.1 hr.2 ?_
    refine onB.dec (fun e1 => c84 hr.1 hr.2 ?_) (fun e1 => ?_)
    · rw [e, decide_eq_true e1, Bool.true_and, Bool.true_and] at k; exact k
    · rw [e, decide_eq_false e1] at k; exact k
  · rw [e] at k; exact k
noncomputable def checkP (a b : Int) : Int := if propP a = true then (if mayP a b = true then 0 else 9) else 3
theorem checkP_ok {a b : Int} : decide (checkP a b = 0) = mayP a b := by
  unfold checkP
  cases h1 : propP a with
  | false => simp [mayP, h1]
  | true =>
    cases h2 : mayP a b <;> simp
theorem c39 {a b : Int} (k : Post (.i .i64 (checkP a b)) h) : wpC Try.prog 39 [.i .i64 a, .i .i64 b] Post h := by
  refine call_sound (args := [.ii .i64 a, .ii .i64 b]) (cuts := []) ⟨trivial, trivial, trivial⟩ ?_
  rw [vc39]
  refine c64 fun n _ => ?_
  unfold checkP mayP at k
  show onB (!(propP a)) _ _
  cases hp : propP a with
  | false => rw [hp] at k; exact onB.pos rfl k
  | true =>
    rw [hp] at k
    simp only [if_true, Bool.true_and] at k
    refine onB.neg rfl (onB.dec (fun e => ?_) (fun e => onB.dec (fun e1 => ?_) (fun e1 => ?_)))
    · simp only [if_true] at e
      have : ¬ lowP a.toNat ≤ b := by omega
      simpa [this] using k
    · simp only [if_true] at e1
      have : ¬ b ≤ highP a.toNat := by omega
      simpa [this] using k
    · simp only [if_true] at e e1
      have e2 : lowP a.toNat ≤ b := by omega
      have e3 : b ≤ highP a.toNat := by omega
      simpa [e2, e3] using k
end
theorem drop_of {α : Type} {l : List α} {k : Nat} {x : α} (h : l[k]? = some x) : l.drop k = x :: l.drop (k + 1) := by
  obtain ⟨hk, e⟩ := List.getElem?_eq_some_iff.1 h
  rw [List.drop_eq_getElem_cons hk, e]
theorem get_lt {α : Type} {l : List α} {k : Nat} (h : k < l.length) : ∃ x, l[k]? = some x := ⟨_, List.getElem?_eq_getElem h⟩
theorem take_succ' {α : Type} {l : List α} {k : Nat} {x : α} (h : l[k]? = some x) : l.take (k + 1) = l.take k ++ [x] := by
  rw [List.take_add_one, h]; rfl
section
variable {h : Hp} {a : AV}
theorem Kn.Row.all {α : Type} {d : Kn α} {h : Hp} {a : AV} {l : List α} (r : d.Row h a l) {x : α} (hx : x ∈ l) : ∃ c, d.K h x c := by
  obtain ⟨css, _, r2⟩ := r
  obtain ⟨i, hi, rfl⟩ := List.getElem_of_mem hx
  obtain ⟨c, _, k⟩ := r2.get (List.getElem?_eq_getElem hi)
  exact ⟨c, k⟩
theorem inc64 {k : Nat} (h : k < 1000000000000) : intO .add .i64 (k : Int) 1 = some ((k + 1 : Nat) : Int) := by
  rw [add64 (by omega) (by omega)]; rfl
end
/- arras/arrasref6.Vector -/
theorem vc36 (a : AV) (h : Hp) (Post : AV → Hp → Prop) : vcCall Try.prog [] 36 [(SV.vv a)] h Post = (
  ∃ I0 : Nat → Bool → Int → Hp → Prop,
  (∃ p0, I0 p0 false 0 h) ∧
    ∀ (p1 : Nat) (h0 : Hp) (c0 : Bool) (n0 : Int),
      I0 p1 c0 n0 h0 →
        onO (lenV a) fun p2 =>
          onB (decide (n0 < ↑p2))
            (onO (idxV a n0 1) fun r0 =>
              onO (rdH h0 r0.fst r0.snd 1) fun l0 =>
                onL [Kd.int IntKind.i64] l0 fun n1 =>
                  wpC Try.prog 61 [AV.i IntKind.i64 n1, AV.i IntKind.i64 1099511627776]
                    (fun a0 h1 => onRet [Sh.one Kd.bool] a0 fun c1 => onB (!c1) (Post (AV.b false) h1) (onO (intO BinOp.add IntKind.i64 n0 1) fun n2 => ∃ p3, ltN p3 p1 ∧ I0 p3 c0 n2 h1)) h0)
            (onO (lenV a) fun p4 => onB (decide ((1 : Int) ≤ ↑p4)) (onO (lenV a) fun p5 => Post (AV.b (decide ((↑p5 : Int) ≤ 16))) h0) (Post (AV.b false) h0))) := by kernel_rfl
/- arras/arrasref8.Key -/
theorem vc38 (a : List Nat) (h : Hp) (Post : AV → Hp → Prop) : vcCall Try.prog [] 38 [(SV.ss a)] h Post = (
  onB (decide ((1 : Int) ≤ ↑a.length))
  (onB (decide ((↑a.length : Int) ≤ 64))
    (onO (intO BinOp.sub IntKind.i64 (↑a.length) 1) fun n0 => onO ((natI n0).bind fun j => nthL a j) fun p1 => Post (AV.b !decide ((↑p1 : Int) = 0)) h)
    (Post (AV.b false) h))
  (Post (AV.b false) h)) := by kernel_rfl
/- arras/key.Is -/
theorem vc76 (a : List Nat) (h : Hp) (Post : AV → Hp → Prop) : vcCall Try.prog [] 76 [(SV.ss a)] h Post = (
  onB (decide ((1 : Int) ≤ ↑a.length))
  (onB (decide ((↑a.length : Int) ≤ 64))
    (onO (intO BinOp.sub IntKind.i64 (↑a.length) 1) fun n0 => onO ((natI n0).bind fun j => nthL a j) fun p1 => Post (AV.b !decide ((↑p1 : Int) = 0)) h)
    (Post (AV.b false) h))
  (Post (AV.b false) h)) := by kernel_rfl
/- arras/arrasref6.Place -/
theorem vc37 (a0 : Int) (a1 : Int) (h : Hp) (Post : AV → Hp → Prop) : vcCall Try.prog [] 37 [(SV.ag [(SV.ii .i64 a0), (SV.ii .i64 a1)])] h Post = (
  ∀ (p0 : Nat),
  wpC Try.prog 35 [AV.agg [AV.i IntKind.i64 a0, AV.i IntKind.i64 a1]]
    (fun a0_1 h0 =>
      onRet [Sh.one Kd.bool] a0_1 fun c0 =>
        onB c0 (Post (AV.b true) h0)
          (wpC Try.prog 62 []
            (fun a1_1 h1 =>
              onRet [Sh.agg [Kd.int IntKind.i64, Kd.int IntKind.i64]] a1_1 fun n0 n1 =>
                onB (decide (a0 = n0) && decide (a1 = n1)) (Post (AV.b true) h1)
                  (wpC Try.prog 63 [] (fun a2 h2 => onRet [Sh.agg [Kd.int IntKind.i64, Kd.int IntKind.i64]] a2 fun n2 n3 => Post (AV.b (decide (a0 = n2) && decide (a1 = n3))) h2) h1))
            h0))
    h) := by kernel_rfl
/- arras/stamp.Place -/
theorem vc75 (a0 : Int) (a1 : Int) (h : Hp) (Post : AV → Hp → Prop) : vcCall Try.prog [] 75 [(SV.ag [(SV.ii .i64 a0), (SV.ii .i64 a1)])] h Post = (
  ∀ (p0 : Nat),
  wpC Try.prog 68 [AV.agg [AV.i IntKind.i64 a0, AV.i IntKind.i64 a1]]
    (fun a0_1 h0 =>
      onRet [Sh.one Kd.bool] a0_1 fun c0 =>
        onB c0 (Post (AV.b true) h0)
          (wpC Try.prog 78 []
            (fun a1_1 h1 =>
              onRet [Sh.agg [Kd.int IntKind.i64, Kd.int IntKind.i64]] a1_1 fun n0 n1 =>
                onB (decide (a0 = n0) && decide (a1 = n1)) (Post (AV.b true) h1)
                  (wpC Try.prog 82 [] (fun a2 h2 => onRet [Sh.agg [Kd.int IntKind.i64, Kd.int IntKind.i64]] a2 fun n2 n3 => Post (AV.b (decide (a0 = n2) && decide (a1 = n3))) h2) h1))
            h0))
    h) := by kernel_rfl
/- arras/stamp.Root -/
theorem vc78  (h : Hp) (Post : AV → Hp → Prop) : vcCall Try.prog [] 78 [] h Post = (
  ∀ (p0 : Nat), Post (AV.agg [AV.i IntKind.i64 0, AV.i IntKind.i64 0]) h) := by kernel_rfl
/- arras/stamp.Trash -/
theorem vc82  (h : Hp) (Post : AV → Hp → Prop) : vcCall Try.prog [] 82 [] h Post = (
  ∀ (p0 : Nat), Post (AV.agg [AV.i IntKind.i64 0, AV.i IntKind.i64 1]) h) := by kernel_rfl
/- arras/arrasref6.Root -/
theorem vc62  (h : Hp) (Post : AV → Hp → Prop) : vcCall Try.prog [] 62 [] h Post = (
  ∀ (p0 : Nat), Post (AV.agg [AV.i IntKind.i64 0, AV.i IntKind.i64 0]) h) := by kernel_rfl
/- arras/arrasref6.Trash -/
theorem vc63  (h : Hp) (Post : AV → Hp → Prop) : vcCall Try.prog [] 63 [] h Post = (
  ∀ (p0 : Nat), Post (AV.agg [AV.i IntKind.i64 0, AV.i IntKind.i64 1]) h) := by kernel_rfl
/- arras/op.May -/
theorem vc51 (a0 : Int) (a1 : Int) (a2 : Int) (a3 : AV) (a4 : Int) (a5 : Int) (a6 : Int) (a7 : Int) (a8 : Int) (a9 : List Nat) (a10 : Int) (a11 : Int) (h : Hp) (Post : AV → Hp → Prop) : vcCall Try.prog [] 51 [(SV.ag [(SV.ii .i64 a0), (SV.ii .i64 a1), (SV.ii .i64 a2), (SV.vv a3), (SV.ii .i64 a4), (SV.ii .i64 a5), (SV.ii .i64 a6), (SV.ii .i64 a7), (SV.ii .i64 a8), (SV.ss a9), (SV.ii .i64 a10), (SV.ii .i64 a11)])] h Post = (
  ∀ (p0 : Nat),
  wpC Try.prog 68 [AV.agg [AV.i IntKind.i64 a0, AV.i IntKind.i64 a1]]
    (fun a0_1 h0 =>
      onRet [Sh.one Kd.bool] a0_1 fun c0 =>
        onB (!c0) (Post (AV.b false) h0)
          (wpC Try.prog 29 [a3]
            (fun a1_1 h1 =>
              onRet [Sh.one Kd.bool] a1_1 fun c1 =>
                onB (!c1) (Post (AV.b false) h1)
                  (onO (lenV a3) fun p1 =>
                    onB (decide ((↑p1 : Int) ≤ a1)) (Post (AV.b false) h1)
                      (wpC Try.prog 68 [AV.agg [AV.i IntKind.i64 a5, AV.i IntKind.i64 a6]]
                        (fun a2_1 h2 =>
                          onRet [Sh.one Kd.bool] a2_1 fun c2 =>
                            onB (!c2) (Post (AV.b false) h2)
                              (onO (idxV a3 a1 1) fun r0 =>
                                onO (rdH h2 r0.fst r0.snd 1) fun l0 =>
                                  onL [Kd.int IntKind.i64] l0 fun n0 =>
                                    onO (intO BinOp.add IntKind.i64 n0 1) fun n1 =>
                                      onB (decide (a2 = n1))
                                        (onB (decide (a2 ≤ 1099511627776))
                                          (wpC Try.prog 69
                                            [AV.agg
                                                [AV.i IntKind.i64 a0, AV.i IntKind.i64 a1, AV.i IntKind.i64 a2, a3, AV.i IntKind.i64 a4, AV.i IntKind.i64 a5, AV.i IntKind.i64 a6, AV.i IntKind.i64 a7,
                                                  AV.i IntKind.i64 a8, AV.s a9, AV.i IntKind.i64 a10, AV.i IntKind.i64 a11]]
                                            (fun a3 h3 => onRet [Sh.one Kd.bool] a3 fun c3 => Post (AV.b c3) h3) h2)
                                          (Post (AV.b false) h2))
                                        (Post (AV.b false) h2)))
                        h1)))
            h0))
    h) := by kernel_rfl
/- arras/arrasref10.Op -/
theorem vc11 (a0 : Int) (a1 : Int) (a2 : Int) (a3 : AV) (a4 : Int) (a5 : Int) (a6 : Int) (a7 : Int) (a8 : Int) (a9 : List Nat) (a10 : Int) (a11 : Int) (h : Hp) (Post : AV → Hp → Prop) : vcCall Try.prog [] 11 [(SV.ag [(SV.ii .i64 a0), (SV.ii .i64 a1), (SV.ii .i64 a2), (SV.vv a3), (SV.ii .i64 a4), (SV.ii .i64 a5), (SV.ii .i64 a6), (SV.ii .i64 a7), (SV.ii .i64 a8), (SV.ss a9), (SV.ii .i64 a10), (SV.ii .i64 a11)])] h Post = (
  ∀ (p0 : Nat),
  wpC Try.prog 35 [AV.agg [AV.i IntKind.i64 a0, AV.i IntKind.i64 a1]]
    (fun a0_1 h0 =>
      onRet [Sh.one Kd.bool] a0_1 fun c0 =>
        onB (!c0) (Post (AV.b false) h0)
          (wpC Try.prog 36 [a3]
            (fun a1_1 h1 =>
              onRet [Sh.one Kd.bool] a1_1 fun c1 =>
                onB (!c1) (Post (AV.b false) h1)
                  (onO (lenV a3) fun p1 =>
                    onB (decide ((↑p1 : Int) ≤ a1)) (Post (AV.b false) h1)
                      (onB (decide (a2 < 1)) (Post (AV.b false) h1)
                        (onB (decide (1099511627776 < a2)) (Post (AV.b false) h1)
                          (onO (idxV a3 a1 1) fun r0 =>
                            onO (rdH h1 r0.fst r0.snd 1) fun l0 =>
                              onL [Kd.int IntKind.i64] l0 fun n0 =>
                                onO (intO BinOp.add IntKind.i64 n0 1) fun n1 =>
                                  onB (!decide (a2 = n1)) (Post (AV.b false) h1)
                                    (wpC Try.prog 35 [AV.agg [AV.i IntKind.i64 a5, AV.i IntKind.i64 a6]]
                                      (fun a2_1 h2 =>
                                        onRet [Sh.one Kd.bool] a2_1 fun c2 =>
                                          onB (!c2) (Post (AV.b false) h2)
                                            (∀ (p2 : Nat),
                                              onB (decide (a4 = 1))
                                                (wpC Try.prog 25
                                                  [AV.agg
                                                      [AV.i IntKind.i64 a0, AV.i IntKind.i64 a1, AV.i IntKind.i64 a2, a3, AV.i IntKind.i64 a4, AV.i IntKind.i64 a5, AV.i IntKind.i64 a6,
                                                        AV.i IntKind.i64 a7, AV.i IntKind.i64 a8, AV.s a9, AV.i IntKind.i64 0, AV.i IntKind.i64 0],
                                                    AV.agg
                                                      [AV.i IntKind.i64 a0, AV.i IntKind.i64 a1, AV.i IntKind.i64 a2, a3, AV.i IntKind.i64 a4, AV.i IntKind.i64 a5, AV.i IntKind.i64 a6,
                                                        AV.i IntKind.i64 a7, AV.i IntKind.i64 a8, AV.s a9, AV.i IntKind.i64 a10, AV.i IntKind.i64 a11]]
                                                  (fun a3 h3 =>
                                                    onRet [Sh.one Kd.bool] a3 fun c3 =>
                                                      onB c3
                                                        (wpC Try.prog 37 [AV.agg [AV.i IntKind.i64 a7, AV.i IntKind.i64 a8]]
                                                          (fun a4 h4 =>
                                                            onRet [Sh.one Kd.bool] a4 fun c4 =>
                                                              onB c4 (wpC Try.prog 38 [AV.s a9] (fun a5 h5 => onRet [Sh.one Kd.bool] a5 fun c5 => Post (AV.b c5) h5) h4) (Post (AV.b false) h4))
                                                          h3)
                                                        (Post (AV.b false) h3))
                                                  h2)
                                                (onB (decide (a4 = 2))
                                                  (wpC Try.prog 25
                                                    [AV.agg
                                                        [AV.i IntKind.i64 a0, AV.i IntKind.i64 a1, AV.i IntKind.i64 a2, a3, AV.i IntKind.i64 a4, AV.i IntKind.i64 a5, AV.i IntKind.i64 a6,
                                                          AV.i IntKind.i64 0, AV.i IntKind.i64 0, AV.s [], AV.i IntKind.i64 a10, AV.i IntKind.i64 a11],
                                                      AV.agg
                                                        [AV.i IntKind.i64 a0, AV.i IntKind.i64 a1, AV.i IntKind.i64 a2, a3, AV.i IntKind.i64 a4, AV.i IntKind.i64 a5, AV.i IntKind.i64 a6,
                                                          AV.i IntKind.i64 a7, AV.i IntKind.i64 a8, AV.s a9, AV.i IntKind.i64 a10, AV.i IntKind.i64 a11]]
                                                    (fun a6 h6 =>
                                                      onRet [Sh.one Kd.bool] a6 fun c6 =>
                                                        onB c6
                                                          (wpC Try.prog 39 [AV.i IntKind.i64 a10, AV.i IntKind.i64 a11]
                                                            (fun a7 h7 => onRet [Sh.one (Kd.int IntKind.i64)] a7 fun n2 => Post (AV.b (decide (n2 = 0))) h7) h6)
                                                          (Post (AV.b false) h6))
                                                    h2)
                                                  (Post (AV.b false) h2))))
                                      h1))))))
            h0))
    h) := by kernel_rfl
/- arras/op.kind -/
theorem vc69 (a0 : Int) (a1 : Int) (a2 : Int) (a3 : AV) (a4 : Int) (a5 : Int) (a6 : Int) (a7 : Int) (a8 : Int) (a9 : List Nat) (a10 : Int) (a11 : Int) (h : Hp) (Post : AV → Hp → Prop) : vcCall Try.prog [] 69 [(SV.ag [(SV.ii .i64 a0), (SV.ii .i64 a1), (SV.ii .i64 a2), (SV.vv a3), (SV.ii .i64 a4), (SV.ii .i64 a5), (SV.ii .i64 a6), (SV.ii .i64 a7), (SV.ii .i64 a8), (SV.ss a9), (SV.ii .i64 a10), (SV.ii .i64 a11)])] h Post = (
  ∀ (p0 : Nat),
  onB (decide (a4 = 1))
    (wpC Try.prog 75 [AV.agg [AV.i IntKind.i64 a7, AV.i IntKind.i64 a8]]
      (fun a0 h0 =>
        onRet [Sh.one Kd.bool] a0 fun c0 =>
          onB c0
            (wpC Try.prog 76 [AV.s a9]
              (fun a1 h1 => onRet [Sh.one Kd.bool] a1 fun c1 => onB c1 (onB (decide (a10 = 0)) (Post (AV.b (decide (a11 = 0))) h1) (Post (AV.b false) h1)) (Post (AV.b false) h1)) h0)
            (Post (AV.b false) h0))
      h)
    (onB (decide (a4 = 2))
      (wpC Try.prog 77 [AV.i IntKind.i64 a10, AV.i IntKind.i64 a11]
        (fun a2 h2 =>
          onRet [Sh.one Kd.bool] a2 fun c2 =>
            onB c2
              (wpC Try.prog 78 []
                (fun a3 h3 =>
                  onRet [Sh.agg [Kd.int IntKind.i64, Kd.int IntKind.i64]] a3 fun n0 n1 =>
                    onB (decide (a7 = n0) && decide (a8 = n1)) (Post (AV.b (decide (a9 = bytesL { data := #[] }))) h3) (Post (AV.b false) h3))
                h2)
              (Post (AV.b false) h2))
        h)
      (Post (AV.b false) h))) := by kernel_rfl
/- arras/have.Is -/
theorem vc29 (a : AV) (h : Hp) (Post : AV → Hp → Prop) : vcCall Try.prog [0] 29 [(SV.vv a)] h Post = (
  ∃ I0 : Nat → Int → Bool → Hp → Prop,
  (∃ p0, I0 p0 0 false h) ∧
    ∀ (p1 : Nat) (h0 : Hp) (n0 : Int) (c0 : Bool),
      I0 p1 n0 c0 h0 →
        Dup
          (onO (lenV a) fun p2 =>
            onB (decide (n0 = ↑p2)) (onB (decide (1 ≤ n0)) (Post (AV.b (decide (n0 ≤ 16))) h0) (Post (AV.b false) h0))
              (onO (idxV a n0 1) fun r0 =>
                onO (rdH h0 r0.fst r0.snd 1) fun l0 =>
                  onL [Kd.int IntKind.i64] l0 fun n1 =>
                    onB (decide (0 ≤ n1))
                      (onO (idxV a n0 1) fun r1 =>
                        onO (rdH h0 r1.fst r1.snd 1) fun l1 =>
                          onL [Kd.int IntKind.i64] l1 fun n2 =>
                            onB (decide (n2 ≤ 1099511627776)) (onO (intO BinOp.add IntKind.i64 n0 1) fun n3 => ∃ p3, ltN p3 p1 ∧ I0 p3 n3 c0 h0) (Post (AV.b false) h0))
                      (Post (AV.b false) h0)))) := by kernel_rfl
/- arras/arrasref0.EqNumbers -/
theorem vc13 (a : AV) (b : AV) (h : Hp) (Post : AV → Hp → Prop) : vcCall Try.prog [] 13 [(SV.vv a), (SV.vv b)] h Post = (
  onO (lenV a) fun p0 =>
  onO (lenV b) fun p1 =>
    onB (!decide ((↑p0 : Int) = ↑p1)) (Post (AV.b false) h)
      (∃ I0 : Nat → Bool → Int → Hp → Prop,
        (∃ p2, I0 p2 false 0 h) ∧
          ∀ (p3 : Nat) (h0 : Hp) (c0 : Bool) (n0 : Int),
            I0 p3 c0 n0 h0 →
              onO (lenV a) fun p4 =>
                onB (decide (n0 < ↑p4))
                  (onO (idxV a n0 1) fun r0 =>
                    onO (rdH h0 r0.fst r0.snd 1) fun l0 =>
                      onL [Kd.int IntKind.i64] l0 fun n1 =>
                        onO (idxV b n0 1) fun r1 =>
                          onO (rdH h0 r1.fst r1.snd 1) fun l1 =>
                            onL [Kd.int IntKind.i64] l1 fun n2 => onB (!decide (n1 = n2)) (Post (AV.b false) h0) (onO (intO BinOp.add IntKind.i64 n0 1) fun n3 => ∃ p5, ltN p5 p3 ∧ I0 p5 c0 n3 h0))
                  (Post (AV.b true) h0))) := by kernel_rfl
/- arras/arrasref0.EqOp -/
theorem vc25 (a0 : Int) (a1 : Int) (a2 : Int) (a3 : AV) (a4 : Int) (a5 : Int) (a6 : Int) (a7 : Int) (a8 : Int) (a9 : List Nat) (a10 : Int) (a11 : Int) (b0 : Int) (b1 : Int) (b2 : Int) (b3 : AV) (b4 : Int) (b5 : Int) (b6 : Int) (b7 : Int) (b8 : Int) (b9 : List Nat) (b10 : Int) (b11 : Int) (h : Hp) (Post : AV → Hp → Prop) : vcCall Try.prog [] 25 [(SV.ag [(SV.ii .i64 a0), (SV.ii .i64 a1), (SV.ii .i64 a2), (SV.vv a3), (SV.ii .i64 a4), (SV.ii .i64 a5), (SV.ii .i64 a6), (SV.ii .i64 a7), (SV.ii .i64 a8), (SV.ss a9), (SV.ii .i64 a10), (SV.ii .i64 a11)]), (SV.ag [(SV.ii .i64 b0), (SV.ii .i64 b1), (SV.ii .i64 b2), (SV.vv b3), (SV.ii .i64 b4), (SV.ii .i64 b5), (SV.ii .i64 b6), (SV.ii .i64 b7), (SV.ii .i64 b8), (SV.ss b9), (SV.ii .i64 b10), (SV.ii .i64 b11)])] h Post = (
  ∀ (p0 p1 : Nat),
  onB (decide (a0 = b0) && decide (a1 = b1))
    (onB (decide (a2 = b2))
      (wpC Try.prog 13 [a3, b3]
        (fun a0 h0 =>
          onRet [Sh.one Kd.bool] a0 fun c0 =>
            onB c0
              (onB (decide (a4 = b4))
                (onB (decide (a5 = b5) && decide (a6 = b6))
                  (onB (decide (a7 = b7) && decide (a8 = b8)) (onB (decide (a9 = b9)) (onB (decide (a10 = b10)) (Post (AV.b (decide (a11 = b11))) h0) (Post (AV.b false) h0)) (Post (AV.b false) h0))
                    (Post (AV.b false) h0))
                  (Post (AV.b false) h0))
                (Post (AV.b false) h0))
              (Post (AV.b false) h0))
        h)
      (Post (AV.b false) h))
    (Post (AV.b false) h)) := by kernel_rfl
/- arras/arrasref0.CopyNumbers -/
theorem vc19 (a : AV) (h : Hp) (Post : AV → Hp → Prop) : vcCall Try.prog [] 19 [(SV.vv a)] h Post = (
  ∃ I0 : Nat → AV → Int → Hp → Prop,
  (∃ p0, I0 p0 AV.ns 0 h) ∧
    ∀ (p1 : Nat) (h0 : Hp) (a0 : AV),
      a0.sc = true →
        ∀ (n0 : Int),
          I0 p1 a0 n0 h0 →
            onO (lenV a) fun p2 =>
              onB (decide (n0 < ↑p2))
                (onO (idxV a n0 1) fun r0 =>
                  onO (rdH h0 r0.fst r0.snd 1) fun l0 =>
                    onL [Kd.int IntKind.i64] l0 fun n1 =>
                      ∀ (p3 : Nat),
                        wpE (Eff.app a0 1 (Src.lit [AV.i IntKind.i64 n1]) 1) (fun x0 h1 => onO x0 fun a1 => onO (intO BinOp.add IntKind.i64 n0 1) fun n2 => ∃ p4, ltN p4 p1 ∧ I0 p4 a1 n2 h1) h0)
                (Post a0 h0)) := by kernel_rfl
/- slices.Clone[[]int,int] -/
theorem vc33 (a : AV) (h : Hp) (Post : AV → Hp → Prop) : vcCall Try.prog [] 33 [(SV.vv a)] h Post = (
  onO (nilSl a) fun c0 =>
  onB c0 (Post AV.ns h)
    (∀ (p0 : Nat),
      h.g p0 = none →
        h.lo.le p0 →
          onO (srcV 1 a) fun r0 =>
            onC (((4 * r0.fst + 4000) * 8).ble (OfNat.ofNat 17179869184)) (wpE (Eff.app (AV.sl p0 0 0 0 true 1) r0.fst r0.snd 1) (fun x0 h0 => onO x0 fun a0 => Post a0 h0) (h.put p0 [])))) := by kernel_rfl
/- arras/op.Own -/
theorem vc54 (a0 : Int) (a1 : Int) (a2 : Int) (a3 : AV) (a4 : Int) (a5 : Int) (a6 : Int) (a7 : Int) (a8 : Int) (a9 : List Nat) (a10 : Int) (a11 : Int) (h : Hp) (Post : AV → Hp → Prop) : vcCall Try.prog [] 54 [(SV.ag [(SV.ii .i64 a0), (SV.ii .i64 a1), (SV.ii .i64 a2), (SV.vv a3), (SV.ii .i64 a4), (SV.ii .i64 a5), (SV.ii .i64 a6), (SV.ii .i64 a7), (SV.ii .i64 a8), (SV.ss a9), (SV.ii .i64 a10), (SV.ii .i64 a11)])] h Post = (
  ∀ (p0 p1 : Nat),
  wpC Try.prog 33 [a3]
    (fun a0_1 h0 =>
      onRet [Sh.one Kd.ref] a0_1 fun a1_1 =>
        Post
          (AV.agg
            [AV.i IntKind.i64 a0, AV.i IntKind.i64 a1, AV.i IntKind.i64 a2, a1_1, AV.i IntKind.i64 a4, AV.i IntKind.i64 a5, AV.i IntKind.i64 a6, AV.i IntKind.i64 a7, AV.i IntKind.i64 a8, AV.s a9,
              AV.i IntKind.i64 a10, AV.i IntKind.i64 a11])
          h0)
    h) := by kernel_rfl
/-! ### plain -/
noncomputable def numV (x : Int) : Bool := decide (0 ≤ x) && decide (x ≤ 1099511627776)
noncomputable def vecV (l : List Int) : Bool := l.all numV && (decide (1 ≤ l.length) && decide (l.length ≤ 16))
abbrev IR := Kn.int.Row
theorem int_cells {h : Hp} {x : Int} : ∀ c, Kn.int.K h x c → c = [.i .i64 x] := fun c k => k.1
theorem int_flat : Kn.int.Flat := fun h h' x c k => k
section
variable {h : Hp} {a b : AV} {l la lb : List Int} {Post : AV → Hp → Prop}
theorem int0 (r : IR h a l) {k : Nat} {x : Int} (e : l[k]? = some x) {K : Int → Prop} (q : K x) : onO (idxV a (k : Int) 1) fun r0 => onO (rdH h r0.1 r0.2 1) fun l0 => onL [Kd.int .i64] l0 K :=
  r.whole (Int.natCast_nonneg k) (by simpa using e) int_cells rfl (onL.i1 q)
theorem c36 (r : IR h a l) (hb : l.length < 1000000) (k : Post (.b (vecV l)) h) : wpC Try.prog 36 [a] Post h := by
  refine call_sound (args := [.vv a]) (cuts := []) ⟨r.sc, trivial⟩ ?_
  rw [vc36]
  refine ⟨fun m _ i h' => h' = h ∧ ∃ k : Nat, i = k ∧ k ≤ l.length ∧ m = l.length - k ∧ l.all numV = (l.drop k).all numV, ⟨l.length, rfl, 0, rfl, by omega, rfl, rfl⟩, ?_⟩
  rintro m h0 _ _ ⟨rfl, j, rfl, hj, rfl, hp⟩
  refine onO.mk r.len (onB.dec (fun e => ?_) (fun e => ?_))
  · obtain ⟨x, hx⟩ := get_lt (l := l) (k := j) (by omega)
    rw [drop_of hx, List.all_cons] at hp
    refine int0 r hx (c61 (onRet.b (onB.not (fun e1 => ?_) (fun e1 => ?_))))
    · have e1 : numV x = false := e1
      rw [e1, Bool.false_and] at hp
      unfold vecV at k
      rw [hp, Bool.false_and] at k; exact k
    · have e1 : numV x = true := e1
      rw [e1, Bool.true_and] at hp
      exact onO.mk (inc64 (by omega)) ⟨_, by show l.length - (j + 1) < l.length - j; omega, rfl, j + 1, rfl, by omega, rfl, hp⟩
  · have : j = l.length := by omega
    subst this
    rw [List.drop_length] at hp
    unfold vecV at k
    rw [hp, List.all_nil, Bool.true_and] at k
    refine onO.mk r.len (onB.dec (fun e1 => onO.mk r.len ?_) (fun e1 => ?_))
    · have e2 : decide ((l.length : Int) ≤ 16) = decide (l.length ≤ 16) := by rw [decide_eq_decide]; omega
      rw [e2]
      rw [decide_eq_true (show 1 ≤ l.length by omega), Bool.true_and] at k; exact k
    · rw [decide_eq_false (show ¬ 1 ≤ l.length by omega), Bool.false_and] at k; exact k
theorem c29 (r : IR h a l) (hb : l.length < 1000000) (k : Post (.b (vecV l)) h) : wpC Try.prog 29 [a] Post h := by
  refine call_sound (args := [.vv a]) (cuts := [0]) ⟨r.sc, trivial⟩ ?_
  rw [vc29]
  refine ⟨fun m i _ h' => h' = h ∧ ∃ k : Nat, i = k ∧ k ≤ l.length ∧ m = l.length - k ∧ l.all numV = (l.drop k).all numV, ⟨l.length, rfl, 0, rfl, by omega, rfl, rfl⟩, ?_⟩
  rintro m h0 _ _ ⟨rfl, j, rfl, hj, rfl, hp⟩
  refine Dup.mk (onO.mk r.len (onB.dec (fun e => ?_) (fun e => ?_)))
  · have : j = l.length := by omega
    subst this
    rw [List.drop_length] at hp
    unfold vecV at k
    rw [hp, List.all_nil, Bool.true_and] at k
    refine onB.dec (fun e1 => ?_) (fun e1 => ?_)
    · have e2 : decide ((l.length : Int) ≤ 16) = decide (l.length ≤ 16) := by rw [decide_eq_decide]; omega
      rw [e2]
      rw [decide_eq_true (show 1 ≤ l.length by omega), Bool.true_and] at k; exact k
    · rw [decide_eq_false (show ¬ 1 ≤ l.length by omega), Bool.false_and] at k; exact k
  · obtain ⟨x, hx⟩ := get_lt (l := l) (k := j) (by omega)
    rw [drop_of hx, List.all_cons] at hp
    have bad : numV x = false → Post (.b false) h0 := fun e1 => by
      rw [e1, Bool.false_and] at hp
      unfold vecV at k
      rw [hp, Bool.false_and] at k; exact k
    refine int0 r hx (onB.dec (fun e1 => int0 r hx (onB.dec (fun e2 => ?_) (fun e2 => bad (by simp [numV, e2])))) (fun e1 => bad (by simp [numV, e1])))
    have e1 : numV x = true := by simp [numV, e1, e2]
    rw [e1, Bool.true_and] at hp
    exact onO.mk (inc64 (by omega)) ⟨_, by show l.length - (j + 1) < l.length - j; omega, rfl, j + 1, rfl, by omega, rfl, hp⟩
theorem c19 (r : IR h a l) (hb : l.length < 1000000) (k : ∀ r' h', Kn.int.Own h h' r' l → Post r' h') : wpC Try.prog 19 [a] Post h := by
  refine call_sound (args := [.vv a]) (cuts := []) ⟨r.sc, trivial⟩ ?_
  rw [vc19]
  refine ⟨fun m b i h' => ∃ k : Nat, i = k ∧ k ≤ l.length ∧ m = l.length - k ∧ Kn.int.Own h h' b (l.take k), ⟨l.length, 0, rfl, by omega, rfl, Kn.Own.nil _ _⟩, ?_⟩
  rintro m h0 b _ _ ⟨j, rfl, hj, rfl, ow⟩
  refine onO.mk r.len (onB.dec (fun e => ?_) (fun e => ?_))
  · obtain ⟨x, hx⟩ := get_lt (l := l) (k := j) (by omega)
    have r0 : IR h0 a l := r.mono ow.le
    obtain ⟨c, hc⟩ := r0.all (List.mem_of_getElem? hx)
    have := int_cells c hc
    subst this
    refine int0 r0 hx fun _ => ow.app1 rfl int_flat hc (by simp; omega) fun r' h' ow' => ?_
    exact onO.mk rfl (onO.mk (inc64 (by omega)) ⟨_, by show l.length - (j + 1) < l.length - j; omega, j + 1, rfl, by omega, rfl, by rw [take_succ' hx]; exact ow'⟩)
  · have : j = l.length := by omega
    subst this
    rw [List.take_length] at ow
    exact k _ _ ow
theorem c13 (ra : IR h a la) (rb : IR h b lb) (hb : la.length < 1000000) (k : Post (.b (decide (la = lb))) h) : wpC Try.prog 13 [a, b] Post h := by
  refine call_sound (args := [.vv a, .vv b]) (cuts := []) ⟨ra.sc, rb.sc, trivial⟩ ?_
  rw [vc13]
  refine onO.mk ra.len (onO.mk rb.len (onB.ndec (fun e => ?_) (fun e => ?_)))
  · rw [decide_eq_false (fun e' => e (by rw [e']))] at k
    exact k
  · have hl : la.length = lb.length := by omega
    refine ⟨fun m _ i h' => h' = h ∧ ∃ k : Nat, i = k ∧ k ≤ la.length ∧ m = la.length - k ∧ la.take k = lb.take k, ⟨la.length, rfl, 0, rfl, by omega, rfl, by simp⟩, ?_⟩
    rintro m h0 _ _ ⟨rfl, j, rfl, hj, rfl, hp⟩
    refine onO.mk ra.len (onB.dec (fun e => ?_) (fun e => ?_))
    · obtain ⟨x, hx⟩ := get_lt (l := la) (k := j) (by omega)
      obtain ⟨y, hy⟩ := get_lt (l := lb) (k := j) (by omega)
      refine int0 ra hx (int0 rb hy (onB.ndec (fun e1 => ?_) (fun e1 => ?_)))
      · have : la ≠ lb := by
          intro e2; subst e2; rw [hx] at hy; injection hy with hy; exact e1 hy
        rw [decide_eq_false this] at k; exact k
      · subst e1
        exact onO.mk (inc64 (by omega)) ⟨_, by show la.length - (j + 1) < la.length - j; omega, rfl, j + 1, rfl, by omega, rfl, by rw [take_succ' hx, take_succ' hy, hp]⟩
    · have : j = la.length := by omega
      subst this
      rw [List.take_length, hl, List.take_length] at hp
      rw [decide_eq_true hp] at k; exact k
end
/-! ### keys, places -/
noncomputable def keyV (l : List Nat) : Bool := decide (1 ≤ l.length) && (decide (l.length ≤ 64) && !decide (l.getLast? = some 0))
section
variable {h : Hp} {Post : AV → Hp → Prop}
theorem nthL_get : ∀ {α : Type} (l : List α) (i : Nat), nthL l i = l[i]?
  | _, [], _ => rfl
  | _, _ :: _, 0 => rfl
  | _, _ :: l, i + 1 => (nthL_get l i).trans (by simp)
theorem key_body {l : List Nat} (k : Post (.b (keyV l)) h) : onB (decide ((1 : Int) ≤ ↑l.length))
    (onB (decide ((↑l.length : Int) ≤ 64))
      (onO (intO BinOp.sub IntKind.i64 (↑l.length) 1) fun n0 => onO ((natI n0).bind fun j => nthL l j) fun p1 => Post (AV.b !decide ((↑p1 : Int) = 0)) h)
      (Post (AV.b false) h))
    (Post (AV.b false) h) := by
  unfold keyV at k
  refine onB.dec (fun e => onB.dec (fun e1 => ?_) (fun e1 => ?_)) (fun e => ?_)
  · rw [decide_eq_true (show 1 ≤ l.length by omega), decide_eq_true (show l.length ≤ 64 by omega), Bool.true_and, Bool.true_and] at k
    have hs : intO .sub .i64 (l.length : Int) 1 = some ((l.length - 1 : Nat) : Int) := by rw [sub64 (by omega) (by omega)]; congr 1; omega
    obtain ⟨x, hx⟩ := get_lt (l := l) (k := l.length - 1) (by omega)
    refine onO.mk hs (onO.mk (a := x) (by show nthL l (l.length - 1) = some x; rw [nthL_get]; exact hx) ?_)
    have : l.getLast? = some x := by rw [List.getLast?_eq_getElem?]; exact hx
    rw [this] at k
    have e3 : decide ((x : Int) = 0) = decide (some x = some 0) := by rw [decide_eq_decide, Option.some.injEq]; omega
    rw [e3]; exact k
  · rw [decide_eq_false (show ¬ l.length ≤ 64 by omega), Bool.false_and, Bool.and_false] at k; exact k
  · rw [decide_eq_false (show ¬ 1 ≤ l.length by omega), Bool.false_and] at k; exact k
theorem c38 {l : List Nat} (k : Post (.b (keyV l)) h) : wpC Try.prog 38 [.s l] Post h := by
  refine call_sound (args := [.ss l]) (cuts := []) ⟨trivial, trivial⟩ ?_
  rw [vc38]
  exact key_body k
theorem c76 {l : List Nat} (k : Post (.b (keyV l)) h) : wpC Try.prog 76 [.s l] Post h := by
  refine call_sound (args := [.ss l]) (cuts := []) ⟨trivial, trivial⟩ ?_
  rw [vc76]
  exact key_body k
end
/-! ### plain -/
noncomputable def placeV (s : D.Stamp) : Bool := isS s || (decide (s = ⟨0, 0⟩) || decide (s = ⟨0, 1⟩))
noncomputable def kindV (o : D.Op) : Bool :=
  if o.kind = 1 then placeV o.parent && (keyV o.key && (decide (o.prop = 0) && decide (o.value = 0)))
  else if o.kind = 2 then mayP o.prop o.value && (decide (o.parent = ⟨0, 0⟩) && decide (o.key = [])) else false
noncomputable def seqV (o : D.Op) : Bool := match o.deps[o.stamp.rep.toNat]? with
  | some x => decide (o.seq = x + 1) && decide (o.seq ≤ 1099511627776)
  | none => false
noncomputable def mayO (o : D.Op) : Bool := isS o.stamp && (vecV o.deps && (isS o.node && (seqV o && kindV o)))
noncomputable def opC (o : D.Op) (a : AV) : List AV := [.i .i64 o.stamp.time, .i .i64 o.stamp.rep, .i .i64 o.seq, a, .i .i64 o.kind, .i .i64 o.node.time, .i .i64 o.node.rep, .i .i64 o.parent.time, .i .i64 o.parent.rep, .s o.key, .i .i64 o.prop, .i .i64 o.value]
noncomputable def opS (o : D.Op) (a : AV) : SV := .ag [.ii .i64 o.stamp.time, .ii .i64 o.stamp.rep, .ii .i64 o.seq, .vv a, .ii .i64 o.kind, .ii .i64 o.node.time, .ii .i64 o.node.rep, .ii .i64 o.parent.time, .ii .i64 o.parent.rep, .ss o.key, .ii .i64 o.prop, .ii .i64 o.value]
theorem opS_good {o : D.Op} {a : AV} (ha : a.sc = true) : (opS o a).Good (fun _ => 0) 0 := ⟨trivial, trivial, trivial, ha, trivial, trivial, trivial, trivial, trivial, trivial, trivial, trivial, trivial⟩
theorem onRet.a2 {n m : Int} {K : Int → Int → Prop} (k : K n m) : onRet [Sh.agg [Kd.int .i64, Kd.int .i64]] (.agg [.i .i64 n, .i .i64 m]) K := k
theorem stamp_eq {a : D.Stamp} {x y : Int} : (decide (a.time = x) && decide (a.rep = y)) = decide (a = ⟨x, y⟩) := by
  cases a with
  | mk t r =>
    rw [← Bool.decide_and, decide_eq_decide]
    simp
theorem vecV_at {l : List Int} (h : vecV l = true) {k : Nat} {x : Int} (e : l[k]? = some x) : 0 ≤ x ∧ x ≤ 1099511627776 := by
  unfold vecV at h
  simp only [Bool.and_eq_true, List.all_eq_true] at h
  have := h.1 x (List.mem_of_getElem? e)
  simpa [numV] using this
theorem isS_rep {s : D.Stamp} (h : isS s = true) : 0 ≤ s.rep ∧ s.rep < 16 := by
  unfold isS at h
  simp only [Bool.and_eq_true, decide_eq_true_eq] at h
  exact h.2.2
section
variable {h : Hp} {Post : AV → Hp → Prop}
theorem c78 (k : Post (.agg [.i .i64 0, .i .i64 0]) h) : wpC Try.prog 78 [] Post h := by
  refine call_sound (args := []) (cuts := []) trivial ?_
  rw [vc78]; exact fun _ => k
theorem c82 (k : Post (.agg [.i .i64 0, .i .i64 1]) h) : wpC Try.prog 82 [] Post h := by
  refine call_sound (args := []) (cuts := []) trivial ?_
  rw [vc82]; exact fun _ => k
theorem c62 (k : Post (.agg [.i .i64 0, .i .i64 0]) h) : wpC Try.prog 62 [] Post h := by
  refine call_sound (args := []) (cuts := []) trivial ?_
  rw [vc62]; exact fun _ => k
theorem c63 (k : Post (.agg [.i .i64 0, .i .i64 1]) h) : wpC Try.prog 63 [] Post h := by
  refine call_sound (args := []) (cuts := []) trivial ?_
  rw [vc63]; exact fun _ => k
theorem c75 {s : D.Stamp} (k : Post (.b (placeV s)) h) : wpC Try.prog 75 [.agg [.i .i64 s.time, .i .i64 s.rep]] Post h := by
  refine call_sound (args := [.ag [.ii .i64 s.time, .ii .i64 s.rep]]) (cuts := []) ⟨⟨trivial, trivial, trivial⟩, trivial⟩ ?_
  rw [vc75]
  intro _
  unfold placeV at k
  refine c68 (onRet.b (onB.mk (fun e => ?_) (fun e => c78 (onRet.a2 ?_))))
  · rw [e] at k; exact k
  · rw [e, Bool.false_or] at k
    rw [stamp_eq]
    refine onB.mk (fun e1 => ?_) (fun e1 => c82 (onRet.a2 ?_))
    · rw [e1] at k; exact k
    · rw [e1, Bool.false_or] at k
      rw [stamp_eq]; exact k
theorem c37 {s : D.Stamp} (k : Post (.b (placeV s)) h) : wpC Try.prog 37 [.agg [.i .i64 s.time, .i .i64 s.rep]] Post h := by
  refine call_sound (args := [.ag [.ii .i64 s.time, .ii .i64 s.rep]]) (cuts := []) ⟨⟨trivial, trivial, trivial⟩, trivial⟩ ?_
  rw [vc37]
  intro _
  unfold placeV at k
  refine c35 (onRet.b (onB.mk (fun e => ?_) (fun e => c62 (onRet.a2 ?_))))
  · rw [e] at k; exact k
  · rw [e, Bool.false_or] at k
    rw [stamp_eq]
    refine onB.mk (fun e1 => ?_) (fun e1 => c63 (onRet.a2 ?_))
    · rw [e1] at k; exact k
    · rw [e1, Bool.false_or] at k
      rw [stamp_eq]; exact k
theorem c69 {o : D.Op} {a : AV} (ha : a.sc = true) (k : Post (.b (kindV o)) h) : wpC Try.prog 69 [.agg (opC o a)] Post h := by
  refine call_sound (args := [opS o a]) (cuts := []) ⟨opS_good ha, trivial⟩ ?_
  unfold opS
  rw [vc69]
  intro _
  unfold kindV at k
  refine onB.dec (fun e => c75 (onRet.b (onB.mk (fun e1 => c76 (onRet.b (onB.mk (fun e2 => onB.dec (fun e3 => ?_) (fun e3 => ?_)) (fun e2 => ?_)))) (fun e1 => ?_)))) (fun e => onB.dec (fun e0 => c77 (onRet.b (onB.mk (fun e1 => c78 (onRet.a2 ?_)) (fun e1 => ?_)))) (fun e0 => ?_))
  · rw [if_pos e, e1, e2, decide_eq_true e3] at k; exact k
  · rw [if_pos e, e1, e2, decide_eq_false e3] at k; exact k
  · rw [if_pos e, e1, e2] at k; exact k
  · rw [if_pos e, e1] at k; exact k
  · rw [if_neg e, if_pos e0, e1, Bool.true_and] at k
    rw [stamp_eq]
    refine onB.mk (fun e2 => ?_) (fun e2 => ?_)
    · rw [e2, Bool.true_and] at k; exact k
    · rw [e2, Bool.false_and] at k; exact k
  · rw [if_neg e, if_pos e0, e1] at k; exact k
  · rw [if_neg e, if_neg e0] at k; exact k
theorem c51 {o : D.Op} {a : AV} (r : IR h a o.deps) (hb : o.deps.length < 1000000) (k : Post (.b (mayO o)) h) : wpC Try.prog 51 [.agg (opC o a)] Post h := by
  refine call_sound (args := [opS o a]) (cuts := []) ⟨opS_good r.sc, trivial⟩ ?_
  unfold opS
  rw [vc51]
  intro _
  unfold mayO at k
  refine c68 (onRet.b (onB.not (fun e1 => ?_) (fun e1 => c29 r hb (onRet.b (onB.not (fun e2 => ?_) (fun e2 => onO.mk r.len (onB.dec (fun e3 => ?_) (fun e3 => c68 (onRet.b (onB.not (fun e4 => ?_) (fun e4 => ?_)))))))))))
  · rw [e1] at k; exact k
  · rw [e1, e2] at k; exact k
  · have hs : seqV o = false := by
      unfold seqV
      rw [List.getElem?_eq_none (by have := isS_rep e1; omega)]
    rw [hs, Bool.false_and, Bool.and_false, Bool.and_false, Bool.and_false] at k; exact k
  · rw [e1, e2, e4] at k; exact k
  · obtain ⟨g0, g1⟩ := isS_rep e1
    obtain ⟨j, hj⟩ := Int.eq_ofNat_of_zero_le g0
    obtain ⟨x, hx⟩ := get_lt (l := o.deps) (k := j) (by omega)
    have hx2 := vecV_at e2 hx
    have hjt : o.stamp.rep.toNat = j := by omega
    rw [e1, e2, e4, Bool.true_and, Bool.true_and, Bool.true_and] at k
    unfold seqV at k
    rw [hjt, hx] at k
    rw [hj]
    refine int0 r hx (onO.mk (add64 (by omega) (by omega)) (onB.dec (fun e5 => onB.dec (fun e6 => ?_) (fun e6 => ?_)) (fun e5 => ?_)))
    · rw [← hj]
      refine c69 (o := o) r.sc (onRet.b ?_)
      simpa only [decide_eq_true e5, decide_eq_true e6, Bool.true_and] using k
    · simpa only [decide_eq_true e5, decide_eq_false e6, Bool.true_and, Bool.false_and] using k
    · simpa only [decide_eq_false e5, Bool.false_and] using k
theorem c25 {o p : D.Op} {a b : AV} (ra : IR h a o.deps) (rb : IR h b p.deps) (hb : o.deps.length < 1000000) (k : Post (.b (decide (o = p))) h) : wpC Try.prog 25 [.agg (opC o a), .agg (opC p b)] Post h := by
  refine call_sound (args := [opS o a, opS p b]) (cuts := []) ⟨opS_good ra.sc, opS_good rb.sc, trivial⟩ ?_
  unfold opS
  rw [vc25]
  intro _ _
  rw [stamp_eq, stamp_eq, stamp_eq]
  have bad : o ≠ p → Post (.b false) h := fun e => by rw [decide_eq_false e] at k; exact k
  refine onB.dec (fun e1 => onB.dec (fun e2 => c13 ra rb hb (onRet.b (onB.dec (fun e3 => onB.dec (fun e4 => onB.dec (fun e5 => onB.dec (fun e6 => onB.dec (fun e7 => onB.dec (fun e8 => ?_) (fun e8 => bad ?_)) (fun e7 => bad ?_)) (fun e6 => bad ?_)) (fun e5 => bad ?_)) (fun e4 => bad ?_)) (fun e3 => bad ?_)))) (fun e2 => bad ?_)) (fun e1 => bad ?_)
  · have : decide (o.value = p.value) = decide (o = p) := by
      rw [decide_eq_decide]
      constructor
      · intro e9
        cases o; cases p
        simp_all
      · intro e; rw [e]
    rw [this]; exact k
  · intro e; exact e8 (by rw [e])
  · intro e; exact e7 (by rw [e])
  · intro e; subst e; exact e6 rfl
  · intro e; subst e; exact e5 rfl
  · intro e; exact e4 (by rw [e])
  · intro e; exact e3 (by rw [e])
  · intro e; exact e2 (by rw [e])
  · intro e; subst e; exact e1 rfl
end
section
variable {h : Hp} {Post : AV → Hp → Prop}
theorem c11 {o : D.Op} {a : AV} (r : IR h a o.deps) (hb : o.deps.length < 1000000) (k : Post (.b (mayO o)) h) : wpC Try.prog 11 [.agg (opC o a)] Post h := by
  refine call_sound (args := [opS o a]) (cuts := []) ⟨opS_good r.sc, trivial⟩ ?_
  unfold opS
  rw [vc11]
  intro _
  unfold mayO at k
  refine c35 (onRet.b (onB.not (fun e1 => ?_) (fun e1 => c36 r hb (onRet.b (onB.not (fun e2 => ?_) (fun e2 => onO.mk r.len (onB.dec (fun e3 => ?_) (fun e3 => ?_)))))))) 
  · rw [e1] at k; exact k
  · rw [e1, e2] at k; exact k
  · have hs : seqV o = false := by
      unfold seqV
      rw [List.getElem?_eq_none (by have := isS_rep e1; omega)]
    rw [hs, Bool.false_and, Bool.and_false, Bool.and_false, Bool.and_false] at k; exact k
  · obtain ⟨g0, g1⟩ := isS_rep e1
    obtain ⟨j, hj⟩ := Int.eq_ofNat_of_zero_le g0
    obtain ⟨x, hx⟩ := get_lt (l := o.deps) (k := j) (by omega)
    have hx2 := vecV_at e2 hx
    have hjt : o.stamp.rep.toNat = j := by omega
    rw [e1, e2, Bool.true_and, Bool.true_and] at k
    unfold seqV at k
    rw [hjt, hx] at k
    simp only at k
    have bad : (decide (o.seq = x + 1) && decide (o.seq ≤ 1099511627776)) = false → Post (.b false) h := fun e => by
      rw [e, Bool.false_and, Bool.and_false] at k; exact k
    refine onB.dec (fun e4 => bad ?_) (fun e4 => onB.dec (fun e5 => bad ?_) (fun e5 => ?_))
    · rw [decide_eq_false (by omega), Bool.false_and]
    · rw [decide_eq_false (p := o.seq ≤ _) (by omega), Bool.and_false]
    · rw [hj]
      refine int0 r hx (onO.mk (add64 (by omega) (by omega)) (onB.ndec (fun e6 => bad ?_) (fun e6 => ?_)))
      · rw [decide_eq_false e6, Bool.false_and]
      · rw [← hj]
        rw [decide_eq_true e6, decide_eq_true (p := o.seq ≤ _) (by omega), Bool.true_and, Bool.true_and] at k
        refine c35 (onRet.b (onB.not (fun e7 => ?_) (fun e7 => ?_)))
        · rw [e7] at k; exact k
        · rw [e7, Bool.true_and] at k
          unfold kindV at k
          intro _
          refine onB.dec (fun e8 => ?_) (fun e8 => onB.dec (fun e9 => ?_) (fun e9 => ?_))
          · rw [if_pos e8] at k
            refine c25 (o := { o with prop := 0, value := 0 }) (p := o) r r hb (onRet.b ?_)
            have he : decide (({ o with prop := 0, value := 0 } : D.Op) = o) = (decide (o.prop = 0) && decide (o.value = 0)) := by
              rw [← Bool.decide_and, decide_eq_decide]
              constructor
              · intro e; constructor
                · have := congrArg D.Op.prop e; exact this.symm
                · have := congrArg D.Op.value e; exact this.symm
              · rintro ⟨e, e'⟩; cases o; simp_all
            rw [he]
            refine onB.mk (fun e10 => c37 (onRet.b (onB.mk (fun e11 => c38 (onRet.b ?_)) (fun e11 => ?_)))) (fun e10 => ?_)
            · rw [e11, e10, Bool.true_and, Bool.and_true] at k; exact k
            · rw [e11] at k; exact k
            · rw [e10, Bool.and_false, Bool.and_false] at k; exact k
          · rw [if_neg e8, if_pos e9] at k
            refine c25 (o := { o with parent := ⟨0, 0⟩, key := [] }) (p := o) r r hb (onRet.b ?_)
            have he : decide (({ o with parent := ⟨0, 0⟩, key := [] } : D.Op) = o) = (decide (o.parent = ⟨0, 0⟩) && decide (o.key = [])) := by
              rw [← Bool.decide_and, decide_eq_decide]
              constructor
              · intro e; constructor
                · have := congrArg D.Op.parent e; exact this.symm
                · have := congrArg D.Op.key e; exact this.symm
              · rintro ⟨e, e'⟩; cases o; simp_all
            rw [he]
            refine onB.mk (fun e10 => c39 (onRet.i ?_)) (fun e10 => ?_)
            · rw [e10, Bool.and_true] at k
              rw [checkP_ok]; exact k
            · rw [e10, Bool.and_false] at k; exact k
          · rw [if_neg e8, if_neg e9] at k; exact k
end
/-! ### Clone -/
theorem Raw.src {h : Hp} {a : AV} {sz : Nat} {css : List (List AV)} (r : Raw h a sz css) : ∃ s, srcV sz a = some (css.length, s) ∧ srcH h s = some css.flatten := by
  obtain ⟨hc, r⟩ := r
  cases a <;> first | exact r.elim | skip
  · rename_i b o len lo ex z
    obtain ⟨r1, r2, r3, r4⟩ := r
    subst r1; subst r2
    refine ⟨_, by show cond (Nat.beq z z) _ _ = _; rw [Nat.beq_refl, cond_true], ?_⟩
    cases hl : Nat.beq css.length 0 with
    | true =>
      have : css = [] := List.length_eq_zero_iff.1 (beq_eq' hl)
      subst this; rfl
    | false =>
      rcases r4 with r4 | r4
      · subst r4; cases hl
      · exact r4
  all_goals
    have r : css = [] := r
    subst r
    exact ⟨.lit [], rfl, rfl⟩
theorem Raw.nil {h : Hp} {a : AV} {sz : Nat} {css : List (List AV)} (r : Raw h a sz css) : ∃ c, nilSl a = some c ∧ (c = true → css = []) := by
  obtain ⟨hc, r⟩ := r
  cases a <;> first | exact r.elim | skip
  · exact ⟨false, rfl, fun e => by cases e⟩
  · exact ⟨true, rfl, fun _ => r⟩
  · exact ⟨false, rfl, fun e => by cases e⟩
/-- a copy by append to an empty row of its own -/
theorem clone_body {α : Type} {d : Kn α} {h : Hp} {a : AV} {l : List α} {sz nb : Nat} {Post : AV → Hp → Prop} (r : d.Row h a l) (hsz : d.sz = sz) (fl : d.Flat) (hb : l.length < 1000000) (hm : Nat.ble ((4 * l.length + 4000) * nb) 17179869184 = true) (k : ∀ r' h', d.Own h h' r' l → Post r' h') :
    onO (nilSl a) fun c0 => onB c0 (Post AV.ns h) (∀ (p0 : Nat), h.g p0 = none → h.lo.le p0 → onO (srcV sz a) fun r0 =>
      onC (((4 * r0.fst + 4000) * nb).ble (OfNat.ofNat 17179869184)) (wpE (Eff.app (AV.sl p0 0 0 0 true sz) r0.fst r0.snd sz) (fun x0 h0 => onO x0 fun a0 => Post a0 h0) (h.put p0 []))) := by
  subst hsz
  obtain ⟨css, r1, r2⟩ := r
  obtain ⟨c, e1, e2⟩ := r1.nil
  have hl := r2.length
  refine onO.mk e1 (onB.mk (fun e => ?_) (fun _ p hp hlo => ?_))
  · have := e2 e
    subst this
    have : l = [] := List.length_eq_zero_iff.1 hl
    subst this
    exact k _ _ (Kn.Own.nil d h)
  · obtain ⟨s, s1, s2⟩ := r1.src
    refine onO.mk s1 (onC.mk (by rw [← hl]; exact hm) ?_)
    have f := Fresh.put (Hp.le_refl h) rfl hp hlo (css := []) (sz := d.sz) (len := 0) true (fun c hc => by cases hc) rfl (cs := []) rfl
    have ow : d.Own h (h.put p []) (.sl p 0 0 0 true d.sz) [] := ⟨h, [], Hp.le_refl h, rfl, f, .nil⟩
    have s3 : srcH (h.put p []) s = some css.flatten := by
      cases s with
      | lit l => exact s2
      | mem b o n => exact rdH_le (Hp.le_put hp) s2
    exact ow.app rfl fl (r2.mono fun _ _ q => fl _ _ _ _ q) s3 hl (by simp; omega) fun r' h' o' => onO.mk rfl (k _ _ (by simpa using o'))
section
variable {h : Hp} {a : AV} {l : List Int} {Post : AV → Hp → Prop}
theorem c33 (r : IR h a l) (hb : l.length < 1000000) (k : ∀ r' h', Kn.int.Own h h' r' l → Post r' h') : wpC Try.prog 33 [a] Post h := by
  refine call_sound (args := [.vv a]) (cuts := []) ⟨r.sc, trivial⟩ ?_
  rw [vc33]
  exact clone_body r rfl int_flat hb (Nat.ble_eq_true_of_le (by omega)) k
theorem c54 {o : D.Op} (r : IR h a o.deps) (hb : o.deps.length < 1000000) (k : ∀ r' h', Kn.int.Own h h' r' o.deps → Post (.agg (opC o r')) h') : wpC Try.prog 54 [.agg (opC o a)] Post h := by
  refine call_sound (args := [opS o a]) (cuts := []) ⟨opS_good r.sc, trivial⟩ ?_
  unfold opS
  rw [vc54]
  intro _ _
  exact c33 r hb fun r' h' ow => onRet.r ow.sc (k _ _ ow)
end
abbrev OpRow := D.kOp.Row
section
variable {h : Hp} {a b : AV} {l la lb : List D.Op} {Post : AV → Hp → Prop}
theorem op_cells {o : D.Op} {c : List AV} (k : D.kOp.K h o c) : ∃ d, c = opC o d ∧ IR h d o.deps := by
  obtain ⟨d, e, f⟩ := D.kOp_open k
  exact ⟨d, e, f.2.2.2.1.1⟩
theorem onL.op {o : D.Op} {d : AV} (hd : d.sc = true) {K : Int → Int → Int → AV → Int → Int → Int → Int → Int → List Nat → Int → Int → Prop} (q : K o.stamp.time o.stamp.rep o.seq d o.kind o.node.time o.node.rep o.parent.time o.parent.rep o.key o.prop o.value) :
    onL [Kd.int .i64, Kd.int .i64, Kd.int .i64, Kd.ref, Kd.int .i64, Kd.int .i64, Kd.int .i64, Kd.int .i64, Kd.int .i64, Kd.str, Kd.int .i64, Kd.int .i64] (opC o d) K :=
  onRef.mk (K := fun d => K o.stamp.time o.stamp.rep o.seq d o.kind o.node.time o.node.rep o.parent.time o.parent.rep o.key o.prop o.value) hd q
theorem onRet.op {o : D.Op} {d : AV} (hd : d.sc = true) {K : Int → Int → Int → AV → Int → Int → Int → Int → Int → List Nat → Int → Int → Prop} (q : K o.stamp.time o.stamp.rep o.seq d o.kind o.node.time o.node.rep o.parent.time o.parent.rep o.key o.prop o.value) :
    onRet [Sh.agg [Kd.int .i64, Kd.int .i64, Kd.int .i64, Kd.ref, Kd.int .i64, Kd.int .i64, Kd.int .i64, Kd.int .i64, Kd.int .i64, Kd.str, Kd.int .i64, Kd.int .i64]] (.agg (opC o d)) K := by
  unfold onRet onS
  have e : flatV [Sh.agg [Kd.int .i64, Kd.int .i64, Kd.int .i64, Kd.ref, Kd.int .i64, Kd.int .i64, Kd.int .i64, Kd.int .i64, Kd.int .i64, Kd.str, Kd.int .i64, Kd.int .i64]] [.agg (opC o d)] = some (opC o d) := rfl
  rw [e]
  exact onL.op hd q
theorem opW {h1 : Hp} (r : OpRow h a l) (le : h.le h1) {k : Nat} {o : D.Op} (e : l[k]? = some o) {K : Int → Int → Int → AV → Int → Int → Int → Int → Int → List Nat → Int → Int → Prop}
    (q : ∀ d, IR h d o.deps → D.kOp.K h o (opC o d) → K o.stamp.time o.stamp.rep o.seq d o.kind o.node.time o.node.rep o.parent.time o.parent.rep o.key o.prop o.value) :
    onO (idxV a (k : Int) 12) fun r0 => onO (rdH h1 r0.1 r0.2 12) fun l0 => onL [Kd.int .i64, Kd.int .i64, Kd.int .i64, Kd.ref, Kd.int .i64, Kd.int .i64, Kd.int .i64, Kd.int .i64, Kd.int .i64, Kd.str, Kd.int .i64, Kd.int .i64] l0 K := by
  obtain ⟨b, p, c, e1, e2, e3⟩ := r.idx (i := (k : Int)) (Int.natCast_nonneg k) (by simpa using e)
  obtain ⟨d, rfl, e4⟩ := op_cells e3
  exact onO.mk e1 (onO.mk (rdH_le le e2) (onL.op e4.sc (q d e4 e3)))
theorem in64_of {n : Int} (k : In64 n) : Kn.int.K h n [.i .i64 n] := ⟨rfl, k⟩
/-- an operation's cells, with another row of the same deps -/
theorem op_again {o : D.Op} {d d' : AV} (k : D.kOp.K h o (opC o d)) {h' : Hp} (r : IR h' d' o.deps) : D.kOp.K h' o (opC o d') := by
  obtain ⟨d0, e, f1, f2, f3, f4, f5, f6, f7, f8, f9, f10, f11, f12⟩ := D.kOp_open k
  refine ⟨_, _, rfl, ⟨_, _, rfl, in64_of f1, in64_of f2⟩, _, _, rfl, in64_of f3, _, _, rfl, ⟨d', rfl, r, f4.2⟩, _, _, rfl, in64_of f5, _, _, rfl, ⟨_, _, rfl, in64_of f6, in64_of f7⟩, _, _, rfl, ⟨_, _, rfl, in64_of f8, in64_of f9⟩, _, _, rfl, ⟨rfl, f10⟩, _, _, rfl, in64_of f11, in64_of f12⟩
end
/- arras/arraslaw0.Within -/
theorem vc8 (a : Int) (b : Int) (h : Hp) (Post : AV → Hp → Prop) : vcCall Try.prog [] 8 [(SV.ii .i64 a), (SV.ii .i64 b)] h Post = (
  onO (wrO IntKind.u64 a) fun n0 => onO (wrO IntKind.u64 b) fun n1 => onO (intO BinOp.rem IntKind.u64 n0 n1) fun n2 => onO (wrO IntKind.i64 n2) fun n3 => Post (AV.i IntKind.i64 n3) h) := by kernel_rfl
/- arras/arraslaw10.O -/
theorem vc40  (h : Hp) (Post : AV → Hp → Prop) : vcCall Try.prog [] 40 [] h Post = (
  ∀ (p0 p1 : Nat),
  h.g p1 = none →
    h.lo.le p1 →
      Post
        (AV.agg
          [AV.i IntKind.i64 1, AV.i IntKind.i64 0, AV.i IntKind.i64 1, AV.sl p1 0 1 1 true 1, AV.i IntKind.i64 1, AV.i IntKind.i64 1, AV.i IntKind.i64 0, AV.i IntKind.i64 0, AV.i IntKind.i64 0,
            AV.s [107], AV.i IntKind.i64 0, AV.i IntKind.i64 0])
        (h.put p1 [AV.i IntKind.i64 0])) := by kernel_rfl
/-! ### operations with memory of their own -/
noncomputable def intC (l : List Int) : List (List AV) := l.map fun x => [.i .i64 x]
/-- an operation whose deps stand in this part, in a row of its own -/
noncomputable def eOp (q : Hp) (o : D.Op) (c : List AV) : Prop := D.kOp.K q o c ∧ ∃ d, c = opC o d ∧ Fresh (Hp.none q.lo) q d 1 (intC o.deps)
abbrev OpOwn (g h : Hp) (a : AV) (l : List D.Op) : Prop := OwnD eOp 12 g h a l
theorem OpOwn.kn {g h : Hp} {a : AV} {l : List D.Op} (o : OpOwn g h a l) : D.kOp.Own g h a l := OwnD.own o rfl fun _ _ _ e => e.1
theorem ints_css {h : Hp} : ∀ {l : List Int} {css : List (List AV)}, All2 (Kn.int.K h) l css → css = intC l
  | [], _, .nil => rfl
  | _ :: _, _, .cons k t => by rw [k.1, ints_css t]; rfl
theorem Kn.Own.part {g h : Hp} {a : AV} {l : List Int} (o : Kn.int.Own g h a l) : ∃ q, q.le h ∧ Disj q g ∧ q.lo = g.lo ∧ (∀ b, q.g b ≠ none → g.lo ≤ b) ∧ Fresh (Hp.none g.lo) q a 1 (intC l) ∧ IR q a l := by
  obtain ⟨p, css, h0, h1, f, h2⟩ := o
  obtain ⟨q, q1, q2, q3, q4, q5⟩ := f.part
  have e := ints_css h2
  subst e
  rw [h1] at q3 q4 q5
  exact ⟨q, q1, q2.le_right h0, q3, q4, q5, _, q5.row, h2.mono fun _ _ k => k⟩
/-- one more operation, copied -/
theorem OpOwn.snoc {g p p' h' : Hp} {a : AV} {l : List D.Op} {css : List (List AV)} {qs : Nat → Hp} {h : Hp} (o : OwnE eOp 12 g h a l p css qs) (fr : Fresh p' h' a 12 css) (hl : p'.lo = p.lo) {x : D.Op} {d : AV} {h0 : Hp} (kx : D.kOp.K h0 x (opC x d)) {r : AV} (ow : Kn.int.Own p p' r x.deps)
    (hbig : l.length + 1 < 1000000) {Post : Option AV → Hp → Prop} (k : ∀ r h2, OpOwn g h2 r (l ++ [x]) → Post (some r) h2) : wpE (.app a 1 (.lit (opC x r)) 12) Post h' := by
  obtain ⟨q, q1, q2, q3, q4, q5, q6⟩ := ow.part
  have kk := op_again kx q6
  exact OwnE.snoc o fr ow.le hl q1 q2 q3 q4 ⟨kk, r, rfl, by rw [q3]; exact q5⟩ rfl (D.kOp.sc kk) hbig k
noncomputable def lacks (v : List Int) (o : D.Op) : Bool := match v[o.stamp.rep.toNat]? with
  | some x => decide (x < o.seq)
  | none => false
noncomputable def behind (v : List Int) (l : List D.Op) : List D.Op := (l.filter (lacks v)).take 8
theorem mayO_rep {o : D.Op} (h : mayO o = true) : 0 ≤ o.stamp.rep ∧ o.stamp.rep < o.deps.length := by
  unfold mayO at h
  simp only [Bool.and_eq_true] at h
  obtain ⟨h1, h2, h3, h4, h5⟩ := h
  have := isS_rep h1
  refine ⟨this.1, ?_⟩
  unfold seqV at h4
  cases hx : o.deps[o.stamp.rep.toNat]? with
  | none => rw [hx] at h4; cases h4
  | some x => have := (List.getElem?_eq_some_iff.1 hx).1; omega
section
variable {h : Hp} {Post : AV → Hp → Prop}
theorem rem64 {a b : Int} (h : b ≠ 0) : intO .rem .u64 a b = some (a.tmod b) := by
  have : eqI b 0 = false := by
    cases b with
    | ofNat n => cases n with
      | zero => exact absurd rfl h
      | succ n => rfl
    | negSucc n => rfl
  unfold intO intA
  simp only [this, cond_false]
theorem wru64 (n : Int) : wrO .u64 n = some (n % 18446744073709551616) := by unfold wrO; rw [wrap_mod rfl]; rfl
end
section
variable {h : Hp} {Post : AV → Hp → Prop}
theorem op_mk {h : Hp} {o : D.Op} {d : AV} (k1 : In64 o.stamp.time) (k2 : In64 o.stamp.rep) (k3 : In64 o.seq) (r : IR h d o.deps) (k4 : o.deps.length * 8 ≤ 140737488351232) (k5 : In64 o.kind) (k6 : In64 o.node.time) (k7 : In64 o.node.rep) (k8 : In64 o.parent.time) (k9 : In64 o.parent.rep)
    (k10 : o.key.length ≤ 140737488351232) (k11 : ∀ x ∈ o.key, x < 256) (k12 : In64 o.prop) (k13 : In64 o.value) : D.kOp.K h o (opC o d) :=
  ⟨_, _, rfl, ⟨_, _, rfl, in64_of k1, in64_of k2⟩, _, _, rfl, in64_of k3, _, _, rfl, ⟨d, rfl, r, k4⟩, _, _, rfl, in64_of k5, _, _, rfl, ⟨_, _, rfl, in64_of k6, in64_of k7⟩, _, _, rfl, ⟨_, _, rfl, in64_of k8, in64_of k9⟩, _, _, rfl, ⟨rfl, k10, k11⟩, _, _, rfl, in64_of k12, in64_of k13⟩
end
theorem Fresh.putn {g h : Hp} {a : AV} {sz : Nat} {css : List (List AV)} (f : Fresh g h a sz css) {b : Nat} (hb : h.g b = none) (cs : List AV) : Fresh (g.put b cs) (h.put b cs) a sz css := by
  have key : ∀ b' o len lo ex z, a = .sl b' o len lo ex z → b' ≠ b := fun b' o len lo ex z e e' => by
    obtain ⟨_, _, c, n3, _⟩ := f.new _ _ _ _ _ _ e
    rw [e', hb] at n3; cases n3
  refine ⟨fun k c' e => ?_, f.lo, ⟨f.row.1, ?_⟩, fun b' o len lo ex z e => ?_⟩
  · by_cases hk : k = b
    · subst hk; rw [Hp.put_same] at e ⊢; exact e
    · rw [Hp.put_ne _ _ hk] at e ⊢; exact f.le k c' e
  · have r := f.row.2
    cases a <;> first | exact r | skip
    obtain ⟨r1, r2, r3, r4⟩ := r
    refine ⟨r1, r2, r3, r4.imp id fun e => ?_⟩
    unfold rdH at e ⊢
    rw [Hp.put_ne _ _ (key _ _ _ _ _ _ rfl)]; exact e
  · obtain ⟨n1, n2, cs', n3, n4⟩ := f.new _ _ _ _ _ _ e
    have := key _ _ _ _ _ _ e
    exact ⟨by rw [Hp.put_ne _ _ this]; exact n1, n2, cs', by rw [Hp.put_ne _ _ this]; exact n3, n4⟩
open Classical in
/-- what is seen of some blocks -/
noncomputable def Hp.res (h : Hp) (S : Nat → Prop) : Hp := ⟨fun k => if S k then h.g k else Option.none, h.lo⟩
open Classical in
theorem Hp.res_le (h : Hp) (S : Nat → Prop) : (h.res S).le h := fun k c e => by
  have e : (if S k then h.g k else Option.none) = some c := e
  by_cases hs : S k
  · rw [if_pos hs] at e; exact e
  · rw [if_neg hs] at e; cases e
theorem Hp.res_in {h : Hp} {S : Nat → Prop} {k : Nat} (hs : S k) : (h.res S).g k = h.g k := if_pos hs
theorem Hp.res_out {h : Hp} {S : Nat → Prop} {k : Nat} (hs : ¬ S k) : (h.res S).g k = Option.none := if_neg hs
theorem Hp.res_has {h : Hp} {S : Nat → Prop} {k : Nat} {c : List AV} (e : (h.res S).g k = some c) : S k := by
  by_cases hs : S k
  · exact hs
  · rw [Hp.res_out hs] at e; cases e
/-- all of a row of one's own, apart from the rest -/
theorem OwnD.part {α : Type} {E : Hp → α → List AV → Prop} {sz : Nat} {g h : Hp} {a : AV} {l : List α} (o : OwnD E sz g h a l) : ∃ q, q.le h ∧ Disj q g ∧ q.lo = g.lo ∧ OwnD E sz (Hp.none g.lo) q a l := by
  obtain ⟨p, css, qs, o⟩ := o
  have hin : ∀ i k, (qs i).g k ≠ none → h.g k = (qs i).g k := fun i k e => by
    cases hq : (qs i).g k with
    | none => exact absurd hq e
    | some c => exact o.fr.le k c (o.sub i k c hq)
  have hlo : h.lo = g.lo := o.fr.lo.trans o.lo
  refine ⟨h.res fun k => (∃ b of len lo ex z, a = .sl b of len lo ex z ∧ k = b) ∨ ∃ i, (qs i).g k ≠ none, Hp.res_le _ _, fun k c e => ?_, hlo, h.res fun k => ∃ i, (qs i).g k ≠ none, css, qs, none_le _ _, hlo, ?_, o.len, fun i k c e => ?_, fun i k c e => rfl, o.dd, o.qlo, o.own, o.el⟩
  · rcases Hp.res_has e with ⟨b, of, len, lo, ex, z, ea, rfl⟩ | ⟨i, hi⟩
    · exact le_none o.le (o.fr.new _ _ _ _ _ _ ea).1
    · cases hq : (qs i).g k with
      | none => exact absurd hq hi
      | some c' => exact o.dj i k c' hq
  · refine ⟨fun k c e => ?_, rfl, ⟨o.fr.row.1, ?_⟩, fun b of len lo ex z ea => ?_⟩
    · have hk := Hp.res_has e
      rw [Hp.res_in hk] at e
      rw [Hp.res_in (.inr hk)]; exact e
    · have r := o.fr.row.2
      cases a <;> first | exact r | skip
      obtain ⟨r1, r2, r3, r4⟩ := r
      refine ⟨r1, r2, r3, r4.imp id fun e => ?_⟩
      unfold rdH at e ⊢
      rw [Hp.res_in (.inl ⟨_, _, _, _, _, _, rfl, rfl⟩)]; exact e
    · obtain ⟨n1, n2, cs, n3, n4⟩ := o.fr.new _ _ _ _ _ _ ea
      refine ⟨?_, by show h.lo ≤ b; rw [o.fr.lo]; exact n2, cs, ?_, n4⟩
      · apply Hp.res_out
        rintro ⟨i, hi⟩
        cases hq : (qs i).g b with
        | none => exact hi hq
        | some c' => rw [o.sub i b c' hq] at n1; cases n1
      · rw [Hp.res_in (.inl ⟨_, _, _, _, _, _, ea, rfl⟩)]; exact n3
  · have hi : (qs i).g k ≠ none := by rw [e]; simp
    rw [Hp.res_in ⟨i, hi⟩, hin i k hi]; exact e
section
variable {g h : Hp} {a b : AV} {Post : AV → Hp → Prop}
theorem onTup.z {K : Prop} (k : K) : onTup [] (.tup []) K := k
end
section
variable {h : Hp} {a b : AV} {l : List D.Op} {v : List Int} {Post : AV → Hp → Prop}
theorem nsO : OpRow h .ns [] := ⟨[], ⟨fun _ h => (by cases h), rfl⟩, .nil⟩
end
/- arras/hold.IsReady -/
theorem vc42 (a : AV) (b0 : Int) (b1 : Int) (b2 : Int) (b3 : AV) (b4 : Int) (b5 : Int) (b6 : Int) (b7 : Int) (b8 : Int) (b9 : List Nat) (b10 : Int) (b11 : Int) (h : Hp) (Post : AV → Hp → Prop) : vcCall Try.prog [] 42 [(SV.vv a), (SV.ag [(SV.ii .i64 b0), (SV.ii .i64 b1), (SV.ii .i64 b2), (SV.vv b3), (SV.ii .i64 b4), (SV.ii .i64 b5), (SV.ii .i64 b6), (SV.ii .i64 b7), (SV.ii .i64 b8), (SV.ss b9), (SV.ii .i64 b10), (SV.ii .i64 b11)])] h Post = (
  ∀ (p0 : Nat),
  onO (idxV a b1 1) fun r0 =>
    onO (rdH h r0.fst r0.snd 1) fun l0 =>
      onL [Kd.int IntKind.i64] l0 fun n0 =>
        onO (intO BinOp.sub IntKind.i64 b2 1) fun n1 => onB (decide (n0 = n1)) (wpC Try.prog 66 [a, b3] (fun a0 h0 => onRet [Sh.one Kd.bool] a0 fun c0 => Post (AV.b c0) h0) h) (Post (AV.b false) h)) := by kernel_rfl
/- arras/hold.fits -/
theorem vc31 (a : AV) (b0 : Int) (b1 : Int) (b2 : Int) (b3 : AV) (b4 : Int) (b5 : Int) (b6 : Int) (b7 : Int) (b8 : Int) (b9 : List Nat) (b10 : Int) (b11 : Int) (h : Hp) (Post : AV → Hp → Prop) : vcCall Try.prog [] 31 [(SV.vv a), (SV.ag [(SV.ii .i64 b0), (SV.ii .i64 b1), (SV.ii .i64 b2), (SV.vv b3), (SV.ii .i64 b4), (SV.ii .i64 b5), (SV.ii .i64 b6), (SV.ii .i64 b7), (SV.ii .i64 b8), (SV.ss b9), (SV.ii .i64 b10), (SV.ii .i64 b11)])] h Post = (
  ∀ (p0 : Nat),
  wpC Try.prog 51
    [AV.agg
        [AV.i IntKind.i64 b0, AV.i IntKind.i64 b1, AV.i IntKind.i64 b2, b3, AV.i IntKind.i64 b4, AV.i IntKind.i64 b5, AV.i IntKind.i64 b6, AV.i IntKind.i64 b7, AV.i IntKind.i64 b8, AV.s b9,
          AV.i IntKind.i64 b10, AV.i IntKind.i64 b11]]
    (fun a0 h0 => onRet [Sh.one Kd.bool] a0 fun c0 => onB c0 (onO (lenV b3) fun p1 => onO (lenV a) fun p2 => Post (AV.b (decide ((↑p1 : Int) = ↑p2))) h0) (Post (AV.b false) h0)) h) := by kernel_rfl
/- arras/arraslaw14.num -/
theorem vc10 (a : Int) (h : Hp) (Post : AV → Hp → Prop) : vcCall Try.prog [] 10 [(SV.ii .i64 a)] h Post = (
  Post (AV.i IntKind.i64 a) h) := by kernel_rfl
/- arras/arrasref6.Covers -/
theorem vc12 (a : AV) (b : AV) (h : Hp) (Post : AV → Hp → Prop) : vcCall Try.prog [] 12 [(SV.vv a), (SV.vv b)] h Post = (
  ∃ I0 : Nat → Bool → Int → Hp → Prop,
  (∃ p0, I0 p0 false 0 h) ∧
    ∀ (p1 : Nat) (h0 : Hp) (c0 : Bool) (n0 : Int),
      I0 p1 c0 n0 h0 →
        onO (lenV a) fun p2 =>
          onB (decide (n0 < ↑p2))
            (onO (idxV b n0 1) fun r0 =>
              onO (rdH h0 r0.fst r0.snd 1) fun l0 =>
                onL [Kd.int IntKind.i64] l0 fun n1 =>
                  onO (idxV a n0 1) fun r1 =>
                    onO (rdH h0 r1.fst r1.snd 1) fun l1 =>
                      onL [Kd.int IntKind.i64] l1 fun n2 => onB (decide (n2 < n1)) (Post (AV.b false) h0) (onO (intO BinOp.add IntKind.i64 n0 1) fun n3 => ∃ p3, ltN p3 p1 ∧ I0 p3 c0 n3 h0))
            (Post (AV.b true) h0)) := by kernel_rfl
/- arras/have.Over -/
theorem vc66 (a : AV) (b : AV) (h : Hp) (Post : AV → Hp → Prop) : vcCall Try.prog [] 66 [(SV.vv a), (SV.vv b)] h Post = (
  onO (lenV a) fun p0 =>
  ∃ I0 : Nat → Bool → Int → Hp → Prop,
    (∃ p1, I0 p1 false 0 h) ∧
      ∀ (p2 : Nat) (h0 : Hp) (c0 : Bool) (n0 : Int),
        I0 p2 c0 n0 h0 →
          onB (decide (n0 < ↑p0))
            (onO (idxV b n0 1) fun r0 =>
              onO (rdH h0 r0.fst r0.snd 1) fun l0 =>
                onL [Kd.int IntKind.i64] l0 fun n1 =>
                  onO (idxV a n0 1) fun r1 =>
                    onO (rdH h0 r1.fst r1.snd 1) fun l1 =>
                      onL [Kd.int IntKind.i64] l1 fun n2 => onB (decide (n2 < n1)) (Post (AV.b false) h0) (onO (intO BinOp.add IntKind.i64 n0 1) fun n3 => ∃ p3, ltN p3 p2 ∧ I0 p3 c0 n3 h0))
            (Post (AV.b true) h0)) := by kernel_rfl
/- arras/arraslaw14.wakes -/
theorem vc14  (h : Hp) (Post : AV → Hp → Prop) : vcCall Try.prog [] 14 [] h Post = (
  ∀ (p0 : Nat),
  wpC Try.prog 40 []
    (fun a0 h0 =>
      onRet
        [Sh.agg
            [Kd.int IntKind.i64, Kd.int IntKind.i64, Kd.int IntKind.i64, Kd.ref, Kd.int IntKind.i64, Kd.int IntKind.i64, Kd.int IntKind.i64, Kd.int IntKind.i64, Kd.int IntKind.i64, Kd.str,
              Kd.int IntKind.i64, Kd.int IntKind.i64]]
        a0 fun n0 n1 n2 a1 n3 n4 n5 n6 n7 l0 n8 n9 =>
        h0.g p0 = none →
          h0.lo.le p0 →
            wpC Try.prog 9
              [AV.sl p0 0 1 1 true 1, AV.ns,
                AV.agg
                  [AV.i IntKind.i64 n0, AV.i IntKind.i64 n1, AV.i IntKind.i64 n2, a1, AV.i IntKind.i64 n3, AV.i IntKind.i64 n4, AV.i IntKind.i64 n5, AV.i IntKind.i64 n6, AV.i IntKind.i64 n7, AV.s l0,
                    AV.i IntKind.i64 n8, AV.i IntKind.i64 n9]]
              (fun a2 h1 =>
                onTup [Sh.one Kd.ref, Sh.one Kd.ref, Sh.one Kd.ref, Sh.one (Kd.int IntKind.i64)] a2 fun a3 a4 a5 n10 =>
                  wpC Try.prog 10 [AV.i IntKind.i64 n10]
                    (fun a6 h2 =>
                      onRet [Sh.one (Kd.int IntKind.i64)] a6 fun n11 =>
                        onB (decide (n11 = 0))
                          (∀ (p1 : Nat),
                            h2.g p1 = none →
                              h2.lo.le p1 →
                                wpC Try.prog 13 [a3, AV.sl p1 0 1 1 true 1]
                                  (fun a7 h3 =>
                                    onRet [Sh.one Kd.bool] a7 fun c0 =>
                                      onB c0 (onO (lenV a4) fun p2 => onB (decide ((↑p2 : Int) = 0)) (onO (lenV a5) fun p3 => Post (AV.b (decide ((↑p3 : Int) = 1))) h3) (Post (AV.b false) h3)) (Post (AV.b false) h3))
                                  (h2.put p1 [AV.i IntKind.i64 1]))
                          (Post (AV.b false) h2))
                    h1)
              (h0.put p0 [AV.i IntKind.i64 0]))
    h) := by kernel_rfl
/- arras/hold.Take -/
theorem vc9 (a : AV) (b : AV) (c0 : Int) (c1 : Int) (c2 : Int) (c3 : AV) (c4 : Int) (c5 : Int) (c6 : Int) (c7 : Int) (c8 : Int) (c9 : List Nat) (c10 : Int) (c11 : Int) (h : Hp) (Post : AV → Hp → Prop) : vcCall Try.prog [] 9 [(SV.vv a), (SV.vv b), (SV.ag [(SV.ii .i64 c0), (SV.ii .i64 c1), (SV.ii .i64 c2), (SV.vv c3), (SV.ii .i64 c4), (SV.ii .i64 c5), (SV.ii .i64 c6), (SV.ii .i64 c7), (SV.ii .i64 c8), (SV.ss c9), (SV.ii .i64 c10), (SV.ii .i64 c11)])] h Post = (
  ∀ (p0 : Nat),
  wpC Try.prog 29 [a]
    (fun a0 h0 =>
      onRet [Sh.one Kd.bool] a0 fun c0_1 =>
        onB (!c0_1) (Post (AV.tup [AV.ns, AV.ns, AV.ns, AV.i IntKind.i64 1]) h0)
          (wpC Try.prog 30 [a, b]
            (fun a1 h1 =>
              onRet [Sh.one Kd.bool] a1 fun c1_1 =>
                onB (!c1_1) (Post (AV.tup [AV.ns, AV.ns, AV.ns, AV.i IntKind.i64 1]) h1)
                  (wpC Try.prog 31
                    [a,
                      AV.agg
                        [AV.i IntKind.i64 c0, AV.i IntKind.i64 c1, AV.i IntKind.i64 c2, c3, AV.i IntKind.i64 c4, AV.i IntKind.i64 c5, AV.i IntKind.i64 c6, AV.i IntKind.i64 c7, AV.i IntKind.i64 c8,
                          AV.s c9, AV.i IntKind.i64 c10, AV.i IntKind.i64 c11]]
                    (fun a2 h2 =>
                      onRet [Sh.one Kd.bool] a2 fun c2_1 =>
                        onB (!c2_1) (Post (AV.tup [AV.ns, AV.ns, AV.ns, AV.i IntKind.i64 1]) h2)
                          (wpC Try.prog 33 [a]
                            (fun a3 h3 =>
                              onRet [Sh.one Kd.ref] a3 fun a4 =>
                                wpC Try.prog 34 [b]
                                  (fun a5 h4 =>
                                    onRet [Sh.one Kd.ref] a5 fun a6 =>
                                      wpC Try.prog 32
                                        [a4, a6,
                                          AV.agg
                                            [AV.i IntKind.i64 c0, AV.i IntKind.i64 c1, AV.i IntKind.i64 c2, c3, AV.i IntKind.i64 c4, AV.i IntKind.i64 c5, AV.i IntKind.i64 c6, AV.i IntKind.i64 c7,
                                              AV.i IntKind.i64 c8, AV.s c9, AV.i IntKind.i64 c10, AV.i IntKind.i64 c11]]
                                        (fun a7 h5 =>
                                          onTup [Sh.one Kd.ref, Sh.one Kd.ref, Sh.one Kd.ref, Sh.one (Kd.int IntKind.i64)] a7 fun a8 a9 a10 n0 => Post (AV.tup [a8, a9, a10, AV.i IntKind.i64 n0]) h5)
                                        h4)
                                  h3)
                            h2))
                    h1))
            h0))
    h) := by kernel_rfl
/- arras/hold.twin -/
theorem vc50 (a0 : Int) (a1 : Int) (a2 : Int) (a3 : AV) (a4 : Int) (a5 : Int) (a6 : Int) (a7 : Int) (a8 : Int) (a9 : List Nat) (a10 : Int) (a11 : Int) (b0 : Int) (b1 : Int) (b2 : Int) (b3 : AV) (b4 : Int) (b5 : Int) (b6 : Int) (b7 : Int) (b8 : Int) (b9 : List Nat) (b10 : Int) (b11 : Int) (h : Hp) (Post : AV → Hp → Prop) : vcCall Try.prog [] 50 [(SV.ag [(SV.ii .i64 a0), (SV.ii .i64 a1), (SV.ii .i64 a2), (SV.vv a3), (SV.ii .i64 a4), (SV.ii .i64 a5), (SV.ii .i64 a6), (SV.ii .i64 a7), (SV.ii .i64 a8), (SV.ss a9), (SV.ii .i64 a10), (SV.ii .i64 a11)]), (SV.ag [(SV.ii .i64 b0), (SV.ii .i64 b1), (SV.ii .i64 b2), (SV.vv b3), (SV.ii .i64 b4), (SV.ii .i64 b5), (SV.ii .i64 b6), (SV.ii .i64 b7), (SV.ii .i64 b8), (SV.ss b9), (SV.ii .i64 b10), (SV.ii .i64 b11)])] h Post = (
  ∀ (p0 p1 : Nat), onB (decide (a1 = b1)) (Post (AV.b (decide (a2 = b2))) h) (Post (AV.b false) h)) := by kernel_rfl
/- arras/op.Less -/
theorem vc47 (a0 : Int) (a1 : Int) (a2 : Int) (a3 : AV) (a4 : Int) (a5 : Int) (a6 : Int) (a7 : Int) (a8 : Int) (a9 : List Nat) (a10 : Int) (a11 : Int) (b0 : Int) (b1 : Int) (b2 : Int) (b3 : AV) (b4 : Int) (b5 : Int) (b6 : Int) (b7 : Int) (b8 : Int) (b9 : List Nat) (b10 : Int) (b11 : Int) (h : Hp) (Post : AV → Hp → Prop) : vcCall Try.prog [] 47 [(SV.ag [(SV.ii .i64 a0), (SV.ii .i64 a1), (SV.ii .i64 a2), (SV.vv a3), (SV.ii .i64 a4), (SV.ii .i64 a5), (SV.ii .i64 a6), (SV.ii .i64 a7), (SV.ii .i64 a8), (SV.ss a9), (SV.ii .i64 a10), (SV.ii .i64 a11)]), (SV.ag [(SV.ii .i64 b0), (SV.ii .i64 b1), (SV.ii .i64 b2), (SV.vv b3), (SV.ii .i64 b4), (SV.ii .i64 b5), (SV.ii .i64 b6), (SV.ii .i64 b7), (SV.ii .i64 b8), (SV.ss b9), (SV.ii .i64 b10), (SV.ii .i64 b11)])] h Post = (
  ∀ (p0 p1 : Nat),
  wpC Try.prog 67 [AV.agg [AV.i IntKind.i64 a0, AV.i IntKind.i64 a1], AV.agg [AV.i IntKind.i64 b0, AV.i IntKind.i64 b1]]
    (fun a0 h0 => onRet [Sh.one (Kd.int IntKind.i64)] a0 fun n0 => Post (AV.b (decide (n0 < 0))) h0) h) := by kernel_rfl
/- arras/op.OwnAll -/
theorem vc34 (a : AV) (h : Hp) (Post : AV → Hp → Prop) : vcCall Try.prog [] 34 [(SV.vv a)] h Post = (
  wpC Try.prog 60 [a]
  (fun a0 h0 =>
    onRet [Sh.one Kd.ref] a0 fun a1 =>
      onO (lenV a1) fun p0 =>
        ∃ I0 : Nat → Int → Hp → Prop,
          (∃ p1, I0 p1 0 h0) ∧
            ∀ (p2 : Nat) (h1 : Hp) (n0 : Int),
              I0 p2 n0 h1 →
                onB (decide (n0 < ↑p0))
                  (onO (idxV a1 n0 12) fun r0 =>
                    onO (rdH h1 r0.fst r0.snd 12) fun l0 =>
                      onL
                        [Kd.int IntKind.i64, Kd.int IntKind.i64, Kd.int IntKind.i64, Kd.ref, Kd.int IntKind.i64, Kd.int IntKind.i64, Kd.int IntKind.i64, Kd.int IntKind.i64, Kd.int IntKind.i64, Kd.str,
                          Kd.int IntKind.i64, Kd.int IntKind.i64]
                        l0 fun n1 n2 n3 a2 n4 n5 n6 n7 n8 l1 n9 n10 =>
                        wpC Try.prog 54
                          [AV.agg
                              [AV.i IntKind.i64 n1, AV.i IntKind.i64 n2, AV.i IntKind.i64 n3, a2, AV.i IntKind.i64 n4, AV.i IntKind.i64 n5, AV.i IntKind.i64 n6, AV.i IntKind.i64 n7,
                                AV.i IntKind.i64 n8, AV.s l1, AV.i IntKind.i64 n9, AV.i IntKind.i64 n10]]
                          (fun a3 h2 =>
                            onRet
                              [Sh.agg
                                  [Kd.int IntKind.i64, Kd.int IntKind.i64, Kd.int IntKind.i64, Kd.ref, Kd.int IntKind.i64, Kd.int IntKind.i64, Kd.int IntKind.i64, Kd.int IntKind.i64,
                                    Kd.int IntKind.i64, Kd.str, Kd.int IntKind.i64, Kd.int IntKind.i64]]
                              a3 fun n11 n12 n13 a4 n14 n15 n16 n17 n18 l2 n19 n20 =>
                              onO (idxV a1 n0 12) fun r1 =>
                                wpE
                                  (Eff.w r1.fst r1.snd
                                    (Src.lit
                                      [AV.i IntKind.i64 n11, AV.i IntKind.i64 n12, AV.i IntKind.i64 n13, a4, AV.i IntKind.i64 n14, AV.i IntKind.i64 n15, AV.i IntKind.i64 n16, AV.i IntKind.i64 n17,
                                        AV.i IntKind.i64 n18, AV.s l2, AV.i IntKind.i64 n19, AV.i IntKind.i64 n20])
                                    none)
                                  (fun x0 h3 => onO (intO BinOp.add IntKind.i64 n0 1) fun n21 => ∃ p3, ltN p3 p2 ∧ I0 p3 n21 h3) h2)
                          h1)
                  (Post a1 h1))
  h) := by kernel_rfl
/- slices.Delete[[]arras/api.Op,arras/api.Op] -/
theorem vc57 (a : AV) (b : Int) (c : Int) (h : Hp) (Post : AV → Hp → Prop) : vcCall Try.prog [] 57 [(SV.vv a), (SV.ii .i64 b), (SV.ii .i64 c)] h Post = (
  onO (lenV a) fun p0 =>
  onO (slV a (some b) (some c) (some ↑p0) 12) fun a0 =>
    onB (decide (b = c)) (Post a h)
      (onO (lenV a) fun p1 =>
        onO (slV a none (some b) none 12) fun a1 =>
          onO (slV a (some c) none none 12) fun a2 =>
            onO (srcV 12 a2) fun r0 =>
              onC (((4 * r0.fst + 4000) * 120).ble (OfNat.ofNat 17179869184))
                (wpE (Eff.app a1 r0.fst r0.snd 12)
                  (fun x0 h0 =>
                    onO x0 fun a3 =>
                      onO (lenV a3) fun p2 =>
                        onO (slV a3 (some ↑p2) (some ↑p1) none 12) fun a4 =>
                          onO
                            (clearV
                              [AV.i IntKind.i64 0, AV.i IntKind.i64 0, AV.i IntKind.i64 0, AV.ns, AV.i IntKind.i64 0, AV.i IntKind.i64 0, AV.i IntKind.i64 0, AV.i IntKind.i64 0, AV.i IntKind.i64 0,
                                AV.s [], AV.i IntKind.i64 0, AV.i IntKind.i64 0]
                              a4)
                            fun y0 => wpE y0 (fun x1 h1 => Post a3 h1) h0)
                  h))) := by kernel_rfl
/- slices.Clone[[]arras/api.Op,arras/api.Op] -/
theorem vc60 (a : AV) (h : Hp) (Post : AV → Hp → Prop) : vcCall Try.prog [] 60 [(SV.vv a)] h Post = (
  onO (nilSl a) fun c0 =>
  onB c0 (Post AV.ns h)
    (∀ (p0 : Nat),
      h.g p0 = none →
        h.lo.le p0 →
          onO (srcV 12 a) fun r0 =>
            onC (((4 * r0.fst + 4000) * 120).ble (OfNat.ofNat 17179869184)) (wpE (Eff.app (AV.sl p0 0 0 0 true 12) r0.fst r0.snd 12) (fun x0 h0 => onO x0 fun a0 => Post a0 h0) (h.put p0 [])))) := by kernel_rfl
/- arras/hold.keep$1 -/
theorem vc71 (a0 : Int) (a1 : Int) (a2 : Int) (a3 : AV) (a4 : Int) (a5 : Int) (a6 : Int) (a7 : Int) (a8 : Int) (a9 : List Nat) (a10 : Int) (a11 : Int) (b0 : Int) (b1 : Int) (b2 : Int) (b3 : AV) (b4 : Int) (b5 : Int) (b6 : Int) (b7 : Int) (b8 : Int) (b9 : List Nat) (b10 : Int) (b11 : Int) (h : Hp) (Post : AV → Hp → Prop) : vcCall Try.prog [] 71 [(SV.ag [(SV.ii .i64 a0), (SV.ii .i64 a1), (SV.ii .i64 a2), (SV.vv a3), (SV.ii .i64 a4), (SV.ii .i64 a5), (SV.ii .i64 a6), (SV.ii .i64 a7), (SV.ii .i64 a8), (SV.ss a9), (SV.ii .i64 a10), (SV.ii .i64 a11)]), (SV.ag [(SV.ii .i64 b0), (SV.ii .i64 b1), (SV.ii .i64 b2), (SV.vv b3), (SV.ii .i64 b4), (SV.ii .i64 b5), (SV.ii .i64 b6), (SV.ii .i64 b7), (SV.ii .i64 b8), (SV.ss b9), (SV.ii .i64 b10), (SV.ii .i64 b11)])] h Post = (
  ∀ (p0 p1 : Nat),
  wpC Try.prog 47
    [AV.agg
        [AV.i IntKind.i64 a0, AV.i IntKind.i64 a1, AV.i IntKind.i64 a2, a3, AV.i IntKind.i64 a4, AV.i IntKind.i64 a5, AV.i IntKind.i64 a6, AV.i IntKind.i64 a7, AV.i IntKind.i64 a8, AV.s a9,
          AV.i IntKind.i64 a10, AV.i IntKind.i64 a11],
      AV.agg
        [AV.i IntKind.i64 b0, AV.i IntKind.i64 b1, AV.i IntKind.i64 b2, b3, AV.i IntKind.i64 b4, AV.i IntKind.i64 b5, AV.i IntKind.i64 b6, AV.i IntKind.i64 b7, AV.i IntKind.i64 b8, AV.s b9,
          AV.i IntKind.i64 b10, AV.i IntKind.i64 b11]]
    (fun a0_1 h0 =>
      onRet [Sh.one Kd.bool] a0_1 fun c0 =>
        onB c0 (Post (AV.i IntKind.i64 (-1)) h0)
          (wpC Try.prog 47
            [AV.agg
                [AV.i IntKind.i64 b0, AV.i IntKind.i64 b1, AV.i IntKind.i64 b2, b3, AV.i IntKind.i64 b4, AV.i IntKind.i64 b5, AV.i IntKind.i64 b6, AV.i IntKind.i64 b7, AV.i IntKind.i64 b8, AV.s b9,
                  AV.i IntKind.i64 b10, AV.i IntKind.i64 b11],
              AV.agg
                [AV.i IntKind.i64 a0, AV.i IntKind.i64 a1, AV.i IntKind.i64 a2, a3, AV.i IntKind.i64 a4, AV.i IntKind.i64 a5, AV.i IntKind.i64 a6, AV.i IntKind.i64 a7, AV.i IntKind.i64 a8, AV.s a9,
                  AV.i IntKind.i64 a10, AV.i IntKind.i64 a11]]
            (fun a1 h1 => onRet [Sh.one Kd.bool] a1 fun c1 => onB c1 (Post (AV.i IntKind.i64 1) h1) (Post (AV.i IntKind.i64 0) h1)) h0))
    h) := by kernel_rfl
/- arras/hold.keep -/
theorem vc53 (a : AV) (b0 : Int) (b1 : Int) (b2 : Int) (b3 : AV) (b4 : Int) (b5 : Int) (b6 : Int) (b7 : Int) (b8 : Int) (b9 : List Nat) (b10 : Int) (b11 : Int) (h : Hp) (Post : AV → Hp → Prop) : vcCall Try.prog [7999999] 53 [(SV.vv a), (SV.ag [(SV.ii .i64 b0), (SV.ii .i64 b1), (SV.ii .i64 b2), (SV.vv b3), (SV.ii .i64 b4), (SV.ii .i64 b5), (SV.ii .i64 b6), (SV.ii .i64 b7), (SV.ii .i64 b8), (SV.ss b9), (SV.ii .i64 b10), (SV.ii .i64 b11)])] h Post = (
  ∀ (p0 : Nat),
  wpC Try.prog 70
    [a,
      AV.agg
        [AV.i IntKind.i64 b0, AV.i IntKind.i64 b1, AV.i IntKind.i64 b2, b3, AV.i IntKind.i64 b4, AV.i IntKind.i64 b5, AV.i IntKind.i64 b6, AV.i IntKind.i64 b7, AV.i IntKind.i64 b8, AV.s b9,
          AV.i IntKind.i64 b10, AV.i IntKind.i64 b11],
      AV.f 71 []]
    (fun a0 h0 =>
      onTup [Sh.one (Kd.int IntKind.i64), Sh.one Kd.bool] a0 fun n0 c0 =>
        onB c0 (∃ I0 : AV → Int → Hp → Prop, I0 AV.ns 5 h0 ∧ ∀ (h1 : Hp) (a1 : AV), a1.sc = true → ∀ (n1 : Int), I0 a1 n1 h1 → Post (AV.tup [a1, AV.i IntKind.i64 n1]) h1)
          (onO (lenV a) fun p1 =>
            onB (decide ((↑p1 : Int) = 16)) (∃ I1 : AV → Int → Hp → Prop, I1 AV.ns 5 h0 ∧ ∀ (h2 : Hp) (a2 : AV), a2.sc = true → ∀ (n2 : Int), I1 a2 n2 h2 → Post (AV.tup [a2, AV.i IntKind.i64 n2]) h2)
              (wpC Try.prog 54
                [AV.agg
                    [AV.i IntKind.i64 b0, AV.i IntKind.i64 b1, AV.i IntKind.i64 b2, b3, AV.i IntKind.i64 b4, AV.i IntKind.i64 b5, AV.i IntKind.i64 b6, AV.i IntKind.i64 b7, AV.i IntKind.i64 b8,
                      AV.s b9, AV.i IntKind.i64 b10, AV.i IntKind.i64 b11]]
                (fun a3 h3 =>
                  onRet
                    [Sh.agg
                        [Kd.int IntKind.i64, Kd.int IntKind.i64, Kd.int IntKind.i64, Kd.ref, Kd.int IntKind.i64, Kd.int IntKind.i64, Kd.int IntKind.i64, Kd.int IntKind.i64, Kd.int IntKind.i64, Kd.str,
                          Kd.int IntKind.i64, Kd.int IntKind.i64]]
                    a3 fun n3 n4 n5 a4 n6 n7 n8 n9 n10 l0 n11 n12 =>
                    ∀ (p2 : Nat),
                      h3.g p2 = none →
                        h3.lo.le p2 →
                          wpC Try.prog 72 [a, AV.i IntKind.i64 n0, AV.sl p2 0 1 1 true 12] (fun a5 h4 => onRet [Sh.one Kd.ref] a5 fun a6 => Post (AV.tup [a6, AV.i IntKind.i64 0]) h4)
                            (h3.put p2
                              [AV.i IntKind.i64 n3, AV.i IntKind.i64 n4, AV.i IntKind.i64 n5, a4, AV.i IntKind.i64 n6, AV.i IntKind.i64 n7, AV.i IntKind.i64 n8, AV.i IntKind.i64 n9,
                                AV.i IntKind.i64 n10, AV.s l0, AV.i IntKind.i64 n11, AV.i IntKind.i64 n12]))
                h0)))
    h) := by kernel_rfl
/- arras/hold.May -/
theorem vc30 (a : AV) (b : AV) (h : Hp) (Post : AV → Hp → Prop) : vcCall Try.prog [0] 30 [(SV.vv a), (SV.vv b)] h Post = (
  ∀ (p0 : Nat),
  h.g p0 = none →
    h.lo.le p0 →
      ∃ I0 : Nat → Int → Bool → Hp → Prop,
        (∃ p1,
            I0 p1 0 false
              (h.put p0
                [AV.i IntKind.i64 0, AV.i IntKind.i64 0, AV.i IntKind.i64 0, AV.ns, AV.i IntKind.i64 0, AV.i IntKind.i64 0, AV.i IntKind.i64 0, AV.i IntKind.i64 0, AV.i IntKind.i64 0, AV.s [],
                  AV.i IntKind.i64 0, AV.i IntKind.i64 0])) ∧
          ∀ (p2 : Nat) (h0 : Hp) (n0 : Int) (c0 : Bool),
            I0 p2 n0 c0 h0 →
              Dup
                (onO (lenV b) fun p3 =>
                  onB (decide (n0 = ↑p3)) (Post (AV.b (decide (n0 ≤ 16))) h0)
                    (onO (idxV b n0 12) fun r0 =>
                      onO (rdH h0 r0.fst r0.snd 12) fun l0 =>
                        onL
                          [Kd.int IntKind.i64, Kd.int IntKind.i64, Kd.int IntKind.i64, Kd.ref, Kd.int IntKind.i64, Kd.int IntKind.i64, Kd.int IntKind.i64, Kd.int IntKind.i64, Kd.int IntKind.i64,
                            Kd.str, Kd.int IntKind.i64, Kd.int IntKind.i64]
                          l0 fun n1 n2 n3 a0 n4 n5 n6 n7 n8 l1 n9 n10 =>
                          wpE
                            (Eff.w p0 0
                              (Src.lit
                                [AV.i IntKind.i64 n1, AV.i IntKind.i64 n2, AV.i IntKind.i64 n3, a0, AV.i IntKind.i64 n4, AV.i IntKind.i64 n5, AV.i IntKind.i64 n6, AV.i IntKind.i64 n7,
                                  AV.i IntKind.i64 n8, AV.s l1, AV.i IntKind.i64 n9, AV.i IntKind.i64 n10])
                              none)
                            (fun x0 h1 =>
                              onO (rdH h1 p0 0 12) fun l2 =>
                                onL
                                  [Kd.int IntKind.i64, Kd.int IntKind.i64, Kd.int IntKind.i64, Kd.ref, Kd.int IntKind.i64, Kd.int IntKind.i64, Kd.int IntKind.i64, Kd.int IntKind.i64,
                                    Kd.int IntKind.i64, Kd.str, Kd.int IntKind.i64, Kd.int IntKind.i64]
                                  l2 fun n11 n12 n13 a1 n14 n15 n16 n17 n18 l3 n19 n20 =>
                                  wpC Try.prog 31
                                    [a,
                                      AV.agg
                                        [AV.i IntKind.i64 n11, AV.i IntKind.i64 n12, AV.i IntKind.i64 n13, a1, AV.i IntKind.i64 n14, AV.i IntKind.i64 n15, AV.i IntKind.i64 n16, AV.i IntKind.i64 n17,
                                          AV.i IntKind.i64 n18, AV.s l3, AV.i IntKind.i64 n19, AV.i IntKind.i64 n20]]
                                    (fun a2 h2 =>
                                      onRet [Sh.one Kd.bool] a2 fun c1 =>
                                        onB (!c1) (Post (AV.b false) h2)
                                          (onO (rdH h2 p0 2 1) fun l4 =>
                                            onL [Kd.int IntKind.i64] l4 fun n21 =>
                                              onO (rdH h2 p0 1 1) fun l5 =>
                                                onL [Kd.int IntKind.i64] l5 fun n22 =>
                                                  onO (idxV a n22 1) fun r1 =>
                                                    onO (rdH h2 r1.fst r1.snd 1) fun l6 =>
                                                      onL [Kd.int IntKind.i64] l6 fun n23 =>
                                                        onB (decide (n21 ≤ n23)) (Post (AV.b false) h2)
                                                          (onO (rdH h2 p0 0 12) fun l7 =>
                                                            onL
                                                              [Kd.int IntKind.i64, Kd.int IntKind.i64, Kd.int IntKind.i64, Kd.ref, Kd.int IntKind.i64, Kd.int IntKind.i64, Kd.int IntKind.i64,
                                                                Kd.int IntKind.i64, Kd.int IntKind.i64, Kd.str, Kd.int IntKind.i64, Kd.int IntKind.i64]
                                                              l7 fun n24 n25 n26 a3 n27 n28 n29 n30 n31 l8 n32 n33 =>
                                                              wpC Try.prog 42
                                                                [a,
                                                                  AV.agg
                                                                    [AV.i IntKind.i64 n24, AV.i IntKind.i64 n25, AV.i IntKind.i64 n26, a3, AV.i IntKind.i64 n27, AV.i IntKind.i64 n28,
                                                                      AV.i IntKind.i64 n29, AV.i IntKind.i64 n30, AV.i IntKind.i64 n31, AV.s l8, AV.i IntKind.i64 n32, AV.i IntKind.i64 n33]]
                                                                (fun a4 h3 =>
                                                                  onRet [Sh.one Kd.bool] a4 fun c2 =>
                                                                    onB c2 (Post (AV.b false) h3)
                                                                      (onB (decide (0 < n0))
                                                                        (onO (intO BinOp.sub IntKind.i64 n0 1) fun n34 =>
                                                                          onO (idxV b n34 12) fun r2 =>
                                                                            onO (rdH h3 r2.fst r2.snd 12) fun l9 =>
                                                                              onL
                                                                                [Kd.int IntKind.i64, Kd.int IntKind.i64, Kd.int IntKind.i64, Kd.ref, Kd.int IntKind.i64, Kd.int IntKind.i64,
                                                                                  Kd.int IntKind.i64, Kd.int IntKind.i64, Kd.int IntKind.i64, Kd.str, Kd.int IntKind.i64, Kd.int IntKind.i64]
                                                                                l9 fun n35 n36 n37 a5 n38 n39 n40 n41 n42 l10 n43 n44 =>
                                                                                onO (rdH h3 p0 0 12) fun l11 =>
                                                                                  onL
                                                                                    [Kd.int IntKind.i64, Kd.int IntKind.i64, Kd.int IntKind.i64, Kd.ref, Kd.int IntKind.i64, Kd.int IntKind.i64,
                                                                                      Kd.int IntKind.i64, Kd.int IntKind.i64, Kd.int IntKind.i64, Kd.str, Kd.int IntKind.i64, Kd.int IntKind.i64]
                                                                                    l11 fun n45 n46 n47 a6 n48 n49 n50 n51 n52 l12 n53 n54 =>
                                                                                    wpC Try.prog 47
                                                                                      [AV.agg
                                                                                          [AV.i IntKind.i64 n35, AV.i IntKind.i64 n36, AV.i IntKind.i64 n37, a5, AV.i IntKind.i64 n38,
                                                                                            AV.i IntKind.i64 n39, AV.i IntKind.i64 n40, AV.i IntKind.i64 n41, AV.i IntKind.i64 n42, AV.s l10,
                                                                                            AV.i IntKind.i64 n43, AV.i IntKind.i64 n44],
                                                                                        AV.agg
                                                                                          [AV.i IntKind.i64 n45, AV.i IntKind.i64 n46, AV.i IntKind.i64 n47, a6, AV.i IntKind.i64 n48,
                                                                                            AV.i IntKind.i64 n49, AV.i IntKind.i64 n50, AV.i IntKind.i64 n51, AV.i IntKind.i64 n52, AV.s l12,
                                                                                            AV.i IntKind.i64 n53, AV.i IntKind.i64 n54]]
                                                                                      (fun a7 h4 =>
                                                                                        onRet [Sh.one Kd.bool] a7 fun c3 =>
                                                                                          onB (!c3) (Post (AV.b false) h4)
                                                                                            (onO (slV b none (some n0) none 12) fun a8 =>
                                                                                              wpC Try.prog 48 [a8, AV.f 49 [AV.p p0 0]]
                                                                                                (fun a9 h5 =>
                                                                                                  onRet [Sh.one Kd.bool] a9 fun c4 =>
                                                                                                    onB (!c4) (onO (intO BinOp.add IntKind.i64 n0 1) fun n55 => ∃ p4, ltN p4 p2 ∧ I0 p4 n55 c0 h5)
                                                                                                      (Post (AV.b false) h5))
                                                                                                h4))
                                                                                      h3)
                                                                        (onO (slV b none (some n0) none 12) fun a10 =>
                                                                          wpC Try.prog 48 [a10, AV.f 49 [AV.p p0 0]]
                                                                            (fun a11 h6 =>
                                                                              onRet [Sh.one Kd.bool] a11 fun c5 =>
                                                                                onB (!c5) (onO (intO BinOp.add IntKind.i64 n0 1) fun n56 => ∃ p5, ltN p5 p2 ∧ I0 p5 n56 c0 h6) (Post (AV.b false) h6))
                                                                            h3)))
                                                                h2)))
                                    h1)
                            h0))) := by kernel_rfl
/- arras/hold.Let -/
theorem vc32 (a : AV) (b : AV) (c0 : Int) (c1 : Int) (c2 : Int) (c3 : AV) (c4 : Int) (c5 : Int) (c6 : Int) (c7 : Int) (c8 : Int) (c9 : List Nat) (c10 : Int) (c11 : Int) (h : Hp) (Post : AV → Hp → Prop) : vcCall Try.prog [0,
 5000024] 32 [(SV.vv a), (SV.vv b), (SV.ag [(SV.ii .i64 c0), (SV.ii .i64 c1), (SV.ii .i64 c2), (SV.vv c3), (SV.ii .i64 c4), (SV.ii .i64 c5), (SV.ii .i64 c6), (SV.ii .i64 c7), (SV.ii .i64 c8), (SV.ss c9), (SV.ii .i64 c10), (SV.ii .i64 c11)])] h Post = (
  ∀ (p0 p1 : Nat),
  h.g p1 = none →
    h.lo.le p1 →
      ∃ I0 : Bool → Hp → Prop,
        (onO
            (rdH
              (h.put p1
                [AV.i IntKind.i64 c0, AV.i IntKind.i64 c1, AV.i IntKind.i64 c2, c3, AV.i IntKind.i64 c4, AV.i IntKind.i64 c5, AV.i IntKind.i64 c6, AV.i IntKind.i64 c7, AV.i IntKind.i64 c8, AV.s c9,
                  AV.i IntKind.i64 c10, AV.i IntKind.i64 c11])
              p1 1 1)
            fun l0 =>
            onL [Kd.int IntKind.i64] l0 fun n0 =>
              onO (idxV a n0 1) fun r0 =>
                onO
                  (rdH
                    (h.put p1
                      [AV.i IntKind.i64 c0, AV.i IntKind.i64 c1, AV.i IntKind.i64 c2, c3, AV.i IntKind.i64 c4, AV.i IntKind.i64 c5, AV.i IntKind.i64 c6, AV.i IntKind.i64 c7, AV.i IntKind.i64 c8,
                        AV.s c9, AV.i IntKind.i64 c10, AV.i IntKind.i64 c11])
                    r0.fst r0.snd 1)
                  fun l1 =>
                  onL [Kd.int IntKind.i64] l1 fun n1 =>
                    onO
                      (rdH
                        (h.put p1
                          [AV.i IntKind.i64 c0, AV.i IntKind.i64 c1, AV.i IntKind.i64 c2, c3, AV.i IntKind.i64 c4, AV.i IntKind.i64 c5, AV.i IntKind.i64 c6, AV.i IntKind.i64 c7, AV.i IntKind.i64 c8,
                            AV.s c9, AV.i IntKind.i64 c10, AV.i IntKind.i64 c11])
                        p1 2 1)
                      fun l2 =>
                      onL [Kd.int IntKind.i64] l2 fun n2 =>
                        onB (decide (n2 ≤ n1))
                          (I0 true
                            (h.put p1
                              [AV.i IntKind.i64 c0, AV.i IntKind.i64 c1, AV.i IntKind.i64 c2, c3, AV.i IntKind.i64 c4, AV.i IntKind.i64 c5, AV.i IntKind.i64 c6, AV.i IntKind.i64 c7,
                                AV.i IntKind.i64 c8, AV.s c9, AV.i IntKind.i64 c10, AV.i IntKind.i64 c11]))
                          (wpC Try.prog 48 [b, AV.f 52 [AV.p p1 0]] (fun a0 h0 => onRet [Sh.one Kd.bool] a0 fun c0 => I0 c0 h0)
                            (h.put p1
                              [AV.i IntKind.i64 c0, AV.i IntKind.i64 c1, AV.i IntKind.i64 c2, c3, AV.i IntKind.i64 c4, AV.i IntKind.i64 c5, AV.i IntKind.i64 c6, AV.i IntKind.i64 c7,
                                AV.i IntKind.i64 c8, AV.s c9, AV.i IntKind.i64 c10, AV.i IntKind.i64 c11]))) ∧
          ∀ (h1 : Hp) (c1 : Bool),
            I0 c1 h1 →
              onB c1 (Post (AV.tup [a, b, AV.ns, AV.i IntKind.i64 0]) h1)
                (onO (rdH h1 p1 0 12) fun l3 =>
                  onL
                    [Kd.int IntKind.i64, Kd.int IntKind.i64, Kd.int IntKind.i64, Kd.ref, Kd.int IntKind.i64, Kd.int IntKind.i64, Kd.int IntKind.i64, Kd.int IntKind.i64, Kd.int IntKind.i64, Kd.str,
                      Kd.int IntKind.i64, Kd.int IntKind.i64]
                    l3 fun n3 n4 n5 a1 n6 n7 n8 n9 n10 l4 n11 n12 =>
                    wpC Try.prog 42
                      [a,
                        AV.agg
                          [AV.i IntKind.i64 n3, AV.i IntKind.i64 n4, AV.i IntKind.i64 n5, a1, AV.i IntKind.i64 n6, AV.i IntKind.i64 n7, AV.i IntKind.i64 n8, AV.i IntKind.i64 n9, AV.i IntKind.i64 n10,
                            AV.s l4, AV.i IntKind.i64 n11, AV.i IntKind.i64 n12]]
                      (fun a2 h2 =>
                        onRet [Sh.one Kd.bool] a2 fun c2 =>
                          onB (!c2)
                            (onO (rdH h2 p1 0 12) fun l5 =>
                              onL
                                [Kd.int IntKind.i64, Kd.int IntKind.i64, Kd.int IntKind.i64, Kd.ref, Kd.int IntKind.i64, Kd.int IntKind.i64, Kd.int IntKind.i64, Kd.int IntKind.i64, Kd.int IntKind.i64,
                                  Kd.str, Kd.int IntKind.i64, Kd.int IntKind.i64]
                                l5 fun n13 n14 n15 a3 n16 n17 n18 n19 n20 l6 n21 n22 =>
                                wpC Try.prog 53
                                  [b,
                                    AV.agg
                                      [AV.i IntKind.i64 n13, AV.i IntKind.i64 n14, AV.i IntKind.i64 n15, a3, AV.i IntKind.i64 n16, AV.i IntKind.i64 n17, AV.i IntKind.i64 n18, AV.i IntKind.i64 n19,
                                        AV.i IntKind.i64 n20, AV.s l6, AV.i IntKind.i64 n21, AV.i IntKind.i64 n22]]
                                  (fun a4 h3 =>
                                    onTup [Sh.one Kd.ref, Sh.one (Kd.int IntKind.i64)] a4 fun a5 n23 =>
                                      onB (!decide (n23 = 0)) (Post (AV.tup [AV.ns, AV.ns, AV.ns, AV.i IntKind.i64 n23]) h3) (Post (AV.tup [a, a5, AV.ns, AV.i IntKind.i64 0]) h3))
                                  h2)
                            (h2.g p0 = none →
                              h2.lo.le p0 →
                                ∃ I1 : Nat → Int → AV → AV → AV → AV → Int → Hp → Prop,
                                  (∃ p2, I1 p2 0 b AV.ns AV.ns AV.ns 0 (h2.put p0 [a])) ∧
                                    ∀ (p3 : Nat) (h4 : Hp) (n24 : Int) (a6 : AV),
                                      a6.sc = true →
                                        ∀ (a7 : AV),
                                          a7.sc = true →
                                            ∀ (a8 : AV),
                                              a8.sc = true →
                                                ∀ (a9 : AV),
                                                  a9.sc = true →
                                                    ∀ (n25 : Int),
                                                      I1 p3 n24 a6 a7 a8 a9 n25 h4 →
                                                        Dup
                                                          (onO (rdH h4 p0 0 1) fun l7 =>
                                                            onL [Kd.ref] l7 fun a10 =>
                                                              onO (rdH h4 p1 1 1) fun l8 =>
                                                                onL [Kd.int IntKind.i64] l8 fun n26 =>
                                                                  onO (rdH h4 p1 2 1) fun l9 =>
                                                                    onL [Kd.int IntKind.i64] l9 fun n27 =>
                                                                      onO (idxV a10 n26 1) fun r1 =>
                                                                        wpE (Eff.w r1.fst r1.snd (Src.lit [AV.i IntKind.i64 n27]) none)
                                                                          (fun x0 h5 =>
                                                                            onO (rdH h5 p1 0 12) fun l10 =>
                                                                              onL
                                                                                [Kd.int IntKind.i64, Kd.int IntKind.i64, Kd.int IntKind.i64, Kd.ref, Kd.int IntKind.i64, Kd.int IntKind.i64,
                                                                                  Kd.int IntKind.i64, Kd.int IntKind.i64, Kd.int IntKind.i64, Kd.str, Kd.int IntKind.i64, Kd.int IntKind.i64]
                                                                                l10 fun n28 n29 n30 a11 n31 n32 n33 n34 n35 l11 n36 n37 =>
                                                                                wpC Try.prog 54
                                                                                  [AV.agg
                                                                                      [AV.i IntKind.i64 n28, AV.i IntKind.i64 n29, AV.i IntKind.i64 n30, a11, AV.i IntKind.i64 n31,
                                                                                        AV.i IntKind.i64 n32, AV.i IntKind.i64 n33, AV.i IntKind.i64 n34, AV.i IntKind.i64 n35, AV.s l11,
                                                                                        AV.i IntKind.i64 n36, AV.i IntKind.i64 n37]]
                                                                                  (fun a12 h6 =>
                                                                                    onRet
                                                                                      [Sh.agg
                                                                                          [Kd.int IntKind.i64, Kd.int IntKind.i64, Kd.int IntKind.i64, Kd.ref, Kd.int IntKind.i64, Kd.int IntKind.i64,
                                                                                            Kd.int IntKind.i64, Kd.int IntKind.i64, Kd.int IntKind.i64, Kd.str, Kd.int IntKind.i64, Kd.int IntKind.i64]]
                                                                                      a12 fun n38 n39 n40 a13 n41 n42 n43 n44 n45 l12 n46 n47 =>
                                                                                      ∀ (p4 : Nat),
                                                                                        wpE
                                                                                          (Eff.app a9 1
                                                                                            (Src.lit
                                                                                              [AV.i IntKind.i64 n38, AV.i IntKind.i64 n39, AV.i IntKind.i64 n40, a13, AV.i IntKind.i64 n41,
                                                                                                AV.i IntKind.i64 n42, AV.i IntKind.i64 n43, AV.i IntKind.i64 n44, AV.i IntKind.i64 n45, AV.s l12,
                                                                                                AV.i IntKind.i64 n46, AV.i IntKind.i64 n47])
                                                                                            12)
                                                                                          (fun x1 h7 =>
                                                                                            onO x1 fun a14 =>
                                                                                              wpC Try.prog 55 [a6, AV.f 56 [AV.p p0 0]]
                                                                                                (fun a15 h8 =>
                                                                                                  onRet [Sh.one (Kd.int IntKind.i64)] a15 fun n48 =>
                                                                                                    onB (decide (0 ≤ n48))
                                                                                                      (onO (idxV a6 n48 12) fun r2 =>
                                                                                                        onO (rdH h8 r2.fst r2.snd 12) fun l13 =>
                                                                                                          onL
                                                                                                            [Kd.int IntKind.i64, Kd.int IntKind.i64, Kd.int IntKind.i64, Kd.ref, Kd.int IntKind.i64,
                                                                                                              Kd.int IntKind.i64, Kd.int IntKind.i64, Kd.int IntKind.i64, Kd.int IntKind.i64, Kd.str,
                                                                                                              Kd.int IntKind.i64, Kd.int IntKind.i64]
                                                                                                            l13 fun n49 n50 n51 a16 n52 n53 n54 n55 n56 l14 n57 n58 =>
                                                                                                            wpE
                                                                                                              (Eff.w p1 0
                                                                                                                (Src.lit
                                                                                                                  [AV.i IntKind.i64 n49, AV.i IntKind.i64 n50, AV.i IntKind.i64 n51, a16,
                                                                                                                    AV.i IntKind.i64 n52, AV.i IntKind.i64 n53, AV.i IntKind.i64 n54,
                                                                                                                    AV.i IntKind.i64 n55, AV.i IntKind.i64 n56, AV.s l14, AV.i IntKind.i64 n57,
                                                                                                                    AV.i IntKind.i64 n58])
                                                                                                                none)
                                                                                                              (fun x2 h9 =>
                                                                                                                onO (intO BinOp.add IntKind.i64 n48 1) fun n59 =>
                                                                                                                  wpC Try.prog 57 [a6, AV.i IntKind.i64 n48, AV.i IntKind.i64 n59]
                                                                                                                    (fun a17 h10 =>
                                                                                                                      onRet [Sh.one Kd.ref] a17 fun a18 =>
                                                                                                                        ∃ p5, ltN p5 p3 ∧ I1 p5 n48 a18 a7 a8 a14 n25 h10)
                                                                                                                    h9)
                                                                                                              h8)
                                                                                                      (wpC Try.prog 58 [a6, AV.f 59 [AV.p p0 0]]
                                                                                                        (fun a19 h11 =>
                                                                                                          onRet [Sh.one Kd.ref] a19 fun a20 =>
                                                                                                            onO (rdH h11 p0 0 1) fun l15 =>
                                                                                                              onL [Kd.ref] l15 fun a21 => Post (AV.tup [a21, a20, a14, AV.i IntKind.i64 0]) h11)
                                                                                                        h8))
                                                                                                h7)
                                                                                          h6)
                                                                                  h5)
                                                                          h4)))
                      h1)) := by kernel_rfl
/- arras/hold.May$1 -/
theorem vc49 (x0 : Int) (x1 : Int) (x2 : Int) (x3 : AV) (x4 : Int) (x5 : Int) (x6 : Int) (x7 : Int) (x8 : Int) (x9 : List Nat) (x10 : Int) (x11 : Int) (p : AV) (h : Hp) (Post : AV → Hp → Prop) : vcCall Try.prog [] 49 [.ag [.ii .i64 x0, .ii .i64 x1, .ii .i64 x2, .vv x3, .ii .i64 x4, .ii .i64 x5, .ii .i64 x6, .ii .i64 x7, .ii .i64 x8, .ss x9, .ii .i64 x10, .ii .i64 x11], .vv p] h Post = (
  ∀ (p0 : Nat),
  onO (ptrV p) fun r0 =>
    onO (rdH h r0.fst r0.snd 12) fun l0 =>
      onL
        [Kd.int IntKind.i64, Kd.int IntKind.i64, Kd.int IntKind.i64, Kd.ref, Kd.int IntKind.i64, Kd.int IntKind.i64, Kd.int IntKind.i64, Kd.int IntKind.i64, Kd.int IntKind.i64, Kd.str,
          Kd.int IntKind.i64, Kd.int IntKind.i64]
        l0 fun n0 n1 n2 a0 n3 n4 n5 n6 n7 l1 n8 n9 =>
        wpC Try.prog 50
          [AV.agg
              [AV.i IntKind.i64 x0, AV.i IntKind.i64 x1, AV.i IntKind.i64 x2, x3, AV.i IntKind.i64 x4, AV.i IntKind.i64 x5, AV.i IntKind.i64 x6, AV.i IntKind.i64 x7, AV.i IntKind.i64 x8, AV.s x9,
                AV.i IntKind.i64 x10, AV.i IntKind.i64 x11],
            AV.agg
              [AV.i IntKind.i64 n0, AV.i IntKind.i64 n1, AV.i IntKind.i64 n2, a0, AV.i IntKind.i64 n3, AV.i IntKind.i64 n4, AV.i IntKind.i64 n5, AV.i IntKind.i64 n6, AV.i IntKind.i64 n7, AV.s l1,
                AV.i IntKind.i64 n8, AV.i IntKind.i64 n9]]
          (fun a1 h0 => onRet [Sh.one Kd.bool] a1 fun c0 => Post (AV.b c0) h0) h) := by kernel_rfl
/- arras/hold.Let$1 -/
theorem vc52 (x0 : Int) (x1 : Int) (x2 : Int) (x3 : AV) (x4 : Int) (x5 : Int) (x6 : Int) (x7 : Int) (x8 : Int) (x9 : List Nat) (x10 : Int) (x11 : Int) (p : AV) (h : Hp) (Post : AV → Hp → Prop) : vcCall Try.prog [] 52 [.ag [.ii .i64 x0, .ii .i64 x1, .ii .i64 x2, .vv x3, .ii .i64 x4, .ii .i64 x5, .ii .i64 x6, .ii .i64 x7, .ii .i64 x8, .ss x9, .ii .i64 x10, .ii .i64 x11], .vv p] h Post = (
  ∀ (p0 : Nat),
  onO (ptrV p) fun r0 =>
    onO (rdH h r0.fst r0.snd 12) fun l0 =>
      onL
        [Kd.int IntKind.i64, Kd.int IntKind.i64, Kd.int IntKind.i64, Kd.ref, Kd.int IntKind.i64, Kd.int IntKind.i64, Kd.int IntKind.i64, Kd.int IntKind.i64, Kd.int IntKind.i64, Kd.str,
          Kd.int IntKind.i64, Kd.int IntKind.i64]
        l0 fun n0 n1 n2 a0 n3 n4 n5 n6 n7 l1 n8 n9 =>
        wpC Try.prog 50
          [AV.agg
              [AV.i IntKind.i64 x0, AV.i IntKind.i64 x1, AV.i IntKind.i64 x2, x3, AV.i IntKind.i64 x4, AV.i IntKind.i64 x5, AV.i IntKind.i64 x6, AV.i IntKind.i64 x7, AV.i IntKind.i64 x8, AV.s x9,
                AV.i IntKind.i64 x10, AV.i IntKind.i64 x11],
            AV.agg
              [AV.i IntKind.i64 n0, AV.i IntKind.i64 n1, AV.i IntKind.i64 n2, a0, AV.i IntKind.i64 n3, AV.i IntKind.i64 n4, AV.i IntKind.i64 n5, AV.i IntKind.i64 n6, AV.i IntKind.i64 n7, AV.s l1,
                AV.i IntKind.i64 n8, AV.i IntKind.i64 n9]]
          (fun a1 h0 => onRet [Sh.one Kd.bool] a1 fun c0 => Post (AV.b c0) h0) h) := by kernel_rfl
/- arras/hold.Let$2 -/
theorem vc56 (x0 : Int) (x1 : Int) (x2 : Int) (x3 : AV) (x4 : Int) (x5 : Int) (x6 : Int) (x7 : Int) (x8 : Int) (x9 : List Nat) (x10 : Int) (x11 : Int) (p : AV) (h : Hp) (Post : AV → Hp → Prop) : vcCall Try.prog [] 56 [.ag [.ii .i64 x0, .ii .i64 x1, .ii .i64 x2, .vv x3, .ii .i64 x4, .ii .i64 x5, .ii .i64 x6, .ii .i64 x7, .ii .i64 x8, .ss x9, .ii .i64 x10, .ii .i64 x11], .vv p] h Post = (
  ∀ (p0 : Nat),
  onO (ptrV p) fun r0 =>
    onO (rdH h r0.fst r0.snd 1) fun l0 =>
      onL [Kd.ref] l0 fun a0 =>
        wpC Try.prog 42
          [a0,
            AV.agg
              [AV.i IntKind.i64 x0, AV.i IntKind.i64 x1, AV.i IntKind.i64 x2, x3, AV.i IntKind.i64 x4, AV.i IntKind.i64 x5, AV.i IntKind.i64 x6, AV.i IntKind.i64 x7, AV.i IntKind.i64 x8, AV.s x9,
                AV.i IntKind.i64 x10, AV.i IntKind.i64 x11]]
          (fun a1 h0 => onRet [Sh.one Kd.bool] a1 fun c0 => Post (AV.b c0) h0) h) := by kernel_rfl
/- arras/hold.Let$3 -/
theorem vc59 (x0 : Int) (x1 : Int) (x2 : Int) (x3 : AV) (x4 : Int) (x5 : Int) (x6 : Int) (x7 : Int) (x8 : Int) (x9 : List Nat) (x10 : Int) (x11 : Int) (p : AV) (h : Hp) (Post : AV → Hp → Prop) : vcCall Try.prog [] 59 [.ag [.ii .i64 x0, .ii .i64 x1, .ii .i64 x2, .vv x3, .ii .i64 x4, .ii .i64 x5, .ii .i64 x6, .ii .i64 x7, .ii .i64 x8, .ss x9, .ii .i64 x10, .ii .i64 x11], .vv p] h Post = (
  ∀ (p0 : Nat),
  onO (ptrV p) fun r0 =>
    onO (rdH h r0.fst r0.snd 1) fun l0 =>
      onL [Kd.ref] l0 fun a0 => onO (idxV a0 x1 1) fun r1 => onO (rdH h r1.fst r1.snd 1) fun l1 => onL [Kd.int IntKind.i64] l1 fun n0 => Post (AV.b (decide (x2 ≤ n0))) h) := by kernel_rfl
/- slices.ContainsFunc[[]arras/api.Op,arras/api.Op] -/
theorem vc48 (a : AV) (b : AV) (h : Hp) (Post : AV → Hp → Prop) : vcCall Try.prog [] 48 [(SV.vv a), (SV.vv b)] h Post = (
  wpC Try.prog 55 [a, b] (fun a0 h0 => onRet [Sh.one (Kd.int IntKind.i64)] a0 fun n0 => Post (AV.b (decide (0 ≤ n0))) h0) h) := by kernel_rfl
/- slices.IndexFunc[[]arras/api.Op,arras/api.Op] -/
theorem vc55 (a : AV) (b : AV) (h : Hp) (Post : AV → Hp → Prop) : vcCall Try.prog [] 55 [(SV.vv a), (SV.vv b)] h Post = (
  onO (lenV a) fun p0 =>
  ∃ I0 : Nat → Int → Int → Hp → Prop,
    (∃ p1, I0 p1 0 0 h) ∧
      ∀ (p2 : Nat) (h0 : Hp) (n0 n1 : Int),
        I0 p2 n0 n1 h0 →
          onB (decide (n1 < ↑p0))
            (onO (idxV a n1 12) fun r0 =>
              onO (rdH h0 r0.fst r0.snd 12) fun l0 =>
                onL
                  [Kd.int IntKind.i64, Kd.int IntKind.i64, Kd.int IntKind.i64, Kd.ref, Kd.int IntKind.i64, Kd.int IntKind.i64, Kd.int IntKind.i64, Kd.int IntKind.i64, Kd.int IntKind.i64, Kd.str,
                    Kd.int IntKind.i64, Kd.int IntKind.i64]
                  l0 fun n2 n3 n4 a0 n5 n6 n7 n8 n9 l1 n10 n11 =>
                  onO (fnV b) fun r1 =>
                    onC (fnOk Try.prog r1.fst)
                      (wpC Try.prog r1.fst
                        (AV.agg
                            [AV.i IntKind.i64 n2, AV.i IntKind.i64 n3, AV.i IntKind.i64 n4, a0, AV.i IntKind.i64 n5, AV.i IntKind.i64 n6, AV.i IntKind.i64 n7, AV.i IntKind.i64 n8, AV.i IntKind.i64 n9,
                              AV.s l1, AV.i IntKind.i64 n10, AV.i IntKind.i64 n11] ::
                            r1.snd)
                        (fun a1 h1 => onRet [Sh.one Kd.bool] a1 fun c0 => onB c0 (Post (AV.i IntKind.i64 n1) h1) (onO (intO BinOp.add IntKind.i64 n1 1) fun n12 => ∃ p3, ltN p3 p2 ∧ I0 p3 n0 n12 h1))
                        h0))
            (Post (AV.i IntKind.i64 (-1)) h0)) := by kernel_rfl
/- slices.DeleteFunc[[]arras/api.Op,arras/api.Op] -/
theorem vc58 (a : AV) (b : AV) (h : Hp) (Post : AV → Hp → Prop) : vcCall Try.prog [] 58 [(SV.vv a), (SV.vv b)] h Post = (
  wpC Try.prog 55 [a, b]
  (fun a0 h0 =>
    onRet [Sh.one (Kd.int IntKind.i64)] a0 fun n0 =>
      onB (decide (n0 = -1)) (Post a h0)
        (onO (intO BinOp.add IntKind.i64 n0 1) fun n1 =>
          ∃ I0 : Nat → Int → Int → Hp → Prop,
            (∃ p0, I0 p0 n0 n1 h0) ∧
              ∀ (p1 : Nat) (h1 : Hp) (n2 n3 : Int),
                I0 p1 n2 n3 h1 →
                  onO (lenV a) fun p2 =>
                    onB (decide (n3 < ↑p2))
                      (onO (idxV a n3 12) fun r0 =>
                        onO (rdH h1 r0.fst r0.snd 12) fun l0 =>
                          onL
                            [Kd.int IntKind.i64, Kd.int IntKind.i64, Kd.int IntKind.i64, Kd.ref, Kd.int IntKind.i64, Kd.int IntKind.i64, Kd.int IntKind.i64, Kd.int IntKind.i64, Kd.int IntKind.i64,
                              Kd.str, Kd.int IntKind.i64, Kd.int IntKind.i64]
                            l0 fun n4 n5 n6 a1 n7 n8 n9 n10 n11 l1 n12 n13 =>
                            ∀ (p3 : Nat),
                              onO (fnV b) fun r1 =>
                                onC (fnOk Try.prog r1.fst)
                                  (wpC Try.prog r1.fst
                                    (AV.agg
                                        [AV.i IntKind.i64 n4, AV.i IntKind.i64 n5, AV.i IntKind.i64 n6, a1, AV.i IntKind.i64 n7, AV.i IntKind.i64 n8, AV.i IntKind.i64 n9, AV.i IntKind.i64 n10,
                                          AV.i IntKind.i64 n11, AV.s l1, AV.i IntKind.i64 n12, AV.i IntKind.i64 n13] ::
                                        r1.snd)
                                    (fun a2 h2 =>
                                      onRet [Sh.one Kd.bool] a2 fun c0 =>
                                        onB (!c0)
                                          (onO (idxV a n2 12) fun r2 =>
                                            wpE
                                              (Eff.w r2.fst r2.snd
                                                (Src.lit
                                                  [AV.i IntKind.i64 n4, AV.i IntKind.i64 n5, AV.i IntKind.i64 n6, a1, AV.i IntKind.i64 n7, AV.i IntKind.i64 n8, AV.i IntKind.i64 n9,
                                                    AV.i IntKind.i64 n10, AV.i IntKind.i64 n11, AV.s l1, AV.i IntKind.i64 n12, AV.i IntKind.i64 n13])
                                                none)
                                              (fun x0 h3 => onO (intO BinOp.add IntKind.i64 n2 1) fun n14 => onO (intO BinOp.add IntKind.i64 n3 1) fun n15 => ∃ p4, ltN p4 p1 ∧ I0 p4 n14 n15 h3) h2)
                                          (onO (intO BinOp.add IntKind.i64 n3 1) fun n16 => ∃ p5, ltN p5 p1 ∧ I0 p5 n2 n16 h2))
                                    h1))
                      (onO (slV a (some n2) none none 12) fun a3 =>
                        onO
                          (clearV
                            [AV.i IntKind.i64 0, AV.i IntKind.i64 0, AV.i IntKind.i64 0, AV.ns, AV.i IntKind.i64 0, AV.i IntKind.i64 0, AV.i IntKind.i64 0, AV.i IntKind.i64 0, AV.i IntKind.i64 0,
                              AV.s [], AV.i IntKind.i64 0, AV.i IntKind.i64 0]
                            a3)
                          fun y0 => wpE y0 (fun x1 h4 => onO (slV a none (some n2) none 12) fun a4 => Post a4 h4) h1)))
  h) := by kernel_rfl
/- slices.BinarySearchFunc[[]arras/api.Op,arras/api.Op,arras/api.Op] -/
theorem vc70 (a : AV) (x0 : Int) (x1 : Int) (x2 : Int) (x3 : AV) (x4 : Int) (x5 : Int) (x6 : Int) (x7 : Int) (x8 : Int) (x9 : List Nat) (x10 : Int) (x11 : Int) (h : Hp) (Post : AV → Hp → Prop) : vcCall Try.prog [] 70 [.vv a, .ag [.ii .i64 x0, .ii .i64 x1, .ii .i64 x2, .vv x3, .ii .i64 x4, .ii .i64 x5, .ii .i64 x6, .ii .i64 x7, .ii .i64 x8, .ss x9, .ii .i64 x10, .ii .i64 x11], .ff 71 []] h Post = (
  ∀ (p0 : Nat),
  onO (lenV a) fun p1 =>
    ∃ I0 : Nat → Int → Int → Hp → Prop,
      (∃ p2, I0 p2 0 (↑p1) h) ∧
        ∀ (p3 : Nat) (h0 : Hp) (n0 n1 : Int),
          I0 p3 n0 n1 h0 →
            onB (decide (n0 < n1))
              (onO (intO BinOp.add IntKind.i64 n0 n1) fun n2 =>
                onO (wrO IntKind.u64 n2) fun n3 =>
                  onO (shO BinOp.shr IntKind.u64 n3 1) fun n4 =>
                    onO (wrO IntKind.i64 n4) fun n5 =>
                      onO (idxV a n5 12) fun r0 =>
                        onO (rdH h0 r0.fst r0.snd 12) fun l0 =>
                          onL
                            [Kd.int IntKind.i64, Kd.int IntKind.i64, Kd.int IntKind.i64, Kd.ref, Kd.int IntKind.i64, Kd.int IntKind.i64, Kd.int IntKind.i64, Kd.int IntKind.i64, Kd.int IntKind.i64,
                              Kd.str, Kd.int IntKind.i64, Kd.int IntKind.i64]
                            l0 fun n6 n7 n8 a0 n9 n10 n11 n12 n13 l1 n14 n15 =>
                            wpC Try.prog (OfNat.ofNat 71)
                              [AV.agg
                                  [AV.i IntKind.i64 n6, AV.i IntKind.i64 n7, AV.i IntKind.i64 n8, a0, AV.i IntKind.i64 n9, AV.i IntKind.i64 n10, AV.i IntKind.i64 n11, AV.i IntKind.i64 n12,
                                    AV.i IntKind.i64 n13, AV.s l1, AV.i IntKind.i64 n14, AV.i IntKind.i64 n15],
                                AV.agg
                                  [AV.i IntKind.i64 x0, AV.i IntKind.i64 x1, AV.i IntKind.i64 x2, x3, AV.i IntKind.i64 x4, AV.i IntKind.i64 x5, AV.i IntKind.i64 x6, AV.i IntKind.i64 x7,
                                    AV.i IntKind.i64 x8, AV.s x9, AV.i IntKind.i64 x10, AV.i IntKind.i64 x11]]
                              (fun a1 h1 =>
                                onRet [Sh.one (Kd.int IntKind.i64)] a1 fun n16 =>
                                  onB (decide (n16 < 0)) (onO (intO BinOp.add IntKind.i64 n5 1) fun n17 => ∃ p4, ltN p4 p3 ∧ I0 p4 n17 n1 h1) (∃ p5, ltN p5 p3 ∧ I0 p5 n0 n5 h1))
                              h0)
              (onB (decide (n0 < ↑p1))
                (onO (idxV a n0 12) fun r1 =>
                  onO (rdH h0 r1.fst r1.snd 12) fun l2 =>
                    onL
                      [Kd.int IntKind.i64, Kd.int IntKind.i64, Kd.int IntKind.i64, Kd.ref, Kd.int IntKind.i64, Kd.int IntKind.i64, Kd.int IntKind.i64, Kd.int IntKind.i64, Kd.int IntKind.i64, Kd.str,
                        Kd.int IntKind.i64, Kd.int IntKind.i64]
                      l2 fun n18 n19 n20 a2 n21 n22 n23 n24 n25 l3 n26 n27 =>
                      wpC Try.prog (OfNat.ofNat 71)
                        [AV.agg
                            [AV.i IntKind.i64 n18, AV.i IntKind.i64 n19, AV.i IntKind.i64 n20, a2, AV.i IntKind.i64 n21, AV.i IntKind.i64 n22, AV.i IntKind.i64 n23, AV.i IntKind.i64 n24,
                              AV.i IntKind.i64 n25, AV.s l3, AV.i IntKind.i64 n26, AV.i IntKind.i64 n27],
                          AV.agg
                            [AV.i IntKind.i64 x0, AV.i IntKind.i64 x1, AV.i IntKind.i64 x2, x3, AV.i IntKind.i64 x4, AV.i IntKind.i64 x5, AV.i IntKind.i64 x6, AV.i IntKind.i64 x7, AV.i IntKind.i64 x8,
                              AV.s x9, AV.i IntKind.i64 x10, AV.i IntKind.i64 x11]]
                        (fun a3 h2 => onRet [Sh.one (Kd.int IntKind.i64)] a3 fun n28 => Post (AV.tup [AV.i IntKind.i64 n0, AV.b (decide (n28 = 0))]) h2) h0)
                (Post (AV.tup [AV.i IntKind.i64 n0, AV.b false]) h0))) := by kernel_rfl
/-! ### plain -/
noncomputable def coverV (v d : List Int) : Bool := decide (∀ k, k < v.length → d.getD k 0 ≤ v.getD k 0)
noncomputable def readyV (v : List Int) (o : D.Op) : Bool := decide (v.getD o.stamp.rep.toNat 0 = o.seq - 1) && coverV v o.deps
noncomputable def fitsO (v : List Int) (o : D.Op) : Bool := mayO o && decide (o.deps.length = v.length)
noncomputable def twinO (a b : D.Op) : Bool := decide (a.stamp.rep = b.stamp.rep) && decide (a.seq = b.seq)
theorem fits_rep {v : List Int} {o : D.Op} (h : fitsO v o = true) : ∃ r : Nat, o.stamp.rep = r ∧ r < v.length ∧ 1 ≤ o.seq ∧ o.seq ≤ 1099511627776 ∧ o.deps.length = v.length ∧ mayO o = true := by
  unfold fitsO at h
  rw [Bool.and_eq_true, decide_eq_true_eq] at h
  obtain ⟨h1, h2⟩ := h
  obtain ⟨g1, g2⟩ := mayO_rep h1
  have h0 := h1
  unfold mayO at h0
  simp only [Bool.and_eq_true] at h0
  obtain ⟨_, hv, _, hs, _⟩ := h0
  obtain ⟨r, hr⟩ := Int.eq_ofNat_of_zero_le g1
  obtain ⟨x, hx⟩ := get_lt (l := o.deps) (k := r) (by omega)
  unfold seqV at hs
  rw [show o.stamp.rep.toNat = r by omega, hx] at hs
  have hx2 := vecV_at hv hx
  simp only [Bool.and_eq_true, decide_eq_true_eq] at hs
  exact ⟨r, hr, by omega, by omega, by omega, h2, h1⟩
theorem getD_some {l : List Int} {k : Nat} {x : Int} (h : l[k]? = some x) : l.getD k 0 = x := by rw [List.getD_eq_getElem?_getD, h]; rfl
section
variable {g h : Hp} {a b c d : AV} {v : List Int} {l m : List D.Op} {o p : D.Op} {Post : AV → Hp → Prop}
theorem c10 {n : Int} (k : Post (.i .i64 n) h) : wpC Try.prog 10 [.i .i64 n] Post h := by
  refine call_sound (args := [.ii .i64 n]) (cuts := []) ⟨trivial, trivial⟩ ?_
  rw [vc10]; exact k
theorem c12 {e : List Int} (ra : IR h a v) (rb : IR h b e) (hl : v.length ≤ e.length) (hb : e.length < 1000000) (k : Post (.b (coverV v e)) h) : wpC Try.prog 12 [a, b] Post h := by
  refine call_sound (args := [.vv a, .vv b]) (cuts := []) ⟨ra.sc, rb.sc, trivial⟩ ?_
  rw [vc12]
  refine ⟨fun m _ n0 h' => h = h' ∧ ∃ j : Nat, n0 = j ∧ j ≤ v.length ∧ m = v.length - j ∧ ∀ k, k < j → e.getD k 0 ≤ v.getD k 0, ⟨v.length, rfl, 0, rfl, by omega, rfl, fun k hk => by omega⟩, ?_⟩
  rintro m _ _ _ ⟨rfl, j, rfl, hj, rfl, hp⟩
  refine onO.mk ra.len (onB.dec (fun e1 => ?_) (fun e1 => ?_))
  · obtain ⟨x, hx⟩ := get_lt (l := v) (k := j) (by omega)
    obtain ⟨y, hy⟩ := get_lt (l := e) (k := j) (by omega)
    refine int0 rb hy (int0 ra hx (onB.dec (fun e2 => ?_) (fun e2 => ?_)))
    · have : coverV v e = false := decide_eq_false fun q => by
        have := q j (by omega)
        rw [getD_some hx, getD_some hy] at this; omega
      rw [this] at k; exact k
    · exact onO.mk (inc64 (by omega)) ⟨_, by show v.length - (j + 1) < v.length - j; omega, rfl, j + 1, rfl, by omega, rfl, fun k hk => by
        rcases Nat.lt_or_ge k j with h | h
        · exact hp k h
        · have : k = j := by omega
          subst this
          rw [getD_some hx, getD_some hy]; omega⟩
  · have : coverV v e = true := decide_eq_true fun k hk => hp k (by omega)
    rw [this] at k; exact k
theorem c66 {e : List Int} (ra : IR h a v) (rb : IR h b e) (hl : v.length ≤ e.length) (hb : e.length < 1000000) (k : Post (.b (coverV v e)) h) : wpC Try.prog 66 [a, b] Post h := by
  refine call_sound (args := [.vv a, .vv b]) (cuts := []) ⟨ra.sc, rb.sc, trivial⟩ ?_
  rw [vc66]
  refine onO.mk ra.len ⟨fun m _ n0 h' => h = h' ∧ ∃ j : Nat, n0 = j ∧ j ≤ v.length ∧ m = v.length - j ∧ ∀ k, k < j → e.getD k 0 ≤ v.getD k 0, ⟨v.length, rfl, 0, rfl, by omega, rfl, fun k hk => by omega⟩, ?_⟩
  rintro m _ _ _ ⟨rfl, j, rfl, hj, rfl, hp⟩
  refine onB.dec (fun e1 => ?_) (fun e1 => ?_)
  · obtain ⟨x, hx⟩ := get_lt (l := v) (k := j) (by omega)
    obtain ⟨y, hy⟩ := get_lt (l := e) (k := j) (by omega)
    refine int0 rb hy (int0 ra hx (onB.dec (fun e2 => ?_) (fun e2 => ?_)))
    · have : coverV v e = false := decide_eq_false fun q => by
        have := q j (by omega)
        rw [getD_some hx, getD_some hy] at this; omega
      rw [this] at k; exact k
    · exact onO.mk (inc64 (by omega)) ⟨_, by show v.length - (j + 1) < v.length - j; omega, rfl, j + 1, rfl, by omega, rfl, fun k hk => by
        rcases Nat.lt_or_ge k j with h | h
        · exact hp k h
        · have : k = j := by omega
          subst this
          rw [getD_some hx, getD_some hy]; omega⟩
  · have : coverV v e = true := decide_eq_true fun k hk => hp k (by omega)
    rw [this] at k; exact k
theorem c50 (ha : a.sc = true) (hb : b.sc = true) (k : Post (.b (twinO o p)) h) : wpC Try.prog 50 [.agg (opC o a), .agg (opC p b)] Post h := by
  refine call_sound (args := [opS o a, opS p b]) (cuts := []) ⟨opS_good ha, opS_good hb, trivial⟩ ?_
  unfold opS
  rw [vc50]
  unfold twinO at k
  refine fun _ _ => onB.dec (fun e => ?_) (fun e => ?_)
  · rw [decide_eq_true e, Bool.true_and] at k; exact k
  · rw [decide_eq_false e, Bool.false_and] at k; exact k
theorem c47 (ha : a.sc = true) (hb : b.sc = true) (k : ∀ h', h.le h' → h'.lo = h.lo → Post (.b (decide (cmpT o.stamp p.stamp < 0))) h') : wpC Try.prog 47 [.agg (opC o a), .agg (opC p b)] Post h := by
  refine call_sound (args := [opS o a, opS p b]) (cuts := []) ⟨opS_good ha, opS_good hb, trivial⟩ ?_
  unfold opS
  rw [vc47]
  exact fun _ _ => c67 (a := o.stamp) (b := p.stamp) fun h' le lo => onRet.i (k h' le lo)
theorem c31 (ra : IR h a v) (rd : IR h d o.deps) (hd : o.deps.length < 1000000) (k : Post (.b (fitsO v o)) h) : wpC Try.prog 31 [a, .agg (opC o d)] Post h := by
  refine call_sound (args := [.vv a, opS o d]) (cuts := []) ⟨ra.sc, opS_good rd.sc, trivial⟩ ?_
  unfold opS
  rw [vc31]
  unfold fitsO at k
  refine fun _ => c51 rd hd (onRet.b (onB.mk (fun e => onO.mk rd.len (onO.mk ra.len ?_)) (fun e => ?_)))
  · rw [e, Bool.true_and] at k
    rw [show decide ((o.deps.length : Int) = v.length) = decide (o.deps.length = v.length) by rw [decide_eq_decide]; omega]
    exact k
  · rw [e, Bool.false_and] at k; exact k
theorem c42 (ra : IR h a v) (rd : IR h d o.deps) (hf : fitsO v o = true) (hv : v.length < 1000000) (k : Post (.b (readyV v o)) h) : wpC Try.prog 42 [a, .agg (opC o d)] Post h := by
  refine call_sound (args := [.vv a, opS o d]) (cuts := []) ⟨ra.sc, opS_good rd.sc, trivial⟩ ?_
  unfold opS
  rw [vc42]
  obtain ⟨r, hr, hlt, s1, s2, hdl, _⟩ := fits_rep hf
  obtain ⟨x, hx⟩ := get_lt (l := v) (k := r) hlt
  unfold readyV at k
  rw [hr, Int.toNat_natCast, getD_some hx] at k
  rw [hr]
  refine fun _ => int0 ra hx (onO.mk (sub64 (by omega) (by omega)) (onB.dec (fun e => ?_) (fun e => ?_)))
  · rw [decide_eq_true e, Bool.true_and] at k
    exact c66 ra rd (by omega) (by omega) (onRet.b k)
  · rw [decide_eq_false e, Bool.false_and] at k; exact k
end
theorem All2.set {α β : Type} {R : α → β → Prop} {xs : List α} {ys : List β} (h : All2 R xs ys) {i : Nat} {x : α} {y : β} (hr : R x y) : All2 R (xs.set i x) (ys.set i y) :=
  All2.of_get (by rw [List.length_set, List.length_set, h.length]) fun k a b ha hb => by
    by_cases e : i = k
    · subst e
      rw [List.getElem?_set_self' ] at ha hb
      cases hx : xs[i]? with
      | none => rw [hx] at ha; cases ha
      | some _ =>
        cases hy : ys[i]? with
        | none => rw [hy] at hb; cases hb
        | some _ =>
          rw [hx] at ha; rw [hy] at hb
          injection ha with ha; injection hb with hb
          subst ha; subst hb; exact hr
    · rw [List.getElem?_set_ne e] at ha hb
      exact h.get2 ha hb
/-- one element written -/
theorem Kn.Own.set1 {α : Type} {d : Kn α} {g h : Hp} {a : AV} {l : List α} {sz : Nat} (o : d.Own g h a l) (hsz : d.sz = sz) (fl : d.Flat) {i : Nat} {x : α} {c : List AV} (hi : i < l.length) (hx : d.K h x c) {Post : Option AV → Hp → Prop} (k : ∀ h', d.Own g h' a (l.set i x) → Post none h') :
    onO (idxV a (i : Int) sz) fun r => wpE (.w r.1 r.2 (.lit c) none) Post h := by
  subst hsz
  obtain ⟨p, css, h0, h1, f, h2⟩ := o
  have hcl : c.length = d.sz := Kn.all_len (All2.cons hx .nil) c (by simp)
  have hsc : c.all AV.sc = true := by have := Kn.all_sc (All2.cons hx .nil); simpa using this
  obtain ⟨c0, hc0⟩ := get_lt (l := css) (k := i) (by rw [← h2.length]; exact hi)
  have hc0l := f.row.1 c0 (List.mem_of_getElem? hc0)
  refine f.set hc0 0 (new := c) (by omega) hsc fun h' f' => k h' ⟨p, _, h0, h1, f', ?_⟩
  have e : splice c0 0 c = c := by
    unfold splice
    rw [List.take_zero, List.nil_append, List.drop_eq_nil_of_le (by omega), List.append_nil]
  rw [e]
  exact All2.set h2 (fl _ _ _ _ hx)
/-- the place of the first of which it holds -/
noncomputable def idxO (pr : D.Op → Bool) : List D.Op → Nat → Int
  | [], _ => -1
  | o :: l, k => if pr o = true then (k : Int) else idxO pr l (k + 1)
noncomputable def theH : D.Op := ⟨⟨1, 0⟩, 1, [0], 1, ⟨1, 0⟩, ⟨0, 0⟩, [107], 0, 0⟩
theorem IntOwn.putn {g h : Hp} {a : AV} {l : List Int} (o : Kn.int.Own g h a l) {p : Nat} (hp : h.g p = none) (c : List AV) : Kn.int.Own (g.put p c) (h.put p c) a l := by
  obtain ⟨q, css, h0, h1, f, h2⟩ := o
  have hq : q.g p = none := le_none f.le hp
  refine ⟨q.put p c, css, fun k x e => ?_, h1, f.putn hp c, h2.mono fun _ _ k => int_flat _ _ _ _ k⟩
  by_cases hk : k = p
  · subst hk; rw [Hp.put_same] at e ⊢; exact e
  · rw [Hp.put_ne _ _ hk] at e ⊢; exact h0 k x e
theorem onTup.rrri {a b c : AV} {n : Int} (ha : a.sc = true) (hb : b.sc = true) (hc : c.sc = true) {K : AV → AV → AV → Int → Prop} (k : K a b c n) : onTup [Sh.one Kd.ref, Sh.one Kd.ref, Sh.one Kd.ref, Sh.one (Kd.int .i64)] (.tup [a, b, c, .i .i64 n]) K := by
  show onS [Sh.one Kd.ref, Sh.one Kd.ref, Sh.one Kd.ref, Sh.one (Kd.int .i64)] [a, b, c, .i .i64 n] K
  unfold onS
  have e : flatV [Sh.one Kd.ref, Sh.one Kd.ref, Sh.one Kd.ref, Sh.one (Kd.int .i64)] [a, b, c, .i .i64 n] = some [a, b, c, .i .i64 n] := by
    cases a <;> first | (cases ha; done) | (cases b <;> first | (cases hb; done) | (cases c <;> first | rfl | cases hc))
  rw [e]
  exact onRef.mk (K := fun a => onRef b fun b => onRef c fun c => K a b c n) ha (onRef.mk (K := fun b => onRef c fun c => K a b c n) hb (onRef.mk (K := fun c => K a b c n) hc k))
section
variable {g h : Hp} {a b c d : AV} {v : List Int} {l m : List D.Op} {o p : D.Op} {Post : AV → Hp → Prop}
theorem c55 {f : FuncId} {caps : List AV} {pr : D.Op → Bool} (ra : OpRow h a l) (hb : l.length < 1000000) (hf : fnOk Try.prog f = true)
    (hp : ∀ o d, o ∈ l → IR h d o.deps → ∀ Post : AV → Hp → Prop, Post (.b (pr o)) h → wpC Try.prog f (.agg (opC o d) :: caps) Post h) (k : Post (.i .i64 (idxO pr l 0)) h) : wpC Try.prog 55 [a, .f f caps] Post h := by
  refine call_sound (args := [.vv a, .vv (.f f caps)]) (cuts := []) ⟨ra.sc, rfl, trivial⟩ ?_
  rw [vc55]
  refine onO.mk ra.len ⟨fun m _ n1 h' => h = h' ∧ ∃ j : Nat, n1 = j ∧ j ≤ l.length ∧ m = l.length - j ∧ idxO pr l 0 = idxO pr (l.drop j) j, ⟨l.length, rfl, 0, rfl, by omega, rfl, rfl⟩, ?_⟩
  rintro m _ _ _ ⟨rfl, j, rfl, hj, rfl, hi⟩
  refine onB.dec (fun e => ?_) (fun e => ?_)
  · obtain ⟨o, ho⟩ := get_lt (l := l) (k := j) (by omega)
    rw [drop_of ho] at hi
    have hs : idxO pr (o :: l.drop (j + 1)) j = if pr o = true then (j : Int) else idxO pr (l.drop (j + 1)) (j + 1) := rfl
    rw [hs] at hi
    refine opW ra (Hp.le_refl _) ho fun d rd kd => onO.mk (a := (f, caps)) rfl ⟨hf, hp o d (List.mem_of_getElem? ho) rd _ (onRet.b (onB.mk (fun e1 => ?_) (fun e1 => ?_)))⟩
    · rw [if_pos e1] at hi
      rw [hi] at k; exact k
    · rw [if_neg (by rw [e1]; simp)] at hi
      exact onO.mk (inc64 (by omega)) ⟨_, by show l.length - (j + 1) < l.length - j; omega, rfl, j + 1, rfl, by omega, rfl, hi⟩
  · have : j = l.length := by omega
    subst this
    rw [List.drop_length] at hi
    rw [hi] at k; exact k
theorem c48 {f : FuncId} {caps : List AV} {pr : D.Op → Bool} (ra : OpRow h a l) (hb : l.length < 1000000) (hf : fnOk Try.prog f = true)
    (hp : ∀ o d, o ∈ l → IR h d o.deps → ∀ Post : AV → Hp → Prop, Post (.b (pr o)) h → wpC Try.prog f (.agg (opC o d) :: caps) Post h) (k : Post (.b (decide (0 ≤ idxO pr l 0))) h) : wpC Try.prog 48 [a, .f f caps] Post h := by
  refine call_sound (args := [.vv a, .vv (.f f caps)]) (cuts := []) ⟨ra.sc, rfl, trivial⟩ ?_
  rw [vc48]
  exact c55 ra hb hf hp (onRet.i k)
theorem c40 (k : ∀ d h', Kn.int.Own h h' d theH.deps → Post (.agg (opC theH d)) h') : wpC Try.prog 40 [] Post h := by
  refine call_sound (args := []) (cuts := []) trivial ?_
  rw [vc40]
  refine fun _ p e1 e2 => k _ _ ⟨h, intC [0], Hp.le_refl h, rfl, Fresh.put (css := intC [0]) (sz := 1) (len := 1) (cs := [.i .i64 0]) (Hp.le_refl h) rfl e1 e2 true (fun c hc => by simp [intC] at hc; subst hc; rfl) rfl rfl, .cons ⟨rfl, by omega, by omega⟩ .nil⟩
theorem ok227 : fnOk Try.prog (fno (fn := 49)) = true := by kernel_rfl
theorem ok229 : fnOk Try.prog (fno (fn := 52)) = true := by kernel_rfl
theorem ok233 : fnOk Try.prog (fno (fn := 56)) = true := by kernel_rfl
theorem ok236 : fnOk Try.prog (fno (fn := 59)) = true := by kernel_rfl
/-- Let, where nothing waits and the one is ready -/
theorem c163n (oa : Kn.int.Own g h a [0]) (rd : IR g d [0]) (k : ∀ r t h', IR h' r [1] → t.sc = true → lenV t = some 1 → Post (.tup [r, .ns, t, .i .i64 0]) h') : wpC Try.prog 32 [a, .ns, .agg (opC theH d)] Post h := by
  refine call_sound (args := [.vv a, .vv .ns, opS theH d]) (cuts := [0, 5000024]) ⟨oa.sc, rfl, opS_good rd.sc, trivial⟩ ?_
  unfold opS
  rw [vc32]
  intro p0 p1 hp1 hl1
  have o1 := IntOwn.putn oa hp1 (opC theH d)
  have r1 : ∀ {H : Hp} (o n : Nat) (c : List AV), (g.put p1 (opC theH d)).le H → sub? (opC theH d) o n = some c → rdH H p1 o n = some c := fun {H} o n c le hs => by
    unfold rdH
    rw [le p1 _ (Hp.put_same _ _ _)]; exact hs
  have hgp1 : g.g p1 = none := le_none oa.le hp1
  have rdd : IR (g.put p1 (opC theH d)) d theH.deps := rd.mono (Hp.le_put hgp1)
  have hfit : fitsO [0] theH = true := by decide
  have hready : readyV [0] theH = true := by decide
  refine ⟨fun c h' => c = false ∧ h' = h.put p1 (opC theH d), ?_, ?_⟩
  · refine onO.mk (r1 1 1 _ o1.le rfl) (onL.i1 (int0 o1.row (k := 0) rfl (onO.mk (r1 2 1 _ o1.le rfl) (onL.i1 (onB.neg rfl ?_)))))
    exact c48 (f := fno (fn := 52)) (pr := fun _ => false) nsO (by simp) ok229 (fun o d ho => by cases ho) (onRet.b ⟨rfl, rfl⟩)
  rintro _ c1 ⟨rfl, rfl⟩
  refine onB.neg rfl (onO.mk (r1 0 12 _ o1.le rfl) (onL.op rd.sc (c42 (o := theH) o1.row (rdd.mono o1.le) hfit (by simp) (onRet.b (onB.neg (by rw [hready]; rfl) fun hp0 hl0 => ?_)))))
  have o2 := IntOwn.putn o1 hp0 [a]
  have hgp0 : (g.put p1 (opC theH d)).g p0 = none := le_none o1.le hp0
  have hpp : (g.put p1 (opC theH d)).le ((g.put p1 (opC theH d)).put p0 [a]) := Hp.le_put hgp0
  have r0 : ∀ {H : Hp}, ((g.put p1 (opC theH d)).put p0 [a]).le H → rdH H p0 0 1 = some [a] := fun {H} le => by
    unfold rdH
    rw [le p0 _ (Hp.put_same _ _ _)]; rfl
  refine ⟨fun m n24 a6 a7 a8 a9 n25 h' => a6 = .ns ∧ a9 = .ns ∧ h' = (h.put p1 (opC theH d)).put p0 [a], ⟨0, rfl, rfl, rfl⟩, ?_⟩
  rintro m _ _ a6 _ a7 _ a8 _ a9 _ _ ⟨rfl, rfl, rfl⟩
  refine Dup.mk ?_
  refine onO.mk (r0 o2.le) ?_
  refine onL.r1 oa.sc ?_
  refine onO.mk (r1 1 1 _ (Hp.le_trans hpp o2.le) rfl) (onL.i1 (onO.mk (r1 2 1 _ (Hp.le_trans hpp o2.le) rfl) (onL.i1 ?_)))
  have hset := o2.set1 (sz := 1) rfl int_flat (i := 0) (x := 1) (c := [.i .i64 1]) (by simp) ⟨rfl, by omega, by omega⟩ (Post := fun v h5 => v = none ∧ Kn.int.Own ((g.put p1 (opC theH d)).put p0 [a]) h5 a [1]) fun h' o' => ⟨rfl, o'⟩
  obtain ⟨r, hr, hw⟩ := onO_some hset
  refine onO.mk hr (wpE.mono hw ?_)
  rintro x0 h5 ⟨rfl, o5⟩
  have le5 := Hp.le_trans hpp o5.le
  refine onO.mk (r1 0 12 _ le5 rfl) (onL.op rd.sc (c54 (o := theH) (rdd.mono le5) (by simp [theH]) fun d6 h6 o6 => onRet.op o6.sc fun _ => ?_))
  have kx : D.kOp.K h6 theH (opC theH d6) := op_mk ⟨by decide, by decide⟩ ⟨by decide, by decide⟩ ⟨by decide, by decide⟩ o6.row (by simp [theH]) ⟨by decide, by decide⟩ ⟨by decide, by decide⟩ ⟨by decide, by decide⟩ ⟨by decide, by decide⟩ ⟨by decide, by decide⟩ (by simp [theH]) (fun x hx => by simp [theH] at hx; omega) ⟨by decide, by decide⟩ ⟨by decide, by decide⟩
  refine (Fresh.nil h6 12).app (n := 1) (css2 := [opC theH d6]) (src := .lit (opC theH d6)) (by simp [srcH]) (fun c hc => by simp at hc; subst hc; rfl) rfl (D.kOp.sc kx |> fun e => by simpa using e) (by simp) fun t h7 f7 => onO.mk rfl ?_
  have o7 : IR h7 a [1] := o5.row.mono (Hp.le_trans o6.le f7.le)
  have le7 : ((g.put p1 (opC theH d)).put p0 [a]).le h7 := Hp.le_trans o5.le (Hp.le_trans o6.le f7.le)
  refine c55 (f := fno (fn := 56)) (pr := fun _ => false) nsO (by simp) ok233 (fun o d ho => by cases ho) (onRet.i (onB.neg rfl ?_))
  refine call_sound (args := [.vv .ns, .vv (.f (fno (fn := 59)) [.p p0 0])]) (cuts := []) ⟨rfl, rfl, trivial⟩ ?_
  rw [vc58]
  refine c55 (f := fno (fn := 59)) (pr := fun _ => false) nsO (by simp) ok236 (fun o d ho => by cases ho) (onRet.i (onB.pos rfl (onRet.r rfl (onO.mk (r0 le7) (onL.r1 oa.sc (k _ _ _ o7 f7.row.sc f7.row.len))))))
theorem c161n (ra : IR h a [0]) (k : ∀ h', h.le h' → h'.lo = h.lo → Post (.b true) h') : wpC Try.prog 30 [a, .ns] Post h := by
  refine call_sound (args := [.vv a, .vv .ns]) (cuts := [0]) ⟨ra.sc, rfl, trivial⟩ ?_
  rw [vc30]
  intro p0 hp hl
  refine ⟨fun m n0 _ h' => n0 = 0 ∧ h' = h.put p0 (opC ⟨⟨0, 0⟩, 0, [], 0, ⟨0, 0⟩, ⟨0, 0⟩, [], 0, 0⟩ .ns), ⟨0, rfl, rfl⟩, ?_⟩
  rintro m _ _ _ ⟨rfl, rfl⟩
  exact Dup.mk (onO.mk (a := 0) rfl (onB.pos rfl (k _ (Hp.le_put hp) rfl)))
theorem c165n (k : Post .ns h) : wpC Try.prog 34 [.ns] Post h := by
  refine call_sound (args := [.vv .ns]) (cuts := []) ⟨rfl, trivial⟩ ?_
  rw [vc34]
  refine call_sound (args := [.vv .ns]) (cuts := []) ⟨rfl, trivial⟩ ?_
  rw [vc60]
  refine onO.mk (a := true) rfl (onB.pos rfl (onRet.r rfl (onO.mk (a := 0) rfl ⟨fun m n0 h' => n0 = 0 ∧ h' = h, ⟨0, rfl, rfl⟩, ?_⟩)))
  rintro m _ _ ⟨rfl, rfl⟩
  exact onB.neg rfl k
theorem c14 (k : ∀ h', Post (.b true) h') : wpC Try.prog 14 [] Post h := by
  refine call_sound (args := []) (cuts := []) trivial ?_
  rw [vc14]
  refine fun p0 => c40 fun d h0 od => onRet.op (o := theH) od.sc fun hp hl => ?_
  have f0 : Fresh h0 (h0.put p0 [.i .i64 0]) (.sl p0 0 1 1 true 1) 1 [[.i .i64 0]] := Fresh.put (css := [[.i .i64 0]]) (sz := 1) (len := 1) (cs := [.i .i64 0]) (Hp.le_refl _) rfl hp hl true (fun c hc => by simp at hc; subst hc; rfl) rfl rfl
  have ra : IR (h0.put p0 [.i .i64 0]) (.sl p0 0 1 1 true 1) [0] := ⟨_, f0.row, .cons ⟨rfl, by omega, by omega⟩ .nil⟩
  have rd : IR (h0.put p0 [.i .i64 0]) d [0] := od.row.mono (Hp.le_put hp)
  refine call_sound (args := [.vv (.sl p0 0 1 1 true 1), .vv .ns, opS theH d]) (cuts := []) ⟨rfl, rfl, opS_good od.sc, trivial⟩ ?_
  unfold opS
  rw [vc9]
  have hv : vecV [0] = true := by decide
  have hfit : fitsO [0] theH = true := by decide
  refine fun _ => c29 ra (by simp) (onRet.b (onB.neg (by rw [hv]; rfl) (c161n ra fun h1 le1 lo1 => onRet.b (onB.neg rfl (c31 (o := theH) (ra.mono le1) (rd.mono le1) (by simp [theH]) (onRet.b (onB.neg (by rw [hfit]; rfl) (c33 (ra.mono le1) (by simp) fun a4 h3 o4 => onRet.r o4.sc (c165n (onRet.r rfl (c163n o4 (rd.mono le1) fun r t h5 r5 st lt => onTup.rrri r5.sc rfl st ?_)))))))))))
  refine onTup.rrri r5.sc rfl st (c10 (onRet.i (onB.pos rfl fun p1 hp1 hl1 => ?_)))
  have f1 : Fresh h5 (h5.put p1 [.i .i64 1]) (.sl p1 0 1 1 true 1) 1 [[.i .i64 1]] := Fresh.put (css := [[.i .i64 1]]) (sz := 1) (len := 1) (cs := [.i .i64 1]) (Hp.le_refl _) rfl hp1 hl1 true (fun c hc => by simp at hc; subst hc; rfl) rfl rfl
  exact c13 (r5.mono (Hp.le_put hp1)) (lb := [1]) ⟨_, f1.row, .cons ⟨rfl, by omega, by omega⟩ .nil⟩ (by simp) (onRet.b (onB.pos rfl (onO.mk (a := 0) rfl (onB.pos rfl (onO.mk lt (k _))))))
end
end Go.Proofs.YtecjbmibngfpmaaAn
