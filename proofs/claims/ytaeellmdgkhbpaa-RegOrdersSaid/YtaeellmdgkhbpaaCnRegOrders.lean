/- What the functions that the law reaches come to, down to the law itself. -/
import Derived.Test.YtaeellmdgkhbpaaBnH
import Derived.Test.YtaeellmdgkhbpaaProg
import Derived.Lib.Overlaps
set_option linter.unusedVariables false
set_option linter.unusedSimpArgs false
set_option maxRecDepth 100000
namespace Go.Proofs.YtaeellmdgkhbpaaAn
open Go
/-- a function, by its number -/
abbrev fno (fn : Nat) : Nat := fn
abbrev tyo (t : Nat) : Nat := t
theorem ov_ext [Hook] {P : Program} {f : FuncId} {g : Func} {tS tR e : TypeId} {size : Nat} (hf : P.funcs[f]? = some g) (h1 : (g.name == "runtime.NumGoroutine") = false) (h2 : g.body.isNone = true) (h3 : Extern.findNext g = none)
    (h4 : Extern.find g = some (Extern.SlicesOverlaps.overlaps #[tS, tS] #[tR])) (ht : P.underlying tS = some (.slice e)) (hz : szOf P e = some size) (w : World) {rb oo la ca rb2 oo2 lb cb : Nat} {rc : Array Value} {ty : TypeId} {k : Nat} {rc2 : Array Value} {ty2 : TypeId} {fz2 : Nat × Nat}
    (w1 : w.heap[rb]? = some (.cells rc ty (k, k))) (w2 : w.heap[rb2]? = some (.cells rc2 ty2 fz2)) (w3 : rc2.size ≠ 0) (hne : rb ≠ rb2) :
    (callFunc f #[.slice (some ⟨rb, oo, none⟩) la ca, .slice (some ⟨rb2, oo2, none⟩) lb cb]).run P w = .ok (.value (.bool false)) w := by
  have fz : ∀ o, w.frozen? ⟨rb, o, none⟩ = false := fun o => by
    simp only [World.frozen?, w1]
    simp only [Bool.and_eq_false_iff, decide_eq_false_iff_not]
    omega
  rw [run_callFunc_extern hf h1 h2 h3 h4, Lib.run_overlaps_apart w tS tR e ht size (fun w => run_sizeOf' w hz) ⟨rb, oo, none⟩ ⟨rb2, oo2, none⟩ la ca lb cb hne ty ty2 rc.size rc2.size (by simp only [World.shape?, w1]) (by simp only [World.shape?, w2]) w3 (fz _) (fz _)]
  rfl
theorem no_call (P : Program) : CallOk P fun _ _ _ => none := fun f args H v H' j w args' h => by cases h
theorem hk_mixed : Try.prog.follows .mixedOrders = true := by kernel_rfl
noncomputable abbrev hookR0 : Hook := ⟨fun _ => false, fun _ _ _ => none, fun f => Nat.beq f (fno (fn := 41))⟩
theorem extR0 : @ExtOk hookR0 Try.prog :=
  letI := hookR0
  ⟨fun f hf w rb oo la ca rb2 oo2 lb cb rc ty k rc2 ty2 fz2 w1 w2 w3 hne => by
    have e : f = fno (fn := 41) := beq_eq' hf
    subst e
    exact ov_ext (g := Try.f41) (tS := tyo (t := 22)) (tR := tyo (t := 4)) Try.func41 (by kernel_rfl) (by kernel_rfl) (by kernel_rfl) (by kernel_rfl) Try.underlying22 (size := 4) (by kernel_rfl) w w1 w2 w3 hne⟩
theorem vc35 (s : AV) (i : Int) (v : AV) (h : Hp) (Post : AV → Hp → Prop) : (letI := hookR0; vcCall Try.prog [] 35 [.vv s, .ii .i64 i, .vv v] h Post) = InsVC 4 32 [.i .i64 0, .i .i64 0, .i .i64 0, .i .i64 0] s i v h Post := by kernel_rfl
theorem specR : @InsSpec hookR0 Try.prog (fno (fn := 35)) 4 := by
  letI := hookR0
  refine ⟨fun h sb cap len i vb vo vn vl vx cells2 old new h1 h2 h3 h4 h5 h6 h7 h8 h9 h10 h11 h12 h13 h14 => ?_, fun h s vb vo vn vl vx new hsn h1 h2 h3 h4 h5 h6 => ?_⟩
  · refine call_sound (args := [.vv (.sl sb 0 len cap true 4), .ii .i64 (.ofNat i), .vv (.sl vb vo vn vl vx 4)]) (cuts := []) ⟨rfl, trivial, rfl, trivial⟩ ?_
    rw [vc35]
    exact ins_sl (sz := 4) (bt := 32) (zs := [.i .i64 0, .i .i64 0, .i .i64 0, .i .i64 0]) rfl (by omega) (by omega) h1 h2 h3 h4 h5 h6 h7 h8 h9 h10 h11 h12 h13 h14
  · refine call_sound (args := [.vv s, .ii .i64 (.ofNat 0), .vv (.sl vb vo vn vl vx 4)]) (cuts := []) ⟨by rcases hsn with rfl | ⟨z, rfl⟩ <;> rfl, trivial, rfl, trivial⟩ ?_
    rw [vc35]
    exact ins_ns hsn (sz := 4) (bt := 32) (zs := [.i .i64 0, .i .i64 0, .i .i64 0, .i .i64 0]) (by omega) h2 h4 h6
noncomputable instance hookI : Hook := ⟨fun f => Nat.beq f (fno (fn := 35)), fun f a H => cond (Nat.beq f (fno (fn := 35))) (insA 4 a H) none, fun _ => false⟩
instance hookI_ext : ExtOk Try.prog := ⟨fun f h => by cases h⟩
theorem hookI_ok : CallOk Try.prog Hook.call := fun f args H v H' j w args' he hR hv => by
  have he : cond (Nat.beq f (fno (fn := 35))) (insA 4 args H) none = some (v, H') := he
  obtain ⟨hc, he⟩ := cond_some he
  have e := beq_eq' hc
  subst e
  exact insA_ok hookR0 extR0 (no_call _) hk_mixed specR he hR hv
/-- what 64 bits hold -/
noncomputable def In64 (n : Int) : Prop := -9223372036854775808 ≤ n ∧ n < 9223372036854775808
namespace D
structure Stamp where
  time : Int
  rep : Int
deriving DecidableEq
noncomputable def kStamp : Kn Stamp := Kn.iso (Kn.pair Kn.int Kn.int) fun s => (s.time, s.rep)
structure Reg where
  prop : Int
  value : Int
  stamp : Stamp
deriving DecidableEq
noncomputable def kReg : Kn Reg := Kn.iso (Kn.pair Kn.int (Kn.pair Kn.int kStamp)) fun s => (s.prop, s.value, s.stamp)
structure RegDo where
  prop : Int
  value : Int
  s : Stamp
deriving DecidableEq
noncomputable def kRegDo : Kn RegDo := Kn.iso (Kn.pair Kn.int (Kn.pair Kn.int kStamp)) fun s => (s.prop, s.value, s.s)
structure RegA where
  r : List (Reg)
  q : List (Reg)
  l : List (RegDo)
deriving DecidableEq
noncomputable def kRegA : Kn RegA := Kn.iso (Kn.pair (Kn.slice kReg 32) (Kn.pair (Kn.slice kReg 32) (Kn.slice kRegDo 32))) fun s => (s.r, s.q, s.l)
theorem oStamp : Opens Try.prog 28 kStamp := opens_struct (P := Try.prog) (t := 28) Try.underlying28 (by kernel_rfl) (by kernel_rfl) (opens_cons (opens_int (P := Try.prog) Try.underlying3) (opens_one (opens_int (P := Try.prog) Try.underlying3))) _ (fun a => ⟨a.1, a.2⟩) fun _ => rfl
theorem oReg : Opens Try.prog 54 kReg := opens_struct (P := Try.prog) (t := 54) Try.underlying54 (by kernel_rfl) (by kernel_rfl) (opens_cons (opens_int (P := Try.prog) Try.underlying3) (opens_cons (opens_int (P := Try.prog) Try.underlying3) (opens_one oStamp))) _ (fun a => ⟨a.1, a.2.1, a.2.2⟩) fun _ => rfl
theorem oRegDo : Opens Try.prog 30 kRegDo := opens_struct (P := Try.prog) (t := 30) Try.underlying30 (by kernel_rfl) (by kernel_rfl) (opens_cons (opens_int (P := Try.prog) Try.underlying3) (opens_cons (opens_int (P := Try.prog) Try.underlying3) (opens_one oStamp))) _ (fun a => ⟨a.1, a.2.1, a.2.2⟩) fun _ => rfl
theorem oRegA : Opens Try.prog 25 kRegA := opens_struct (P := Try.prog) (t := 25) Try.underlying25 (by kernel_rfl) (by kernel_rfl) (opens_cons (opens_slice (P := Try.prog) 32 Try.underlying22 (by kernel_rfl) (by decide) (by kernel_rfl) oReg) (opens_cons (opens_slice (P := Try.prog) 32 Try.underlying22 (by kernel_rfl) (by decide) (by kernel_rfl) oReg) (opens_one (opens_slice (P := Try.prog) 32 Try.underlying23 (by kernel_rfl) (by decide) (by kernel_rfl) oRegDo)))) _ (fun a => ⟨a.1, a.2.1, a.2.2⟩) fun _ => rfl
theorem kStamp_open {h : Hp} {s : Stamp} {cs : List AV} (k : kStamp.K h s cs) : cs = [.i .i64 s.time, .i .i64 s.rep] ∧ In64 s.time ∧ In64 s.rep := by
  obtain ⟨c0, r0, e0, q0, q1⟩ := k
  obtain ⟨z0, f0⟩ := q0
  obtain ⟨z1, f1⟩ := q1
  refine ⟨?_, f0, f1⟩
  rw [e0, z0, z1]; rfl
theorem kReg_open {h : Hp} {s : Reg} {cs : List AV} (k : kReg.K h s cs) : cs = [.i .i64 s.prop, .i .i64 s.value, .i .i64 s.stamp.time, .i .i64 s.stamp.rep] ∧ In64 s.prop ∧ In64 s.value ∧ In64 s.stamp.time ∧ In64 s.stamp.rep := by
  obtain ⟨c0, r0, e0, q0, c1, r1, e1, q1, q2⟩ := k
  obtain ⟨z0, f0⟩ := q0
  obtain ⟨z1, f1⟩ := q1
  obtain ⟨z2, f2_0, f2_1⟩ := kStamp_open q2
  refine ⟨?_, f0, f1, f2_0, f2_1⟩
  rw [e0, z0, e1, z1, z2]; rfl
theorem kRegDo_open {h : Hp} {s : RegDo} {cs : List AV} (k : kRegDo.K h s cs) : cs = [.i .i64 s.prop, .i .i64 s.value, .i .i64 s.s.time, .i .i64 s.s.rep] ∧ In64 s.prop ∧ In64 s.value ∧ In64 s.s.time ∧ In64 s.s.rep := by
  obtain ⟨c0, r0, e0, q0, c1, r1, e1, q1, q2⟩ := k
  obtain ⟨z0, f0⟩ := q0
  obtain ⟨z1, f1⟩ := q1
  obtain ⟨z2, f2_0, f2_1⟩ := kStamp_open q2
  refine ⟨?_, f0, f1, f2_0, f2_1⟩
  rw [e0, z0, e1, z1, z2]; rfl
theorem kRegA_open {h : Hp} {s : RegA} {cs : List AV} (k : kRegA.K h s cs) : ∃ a0 a1 a2, cs = [a0, a1, a2] ∧ (kReg.Row h a0 s.r ∧ s.r.length * 32 ≤ 140737488351232) ∧ (kReg.Row h a1 s.q ∧ s.q.length * 32 ≤ 140737488351232) ∧ (kRegDo.Row h a2 s.l ∧ s.l.length * 32 ≤ 140737488351232) := by
  obtain ⟨c0, r0, e0, q0, c1, r1, e1, q1, q2⟩ := k
  obtain ⟨b0, z0, f0⟩ := q0
  obtain ⟨b1, z1, f1⟩ := q1
  obtain ⟨b2, z2, f2⟩ := q2
  refine ⟨b0, b1, b2, ?_, f0, f1, f2⟩
  rw [e0, z0, e1, z1, z2]; rfl
end D
/- arras/arrasref0.EqRegs -/
theorem vc12 (a : AV) (b : AV) (h : Hp) (Post : AV → Hp → Prop) : vcCall Try.prog [] 12 [(SV.vv a), (SV.vv b)] h Post = (
  onO (lenV a) fun p0 =>
  onO (lenV b) fun p1 =>
    onB (!decide ((↑p0 : Int) = ↑p1)) (Post (AV.b false) h)
      (∃ I0 : Nat → Bool → Int → Hp → Prop,
        (∃ p2, I0 p2 false 0 h) ∧
          ∀ (p3 : Nat) (h0 : Hp) (c0 : Bool) (n0 : Int),
            I0 p3 c0 n0 h0 →
              onO (lenV a) fun p4 =>
                onB (decide (n0 < ↑p4))
                  (onO (idxV a n0 4) fun r0 =>
                    onO (rdH h0 r0.fst r0.snd 4) fun l0 =>
                      onL [Kd.int IntKind.i64, Kd.int IntKind.i64, Kd.int IntKind.i64, Kd.int IntKind.i64] l0 fun n1 n2 n3 n4 =>
                        onO (idxV b n0 4) fun r1 =>
                          onO (rdH h0 r1.fst r1.snd 4) fun l1 =>
                            onL [Kd.int IntKind.i64, Kd.int IntKind.i64, Kd.int IntKind.i64, Kd.int IntKind.i64] l1 fun n5 n6 n7 n8 =>
                              onB (!(fun c => decide (n1 = n5) && c) ((fun c => decide (n2 = n6) && c) ((fun c => decide (n3 = n7) && c) (decide (n4 = n8))))) (Post (AV.b false) h0)
                                (onO (intO BinOp.add IntKind.i64 n0 1) fun n9 => ∃ p5, ltN p5 p3 ∧ I0 p5 c0 n9 h0))
                  (Post (AV.b true) h0))) := by kernel_rfl
/- arras/reg.May -/
theorem vc24 (a : AV) (h : Hp) (Post : AV → Hp → Prop) : vcCall Try.prog [0] 24 [(SV.vv a)] h Post = (
  ∃ I0 : Nat → Int → Bool → Hp → Prop,
  (∃ p0, I0 p0 0 false h) ∧
    ∀ (p1 : Nat) (h0 : Hp) (n0 : Int) (c0 : Bool),
      I0 p1 n0 c0 h0 →
        Dup
          (onO (lenV a) fun p2 =>
            onB (decide (n0 = ↑p2)) (Post (AV.b true) h0)
              (onO (idxV a n0 4) fun r0 =>
                onO (rdH h0 r0.fst (r0.snd + 0) 1) fun l0 =>
                  onL [Kd.int IntKind.i64] l0 fun n1 =>
                    onO (idxV a n0 4) fun r1 =>
                      onO (rdH h0 r1.fst (r1.snd + 1) 1) fun l1 =>
                        onL [Kd.int IntKind.i64] l1 fun n2 =>
                          wpC Try.prog 25 [AV.i IntKind.i64 n1, AV.i IntKind.i64 n2]
                            (fun a0 h1 =>
                              onRet [Sh.one Kd.bool] a0 fun c1 =>
                                onB c1
                                  (onO (idxV a n0 4) fun r2 =>
                                    onO (rdH h1 r2.fst (r2.snd + 2) 2) fun l2 =>
                                      onL [Kd.int IntKind.i64, Kd.int IntKind.i64] l2 fun n3 n4 =>
                                        wpC Try.prog 26 [AV.agg [AV.i IntKind.i64 n3, AV.i IntKind.i64 n4]]
                                          (fun a1 h2 =>
                                            onRet [Sh.one Kd.bool] a1 fun c2 =>
                                              onB c2
                                                (onB (decide (n0 = 0)) (onO (intO BinOp.add IntKind.i64 n0 1) fun n5 => ∃ p3, ltN p3 p1 ∧ I0 p3 n5 c0 h2)
                                                  (onO (intO BinOp.sub IntKind.i64 n0 1) fun n6 =>
                                                    onO (idxV a n6 4) fun r3 =>
                                                      onO (rdH h2 r3.fst (r3.snd + 0) 1) fun l3 =>
                                                        onL [Kd.int IntKind.i64] l3 fun n7 =>
                                                          onO (idxV a n0 4) fun r4 =>
                                                            onO (rdH h2 r4.fst (r4.snd + 0) 1) fun l4 =>
                                                              onL [Kd.int IntKind.i64] l4 fun n8 =>
                                                                onB (decide (n7 < n8)) (onO (intO BinOp.add IntKind.i64 n0 1) fun n9 => ∃ p4, ltN p4 p1 ∧ I0 p4 n9 c0 h2) (Post (AV.b false) h2)))
                                                (Post (AV.b false) h2))
                                          h1)
                                  (Post (AV.b false) h1))
                            h0))) := by kernel_rfl
/- arras/prop.May -/
theorem vc25 (a : Int) (b : Int) (h : Hp) (Post : AV → Hp → Prop) : vcCall Try.prog [] 25 [(SV.ii .i64 a), (SV.ii .i64 b)] h Post = (
  wpC Try.prog 33 [AV.i IntKind.i64 a]
  (fun a0 h0 =>
    onRet [Sh.one Kd.bool] a0 fun c0 =>
      onB c0
        (wpC Try.prog 34 [AV.i IntKind.i64 a]
          (fun a1 h1 =>
            onRet [Sh.agg [Kd.int IntKind.i64, Kd.int IntKind.i64, Kd.int IntKind.i64, Kd.bool]] a1 fun n0 n1 n2 c1 =>
              onB (decide (n0 ≤ b))
                (wpC Try.prog 34 [AV.i IntKind.i64 a]
                  (fun a2 h2 => onRet [Sh.agg [Kd.int IntKind.i64, Kd.int IntKind.i64, Kd.int IntKind.i64, Kd.bool]] a2 fun n3 n4 n5 c2 => Post (AV.b (decide (b ≤ n4))) h2) h1)
                (Post (AV.b false) h1))
          h0)
        (Post (AV.b false) h0))
  h) := by kernel_rfl
/- arras/prop.Is -/
theorem vc33 (a : Int) (h : Hp) (Post : AV → Hp → Prop) : vcCall Try.prog [] 33 [(SV.ii .i64 a)] h Post = (
  onB (decide (0 ≤ a)) (Post (AV.b (decide (a < 19))) h) (Post (AV.b false) h)) := by kernel_rfl
/- arras/stamp.Is -/
theorem vc26 (a0 : Int) (a1 : Int) (h : Hp) (Post : AV → Hp → Prop) : vcCall Try.prog [] 26 [(SV.ag [(SV.ii .i64 a0), (SV.ii .i64 a1)])] h Post = (
  ∀ (p0 : Nat), onB (decide (1 ≤ a0)) (onB (decide (a0 ≤ 1099511627776)) (onB (decide (0 ≤ a1)) (Post (AV.b (decide (a1 < 16))) h) (Post (AV.b false) h)) (Post (AV.b false) h)) (Post (AV.b false) h)) := by kernel_rfl
/- arras/reg.Set -/
theorem vc8 (a : AV) (b : Int) (c : Int) (d0 : Int) (d1 : Int) (h : Hp) (Post : AV → Hp → Prop) : vcCall Try.prog [] 8 [(SV.vv a), (SV.ii .i64 b), (SV.ii .i64 c), (SV.ag [(SV.ii .i64 d0), (SV.ii .i64 d1)])] h Post = (
  ∀ (p0 : Nat),
  wpC Try.prog 24 [a]
    (fun a0 h0 =>
      onRet [Sh.one Kd.bool] a0 fun c0 =>
        onB (!c0) (Post (AV.tup [AV.ns, AV.i IntKind.i64 1]) h0)
          (wpC Try.prog 25 [AV.i IntKind.i64 b, AV.i IntKind.i64 c]
            (fun a1 h1 =>
              onRet [Sh.one Kd.bool] a1 fun c1 =>
                onB (!c1) (Post (AV.tup [AV.ns, AV.i IntKind.i64 1]) h1)
                  (wpC Try.prog 26 [AV.agg [AV.i IntKind.i64 d0, AV.i IntKind.i64 d1]]
                    (fun a2 h2 =>
                      onRet [Sh.one Kd.bool] a2 fun c2 =>
                        onB (!c2) (Post (AV.tup [AV.ns, AV.i IntKind.i64 1]) h2)
                          (wpC Try.prog 27 [a, AV.agg [AV.i IntKind.i64 b, AV.i IntKind.i64 c, AV.i IntKind.i64 d0, AV.i IntKind.i64 d1]]
                            (fun a3 h3 => onRet [Sh.one Kd.ref] a3 fun a4 => Post (AV.tup [a4, AV.i IntKind.i64 0]) h3) h2))
                    h1))
            h0))
    h) := by kernel_rfl
/- arras/reg.Put -/
theorem vc27 (a : AV) (b0 : Int) (b1 : Int) (b2 : Int) (b3 : Int) (h : Hp) (Post : AV → Hp → Prop) : vcCall Try.prog [] 27 [(SV.vv a), (SV.ag [(SV.ii .i64 b0), (SV.ii .i64 b1), (SV.ii .i64 b2), (SV.ii .i64 b3)])] h Post = (
  ∀ (p0 : Nat),
  wpC Try.prog 31 [a]
    (fun a0 h0 =>
      onRet [Sh.one Kd.ref] a0 fun a1 =>
        wpC Try.prog 32 [a1, AV.i IntKind.i64 b0]
          (fun a2 h1 =>
            onTup [Sh.one (Kd.int IntKind.i64), Sh.one Kd.bool] a2 fun n0 c0 =>
              onB (!c0)
                (∀ (p1 : Nat),
                  h1.g p1 = none →
                    h1.lo.le p1 →
                      wpC Try.prog 35 [a1, AV.i IntKind.i64 n0, AV.sl p1 0 1 1 true 4] (fun a3 h2 => onRet [Sh.one Kd.ref] a3 fun a4 => Post a4 h2)
                        (h1.put p1 [AV.i IntKind.i64 b0, AV.i IntKind.i64 b1, AV.i IntKind.i64 b2, AV.i IntKind.i64 b3]))
                (onO (idxV a1 n0 4) fun r0 =>
                  onO (rdH h1 r0.fst (r0.snd + 2) 2) fun l0 =>
                    onL [Kd.int IntKind.i64, Kd.int IntKind.i64] l0 fun n1 n2 =>
                      wpC Try.prog 36 [AV.agg [AV.i IntKind.i64 n1, AV.i IntKind.i64 n2], AV.agg [AV.i IntKind.i64 b2, AV.i IntKind.i64 b3]]
                        (fun a5 h3 =>
                          onRet [Sh.one (Kd.int IntKind.i64)] a5 fun n3 =>
                            onB (decide (n3 < 0))
                              (onO (idxV a1 n0 4) fun r1 =>
                                wpE (Eff.w r1.fst r1.snd (Src.lit [AV.i IntKind.i64 b0, AV.i IntKind.i64 b1, AV.i IntKind.i64 b2, AV.i IntKind.i64 b3]) none) (fun x0 h4 => Post a1 h4) h3)
                              (Post a1 h3))
                        h1))
          h0)
    h) := by kernel_rfl
/- slices.Clone[[]arras/api.Reg,arras/api.Reg] -/
theorem vc31 (a : AV) (h : Hp) (Post : AV → Hp → Prop) : vcCall Try.prog [] 31 [(SV.vv a)] h Post = (
  onO (nilSl a) fun c0 =>
  onB c0 (Post AV.ns h)
    (∀ (p0 : Nat),
      h.g p0 = none →
        h.lo.le p0 →
          onO (srcV 4 a) fun r0 =>
            onC (((4 * r0.fst + 4000) * 32).ble (OfNat.ofNat 17179869184)) (wpE (Eff.app (AV.sl p0 0 0 0 true 4) r0.fst r0.snd 4) (fun x0 h0 => onO x0 fun a0 => Post a0 h0) (h.put p0 [])))) := by kernel_rfl
/- arras/reg.find -/
theorem vc32 (a : AV) (b : Int) (h : Hp) (Post : AV → Hp → Prop) : vcCall Try.prog [] 32 [(SV.vv a), (SV.ii .i64 b)] h Post = (
  wpC Try.prog 38 [a, AV.i IntKind.i64 b, AV.f 39 []] (fun a0 h0 => onTup [Sh.one (Kd.int IntKind.i64), Sh.one Kd.bool] a0 fun n0 c0 => Post (AV.tup [AV.i IntKind.i64 n0, AV.b c0]) h0) h) := by kernel_rfl
/- arras/reg.find$1 -/
theorem vc39 (a0 : Int) (a1 : Int) (a2 : Int) (a3 : Int) (b : Int) (h : Hp) (Post : AV → Hp → Prop) : vcCall Try.prog [] 39 [(SV.ag [(SV.ii .i64 a0), (SV.ii .i64 a1), (SV.ii .i64 a2), (SV.ii .i64 a3)]), (SV.ii .i64 b)] h Post = (
  ∀ (p0 : Nat), wpC Try.prog 40 [AV.i IntKind.i64 a0, AV.i IntKind.i64 b] (fun a0 h0 => onRet [Sh.one (Kd.int IntKind.i64)] a0 fun n0 => Post (AV.i IntKind.i64 n0) h0) h) := by kernel_rfl
/- cmp.Compare[int] -/
theorem vc40 (a : Int) (b : Int) (h : Hp) (Post : AV → Hp → Prop) : vcCall Try.prog [] 40 [(SV.ii .i64 a), (SV.ii .i64 b)] h Post = (
  wpC Try.prog 44 [AV.i IntKind.i64 a]
  (fun a0 h0 =>
    onRet [Sh.one Kd.bool] a0 fun c0 =>
      wpC Try.prog 44 [AV.i IntKind.i64 b]
        (fun a1 h1 =>
          onRet [Sh.one Kd.bool] a1 fun c1 =>
            onB c0 (onB c1 (Post (AV.i IntKind.i64 0) h1) (Post (AV.i IntKind.i64 (-1)) h1))
              (onB c1 (Post (AV.i IntKind.i64 1) h1) (onB (decide (a < b)) (Post (AV.i IntKind.i64 (-1)) h1) (onB (decide (b < a)) (Post (AV.i IntKind.i64 1) h1) (Post (AV.i IntKind.i64 0) h1)))))
        h0)
  h) := by kernel_rfl
/- cmp.isNaN[int] -/
theorem vc44 (a : Int) (h : Hp) (Post : AV → Hp → Prop) : vcCall Try.prog [] 44 [(SV.ii .i64 a)] h Post = (
  Post (AV.b !decide (a = a)) h) := by kernel_rfl
/- arras/stamp.Cmp -/
theorem vc36 (a0 : Int) (a1 : Int) (b0 : Int) (b1 : Int) (h : Hp) (Post : AV → Hp → Prop) : vcCall Try.prog [] 36 [(SV.ag [(SV.ii .i64 a0), (SV.ii .i64 a1)]), (SV.ag [(SV.ii .i64 b0), (SV.ii .i64 b1)])] h Post = (
  ∀ (p0 p1 : Nat),
  wpC Try.prog 40 [AV.i IntKind.i64 a0, AV.i IntKind.i64 b0]
    (fun a0 h0 =>
      onRet [Sh.one (Kd.int IntKind.i64)] a0 fun n0 =>
        wpC Try.prog 40 [AV.i IntKind.i64 a1, AV.i IntKind.i64 b1]
          (fun a1 h1 =>
            onRet [Sh.one (Kd.int IntKind.i64)] a1 fun n1 =>
              ∀ (p2 : Nat),
                h1.g p2 = none →
                  h1.lo.le p2 →
                    wpC Try.prog 43 [AV.sl p2 0 2 2 true 1] (fun a2 h2 => onRet [Sh.one (Kd.int IntKind.i64)] a2 fun n2 => Post (AV.i IntKind.i64 n2) h2)
                      (h1.put p2 [AV.i IntKind.i64 n0, AV.i IntKind.i64 n1]))
          h0)
    h) := by kernel_rfl
/- cmp.Or[int] -/
theorem vc43 (a : AV) (h : Hp) (Post : AV → Hp → Prop) : vcCall Try.prog [] 43 [(SV.vv a)] h Post = (
  onO (lenV a) fun p0 =>
  ∃ I0 : Nat → Int → Int → Hp → Prop,
    (∃ p1, I0 p1 0 0 h) ∧
      ∀ (p2 : Nat) (h0 : Hp) (n0 n1 : Int),
        I0 p2 n0 n1 h0 →
          onB (decide (n1 < ↑p0))
            (onO (idxV a n1 1) fun r0 =>
              onO (rdH h0 r0.fst r0.snd 1) fun l0 =>
                onL [Kd.int IntKind.i64] l0 fun n2 => onB (!decide (n2 = 0)) (Post (AV.i IntKind.i64 n2) h0) (onO (intO BinOp.add IntKind.i64 n1 1) fun n3 => ∃ p3, ltN p3 p2 ∧ I0 p3 n0 n3 h0))
            (Post (AV.i IntKind.i64 0) h0)) := by kernel_rfl
/- arras/arrasref8.Check -/
theorem vc16 (a : Int) (b : Int) (h : Hp) (Post : AV → Hp → Prop) : vcCall Try.prog [] 16 [(SV.ii .i64 a), (SV.ii .i64 b)] h Post = (
  wpC Try.prog 30 [AV.i IntKind.i64 a]
  (fun a0 h0 =>
    onTup [Sh.one (Kd.int IntKind.i64), Sh.one (Kd.int IntKind.i64), Sh.one (Kd.int IntKind.i64), Sh.one Kd.bool] a0 fun n0 n1 n2 c0 =>
      onB (!c0) (Post (AV.i IntKind.i64 3) h0) (onB (decide (b < n0)) (Post (AV.i IntKind.i64 9) h0) (onB (decide (n1 < b)) (Post (AV.i IntKind.i64 9) h0) (Post (AV.i IntKind.i64 0) h0))))
  h) := by kernel_rfl
/- arras/reg.Merge -/
theorem vc17 (a : AV) (b : AV) (h : Hp) (Post : AV → Hp → Prop) : vcCall Try.prog [] 17 [(SV.vv a), (SV.vv b)] h Post = (
  wpC Try.prog 24 [a]
  (fun a0 h0 =>
    onRet [Sh.one Kd.bool] a0 fun c0 =>
      onB (!c0) (Post (AV.tup [AV.ns, AV.i IntKind.i64 1]) h0)
        (wpC Try.prog 24 [b]
          (fun a1 h1 =>
            onRet [Sh.one Kd.bool] a1 fun c1 =>
              onB (!c1) (Post (AV.tup [AV.ns, AV.i IntKind.i64 1]) h1)
                (wpC Try.prog 31 [a]
                  (fun a2 h2 =>
                    onRet [Sh.one Kd.ref] a2 fun a3 =>
                      onO (lenV b) fun p0 =>
                        ∃ I0 : Nat → AV → Int → Hp → Prop,
                          (∃ p1, I0 p1 a3 0 h2) ∧
                            ∀ (p2 : Nat) (h3 : Hp) (a4 : AV),
                              a4.sc = true →
                                ∀ (n0 : Int),
                                  I0 p2 a4 n0 h3 →
                                    onB (decide (n0 < ↑p0))
                                      (onO (idxV b n0 4) fun r0 =>
                                        onO (rdH h3 r0.fst r0.snd 4) fun l0 =>
                                          onL [Kd.int IntKind.i64, Kd.int IntKind.i64, Kd.int IntKind.i64, Kd.int IntKind.i64] l0 fun n1 n2 n3 n4 =>
                                            ∀ (p3 : Nat),
                                              wpC Try.prog 27 [a4, AV.agg [AV.i IntKind.i64 n1, AV.i IntKind.i64 n2, AV.i IntKind.i64 n3, AV.i IntKind.i64 n4]]
                                                (fun a5 h4 => onRet [Sh.one Kd.ref] a5 fun a6 => onO (intO BinOp.add IntKind.i64 n0 1) fun n5 => ∃ p4, ltN p4 p2 ∧ I0 p4 a6 n5 h4) h3)
                                      (Post (AV.tup [a4, AV.i IntKind.i64 0]) h3))
                  h1))
          h0))
  h) := by kernel_rfl
/- arras/reg.Get -/
theorem vc18 (a : AV) (b : Int) (h : Hp) (Post : AV → Hp → Prop) : vcCall Try.prog [] 18 [(SV.vv a), (SV.ii .i64 b)] h Post = (
  wpC Try.prog 24 [a]
  (fun a0 h0 =>
    onRet [Sh.one Kd.bool] a0 fun c0 =>
      onB (!c0) (Post (AV.tup [AV.i IntKind.i64 0, AV.i IntKind.i64 1]) h0)
        (wpC Try.prog 32 [a, AV.i IntKind.i64 b]
          (fun a1 h1 =>
            onTup [Sh.one (Kd.int IntKind.i64), Sh.one Kd.bool] a1 fun n0 c1 =>
              onB (!c1) (Post (AV.tup [AV.i IntKind.i64 0, AV.i IntKind.i64 3]) h1)
                (onO (idxV a n0 4) fun r0 => onO (rdH h1 r0.fst (r0.snd + 1) 1) fun l0 => onL [Kd.int IntKind.i64] l0 fun n1 => Post (AV.tup [AV.i IntKind.i64 n1, AV.i IntKind.i64 0]) h1))
          h0))
  h) := by kernel_rfl
/- arras/arraslaw15.heavy -/
theorem vc7 (a0 : AV) (a1 : AV) (a2 : AV) (h : Hp) (Post : AV → Hp → Prop) : vcCall Try.prog [] 7 [(SV.ag [(SV.vv a0), (SV.vv a1), (SV.vv a2)])] h Post = (
  ∀ (p0 : Nat),
  onO (lenV a0) fun p1 =>
    onO (lenV a1) fun p2 => onO (intO BinOp.add IntKind.i64 ↑p1 ↑p2) fun n0 => onO (lenV a2) fun p3 => onO (intO BinOp.add IntKind.i64 n0 ↑p3) fun n1 => Post (AV.b (decide (2000 < n1))) h) := by kernel_rfl
/- arras/arraslaw15.num -/
theorem vc11 (a : Int) (h : Hp) (Post : AV → Hp → Prop) : vcCall Try.prog [] 11 [(SV.ii .i64 a)] h Post = (
  Post (AV.i IntKind.i64 a) h) := by kernel_rfl
/- arras/arrasref8.value -/
theorem vc30 (a : Int) (h : Hp) (Post : AV → Hp → Prop) : vcCall Try.prog [] 30 [(SV.ii .i64 a)] h Post = (
  onB (decide (a = 0)) (Post (AV.tup [AV.i IntKind.i64 0, AV.i IntKind.i64 2, AV.i IntKind.i64 0, AV.b true]) h)
  (onB (decide (a = 1))
    (onB (decide (a = 1)) (Post (AV.tup [AV.i IntKind.i64 0, AV.i IntKind.i64 1, AV.i IntKind.i64 0, AV.b true]) h)
      (onB (decide (a = 3))
        (onB (decide (a = 3)) (Post (AV.tup [AV.i IntKind.i64 (-1), AV.i IntKind.i64 1099511627776, AV.i IntKind.i64 (-1), AV.b true]) h)
          (onB (decide (a = 5))
            (onB (decide (a = 5)) (Post (AV.tup [AV.i IntKind.i64 0, AV.i IntKind.i64 1099511627776, AV.i IntKind.i64 0, AV.b true]) h)
              (onB (decide (a = 9)) (Post (AV.tup [AV.i IntKind.i64 0, AV.i IntKind.i64 1048576, AV.i IntKind.i64 0, AV.b true]) h)
                (onB (decide (a = 10)) (Post (AV.tup [AV.i IntKind.i64 0, AV.i IntKind.i64 1048576, AV.i IntKind.i64 1, AV.b true]) h)
                  (onB (decide (a = 12))
                    (onB (decide (a = 12)) (Post (AV.tup [AV.i IntKind.i64 0, AV.i IntKind.i64 1073741824, AV.i IntKind.i64 0, AV.b true]) h)
                      (onB (decide (a = 15)) (Post (AV.tup [AV.i IntKind.i64 0, AV.i IntKind.i64 4, AV.i IntKind.i64 0, AV.b true]) h)
                        (onB (decide (a = 16)) (Post (AV.tup [AV.i IntKind.i64 0, AV.i IntKind.i64 3, AV.i IntKind.i64 0, AV.b true]) h)
                          (onB (decide (a = 17)) (Post (AV.tup [AV.i IntKind.i64 0, AV.i IntKind.i64 16777215, AV.i IntKind.i64 0, AV.b true]) h)
                            (onB (decide (a = 18)) (Post (AV.tup [AV.i IntKind.i64 64, AV.i IntKind.i64 64000, AV.i IntKind.i64 1024, AV.b true]) h)
                              (Post (AV.tup [AV.i IntKind.i64 0, AV.i IntKind.i64 0, AV.i IntKind.i64 0, AV.b false]) h))))))
                    (onB (decide (a = 13))
                      (onB (decide (a = 13)) (Post (AV.tup [AV.i IntKind.i64 0, AV.i IntKind.i64 1073741824, AV.i IntKind.i64 0, AV.b true]) h)
                        (onB (decide (a = 15)) (Post (AV.tup [AV.i IntKind.i64 0, AV.i IntKind.i64 4, AV.i IntKind.i64 0, AV.b true]) h)
                          (onB (decide (a = 16)) (Post (AV.tup [AV.i IntKind.i64 0, AV.i IntKind.i64 3, AV.i IntKind.i64 0, AV.b true]) h)
                            (onB (decide (a = 17)) (Post (AV.tup [AV.i IntKind.i64 0, AV.i IntKind.i64 16777215, AV.i IntKind.i64 0, AV.b true]) h)
                              (onB (decide (a = 18)) (Post (AV.tup [AV.i IntKind.i64 64, AV.i IntKind.i64 64000, AV.i IntKind.i64 1024, AV.b true]) h)
                                (Post (AV.tup [AV.i IntKind.i64 0, AV.i IntKind.i64 0, AV.i IntKind.i64 0, AV.b false]) h))))))
                      (onB (decide (a = 14)) (Post (AV.tup [AV.i IntKind.i64 0, AV.i IntKind.i64 1073741824, AV.i IntKind.i64 0, AV.b true]) h)
                        (onB (decide (a = 15)) (Post (AV.tup [AV.i IntKind.i64 0, AV.i IntKind.i64 4, AV.i IntKind.i64 0, AV.b true]) h)
                          (onB (decide (a = 16)) (Post (AV.tup [AV.i IntKind.i64 0, AV.i IntKind.i64 3, AV.i IntKind.i64 0, AV.b true]) h)
                            (onB (decide (a = 17)) (Post (AV.tup [AV.i IntKind.i64 0, AV.i IntKind.i64 16777215, AV.i IntKind.i64 0, AV.b true]) h)
                              (onB (decide (a = 18)) (Post (AV.tup [AV.i IntKind.i64 64, AV.i IntKind.i64 64000, AV.i IntKind.i64 1024, AV.b true]) h)
                                (Post (AV.tup [AV.i IntKind.i64 0, AV.i IntKind.i64 0, AV.i IntKind.i64 0, AV.b false]) h)))))))))))
            (onB (decide (a = 7)) (Post (AV.tup [AV.i IntKind.i64 0, AV.i IntKind.i64 1099511627776, AV.i IntKind.i64 0, AV.b true]) h)
              (onB (decide (a = 9)) (Post (AV.tup [AV.i IntKind.i64 0, AV.i IntKind.i64 1048576, AV.i IntKind.i64 0, AV.b true]) h)
                (onB (decide (a = 10)) (Post (AV.tup [AV.i IntKind.i64 0, AV.i IntKind.i64 1048576, AV.i IntKind.i64 1, AV.b true]) h)
                  (onB (decide (a = 12))
                    (onB (decide (a = 12)) (Post (AV.tup [AV.i IntKind.i64 0, AV.i IntKind.i64 1073741824, AV.i IntKind.i64 0, AV.b true]) h)
                      (onB (decide (a = 15)) (Post (AV.tup [AV.i IntKind.i64 0, AV.i IntKind.i64 4, AV.i IntKind.i64 0, AV.b true]) h)
                        (onB (decide (a = 16)) (Post (AV.tup [AV.i IntKind.i64 0, AV.i IntKind.i64 3, AV.i IntKind.i64 0, AV.b true]) h)
                          (onB (decide (a = 17)) (Post (AV.tup [AV.i IntKind.i64 0, AV.i IntKind.i64 16777215, AV.i IntKind.i64 0, AV.b true]) h)
                            (onB (decide (a = 18)) (Post (AV.tup [AV.i IntKind.i64 64, AV.i IntKind.i64 64000, AV.i IntKind.i64 1024, AV.b true]) h)
                              (Post (AV.tup [AV.i IntKind.i64 0, AV.i IntKind.i64 0, AV.i IntKind.i64 0, AV.b false]) h))))))
                    (onB (decide (a = 13))
                      (onB (decide (a = 13)) (Post (AV.tup [AV.i IntKind.i64 0, AV.i IntKind.i64 1073741824, AV.i IntKind.i64 0, AV.b true]) h)
                        (onB (decide (a = 15)) (Post (AV.tup [AV.i IntKind.i64 0, AV.i IntKind.i64 4, AV.i IntKind.i64 0, AV.b true]) h)
                          (onB (decide (a = 16)) (Post (AV.tup [AV.i IntKind.i64 0, AV.i IntKind.i64 3, AV.i IntKind.i64 0, AV.b true]) h)
                            (onB (decide (a = 17)) (Post (AV.tup [AV.i IntKind.i64 0, AV.i IntKind.i64 16777215, AV.i IntKind.i64 0, AV.b true]) h)
                              (onB (decide (a = 18)) (Post (AV.tup [AV.i IntKind.i64 64, AV.i IntKind.i64 64000, AV.i IntKind.i64 1024, AV.b true]) h)
                                (Post (AV.tup [AV.i IntKind.i64 0, AV.i IntKind.i64 0, AV.i IntKind.i64 0, AV.b false]) h))))))
                      (onB (decide (a = 14)) (Post (AV.tup [AV.i IntKind.i64 0, AV.i IntKind.i64 1073741824, AV.i IntKind.i64 0, AV.b true]) h)
                        (onB (decide (a = 15)) (Post (AV.tup [AV.i IntKind.i64 0, AV.i IntKind.i64 4, AV.i IntKind.i64 0, AV.b true]) h)
                          (onB (decide (a = 16)) (Post (AV.tup [AV.i IntKind.i64 0, AV.i IntKind.i64 3, AV.i IntKind.i64 0, AV.b true]) h)
                            (onB (decide (a = 17)) (Post (AV.tup [AV.i IntKind.i64 0, AV.i IntKind.i64 16777215, AV.i IntKind.i64 0, AV.b true]) h)
                              (onB (decide (a = 18)) (Post (AV.tup [AV.i IntKind.i64 64, AV.i IntKind.i64 64000, AV.i IntKind.i64 1024, AV.b true]) h)
                                (Post (AV.tup [AV.i IntKind.i64 0, AV.i IntKind.i64 0, AV.i IntKind.i64 0, AV.b false]) h)))))))))))))
        (onB (decide (a = 4))
          (onB (decide (a = 4)) (Post (AV.tup [AV.i IntKind.i64 (-1), AV.i IntKind.i64 1099511627776, AV.i IntKind.i64 (-1), AV.b true]) h)
            (onB (decide (a = 5))
              (onB (decide (a = 5)) (Post (AV.tup [AV.i IntKind.i64 0, AV.i IntKind.i64 1099511627776, AV.i IntKind.i64 0, AV.b true]) h)
                (onB (decide (a = 9)) (Post (AV.tup [AV.i IntKind.i64 0, AV.i IntKind.i64 1048576, AV.i IntKind.i64 0, AV.b true]) h)
                  (onB (decide (a = 10)) (Post (AV.tup [AV.i IntKind.i64 0, AV.i IntKind.i64 1048576, AV.i IntKind.i64 1, AV.b true]) h)
                    (onB (decide (a = 12))
                      (onB (decide (a = 12)) (Post (AV.tup [AV.i IntKind.i64 0, AV.i IntKind.i64 1073741824, AV.i IntKind.i64 0, AV.b true]) h)
                        (onB (decide (a = 15)) (Post (AV.tup [AV.i IntKind.i64 0, AV.i IntKind.i64 4, AV.i IntKind.i64 0, AV.b true]) h)
                          (onB (decide (a = 16)) (Post (AV.tup [AV.i IntKind.i64 0, AV.i IntKind.i64 3, AV.i IntKind.i64 0, AV.b true]) h)
                            (onB (decide (a = 17)) (Post (AV.tup [AV.i IntKind.i64 0, AV.i IntKind.i64 16777215, AV.i IntKind.i64 0, AV.b true]) h)
                              (onB (decide (a = 18)) (Post (AV.tup [AV.i IntKind.i64 64, AV.i IntKind.i64 64000, AV.i IntKind.i64 1024, AV.b true]) h)
                                (Post (AV.tup [AV.i IntKind.i64 0, AV.i IntKind.i64 0, AV.i IntKind.i64 0, AV.b false]) h))))))
                      (onB (decide (a = 13))
                        (onB (decide (a = 13)) (Post (AV.tup [AV.i IntKind.i64 0, AV.i IntKind.i64 1073741824, AV.i IntKind.i64 0, AV.b true]) h)
                          (onB (decide (a = 15)) (Post (AV.tup [AV.i IntKind.i64 0, AV.i IntKind.i64 4, AV.i IntKind.i64 0, AV.b true]) h)
                            (onB (decide (a = 16)) (Post (AV.tup [AV.i IntKind.i64 0, AV.i IntKind.i64 3, AV.i IntKind.i64 0, AV.b true]) h)
                              (onB (decide (a = 17)) (Post (AV.tup [AV.i IntKind.i64 0, AV.i IntKind.i64 16777215, AV.i IntKind.i64 0, AV.b true]) h)
                                (onB (decide (a = 18)) (Post (AV.tup [AV.i IntKind.i64 64, AV.i IntKind.i64 64000, AV.i IntKind.i64 1024, AV.b true]) h)
                                  (Post (AV.tup [AV.i IntKind.i64 0, AV.i IntKind.i64 0, AV.i IntKind.i64 0, AV.b false]) h))))))
                        (onB (decide (a = 14)) (Post (AV.tup [AV.i IntKind.i64 0, AV.i IntKind.i64 1073741824, AV.i IntKind.i64 0, AV.b true]) h)
                          (onB (decide (a = 15)) (Post (AV.tup [AV.i IntKind.i64 0, AV.i IntKind.i64 4, AV.i IntKind.i64 0, AV.b true]) h)
                            (onB (decide (a = 16)) (Post (AV.tup [AV.i IntKind.i64 0, AV.i IntKind.i64 3, AV.i IntKind.i64 0, AV.b true]) h)
                              (onB (decide (a = 17)) (Post (AV.tup [AV.i IntKind.i64 0, AV.i IntKind.i64 16777215, AV.i IntKind.i64 0, AV.b true]) h)
                                (onB (decide (a = 18)) (Post (AV.tup [AV.i IntKind.i64 64, AV.i IntKind.i64 64000, AV.i IntKind.i64 1024, AV.b true]) h)
                                  (Post (AV.tup [AV.i IntKind.i64 0, AV.i IntKind.i64 0, AV.i IntKind.i64 0, AV.b false]) h)))))))))))
              (onB (decide (a = 7)) (Post (AV.tup [AV.i IntKind.i64 0, AV.i IntKind.i64 1099511627776, AV.i IntKind.i64 0, AV.b true]) h)
                (onB (decide (a = 9)) (Post (AV.tup [AV.i IntKind.i64 0, AV.i IntKind.i64 1048576, AV.i IntKind.i64 0, AV.b true]) h)
                  (onB (decide (a = 10)) (Post (AV.tup [AV.i IntKind.i64 0, AV.i IntKind.i64 1048576, AV.i IntKind.i64 1, AV.b true]) h)
                    (onB (decide (a = 12))
                      (onB (decide (a = 12)) (Post (AV.tup [AV.i IntKind.i64 0, AV.i IntKind.i64 1073741824, AV.i IntKind.i64 0, AV.b true]) h)
                        (onB (decide (a = 15)) (Post (AV.tup [AV.i IntKind.i64 0, AV.i IntKind.i64 4, AV.i IntKind.i64 0, AV.b true]) h)
                          (onB (decide (a = 16)) (Post (AV.tup [AV.i IntKind.i64 0, AV.i IntKind.i64 3, AV.i IntKind.i64 0, AV.b true]) h)
                            (onB (decide (a = 17)) (Post (AV.tup [AV.i IntKind.i64 0, AV.i IntKind.i64 16777215, AV.i IntKind.i64 0, AV.b true]) h)
                              (onB (decide (a = 18)) (Post (AV.tup [AV.i IntKind.i64 64, AV.i IntKind.i64 64000, AV.i IntKind.i64 1024, AV.b true]) h)
                                (Post (AV.tup [AV.i IntKind.i64 0, AV.i IntKind.i64 0, AV.i IntKind.i64 0, AV.b false]) h))))))
                      (onB (decide (a = 13))
                        (onB (decide (a = 13)) (Post (AV.tup [AV.i IntKind.i64 0, AV.i IntKind.i64 1073741824, AV.i IntKind.i64 0, AV.b true]) h)
                          (onB (decide (a = 15)) (Post (AV.tup [AV.i IntKind.i64 0, AV.i IntKind.i64 4, AV.i IntKind.i64 0, AV.b true]) h)
                            (onB (decide (a = 16)) (Post (AV.tup [AV.i IntKind.i64 0, AV.i IntKind.i64 3, AV.i IntKind.i64 0, AV.b true]) h)
                              (onB (decide (a = 17)) (Post (AV.tup [AV.i IntKind.i64 0, AV.i IntKind.i64 16777215, AV.i IntKind.i64 0, AV.b true]) h)
                                (onB (decide (a = 18)) (Post (AV.tup [AV.i IntKind.i64 64, AV.i IntKind.i64 64000, AV.i IntKind.i64 1024, AV.b true]) h)
                                  (Post (AV.tup [AV.i IntKind.i64 0, AV.i IntKind.i64 0, AV.i IntKind.i64 0, AV.b false]) h))))))
                        (onB (decide (a = 14)) (Post (AV.tup [AV.i IntKind.i64 0, AV.i IntKind.i64 1073741824, AV.i IntKind.i64 0, AV.b true]) h)
                          (onB (decide (a = 15)) (Post (AV.tup [AV.i IntKind.i64 0, AV.i IntKind.i64 4, AV.i IntKind.i64 0, AV.b true]) h)
                            (onB (decide (a = 16)) (Post (AV.tup [AV.i IntKind.i64 0, AV.i IntKind.i64 3, AV.i IntKind.i64 0, AV.b true]) h)
                              (onB (decide (a = 17)) (Post (AV.tup [AV.i IntKind.i64 0, AV.i IntKind.i64 16777215, AV.i IntKind.i64 0, AV.b true]) h)
                                (onB (decide (a = 18)) (Post (AV.tup [AV.i IntKind.i64 64, AV.i IntKind.i64 64000, AV.i IntKind.i64 1024, AV.b true]) h)
                                  (Post (AV.tup [AV.i IntKind.i64 0, AV.i IntKind.i64 0, AV.i IntKind.i64 0, AV.b false]) h)))))))))))))
          (onB (decide (a = 6))
            (onB (decide (a = 6)) (Post (AV.tup [AV.i IntKind.i64 (-1), AV.i IntKind.i64 1099511627776, AV.i IntKind.i64 (-1), AV.b true]) h)
              (onB (decide (a = 5))
                (onB (decide (a = 5)) (Post (AV.tup [AV.i IntKind.i64 0, AV.i IntKind.i64 1099511627776, AV.i IntKind.i64 0, AV.b true]) h)
                  (onB (decide (a = 9)) (Post (AV.tup [AV.i IntKind.i64 0, AV.i IntKind.i64 1048576, AV.i IntKind.i64 0, AV.b true]) h)
                    (onB (decide (a = 10)) (Post (AV.tup [AV.i IntKind.i64 0, AV.i IntKind.i64 1048576, AV.i IntKind.i64 1, AV.b true]) h)
                      (onB (decide (a = 12))
                        (onB (decide (a = 12)) (Post (AV.tup [AV.i IntKind.i64 0, AV.i IntKind.i64 1073741824, AV.i IntKind.i64 0, AV.b true]) h)
                          (onB (decide (a = 15)) (Post (AV.tup [AV.i IntKind.i64 0, AV.i IntKind.i64 4, AV.i IntKind.i64 0, AV.b true]) h)
                            (onB (decide (a = 16)) (Post (AV.tup [AV.i IntKind.i64 0, AV.i IntKind.i64 3, AV.i IntKind.i64 0, AV.b true]) h)
                              (onB (decide (a = 17)) (Post (AV.tup [AV.i IntKind.i64 0, AV.i IntKind.i64 16777215, AV.i IntKind.i64 0, AV.b true]) h)
                                (onB (decide (a = 18)) (Post (AV.tup [AV.i IntKind.i64 64, AV.i IntKind.i64 64000, AV.i IntKind.i64 1024, AV.b true]) h)
                                  (Post (AV.tup [AV.i IntKind.i64 0, AV.i IntKind.i64 0, AV.i IntKind.i64 0, AV.b false]) h))))))
                        (onB (decide (a = 13))
                          (onB (decide (a = 13)) (Post (AV.tup [AV.i IntKind.i64 0, AV.i IntKind.i64 1073741824, AV.i IntKind.i64 0, AV.b true]) h)
                            (onB (decide (a = 15)) (Post (AV.tup [AV.i IntKind.i64 0, AV.i IntKind.i64 4, AV.i IntKind.i64 0, AV.b true]) h)
                              (onB (decide (a = 16)) (Post (AV.tup [AV.i IntKind.i64 0, AV.i IntKind.i64 3, AV.i IntKind.i64 0, AV.b true]) h)
                                (onB (decide (a = 17)) (Post (AV.tup [AV.i IntKind.i64 0, AV.i IntKind.i64 16777215, AV.i IntKind.i64 0, AV.b true]) h)
                                  (onB (decide (a = 18)) (Post (AV.tup [AV.i IntKind.i64 64, AV.i IntKind.i64 64000, AV.i IntKind.i64 1024, AV.b true]) h)
                                    (Post (AV.tup [AV.i IntKind.i64 0, AV.i IntKind.i64 0, AV.i IntKind.i64 0, AV.b false]) h))))))
                          (onB (decide (a = 14)) (Post (AV.tup [AV.i IntKind.i64 0, AV.i IntKind.i64 1073741824, AV.i IntKind.i64 0, AV.b true]) h)
                            (onB (decide (a = 15)) (Post (AV.tup [AV.i IntKind.i64 0, AV.i IntKind.i64 4, AV.i IntKind.i64 0, AV.b true]) h)
                              (onB (decide (a = 16)) (Post (AV.tup [AV.i IntKind.i64 0, AV.i IntKind.i64 3, AV.i IntKind.i64 0, AV.b true]) h)
                                (onB (decide (a = 17)) (Post (AV.tup [AV.i IntKind.i64 0, AV.i IntKind.i64 16777215, AV.i IntKind.i64 0, AV.b true]) h)
                                  (onB (decide (a = 18)) (Post (AV.tup [AV.i IntKind.i64 64, AV.i IntKind.i64 64000, AV.i IntKind.i64 1024, AV.b true]) h)
                                    (Post (AV.tup [AV.i IntKind.i64 0, AV.i IntKind.i64 0, AV.i IntKind.i64 0, AV.b false]) h)))))))))))
                (onB (decide (a = 7)) (Post (AV.tup [AV.i IntKind.i64 0, AV.i IntKind.i64 1099511627776, AV.i IntKind.i64 0, AV.b true]) h)
                  (onB (decide (a = 9)) (Post (AV.tup [AV.i IntKind.i64 0, AV.i IntKind.i64 1048576, AV.i IntKind.i64 0, AV.b true]) h)
                    (onB (decide (a = 10)) (Post (AV.tup [AV.i IntKind.i64 0, AV.i IntKind.i64 1048576, AV.i IntKind.i64 1, AV.b true]) h)
                      (onB (decide (a = 12))
                        (onB (decide (a = 12)) (Post (AV.tup [AV.i IntKind.i64 0, AV.i IntKind.i64 1073741824, AV.i IntKind.i64 0, AV.b true]) h)
                          (onB (decide (a = 15)) (Post (AV.tup [AV.i IntKind.i64 0, AV.i IntKind.i64 4, AV.i IntKind.i64 0, AV.b true]) h)
                            (onB (decide (a = 16)) (Post (AV.tup [AV.i IntKind.i64 0, AV.i IntKind.i64 3, AV.i IntKind.i64 0, AV.b true]) h)
                              (onB (decide (a = 17)) (Post (AV.tup [AV.i IntKind.i64 0, AV.i IntKind.i64 16777215, AV.i IntKind.i64 0, AV.b true]) h)
                                (onB (decide (a = 18)) (Post (AV.tup [AV.i IntKind.i64 64, AV.i IntKind.i64 64000, AV.i IntKind.i64 1024, AV.b true]) h)
                                  (Post (AV.tup [AV.i IntKind.i64 0, AV.i IntKind.i64 0, AV.i IntKind.i64 0, AV.b false]) h))))))
                        (onB (decide (a = 13))
                          (onB (decide (a = 13)) (Post (AV.tup [AV.i IntKind.i64 0, AV.i IntKind.i64 1073741824, AV.i IntKind.i64 0, AV.b true]) h)
                            (onB (decide (a = 15)) (Post (AV.tup [AV.i IntKind.i64 0, AV.i IntKind.i64 4, AV.i IntKind.i64 0, AV.b true]) h)
                              (onB (decide (a = 16)) (Post (AV.tup [AV.i IntKind.i64 0, AV.i IntKind.i64 3, AV.i IntKind.i64 0, AV.b true]) h)
                                (onB (decide (a = 17)) (Post (AV.tup [AV.i IntKind.i64 0, AV.i IntKind.i64 16777215, AV.i IntKind.i64 0, AV.b true]) h)
                                  (onB (decide (a = 18)) (Post (AV.tup [AV.i IntKind.i64 64, AV.i IntKind.i64 64000, AV.i IntKind.i64 1024, AV.b true]) h)
                                    (Post (AV.tup [AV.i IntKind.i64 0, AV.i IntKind.i64 0, AV.i IntKind.i64 0, AV.b false]) h))))))
                          (onB (decide (a = 14)) (Post (AV.tup [AV.i IntKind.i64 0, AV.i IntKind.i64 1073741824, AV.i IntKind.i64 0, AV.b true]) h)
                            (onB (decide (a = 15)) (Post (AV.tup [AV.i IntKind.i64 0, AV.i IntKind.i64 4, AV.i IntKind.i64 0, AV.b true]) h)
                              (onB (decide (a = 16)) (Post (AV.tup [AV.i IntKind.i64 0, AV.i IntKind.i64 3, AV.i IntKind.i64 0, AV.b true]) h)
                                (onB (decide (a = 17)) (Post (AV.tup [AV.i IntKind.i64 0, AV.i IntKind.i64 16777215, AV.i IntKind.i64 0, AV.b true]) h)
                                  (onB (decide (a = 18)) (Post (AV.tup [AV.i IntKind.i64 64, AV.i IntKind.i64 64000, AV.i IntKind.i64 1024, AV.b true]) h)
                                    (Post (AV.tup [AV.i IntKind.i64 0, AV.i IntKind.i64 0, AV.i IntKind.i64 0, AV.b false]) h)))))))))))))
            (onB (decide (a = 8))
              (onB (decide (a = 8)) (Post (AV.tup [AV.i IntKind.i64 (-1), AV.i IntKind.i64 1099511627776, AV.i IntKind.i64 (-1), AV.b true]) h)
                (onB (decide (a = 5))
                  (onB (decide (a = 5)) (Post (AV.tup [AV.i IntKind.i64 0, AV.i IntKind.i64 1099511627776, AV.i IntKind.i64 0, AV.b true]) h)
                    (onB (decide (a = 9)) (Post (AV.tup [AV.i IntKind.i64 0, AV.i IntKind.i64 1048576, AV.i IntKind.i64 0, AV.b true]) h)
                      (onB (decide (a = 10)) (Post (AV.tup [AV.i IntKind.i64 0, AV.i IntKind.i64 1048576, AV.i IntKind.i64 1, AV.b true]) h)
                        (onB (decide (a = 12))
                          (onB (decide (a = 12)) (Post (AV.tup [AV.i IntKind.i64 0, AV.i IntKind.i64 1073741824, AV.i IntKind.i64 0, AV.b true]) h)
                            (onB (decide (a = 15)) (Post (AV.tup [AV.i IntKind.i64 0, AV.i IntKind.i64 4, AV.i IntKind.i64 0, AV.b true]) h)
                              (onB (decide (a = 16)) (Post (AV.tup [AV.i IntKind.i64 0, AV.i IntKind.i64 3, AV.i IntKind.i64 0, AV.b true]) h)
                                (onB (decide (a = 17)) (Post (AV.tup [AV.i IntKind.i64 0, AV.i IntKind.i64 16777215, AV.i IntKind.i64 0, AV.b true]) h)
                                  (onB (decide (a = 18)) (Post (AV.tup [AV.i IntKind.i64 64, AV.i IntKind.i64 64000, AV.i IntKind.i64 1024, AV.b true]) h)
                                    (Post (AV.tup [AV.i IntKind.i64 0, AV.i IntKind.i64 0, AV.i IntKind.i64 0, AV.b false]) h))))))
                          (onB (decide (a = 13))
                            (onB (decide (a = 13)) (Post (AV.tup [AV.i IntKind.i64 0, AV.i IntKind.i64 1073741824, AV.i IntKind.i64 0, AV.b true]) h)
                              (onB (decide (a = 15)) (Post (AV.tup [AV.i IntKind.i64 0, AV.i IntKind.i64 4, AV.i IntKind.i64 0, AV.b true]) h)
                                (onB (decide (a = 16)) (Post (AV.tup [AV.i IntKind.i64 0, AV.i IntKind.i64 3, AV.i IntKind.i64 0, AV.b true]) h)
                                  (onB (decide (a = 17)) (Post (AV.tup [AV.i IntKind.i64 0, AV.i IntKind.i64 16777215, AV.i IntKind.i64 0, AV.b true]) h)
                                    (onB (decide (a = 18)) (Post (AV.tup [AV.i IntKind.i64 64, AV.i IntKind.i64 64000, AV.i IntKind.i64 1024, AV.b true]) h)
                                      (Post (AV.tup [AV.i IntKind.i64 0, AV.i IntKind.i64 0, AV.i IntKind.i64 0, AV.b false]) h))))))
                            (onB (decide (a = 14)) (Post (AV.tup [AV.i IntKind.i64 0, AV.i IntKind.i64 1073741824, AV.i IntKind.i64 0, AV.b true]) h)
                              (onB (decide (a = 15)) (Post (AV.tup [AV.i IntKind.i64 0, AV.i IntKind.i64 4, AV.i IntKind.i64 0, AV.b true]) h)
                                (onB (decide (a = 16)) (Post (AV.tup [AV.i IntKind.i64 0, AV.i IntKind.i64 3, AV.i IntKind.i64 0, AV.b true]) h)
                                  (onB (decide (a = 17)) (Post (AV.tup [AV.i IntKind.i64 0, AV.i IntKind.i64 16777215, AV.i IntKind.i64 0, AV.b true]) h)
                                    (onB (decide (a = 18)) (Post (AV.tup [AV.i IntKind.i64 64, AV.i IntKind.i64 64000, AV.i IntKind.i64 1024, AV.b true]) h)
                                      (Post (AV.tup [AV.i IntKind.i64 0, AV.i IntKind.i64 0, AV.i IntKind.i64 0, AV.b false]) h)))))))))))
                  (onB (decide (a = 7)) (Post (AV.tup [AV.i IntKind.i64 0, AV.i IntKind.i64 1099511627776, AV.i IntKind.i64 0, AV.b true]) h)
                    (onB (decide (a = 9)) (Post (AV.tup [AV.i IntKind.i64 0, AV.i IntKind.i64 1048576, AV.i IntKind.i64 0, AV.b true]) h)
                      (onB (decide (a = 10)) (Post (AV.tup [AV.i IntKind.i64 0, AV.i IntKind.i64 1048576, AV.i IntKind.i64 1, AV.b true]) h)
                        (onB (decide (a = 12))
                          (onB (decide (a = 12)) (Post (AV.tup [AV.i IntKind.i64 0, AV.i IntKind.i64 1073741824, AV.i IntKind.i64 0, AV.b true]) h)
                            (onB (decide (a = 15)) (Post (AV.tup [AV.i IntKind.i64 0, AV.i IntKind.i64 4, AV.i IntKind.i64 0, AV.b true]) h)
                              (onB (decide (a = 16)) (Post (AV.tup [AV.i IntKind.i64 0, AV.i IntKind.i64 3, AV.i IntKind.i64 0, AV.b true]) h)
                                (onB (decide (a = 17)) (Post (AV.tup [AV.i IntKind.i64 0, AV.i IntKind.i64 16777215, AV.i IntKind.i64 0, AV.b true]) h)
                                  (onB (decide (a = 18)) (Post (AV.tup [AV.i IntKind.i64 64, AV.i IntKind.i64 64000, AV.i IntKind.i64 1024, AV.b true]) h)
                                    (Post (AV.tup [AV.i IntKind.i64 0, AV.i IntKind.i64 0, AV.i IntKind.i64 0, AV.b false]) h))))))
                          (onB (decide (a = 13))
                            (onB (decide (a = 13)) (Post (AV.tup [AV.i IntKind.i64 0, AV.i IntKind.i64 1073741824, AV.i IntKind.i64 0, AV.b true]) h)
                              (onB (decide (a = 15)) (Post (AV.tup [AV.i IntKind.i64 0, AV.i IntKind.i64 4, AV.i IntKind.i64 0, AV.b true]) h)
                                (onB (decide (a = 16)) (Post (AV.tup [AV.i IntKind.i64 0, AV.i IntKind.i64 3, AV.i IntKind.i64 0, AV.b true]) h)
                                  (onB (decide (a = 17)) (Post (AV.tup [AV.i IntKind.i64 0, AV.i IntKind.i64 16777215, AV.i IntKind.i64 0, AV.b true]) h)
                                    (onB (decide (a = 18)) (Post (AV.tup [AV.i IntKind.i64 64, AV.i IntKind.i64 64000, AV.i IntKind.i64 1024, AV.b true]) h)
                                      (Post (AV.tup [AV.i IntKind.i64 0, AV.i IntKind.i64 0, AV.i IntKind.i64 0, AV.b false]) h))))))
                            (onB (decide (a = 14)) (Post (AV.tup [AV.i IntKind.i64 0, AV.i IntKind.i64 1073741824, AV.i IntKind.i64 0, AV.b true]) h)
                              (onB (decide (a = 15)) (Post (AV.tup [AV.i IntKind.i64 0, AV.i IntKind.i64 4, AV.i IntKind.i64 0, AV.b true]) h)
                                (onB (decide (a = 16)) (Post (AV.tup [AV.i IntKind.i64 0, AV.i IntKind.i64 3, AV.i IntKind.i64 0, AV.b true]) h)
                                  (onB (decide (a = 17)) (Post (AV.tup [AV.i IntKind.i64 0, AV.i IntKind.i64 16777215, AV.i IntKind.i64 0, AV.b true]) h)
                                    (onB (decide (a = 18)) (Post (AV.tup [AV.i IntKind.i64 64, AV.i IntKind.i64 64000, AV.i IntKind.i64 1024, AV.b true]) h)
                                      (Post (AV.tup [AV.i IntKind.i64 0, AV.i IntKind.i64 0, AV.i IntKind.i64 0, AV.b false]) h)))))))))))))
              (onB (decide (a = 11)) (Post (AV.tup [AV.i IntKind.i64 (-1), AV.i IntKind.i64 1099511627776, AV.i IntKind.i64 (-1), AV.b true]) h)
                (onB (decide (a = 5))
                  (onB (decide (a = 5)) (Post (AV.tup [AV.i IntKind.i64 0, AV.i IntKind.i64 1099511627776, AV.i IntKind.i64 0, AV.b true]) h)
                    (onB (decide (a = 9)) (Post (AV.tup [AV.i IntKind.i64 0, AV.i IntKind.i64 1048576, AV.i IntKind.i64 0, AV.b true]) h)
                      (onB (decide (a = 10)) (Post (AV.tup [AV.i IntKind.i64 0, AV.i IntKind.i64 1048576, AV.i IntKind.i64 1, AV.b true]) h)
                        (onB (decide (a = 12))
                          (onB (decide (a = 12)) (Post (AV.tup [AV.i IntKind.i64 0, AV.i IntKind.i64 1073741824, AV.i IntKind.i64 0, AV.b true]) h)
                            (onB (decide (a = 15)) (Post (AV.tup [AV.i IntKind.i64 0, AV.i IntKind.i64 4, AV.i IntKind.i64 0, AV.b true]) h)
                              (onB (decide (a = 16)) (Post (AV.tup [AV.i IntKind.i64 0, AV.i IntKind.i64 3, AV.i IntKind.i64 0, AV.b true]) h)
                                (onB (decide (a = 17)) (Post (AV.tup [AV.i IntKind.i64 0, AV.i IntKind.i64 16777215, AV.i IntKind.i64 0, AV.b true]) h)
                                  (onB (decide (a = 18)) (Post (AV.tup [AV.i IntKind.i64 64, AV.i IntKind.i64 64000, AV.i IntKind.i64 1024, AV.b true]) h)
                                    (Post (AV.tup [AV.i IntKind.i64 0, AV.i IntKind.i64 0, AV.i IntKind.i64 0, AV.b false]) h))))))
                          (onB (decide (a = 13))
                            (onB (decide (a = 13)) (Post (AV.tup [AV.i IntKind.i64 0, AV.i IntKind.i64 1073741824, AV.i IntKind.i64 0, AV.b true]) h)
                              (onB (decide (a = 15)) (Post (AV.tup [AV.i IntKind.i64 0, AV.i IntKind.i64 4, AV.i IntKind.i64 0, AV.b true]) h)
                                (onB (decide (a = 16)) (Post (AV.tup [AV.i IntKind.i64 0, AV.i IntKind.i64 3, AV.i IntKind.i64 0, AV.b true]) h)
                                  (onB (decide (a = 17)) (Post (AV.tup [AV.i IntKind.i64 0, AV.i IntKind.i64 16777215, AV.i IntKind.i64 0, AV.b true]) h)
                                    (onB (decide (a = 18)) (Post (AV.tup [AV.i IntKind.i64 64, AV.i IntKind.i64 64000, AV.i IntKind.i64 1024, AV.b true]) h)
                                      (Post (AV.tup [AV.i IntKind.i64 0, AV.i IntKind.i64 0, AV.i IntKind.i64 0, AV.b false]) h))))))
                            (onB (decide (a = 14)) (Post (AV.tup [AV.i IntKind.i64 0, AV.i IntKind.i64 1073741824, AV.i IntKind.i64 0, AV.b true]) h)
                              (onB (decide (a = 15)) (Post (AV.tup [AV.i IntKind.i64 0, AV.i IntKind.i64 4, AV.i IntKind.i64 0, AV.b true]) h)
                                (onB (decide (a = 16)) (Post (AV.tup [AV.i IntKind.i64 0, AV.i IntKind.i64 3, AV.i IntKind.i64 0, AV.b true]) h)
                                  (onB (decide (a = 17)) (Post (AV.tup [AV.i IntKind.i64 0, AV.i IntKind.i64 16777215, AV.i IntKind.i64 0, AV.b true]) h)
                                    (onB (decide (a = 18)) (Post (AV.tup [AV.i IntKind.i64 64, AV.i IntKind.i64 64000, AV.i IntKind.i64 1024, AV.b true]) h)
                                      (Post (AV.tup [AV.i IntKind.i64 0, AV.i IntKind.i64 0, AV.i IntKind.i64 0, AV.b false]) h)))))))))))
                  (onB (decide (a = 7)) (Post (AV.tup [AV.i IntKind.i64 0, AV.i IntKind.i64 1099511627776, AV.i IntKind.i64 0, AV.b true]) h)
                    (onB (decide (a = 9)) (Post (AV.tup [AV.i IntKind.i64 0, AV.i IntKind.i64 1048576, AV.i IntKind.i64 0, AV.b true]) h)
                      (onB (decide (a = 10)) (Post (AV.tup [AV.i IntKind.i64 0, AV.i IntKind.i64 1048576, AV.i IntKind.i64 1, AV.b true]) h)
                        (onB (decide (a = 12))
                          (onB (decide (a = 12)) (Post (AV.tup [AV.i IntKind.i64 0, AV.i IntKind.i64 1073741824, AV.i IntKind.i64 0, AV.b true]) h)
                            (onB (decide (a = 15)) (Post (AV.tup [AV.i IntKind.i64 0, AV.i IntKind.i64 4, AV.i IntKind.i64 0, AV.b true]) h)
                              (onB (decide (a = 16)) (Post (AV.tup [AV.i IntKind.i64 0, AV.i IntKind.i64 3, AV.i IntKind.i64 0, AV.b true]) h)
                                (onB (decide (a = 17)) (Post (AV.tup [AV.i IntKind.i64 0, AV.i IntKind.i64 16777215, AV.i IntKind.i64 0, AV.b true]) h)
                                  (onB (decide (a = 18)) (Post (AV.tup [AV.i IntKind.i64 64, AV.i IntKind.i64 64000, AV.i IntKind.i64 1024, AV.b true]) h)
                                    (Post (AV.tup [AV.i IntKind.i64 0, AV.i IntKind.i64 0, AV.i IntKind.i64 0, AV.b false]) h))))))
                          (onB (decide (a = 13))
                            (onB (decide (a = 13)) (Post (AV.tup [AV.i IntKind.i64 0, AV.i IntKind.i64 1073741824, AV.i IntKind.i64 0, AV.b true]) h)
                              (onB (decide (a = 15)) (Post (AV.tup [AV.i IntKind.i64 0, AV.i IntKind.i64 4, AV.i IntKind.i64 0, AV.b true]) h)
                                (onB (decide (a = 16)) (Post (AV.tup [AV.i IntKind.i64 0, AV.i IntKind.i64 3, AV.i IntKind.i64 0, AV.b true]) h)
                                  (onB (decide (a = 17)) (Post (AV.tup [AV.i IntKind.i64 0, AV.i IntKind.i64 16777215, AV.i IntKind.i64 0, AV.b true]) h)
                                    (onB (decide (a = 18)) (Post (AV.tup [AV.i IntKind.i64 64, AV.i IntKind.i64 64000, AV.i IntKind.i64 1024, AV.b true]) h)
                                      (Post (AV.tup [AV.i IntKind.i64 0, AV.i IntKind.i64 0, AV.i IntKind.i64 0, AV.b false]) h))))))
                            (onB (decide (a = 14)) (Post (AV.tup [AV.i IntKind.i64 0, AV.i IntKind.i64 1073741824, AV.i IntKind.i64 0, AV.b true]) h)
                              (onB (decide (a = 15)) (Post (AV.tup [AV.i IntKind.i64 0, AV.i IntKind.i64 4, AV.i IntKind.i64 0, AV.b true]) h)
                                (onB (decide (a = 16)) (Post (AV.tup [AV.i IntKind.i64 0, AV.i IntKind.i64 3, AV.i IntKind.i64 0, AV.b true]) h)
                                  (onB (decide (a = 17)) (Post (AV.tup [AV.i IntKind.i64 0, AV.i IntKind.i64 16777215, AV.i IntKind.i64 0, AV.b true]) h)
                                    (onB (decide (a = 18)) (Post (AV.tup [AV.i IntKind.i64 64, AV.i IntKind.i64 64000, AV.i IntKind.i64 1024, AV.b true]) h)
                                      (Post (AV.tup [AV.i IntKind.i64 0, AV.i IntKind.i64 0, AV.i IntKind.i64 0, AV.b false]) h))))))))))))))))))
    (onB (decide (a = 2)) (Post (AV.tup [AV.i IntKind.i64 0, AV.i IntKind.i64 1, AV.i IntKind.i64 0, AV.b true]) h)
      (onB (decide (a = 3))
        (onB (decide (a = 3)) (Post (AV.tup [AV.i IntKind.i64 (-1), AV.i IntKind.i64 1099511627776, AV.i IntKind.i64 (-1), AV.b true]) h)
          (onB (decide (a = 5))
            (onB (decide (a = 5)) (Post (AV.tup [AV.i IntKind.i64 0, AV.i IntKind.i64 1099511627776, AV.i IntKind.i64 0, AV.b true]) h)
              (onB (decide (a = 9)) (Post (AV.tup [AV.i IntKind.i64 0, AV.i IntKind.i64 1048576, AV.i IntKind.i64 0, AV.b true]) h)
                (onB (decide (a = 10)) (Post (AV.tup [AV.i IntKind.i64 0, AV.i IntKind.i64 1048576, AV.i IntKind.i64 1, AV.b true]) h)
                  (onB (decide (a = 12))
                    (onB (decide (a = 12)) (Post (AV.tup [AV.i IntKind.i64 0, AV.i IntKind.i64 1073741824, AV.i IntKind.i64 0, AV.b true]) h)
                      (onB (decide (a = 15)) (Post (AV.tup [AV.i IntKind.i64 0, AV.i IntKind.i64 4, AV.i IntKind.i64 0, AV.b true]) h)
                        (onB (decide (a = 16)) (Post (AV.tup [AV.i IntKind.i64 0, AV.i IntKind.i64 3, AV.i IntKind.i64 0, AV.b true]) h)
                          (onB (decide (a = 17)) (Post (AV.tup [AV.i IntKind.i64 0, AV.i IntKind.i64 16777215, AV.i IntKind.i64 0, AV.b true]) h)
                            (onB (decide (a = 18)) (Post (AV.tup [AV.i IntKind.i64 64, AV.i IntKind.i64 64000, AV.i IntKind.i64 1024, AV.b true]) h)
                              (Post (AV.tup [AV.i IntKind.i64 0, AV.i IntKind.i64 0, AV.i IntKind.i64 0, AV.b false]) h))))))
                    (onB (decide (a = 13))
                      (onB (decide (a = 13)) (Post (AV.tup [AV.i IntKind.i64 0, AV.i IntKind.i64 1073741824, AV.i IntKind.i64 0, AV.b true]) h)
                        (onB (decide (a = 15)) (Post (AV.tup [AV.i IntKind.i64 0, AV.i IntKind.i64 4, AV.i IntKind.i64 0, AV.b true]) h)
                          (onB (decide (a = 16)) (Post (AV.tup [AV.i IntKind.i64 0, AV.i IntKind.i64 3, AV.i IntKind.i64 0, AV.b true]) h)
                            (onB (decide (a = 17)) (Post (AV.tup [AV.i IntKind.i64 0, AV.i IntKind.i64 16777215, AV.i IntKind.i64 0, AV.b true]) h)
                              (onB (decide (a = 18)) (Post (AV.tup [AV.i IntKind.i64 64, AV.i IntKind.i64 64000, AV.i IntKind.i64 1024, AV.b true]) h)
                                (Post (AV.tup [AV.i IntKind.i64 0, AV.i IntKind.i64 0, AV.i IntKind.i64 0, AV.b false]) h))))))
                      (onB (decide (a = 14)) (Post (AV.tup [AV.i IntKind.i64 0, AV.i IntKind.i64 1073741824, AV.i IntKind.i64 0, AV.b true]) h)
                        (onB (decide (a = 15)) (Post (AV.tup [AV.i IntKind.i64 0, AV.i IntKind.i64 4, AV.i IntKind.i64 0, AV.b true]) h)
                          (onB (decide (a = 16)) (Post (AV.tup [AV.i IntKind.i64 0, AV.i IntKind.i64 3, AV.i IntKind.i64 0, AV.b true]) h)
                            (onB (decide (a = 17)) (Post (AV.tup [AV.i IntKind.i64 0, AV.i IntKind.i64 16777215, AV.i IntKind.i64 0, AV.b true]) h)
                              (onB (decide (a = 18)) (Post (AV.tup [AV.i IntKind.i64 64, AV.i IntKind.i64 64000, AV.i IntKind.i64 1024, AV.b true]) h)
                                (Post (AV.tup [AV.i IntKind.i64 0, AV.i IntKind.i64 0, AV.i IntKind.i64 0, AV.b false]) h)))))))))))
            (onB (decide (a = 7)) (Post (AV.tup [AV.i IntKind.i64 0, AV.i IntKind.i64 1099511627776, AV.i IntKind.i64 0, AV.b true]) h)
              (onB (decide (a = 9)) (Post (AV.tup [AV.i IntKind.i64 0, AV.i IntKind.i64 1048576, AV.i IntKind.i64 0, AV.b true]) h)
                (onB (decide (a = 10)) (Post (AV.tup [AV.i IntKind.i64 0, AV.i IntKind.i64 1048576, AV.i IntKind.i64 1, AV.b true]) h)
                  (onB (decide (a = 12))
                    (onB (decide (a = 12)) (Post (AV.tup [AV.i IntKind.i64 0, AV.i IntKind.i64 1073741824, AV.i IntKind.i64 0, AV.b true]) h)
                      (onB (decide (a = 15)) (Post (AV.tup [AV.i IntKind.i64 0, AV.i IntKind.i64 4, AV.i IntKind.i64 0, AV.b true]) h)
                        (onB (decide (a = 16)) (Post (AV.tup [AV.i IntKind.i64 0, AV.i IntKind.i64 3, AV.i IntKind.i64 0, AV.b true]) h)
                          (onB (decide (a = 17)) (Post (AV.tup [AV.i IntKind.i64 0, AV.i IntKind.i64 16777215, AV.i IntKind.i64 0, AV.b true]) h)
                            (onB (decide (a = 18)) (Post (AV.tup [AV.i IntKind.i64 64, AV.i IntKind.i64 64000, AV.i IntKind.i64 1024, AV.b true]) h)
                              (Post (AV.tup [AV.i IntKind.i64 0, AV.i IntKind.i64 0, AV.i IntKind.i64 0, AV.b false]) h))))))
                    (onB (decide (a = 13))
                      (onB (decide (a = 13)) (Post (AV.tup [AV.i IntKind.i64 0, AV.i IntKind.i64 1073741824, AV.i IntKind.i64 0, AV.b true]) h)
                        (onB (decide (a = 15)) (Post (AV.tup [AV.i IntKind.i64 0, AV.i IntKind.i64 4, AV.i IntKind.i64 0, AV.b true]) h)
                          (onB (decide (a = 16)) (Post (AV.tup [AV.i IntKind.i64 0, AV.i IntKind.i64 3, AV.i IntKind.i64 0, AV.b true]) h)
                            (onB (decide (a = 17)) (Post (AV.tup [AV.i IntKind.i64 0, AV.i IntKind.i64 16777215, AV.i IntKind.i64 0, AV.b true]) h)
                              (onB (decide (a = 18)) (Post (AV.tup [AV.i IntKind.i64 64, AV.i IntKind.i64 64000, AV.i IntKind.i64 1024, AV.b true]) h)
                                (Post (AV.tup [AV.i IntKind.i64 0, AV.i IntKind.i64 0, AV.i IntKind.i64 0, AV.b false]) h))))))
                      (onB (decide (a = 14)) (Post (AV.tup [AV.i IntKind.i64 0, AV.i IntKind.i64 1073741824, AV.i IntKind.i64 0, AV.b true]) h)
                        (onB (decide (a = 15)) (Post (AV.tup [AV.i IntKind.i64 0, AV.i IntKind.i64 4, AV.i IntKind.i64 0, AV.b true]) h)
                          (onB (decide (a = 16)) (Post (AV.tup [AV.i IntKind.i64 0, AV.i IntKind.i64 3, AV.i IntKind.i64 0, AV.b true]) h)
                            (onB (decide (a = 17)) (Post (AV.tup [AV.i IntKind.i64 0, AV.i IntKind.i64 16777215, AV.i IntKind.i64 0, AV.b true]) h)
                              (onB (decide (a = 18)) (Post (AV.tup [AV.i IntKind.i64 64, AV.i IntKind.i64 64000, AV.i IntKind.i64 1024, AV.b true]) h)
                                (Post (AV.tup [AV.i IntKind.i64 0, AV.i IntKind.i64 0, AV.i IntKind.i64 0, AV.b false]) h)))))))))))))
        (onB (decide (a = 4))
          (onB (decide (a = 4)) (Post (AV.tup [AV.i IntKind.i64 (-1), AV.i IntKind.i64 1099511627776, AV.i IntKind.i64 (-1), AV.b true]) h)
            (onB (decide (a = 5))
              (onB (decide (a = 5)) (Post (AV.tup [AV.i IntKind.i64 0, AV.i IntKind.i64 1099511627776, AV.i IntKind.i64 0, AV.b true]) h)
                (onB (decide (a = 9)) (Post (AV.tup [AV.i IntKind.i64 0, AV.i IntKind.i64 1048576, AV.i IntKind.i64 0, AV.b true]) h)
                  (onB (decide (a = 10)) (Post (AV.tup [AV.i IntKind.i64 0, AV.i IntKind.i64 1048576, AV.i IntKind.i64 1, AV.b true]) h)
                    (onB (decide (a = 12))
                      (onB (decide (a = 12)) (Post (AV.tup [AV.i IntKind.i64 0, AV.i IntKind.i64 1073741824, AV.i IntKind.i64 0, AV.b true]) h)
                        (onB (decide (a = 15)) (Post (AV.tup [AV.i IntKind.i64 0, AV.i IntKind.i64 4, AV.i IntKind.i64 0, AV.b true]) h)
                          (onB (decide (a = 16)) (Post (AV.tup [AV.i IntKind.i64 0, AV.i IntKind.i64 3, AV.i IntKind.i64 0, AV.b true]) h)
                            (onB (decide (a = 17)) (Post (AV.tup [AV.i IntKind.i64 0, AV.i IntKind.i64 16777215, AV.i IntKind.i64 0, AV.b true]) h)
                              (onB (decide (a = 18)) (Post (AV.tup [AV.i IntKind.i64 64, AV.i IntKind.i64 64000, AV.i IntKind.i64 1024, AV.b true]) h)
                                (Post (AV.tup [AV.i IntKind.i64 0, AV.i IntKind.i64 0, AV.i IntKind.i64 0, AV.b false]) h))))))
                      (onB (decide (a = 13))
                        (onB (decide (a = 13)) (Post (AV.tup [AV.i IntKind.i64 0, AV.i IntKind.i64 1073741824, AV.i IntKind.i64 0, AV.b true]) h)
                          (onB (decide (a = 15)) (Post (AV.tup [AV.i IntKind.i64 0, AV.i IntKind.i64 4, AV.i IntKind.i64 0, AV.b true]) h)
                            (onB (decide (a = 16)) (Post (AV.tup [AV.i IntKind.i64 0, AV.i IntKind.i64 3, AV.i IntKind.i64 0, AV.b true]) h)
                              (onB (decide (a = 17)) (Post (AV.tup [AV.i IntKind.i64 0, AV.i IntKind.i64 16777215, AV.i IntKind.i64 0, AV.b true]) h)
                                (onB (decide (a = 18)) (Post (AV.tup [AV.i IntKind.i64 64, AV.i IntKind.i64 64000, AV.i IntKind.i64 1024, AV.b true]) h)
                                  (Post (AV.tup [AV.i IntKind.i64 0, AV.i IntKind.i64 0, AV.i IntKind.i64 0, AV.b false]) h))))))
                        (onB (decide (a = 14)) (Post (AV.tup [AV.i IntKind.i64 0, AV.i IntKind.i64 1073741824, AV.i IntKind.i64 0, AV.b true]) h)
                          (onB (decide (a = 15)) (Post (AV.tup [AV.i IntKind.i64 0, AV.i IntKind.i64 4, AV.i IntKind.i64 0, AV.b true]) h)
                            (onB (decide (a = 16)) (Post (AV.tup [AV.i IntKind.i64 0, AV.i IntKind.i64 3, AV.i IntKind.i64 0, AV.b true]) h)
                              (onB (decide (a = 17)) (Post (AV.tup [AV.i IntKind.i64 0, AV.i IntKind.i64 16777215, AV.i IntKind.i64 0, AV.b true]) h)
                                (onB (decide (a = 18)) (Post (AV.tup [AV.i IntKind.i64 64, AV.i IntKind.i64 64000, AV.i IntKind.i64 1024, AV.b true]) h)
                                  (Post (AV.tup [AV.i IntKind.i64 0, AV.i IntKind.i64 0, AV.i IntKind.i64 0, AV.b false]) h)))))))))))
              (onB (decide (a = 7)) (Post (AV.tup [AV.i IntKind.i64 0, AV.i IntKind.i64 1099511627776, AV.i IntKind.i64 0, AV.b true]) h)
                (onB (decide (a = 9)) (Post (AV.tup [AV.i IntKind.i64 0, AV.i IntKind.i64 1048576, AV.i IntKind.i64 0, AV.b true]) h)
                  (onB (decide (a = 10)) (Post (AV.tup [AV.i IntKind.i64 0, AV.i IntKind.i64 1048576, AV.i IntKind.i64 1, AV.b true]) h)
                    (onB (decide (a = 12))
                      (onB (decide (a = 12)) (Post (AV.tup [AV.i IntKind.i64 0, AV.i IntKind.i64 1073741824, AV.i IntKind.i64 0, AV.b true]) h)
                        (onB (decide (a = 15)) (Post (AV.tup [AV.i IntKind.i64 0, AV.i IntKind.i64 4, AV.i IntKind.i64 0, AV.b true]) h)
                          (onB (decide (a = 16)) (Post (AV.tup [AV.i IntKind.i64 0, AV.i IntKind.i64 3, AV.i IntKind.i64 0, AV.b true]) h)
                            (onB (decide (a = 17)) (Post (AV.tup [AV.i IntKind.i64 0, AV.i IntKind.i64 16777215, AV.i IntKind.i64 0, AV.b true]) h)
                              (onB (decide (a = 18)) (Post (AV.tup [AV.i IntKind.i64 64, AV.i IntKind.i64 64000, AV.i IntKind.i64 1024, AV.b true]) h)
                                (Post (AV.tup [AV.i IntKind.i64 0, AV.i IntKind.i64 0, AV.i IntKind.i64 0, AV.b false]) h))))))
                      (onB (decide (a = 13))
                        (onB (decide (a = 13)) (Post (AV.tup [AV.i IntKind.i64 0, AV.i IntKind.i64 1073741824, AV.i IntKind.i64 0, AV.b true]) h)
                          (onB (decide (a = 15)) (Post (AV.tup [AV.i IntKind.i64 0, AV.i IntKind.i64 4, AV.i IntKind.i64 0, AV.b true]) h)
                            (onB (decide (a = 16)) (Post (AV.tup [AV.i IntKind.i64 0, AV.i IntKind.i64 3, AV.i IntKind.i64 0, AV.b true]) h)
                              (onB (decide (a = 17)) (Post (AV.tup [AV.i IntKind.i64 0, AV.i IntKind.i64 16777215, AV.i IntKind.i64 0, AV.b true]) h)
                                (onB (decide (a = 18)) (Post (AV.tup [AV.i IntKind.i64 64, AV.i IntKind.i64 64000, AV.i IntKind.i64 1024, AV.b true]) h)
                                  (Post (AV.tup [AV.i IntKind.i64 0, AV.i IntKind.i64 0, AV.i IntKind.i64 0, AV.b false]) h))))))
                        (onB (decide (a = 14)) (Post (AV.tup [AV.i IntKind.i64 0, AV.i IntKind.i64 1073741824, AV.i IntKind.i64 0, AV.b true]) h)
                          (onB (decide (a = 15)) (Post (AV.tup [AV.i IntKind.i64 0, AV.i IntKind.i64 4, AV.i IntKind.i64 0, AV.b true]) h)
                            (onB (decide (a = 16)) (Post (AV.tup [AV.i IntKind.i64 0, AV.i IntKind.i64 3, AV.i IntKind.i64 0, AV.b true]) h)
                              (onB (decide (a = 17)) (Post (AV.tup [AV.i IntKind.i64 0, AV.i IntKind.i64 16777215, AV.i IntKind.i64 0, AV.b true]) h)
                                (onB (decide (a = 18)) (Post (AV.tup [AV.i IntKind.i64 64, AV.i IntKind.i64 64000, AV.i IntKind.i64 1024, AV.b true]) h)
                                  (Post (AV.tup [AV.i IntKind.i64 0, AV.i IntKind.i64 0, AV.i IntKind.i64 0, AV.b false]) h)))))))))))))
          (onB (decide (a = 6))
            (onB (decide (a = 6)) (Post (AV.tup [AV.i IntKind.i64 (-1), AV.i IntKind.i64 1099511627776, AV.i IntKind.i64 (-1), AV.b true]) h)
              (onB (decide (a = 5))
                (onB (decide (a = 5)) (Post (AV.tup [AV.i IntKind.i64 0, AV.i IntKind.i64 1099511627776, AV.i IntKind.i64 0, AV.b true]) h)
                  (onB (decide (a = 9)) (Post (AV.tup [AV.i IntKind.i64 0, AV.i IntKind.i64 1048576, AV.i IntKind.i64 0, AV.b true]) h)
                    (onB (decide (a = 10)) (Post (AV.tup [AV.i IntKind.i64 0, AV.i IntKind.i64 1048576, AV.i IntKind.i64 1, AV.b true]) h)
                      (onB (decide (a = 12))
                        (onB (decide (a = 12)) (Post (AV.tup [AV.i IntKind.i64 0, AV.i IntKind.i64 1073741824, AV.i IntKind.i64 0, AV.b true]) h)
                          (onB (decide (a = 15)) (Post (AV.tup [AV.i IntKind.i64 0, AV.i IntKind.i64 4, AV.i IntKind.i64 0, AV.b true]) h)
                            (onB (decide (a = 16)) (Post (AV.tup [AV.i IntKind.i64 0, AV.i IntKind.i64 3, AV.i IntKind.i64 0, AV.b true]) h)
                              (onB (decide (a = 17)) (Post (AV.tup [AV.i IntKind.i64 0, AV.i IntKind.i64 16777215, AV.i IntKind.i64 0, AV.b true]) h)
                                (onB (decide (a = 18)) (Post (AV.tup [AV.i IntKind.i64 64, AV.i IntKind.i64 64000, AV.i IntKind.i64 1024, AV.b true]) h)
                                  (Post (AV.tup [AV.i IntKind.i64 0, AV.i IntKind.i64 0, AV.i IntKind.i64 0, AV.b false]) h))))))
                        (onB (decide (a = 13))
                          (onB (decide (a = 13)) (Post (AV.tup [AV.i IntKind.i64 0, AV.i IntKind.i64 1073741824, AV.i IntKind.i64 0, AV.b true]) h)
                            (onB (decide (a = 15)) (Post (AV.tup [AV.i IntKind.i64 0, AV.i IntKind.i64 4, AV.i IntKind.i64 0, AV.b true]) h)
                              (onB (decide (a = 16)) (Post (AV.tup [AV.i IntKind.i64 0, AV.i IntKind.i64 3, AV.i IntKind.i64 0, AV.b true]) h)
                                (onB (decide (a = 17)) (Post (AV.tup [AV.i IntKind.i64 0, AV.i IntKind.i64 16777215, AV.i IntKind.i64 0, AV.b true]) h)
                                  (onB (decide (a = 18)) (Post (AV.tup [AV.i IntKind.i64 64, AV.i IntKind.i64 64000, AV.i IntKind.i64 1024, AV.b true]) h)
                                    (Post (AV.tup [AV.i IntKind.i64 0, AV.i IntKind.i64 0, AV.i IntKind.i64 0, AV.b false]) h))))))
                          (onB (decide (a = 14)) (Post (AV.tup [AV.i IntKind.i64 0, AV.i IntKind.i64 1073741824, AV.i IntKind.i64 0, AV.b true]) h)
                            (onB (decide (a = 15)) (Post (AV.tup [AV.i IntKind.i64 0, AV.i IntKind.i64 4, AV.i IntKind.i64 0, AV.b true]) h)
                              (onB (decide (a = 16)) (Post (AV.tup [AV.i IntKind.i64 0, AV.i IntKind.i64 3, AV.i IntKind.i64 0, AV.b true]) h)
                                (onB (decide (a = 17)) (Post (AV.tup [AV.i IntKind.i64 0, AV.i IntKind.i64 16777215, AV.i IntKind.i64 0, AV.b true]) h)
                                  (onB (decide (a = 18)) (Post (AV.tup [AV.i IntKind.i64 64, AV.i IntKind.i64 64000, AV.i IntKind.i64 1024, AV.b true]) h)
                                    (Post (AV.tup [AV.i IntKind.i64 0, AV.i IntKind.i64 0, AV.i IntKind.i64 0, AV.b false]) h)))))))))))
                (onB (decide (a = 7)) (Post (AV.tup [AV.i IntKind.i64 0, AV.i IntKind.i64 1099511627776, AV.i IntKind.i64 0, AV.b true]) h)
                  (onB (decide (a = 9)) (Post (AV.tup [AV.i IntKind.i64 0, AV.i IntKind.i64 1048576, AV.i IntKind.i64 0, AV.b true]) h)
                    (onB (decide (a = 10)) (Post (AV.tup [AV.i IntKind.i64 0, AV.i IntKind.i64 1048576, AV.i IntKind.i64 1, AV.b true]) h)
                      (onB (decide (a = 12))
                        (onB (decide (a = 12)) (Post (AV.tup [AV.i IntKind.i64 0, AV.i IntKind.i64 1073741824, AV.i IntKind.i64 0, AV.b true]) h)
                          (onB (decide (a = 15)) (Post (AV.tup [AV.i IntKind.i64 0, AV.i IntKind.i64 4, AV.i IntKind.i64 0, AV.b true]) h)
                            (onB (decide (a = 16)) (Post (AV.tup [AV.i IntKind.i64 0, AV.i IntKind.i64 3, AV.i IntKind.i64 0, AV.b true]) h)
                              (onB (decide (a = 17)) (Post (AV.tup [AV.i IntKind.i64 0, AV.i IntKind.i64 16777215, AV.i IntKind.i64 0, AV.b true]) h)
                                (onB (decide (a = 18)) (Post (AV.tup [AV.i IntKind.i64 64, AV.i IntKind.i64 64000, AV.i IntKind.i64 1024, AV.b true]) h)
                                  (Post (AV.tup [AV.i IntKind.i64 0, AV.i IntKind.i64 0, AV.i IntKind.i64 0, AV.b false]) h))))))
                        (onB (decide (a = 13))
                          (onB (decide (a = 13)) (Post (AV.tup [AV.i IntKind.i64 0, AV.i IntKind.i64 1073741824, AV.i IntKind.i64 0, AV.b true]) h)
                            (onB (decide (a = 15)) (Post (AV.tup [AV.i IntKind.i64 0, AV.i IntKind.i64 4, AV.i IntKind.i64 0, AV.b true]) h)
                              (onB (decide (a = 16)) (Post (AV.tup [AV.i IntKind.i64 0, AV.i IntKind.i64 3, AV.i IntKind.i64 0, AV.b true]) h)
                                (onB (decide (a = 17)) (Post (AV.tup [AV.i IntKind.i64 0, AV.i IntKind.i64 16777215, AV.i IntKind.i64 0, AV.b true]) h)
                                  (onB (decide (a = 18)) (Post (AV.tup [AV.i IntKind.i64 64, AV.i IntKind.i64 64000, AV.i IntKind.i64 1024, AV.b true]) h)
                                    (Post (AV.tup [AV.i IntKind.i64 0, AV.i IntKind.i64 0, AV.i IntKind.i64 0, AV.b false]) h))))))
                          (onB (decide (a = 14)) (Post (AV.tup [AV.i IntKind.i64 0, AV.i IntKind.i64 1073741824, AV.i IntKind.i64 0, AV.b true]) h)
                            (onB (decide (a = 15)) (Post (AV.tup [AV.i IntKind.i64 0, AV.i IntKind.i64 4, AV.i IntKind.i64 0, AV.b true]) h)
                              (onB (decide (a = 16)) (Post (AV.tup [AV.i IntKind.i64 0, AV.i IntKind.i64 3, AV.i IntKind.i64 0, AV.b true]) h)
                                (onB (decide (a = 17)) (Post (AV.tup [AV.i IntKind.i64 0, AV.i IntKind.i64 16777215, AV.i IntKind.i64 0, AV.b true]) h)
                                  (onB (decide (a = 18)) (Post (AV.tup [AV.i IntKind.i64 64, AV.i IntKind.i64 64000, AV.i IntKind.i64 1024, AV.b true]) h)
                                    (Post (AV.tup [AV.i IntKind.i64 0, AV.i IntKind.i64 0, AV.i IntKind.i64 0, AV.b false]) h)))))))))))))
            (onB (decide (a = 8))
              (onB (decide (a = 8)) (Post (AV.tup [AV.i IntKind.i64 (-1), AV.i IntKind.i64 1099511627776, AV.i IntKind.i64 (-1), AV.b true]) h)
                (onB (decide (a = 5))
                  (onB (decide (a = 5)) (Post (AV.tup [AV.i IntKind.i64 0, AV.i IntKind.i64 1099511627776, AV.i IntKind.i64 0, AV.b true]) h)
                    (onB (decide (a = 9)) (Post (AV.tup [AV.i IntKind.i64 0, AV.i IntKind.i64 1048576, AV.i IntKind.i64 0, AV.b true]) h)
                      (onB (decide (a = 10)) (Post (AV.tup [AV.i IntKind.i64 0, AV.i IntKind.i64 1048576, AV.i IntKind.i64 1, AV.b true]) h)
                        (onB (decide (a = 12))
                          (onB (decide (a = 12)) (Post (AV.tup [AV.i IntKind.i64 0, AV.i IntKind.i64 1073741824, AV.i IntKind.i64 0, AV.b true]) h)
                            (onB (decide (a = 15)) (Post (AV.tup [AV.i IntKind.i64 0, AV.i IntKind.i64 4, AV.i IntKind.i64 0, AV.b true]) h)
                              (onB (decide (a = 16)) (Post (AV.tup [AV.i IntKind.i64 0, AV.i IntKind.i64 3, AV.i IntKind.i64 0, AV.b true]) h)
                                (onB (decide (a = 17)) (Post (AV.tup [AV.i IntKind.i64 0, AV.i IntKind.i64 16777215, AV.i IntKind.i64 0, AV.b true]) h)
                                  (onB (decide (a = 18)) (Post (AV.tup [AV.i IntKind.i64 64, AV.i IntKind.i64 64000, AV.i IntKind.i64 1024, AV.b true]) h)
                                    (Post (AV.tup [AV.i IntKind.i64 0, AV.i IntKind.i64 0, AV.i IntKind.i64 0, AV.b false]) h))))))
                          (onB (decide (a = 13))
                            (onB (decide (a = 13)) (Post (AV.tup [AV.i IntKind.i64 0, AV.i IntKind.i64 1073741824, AV.i IntKind.i64 0, AV.b true]) h)
                              (onB (decide (a = 15)) (Post (AV.tup [AV.i IntKind.i64 0, AV.i IntKind.i64 4, AV.i IntKind.i64 0, AV.b true]) h)
                                (onB (decide (a = 16)) (Post (AV.tup [AV.i IntKind.i64 0, AV.i IntKind.i64 3, AV.i IntKind.i64 0, AV.b true]) h)
                                  (onB (decide (a = 17)) (Post (AV.tup [AV.i IntKind.i64 0, AV.i IntKind.i64 16777215, AV.i IntKind.i64 0, AV.b true]) h)
                                    (onB (decide (a = 18)) (Post (AV.tup [AV.i IntKind.i64 64, AV.i IntKind.i64 64000, AV.i IntKind.i64 1024, AV.b true]) h)
                                      (Post (AV.tup [AV.i IntKind.i64 0, AV.i IntKind.i64 0, AV.i IntKind.i64 0, AV.b false]) h))))))
                            (onB (decide (a = 14)) (Post (AV.tup [AV.i IntKind.i64 0, AV.i IntKind.i64 1073741824, AV.i IntKind.i64 0, AV.b true]) h)
                              (onB (decide (a = 15)) (Post (AV.tup [AV.i IntKind.i64 0, AV.i IntKind.i64 4, AV.i IntKind.i64 0, AV.b true]) h)
                                (onB (decide (a = 16)) (Post (AV.tup [AV.i IntKind.i64 0, AV.i IntKind.i64 3, AV.i IntKind.i64 0, AV.b true]) h)
                                  (onB (decide (a = 17)) (Post (AV.tup [AV.i IntKind.i64 0, AV.i IntKind.i64 16777215, AV.i IntKind.i64 0, AV.b true]) h)
                                    (onB (decide (a = 18)) (Post (AV.tup [AV.i IntKind.i64 64, AV.i IntKind.i64 64000, AV.i IntKind.i64 1024, AV.b true]) h)
                                      (Post (AV.tup [AV.i IntKind.i64 0, AV.i IntKind.i64 0, AV.i IntKind.i64 0, AV.b false]) h)))))))))))
                  (onB (decide (a = 7)) (Post (AV.tup [AV.i IntKind.i64 0, AV.i IntKind.i64 1099511627776, AV.i IntKind.i64 0, AV.b true]) h)
                    (onB (decide (a = 9)) (Post (AV.tup [AV.i IntKind.i64 0, AV.i IntKind.i64 1048576, AV.i IntKind.i64 0, AV.b true]) h)
                      (onB (decide (a = 10)) (Post (AV.tup [AV.i IntKind.i64 0, AV.i IntKind.i64 1048576, AV.i IntKind.i64 1, AV.b true]) h)
                        (onB (decide (a = 12))
                          (onB (decide (a = 12)) (Post (AV.tup [AV.i IntKind.i64 0, AV.i IntKind.i64 1073741824, AV.i IntKind.i64 0, AV.b true]) h)
                            (onB (decide (a = 15)) (Post (AV.tup [AV.i IntKind.i64 0, AV.i IntKind.i64 4, AV.i IntKind.i64 0, AV.b true]) h)
                              (onB (decide (a = 16)) (Post (AV.tup [AV.i IntKind.i64 0, AV.i IntKind.i64 3, AV.i IntKind.i64 0, AV.b true]) h)
                                (onB (decide (a = 17)) (Post (AV.tup [AV.i IntKind.i64 0, AV.i IntKind.i64 16777215, AV.i IntKind.i64 0, AV.b true]) h)
                                  (onB (decide (a = 18)) (Post (AV.tup [AV.i IntKind.i64 64, AV.i IntKind.i64 64000, AV.i IntKind.i64 1024, AV.b true]) h)
                                    (Post (AV.tup [AV.i IntKind.i64 0, AV.i IntKind.i64 0, AV.i IntKind.i64 0, AV.b false]) h))))))
                          (onB (decide (a = 13))
                            (onB (decide (a = 13)) (Post (AV.tup [AV.i IntKind.i64 0, AV.i IntKind.i64 1073741824, AV.i IntKind.i64 0, AV.b true]) h)
                              (onB (decide (a = 15)) (Post (AV.tup [AV.i IntKind.i64 0, AV.i IntKind.i64 4, AV.i IntKind.i64 0, AV.b true]) h)
                                (onB (decide (a = 16)) (Post (AV.tup [AV.i IntKind.i64 0, AV.i IntKind.i64 3, AV.i IntKind.i64 0, AV.b true]) h)
                                  (onB (decide (a = 17)) (Post (AV.tup [AV.i IntKind.i64 0, AV.i IntKind.i64 16777215, AV.i IntKind.i64 0, AV.b true]) h)
                                    (onB (decide (a = 18)) (Post (AV.tup [AV.i IntKind.i64 64, AV.i IntKind.i64 64000, AV.i IntKind.i64 1024, AV.b true]) h)
                                      (Post (AV.tup [AV.i IntKind.i64 0, AV.i IntKind.i64 0, AV.i IntKind.i64 0, AV.b false]) h))))))
                            (onB (decide (a = 14)) (Post (AV.tup [AV.i IntKind.i64 0, AV.i IntKind.i64 1073741824, AV.i IntKind.i64 0, AV.b true]) h)
                              (onB (decide (a = 15)) (Post (AV.tup [AV.i IntKind.i64 0, AV.i IntKind.i64 4, AV.i IntKind.i64 0, AV.b true]) h)
                                (onB (decide (a = 16)) (Post (AV.tup [AV.i IntKind.i64 0, AV.i IntKind.i64 3, AV.i IntKind.i64 0, AV.b true]) h)
                                  (onB (decide (a = 17)) (Post (AV.tup [AV.i IntKind.i64 0, AV.i IntKind.i64 16777215, AV.i IntKind.i64 0, AV.b true]) h)
                                    (onB (decide (a = 18)) (Post (AV.tup [AV.i IntKind.i64 64, AV.i IntKind.i64 64000, AV.i IntKind.i64 1024, AV.b true]) h)
                                      (Post (AV.tup [AV.i IntKind.i64 0, AV.i IntKind.i64 0, AV.i IntKind.i64 0, AV.b false]) h)))))))))))))
              (onB (decide (a = 11)) (Post (AV.tup [AV.i IntKind.i64 (-1), AV.i IntKind.i64 1099511627776, AV.i IntKind.i64 (-1), AV.b true]) h)
                (onB (decide (a = 5))
                  (onB (decide (a = 5)) (Post (AV.tup [AV.i IntKind.i64 0, AV.i IntKind.i64 1099511627776, AV.i IntKind.i64 0, AV.b true]) h)
                    (onB (decide (a = 9)) (Post (AV.tup [AV.i IntKind.i64 0, AV.i IntKind.i64 1048576, AV.i IntKind.i64 0, AV.b true]) h)
                      (onB (decide (a = 10)) (Post (AV.tup [AV.i IntKind.i64 0, AV.i IntKind.i64 1048576, AV.i IntKind.i64 1, AV.b true]) h)
                        (onB (decide (a = 12))
                          (onB (decide (a = 12)) (Post (AV.tup [AV.i IntKind.i64 0, AV.i IntKind.i64 1073741824, AV.i IntKind.i64 0, AV.b true]) h)
                            (onB (decide (a = 15)) (Post (AV.tup [AV.i IntKind.i64 0, AV.i IntKind.i64 4, AV.i IntKind.i64 0, AV.b true]) h)
                              (onB (decide (a = 16)) (Post (AV.tup [AV.i IntKind.i64 0, AV.i IntKind.i64 3, AV.i IntKind.i64 0, AV.b true]) h)
                                (onB (decide (a = 17)) (Post (AV.tup [AV.i IntKind.i64 0, AV.i IntKind.i64 16777215, AV.i IntKind.i64 0, AV.b true]) h)
                                  (onB (decide (a = 18)) (Post (AV.tup [AV.i IntKind.i64 64, AV.i IntKind.i64 64000, AV.i IntKind.i64 1024, AV.b true]) h)
                                    (Post (AV.tup [AV.i IntKind.i64 0, AV.i IntKind.i64 0, AV.i IntKind.i64 0, AV.b false]) h))))))
                          (onB (decide (a = 13))
                            (onB (decide (a = 13)) (Post (AV.tup [AV.i IntKind.i64 0, AV.i IntKind.i64 1073741824, AV.i IntKind.i64 0, AV.b true]) h)
                              (onB (decide (a = 15)) (Post (AV.tup [AV.i IntKind.i64 0, AV.i IntKind.i64 4, AV.i IntKind.i64 0, AV.b true]) h)
                                (onB (decide (a = 16)) (Post (AV.tup [AV.i IntKind.i64 0, AV.i IntKind.i64 3, AV.i IntKind.i64 0, AV.b true]) h)
                                  (onB (decide (a = 17)) (Post (AV.tup [AV.i IntKind.i64 0, AV.i IntKind.i64 16777215, AV.i IntKind.i64 0, AV.b true]) h)
                                    (onB (decide (a = 18)) (Post (AV.tup [AV.i IntKind.i64 64, AV.i IntKind.i64 64000, AV.i IntKind.i64 1024, AV.b true]) h)
                                      (Post (AV.tup [AV.i IntKind.i64 0, AV.i IntKind.i64 0, AV.i IntKind.i64 0, AV.b false]) h))))))
                            (onB (decide (a = 14)) (Post (AV.tup [AV.i IntKind.i64 0, AV.i IntKind.i64 1073741824, AV.i IntKind.i64 0, AV.b true]) h)
                              (onB (decide (a = 15)) (Post (AV.tup [AV.i IntKind.i64 0, AV.i IntKind.i64 4, AV.i IntKind.i64 0, AV.b true]) h)
                                (onB (decide (a = 16)) (Post (AV.tup [AV.i IntKind.i64 0, AV.i IntKind.i64 3, AV.i IntKind.i64 0, AV.b true]) h)
                                  (onB (decide (a = 17)) (Post (AV.tup [AV.i IntKind.i64 0, AV.i IntKind.i64 16777215, AV.i IntKind.i64 0, AV.b true]) h)
                                    (onB (decide (a = 18)) (Post (AV.tup [AV.i IntKind.i64 64, AV.i IntKind.i64 64000, AV.i IntKind.i64 1024, AV.b true]) h)
                                      (Post (AV.tup [AV.i IntKind.i64 0, AV.i IntKind.i64 0, AV.i IntKind.i64 0, AV.b false]) h)))))))))))
                  (onB (decide (a = 7)) (Post (AV.tup [AV.i IntKind.i64 0, AV.i IntKind.i64 1099511627776, AV.i IntKind.i64 0, AV.b true]) h)
                    (onB (decide (a = 9)) (Post (AV.tup [AV.i IntKind.i64 0, AV.i IntKind.i64 1048576, AV.i IntKind.i64 0, AV.b true]) h)
                      (onB (decide (a = 10)) (Post (AV.tup [AV.i IntKind.i64 0, AV.i IntKind.i64 1048576, AV.i IntKind.i64 1, AV.b true]) h)
                        (onB (decide (a = 12))
                          (onB (decide (a = 12)) (Post (AV.tup [AV.i IntKind.i64 0, AV.i IntKind.i64 1073741824, AV.i IntKind.i64 0, AV.b true]) h)
                            (onB (decide (a = 15)) (Post (AV.tup [AV.i IntKind.i64 0, AV.i IntKind.i64 4, AV.i IntKind.i64 0, AV.b true]) h)
                              (onB (decide (a = 16)) (Post (AV.tup [AV.i IntKind.i64 0, AV.i IntKind.i64 3, AV.i IntKind.i64 0, AV.b true]) h)
                                (onB (decide (a = 17)) (Post (AV.tup [AV.i IntKind.i64 0, AV.i IntKind.i64 16777215, AV.i IntKind.i64 0, AV.b true]) h)
                                  (onB (decide (a = 18)) (Post (AV.tup [AV.i IntKind.i64 64, AV.i IntKind.i64 64000, AV.i IntKind.i64 1024, AV.b true]) h)
                                    (Post (AV.tup [AV.i IntKind.i64 0, AV.i IntKind.i64 0, AV.i IntKind.i64 0, AV.b false]) h))))))
                          (onB (decide (a = 13))
                            (onB (decide (a = 13)) (Post (AV.tup [AV.i IntKind.i64 0, AV.i IntKind.i64 1073741824, AV.i IntKind.i64 0, AV.b true]) h)
                              (onB (decide (a = 15)) (Post (AV.tup [AV.i IntKind.i64 0, AV.i IntKind.i64 4, AV.i IntKind.i64 0, AV.b true]) h)
                                (onB (decide (a = 16)) (Post (AV.tup [AV.i IntKind.i64 0, AV.i IntKind.i64 3, AV.i IntKind.i64 0, AV.b true]) h)
                                  (onB (decide (a = 17)) (Post (AV.tup [AV.i IntKind.i64 0, AV.i IntKind.i64 16777215, AV.i IntKind.i64 0, AV.b true]) h)
                                    (onB (decide (a = 18)) (Post (AV.tup [AV.i IntKind.i64 64, AV.i IntKind.i64 64000, AV.i IntKind.i64 1024, AV.b true]) h)
                                      (Post (AV.tup [AV.i IntKind.i64 0, AV.i IntKind.i64 0, AV.i IntKind.i64 0, AV.b false]) h))))))
                            (onB (decide (a = 14)) (Post (AV.tup [AV.i IntKind.i64 0, AV.i IntKind.i64 1073741824, AV.i IntKind.i64 0, AV.b true]) h)
                              (onB (decide (a = 15)) (Post (AV.tup [AV.i IntKind.i64 0, AV.i IntKind.i64 4, AV.i IntKind.i64 0, AV.b true]) h)
                                (onB (decide (a = 16)) (Post (AV.tup [AV.i IntKind.i64 0, AV.i IntKind.i64 3, AV.i IntKind.i64 0, AV.b true]) h)
                                  (onB (decide (a = 17)) (Post (AV.tup [AV.i IntKind.i64 0, AV.i IntKind.i64 16777215, AV.i IntKind.i64 0, AV.b true]) h)
                                    (onB (decide (a = 18)) (Post (AV.tup [AV.i IntKind.i64 64, AV.i IntKind.i64 64000, AV.i IntKind.i64 1024, AV.b true]) h)
                                      (Post (AV.tup [AV.i IntKind.i64 0, AV.i IntKind.i64 0, AV.i IntKind.i64 0, AV.b false]) h)))))))))))))))))))) := by kernel_rfl
/- arras/prop.ruleOf -/
theorem vc34 (a : Int) (h : Hp) (Post : AV → Hp → Prop) : vcCall Try.prog [] 34 [(SV.ii .i64 a)] h Post = (
  ∀ (p0 : Nat),
  onB (decide (a = 0)) (Post (AV.agg [AV.i IntKind.i64 0, AV.i IntKind.i64 2, AV.i IntKind.i64 0, AV.b false]) h)
    (onB (decide (a = 1))
      (onB (decide (a = 1)) (Post (AV.agg [AV.i IntKind.i64 0, AV.i IntKind.i64 1, AV.i IntKind.i64 0, AV.b false]) h)
        (onB (decide (a = 3))
          (onB (decide (a = 3)) (Post (AV.agg [AV.i IntKind.i64 (-1), AV.i IntKind.i64 1099511627776, AV.i IntKind.i64 (-1), AV.b false]) h)
            (onB (decide (a = 5))
              (onB (decide (a = 5)) (Post (AV.agg [AV.i IntKind.i64 0, AV.i IntKind.i64 1099511627776, AV.i IntKind.i64 0, AV.b false]) h)
                (onB (decide (a = 9)) (Post (AV.agg [AV.i IntKind.i64 0, AV.i IntKind.i64 1048576, AV.i IntKind.i64 0, AV.b false]) h)
                  (onB (decide (a = 10)) (Post (AV.agg [AV.i IntKind.i64 0, AV.i IntKind.i64 1048576, AV.i IntKind.i64 1, AV.b false]) h)
                    (onB (decide (a = 15)) (Post (AV.agg [AV.i IntKind.i64 0, AV.i IntKind.i64 4, AV.i IntKind.i64 0, AV.b false]) h)
                      (onB (decide (a = 16)) (Post (AV.agg [AV.i IntKind.i64 0, AV.i IntKind.i64 3, AV.i IntKind.i64 0, AV.b false]) h)
                        (onB (decide (a = 17)) (Post (AV.agg [AV.i IntKind.i64 0, AV.i IntKind.i64 16777215, AV.i IntKind.i64 0, AV.b true]) h)
                          (onB (decide (a = 18)) (Post (AV.agg [AV.i IntKind.i64 64, AV.i IntKind.i64 64000, AV.i IntKind.i64 1024, AV.b true]) h)
                            (Post (AV.agg [AV.i IntKind.i64 0, AV.i IntKind.i64 1073741824, AV.i IntKind.i64 0, AV.b false]) h))))))))
              (onB (decide (a = 7)) (Post (AV.agg [AV.i IntKind.i64 0, AV.i IntKind.i64 1099511627776, AV.i IntKind.i64 0, AV.b false]) h)
                (onB (decide (a = 9)) (Post (AV.agg [AV.i IntKind.i64 0, AV.i IntKind.i64 1048576, AV.i IntKind.i64 0, AV.b false]) h)
                  (onB (decide (a = 10)) (Post (AV.agg [AV.i IntKind.i64 0, AV.i IntKind.i64 1048576, AV.i IntKind.i64 1, AV.b false]) h)
                    (onB (decide (a = 15)) (Post (AV.agg [AV.i IntKind.i64 0, AV.i IntKind.i64 4, AV.i IntKind.i64 0, AV.b false]) h)
                      (onB (decide (a = 16)) (Post (AV.agg [AV.i IntKind.i64 0, AV.i IntKind.i64 3, AV.i IntKind.i64 0, AV.b false]) h)
                        (onB (decide (a = 17)) (Post (AV.agg [AV.i IntKind.i64 0, AV.i IntKind.i64 16777215, AV.i IntKind.i64 0, AV.b true]) h)
                          (onB (decide (a = 18)) (Post (AV.agg [AV.i IntKind.i64 64, AV.i IntKind.i64 64000, AV.i IntKind.i64 1024, AV.b true]) h)
                            (Post (AV.agg [AV.i IntKind.i64 0, AV.i IntKind.i64 1073741824, AV.i IntKind.i64 0, AV.b false]) h))))))))))
          (onB (decide (a = 4))
            (onB (decide (a = 4)) (Post (AV.agg [AV.i IntKind.i64 (-1), AV.i IntKind.i64 1099511627776, AV.i IntKind.i64 (-1), AV.b false]) h)
              (onB (decide (a = 5))
                (onB (decide (a = 5)) (Post (AV.agg [AV.i IntKind.i64 0, AV.i IntKind.i64 1099511627776, AV.i IntKind.i64 0, AV.b false]) h)
                  (onB (decide (a = 9)) (Post (AV.agg [AV.i IntKind.i64 0, AV.i IntKind.i64 1048576, AV.i IntKind.i64 0, AV.b false]) h)
                    (onB (decide (a = 10)) (Post (AV.agg [AV.i IntKind.i64 0, AV.i IntKind.i64 1048576, AV.i IntKind.i64 1, AV.b false]) h)
                      (onB (decide (a = 15)) (Post (AV.agg [AV.i IntKind.i64 0, AV.i IntKind.i64 4, AV.i IntKind.i64 0, AV.b false]) h)
                        (onB (decide (a = 16)) (Post (AV.agg [AV.i IntKind.i64 0, AV.i IntKind.i64 3, AV.i IntKind.i64 0, AV.b false]) h)
                          (onB (decide (a = 17)) (Post (AV.agg [AV.i IntKind.i64 0, AV.i IntKind.i64 16777215, AV.i IntKind.i64 0, AV.b true]) h)
                            (onB (decide (a = 18)) (Post (AV.agg [AV.i IntKind.i64 64, AV.i IntKind.i64 64000, AV.i IntKind.i64 1024, AV.b true]) h)
                              (Post (AV.agg [AV.i IntKind.i64 0, AV.i IntKind.i64 1073741824, AV.i IntKind.i64 0, AV.b false]) h))))))))
                (onB (decide (a = 7)) (Post (AV.agg [AV.i IntKind.i64 0, AV.i IntKind.i64 1099511627776, AV.i IntKind.i64 0, AV.b false]) h)
                  (onB (decide (a = 9)) (Post (AV.agg [AV.i IntKind.i64 0, AV.i IntKind.i64 1048576, AV.i IntKind.i64 0, AV.b false]) h)
                    (onB (decide (a = 10)) (Post (AV.agg [AV.i IntKind.i64 0, AV.i IntKind.i64 1048576, AV.i IntKind.i64 1, AV.b false]) h)
                      (onB (decide (a = 15)) (Post (AV.agg [AV.i IntKind.i64 0, AV.i IntKind.i64 4, AV.i IntKind.i64 0, AV.b false]) h)
                        (onB (decide (a = 16)) (Post (AV.agg [AV.i IntKind.i64 0, AV.i IntKind.i64 3, AV.i IntKind.i64 0, AV.b false]) h)
                          (onB (decide (a = 17)) (Post (AV.agg [AV.i IntKind.i64 0, AV.i IntKind.i64 16777215, AV.i IntKind.i64 0, AV.b true]) h)
                            (onB (decide (a = 18)) (Post (AV.agg [AV.i IntKind.i64 64, AV.i IntKind.i64 64000, AV.i IntKind.i64 1024, AV.b true]) h)
                              (Post (AV.agg [AV.i IntKind.i64 0, AV.i IntKind.i64 1073741824, AV.i IntKind.i64 0, AV.b false]) h))))))))))
            (onB (decide (a = 6))
              (onB (decide (a = 6)) (Post (AV.agg [AV.i IntKind.i64 (-1), AV.i IntKind.i64 1099511627776, AV.i IntKind.i64 (-1), AV.b false]) h)
                (onB (decide (a = 5))
                  (onB (decide (a = 5)) (Post (AV.agg [AV.i IntKind.i64 0, AV.i IntKind.i64 1099511627776, AV.i IntKind.i64 0, AV.b false]) h)
                    (onB (decide (a = 9)) (Post (AV.agg [AV.i IntKind.i64 0, AV.i IntKind.i64 1048576, AV.i IntKind.i64 0, AV.b false]) h)
                      (onB (decide (a = 10)) (Post (AV.agg [AV.i IntKind.i64 0, AV.i IntKind.i64 1048576, AV.i IntKind.i64 1, AV.b false]) h)
                        (onB (decide (a = 15)) (Post (AV.agg [AV.i IntKind.i64 0, AV.i IntKind.i64 4, AV.i IntKind.i64 0, AV.b false]) h)
                          (onB (decide (a = 16)) (Post (AV.agg [AV.i IntKind.i64 0, AV.i IntKind.i64 3, AV.i IntKind.i64 0, AV.b false]) h)
                            (onB (decide (a = 17)) (Post (AV.agg [AV.i IntKind.i64 0, AV.i IntKind.i64 16777215, AV.i IntKind.i64 0, AV.b true]) h)
                              (onB (decide (a = 18)) (Post (AV.agg [AV.i IntKind.i64 64, AV.i IntKind.i64 64000, AV.i IntKind.i64 1024, AV.b true]) h)
                                (Post (AV.agg [AV.i IntKind.i64 0, AV.i IntKind.i64 1073741824, AV.i IntKind.i64 0, AV.b false]) h))))))))
                  (onB (decide (a = 7)) (Post (AV.agg [AV.i IntKind.i64 0, AV.i IntKind.i64 1099511627776, AV.i IntKind.i64 0, AV.b false]) h)
                    (onB (decide (a = 9)) (Post (AV.agg [AV.i IntKind.i64 0, AV.i IntKind.i64 1048576, AV.i IntKind.i64 0, AV.b false]) h)
                      (onB (decide (a = 10)) (Post (AV.agg [AV.i IntKind.i64 0, AV.i IntKind.i64 1048576, AV.i IntKind.i64 1, AV.b false]) h)
                        (onB (decide (a = 15)) (Post (AV.agg [AV.i IntKind.i64 0, AV.i IntKind.i64 4, AV.i IntKind.i64 0, AV.b false]) h)
                          (onB (decide (a = 16)) (Post (AV.agg [AV.i IntKind.i64 0, AV.i IntKind.i64 3, AV.i IntKind.i64 0, AV.b false]) h)
                            (onB (decide (a = 17)) (Post (AV.agg [AV.i IntKind.i64 0, AV.i IntKind.i64 16777215, AV.i IntKind.i64 0, AV.b true]) h)
                              (onB (decide (a = 18)) (Post (AV.agg [AV.i IntKind.i64 64, AV.i IntKind.i64 64000, AV.i IntKind.i64 1024, AV.b true]) h)
                                (Post (AV.agg [AV.i IntKind.i64 0, AV.i IntKind.i64 1073741824, AV.i IntKind.i64 0, AV.b false]) h))))))))))
              (onB (decide (a = 8))
                (onB (decide (a = 8)) (Post (AV.agg [AV.i IntKind.i64 (-1), AV.i IntKind.i64 1099511627776, AV.i IntKind.i64 (-1), AV.b false]) h)
                  (onB (decide (a = 5))
                    (onB (decide (a = 5)) (Post (AV.agg [AV.i IntKind.i64 0, AV.i IntKind.i64 1099511627776, AV.i IntKind.i64 0, AV.b false]) h)
                      (onB (decide (a = 9)) (Post (AV.agg [AV.i IntKind.i64 0, AV.i IntKind.i64 1048576, AV.i IntKind.i64 0, AV.b false]) h)
                        (onB (decide (a = 10)) (Post (AV.agg [AV.i IntKind.i64 0, AV.i IntKind.i64 1048576, AV.i IntKind.i64 1, AV.b false]) h)
                          (onB (decide (a = 15)) (Post (AV.agg [AV.i IntKind.i64 0, AV.i IntKind.i64 4, AV.i IntKind.i64 0, AV.b false]) h)
                            (onB (decide (a = 16)) (Post (AV.agg [AV.i IntKind.i64 0, AV.i IntKind.i64 3, AV.i IntKind.i64 0, AV.b false]) h)
                              (onB (decide (a = 17)) (Post (AV.agg [AV.i IntKind.i64 0, AV.i IntKind.i64 16777215, AV.i IntKind.i64 0, AV.b true]) h)
                                (onB (decide (a = 18)) (Post (AV.agg [AV.i IntKind.i64 64, AV.i IntKind.i64 64000, AV.i IntKind.i64 1024, AV.b true]) h)
                                  (Post (AV.agg [AV.i IntKind.i64 0, AV.i IntKind.i64 1073741824, AV.i IntKind.i64 0, AV.b false]) h))))))))
                    (onB (decide (a = 7)) (Post (AV.agg [AV.i IntKind.i64 0, AV.i IntKind.i64 1099511627776, AV.i IntKind.i64 0, AV.b false]) h)
                      (onB (decide (a = 9)) (Post (AV.agg [AV.i IntKind.i64 0, AV.i IntKind.i64 1048576, AV.i IntKind.i64 0, AV.b false]) h)
                        (onB (decide (a = 10)) (Post (AV.agg [AV.i IntKind.i64 0, AV.i IntKind.i64 1048576, AV.i IntKind.i64 1, AV.b false]) h)
                          (onB (decide (a = 15)) (Post (AV.agg [AV.i IntKind.i64 0, AV.i IntKind.i64 4, AV.i IntKind.i64 0, AV.b false]) h)
                            (onB (decide (a = 16)) (Post (AV.agg [AV.i IntKind.i64 0, AV.i IntKind.i64 3, AV.i IntKind.i64 0, AV.b false]) h)
                              (onB (decide (a = 17)) (Post (AV.agg [AV.i IntKind.i64 0, AV.i IntKind.i64 16777215, AV.i IntKind.i64 0, AV.b true]) h)
                                (onB (decide (a = 18)) (Post (AV.agg [AV.i IntKind.i64 64, AV.i IntKind.i64 64000, AV.i IntKind.i64 1024, AV.b true]) h)
                                  (Post (AV.agg [AV.i IntKind.i64 0, AV.i IntKind.i64 1073741824, AV.i IntKind.i64 0, AV.b false]) h))))))))))
                (onB (decide (a = 11)) (Post (AV.agg [AV.i IntKind.i64 (-1), AV.i IntKind.i64 1099511627776, AV.i IntKind.i64 (-1), AV.b false]) h)
                  (onB (decide (a = 5))
                    (onB (decide (a = 5)) (Post (AV.agg [AV.i IntKind.i64 0, AV.i IntKind.i64 1099511627776, AV.i IntKind.i64 0, AV.b false]) h)
                      (onB (decide (a = 9)) (Post (AV.agg [AV.i IntKind.i64 0, AV.i IntKind.i64 1048576, AV.i IntKind.i64 0, AV.b false]) h)
                        (onB (decide (a = 10)) (Post (AV.agg [AV.i IntKind.i64 0, AV.i IntKind.i64 1048576, AV.i IntKind.i64 1, AV.b false]) h)
                          (onB (decide (a = 15)) (Post (AV.agg [AV.i IntKind.i64 0, AV.i IntKind.i64 4, AV.i IntKind.i64 0, AV.b false]) h)
                            (onB (decide (a = 16)) (Post (AV.agg [AV.i IntKind.i64 0, AV.i IntKind.i64 3, AV.i IntKind.i64 0, AV.b false]) h)
                              (onB (decide (a = 17)) (Post (AV.agg [AV.i IntKind.i64 0, AV.i IntKind.i64 16777215, AV.i IntKind.i64 0, AV.b true]) h)
                                (onB (decide (a = 18)) (Post (AV.agg [AV.i IntKind.i64 64, AV.i IntKind.i64 64000, AV.i IntKind.i64 1024, AV.b true]) h)
                                  (Post (AV.agg [AV.i IntKind.i64 0, AV.i IntKind.i64 1073741824, AV.i IntKind.i64 0, AV.b false]) h))))))))
                    (onB (decide (a = 7)) (Post (AV.agg [AV.i IntKind.i64 0, AV.i IntKind.i64 1099511627776, AV.i IntKind.i64 0, AV.b false]) h)
                      (onB (decide (a = 9)) (Post (AV.agg [AV.i IntKind.i64 0, AV.i IntKind.i64 1048576, AV.i IntKind.i64 0, AV.b false]) h)
                        (onB (decide (a = 10)) (Post (AV.agg [AV.i IntKind.i64 0, AV.i IntKind.i64 1048576, AV.i IntKind.i64 1, AV.b false]) h)
                          (onB (decide (a = 15)) (Post (AV.agg [AV.i IntKind.i64 0, AV.i IntKind.i64 4, AV.i IntKind.i64 0, AV.b false]) h)
                            (onB (decide (a = 16)) (Post (AV.agg [AV.i IntKind.i64 0, AV.i IntKind.i64 3, AV.i IntKind.i64 0, AV.b false]) h)
                              (onB (decide (a = 17)) (Post (AV.agg [AV.i IntKind.i64 0, AV.i IntKind.i64 16777215, AV.i IntKind.i64 0, AV.b true]) h)
                                (onB (decide (a = 18)) (Post (AV.agg [AV.i IntKind.i64 64, AV.i IntKind.i64 64000, AV.i IntKind.i64 1024, AV.b true]) h)
                                  (Post (AV.agg [AV.i IntKind.i64 0, AV.i IntKind.i64 1073741824, AV.i IntKind.i64 0, AV.b false]) h)))))))))))))))
      (onB (decide (a = 2)) (Post (AV.agg [AV.i IntKind.i64 0, AV.i IntKind.i64 1, AV.i IntKind.i64 0, AV.b false]) h)
        (onB (decide (a = 3))
          (onB (decide (a = 3)) (Post (AV.agg [AV.i IntKind.i64 (-1), AV.i IntKind.i64 1099511627776, AV.i IntKind.i64 (-1), AV.b false]) h)
            (onB (decide (a = 5))
              (onB (decide (a = 5)) (Post (AV.agg [AV.i IntKind.i64 0, AV.i IntKind.i64 1099511627776, AV.i IntKind.i64 0, AV.b false]) h)
                (onB (decide (a = 9)) (Post (AV.agg [AV.i IntKind.i64 0, AV.i IntKind.i64 1048576, AV.i IntKind.i64 0, AV.b false]) h)
                  (onB (decide (a = 10)) (Post (AV.agg [AV.i IntKind.i64 0, AV.i IntKind.i64 1048576, AV.i IntKind.i64 1, AV.b false]) h)
                    (onB (decide (a = 15)) (Post (AV.agg [AV.i IntKind.i64 0, AV.i IntKind.i64 4, AV.i IntKind.i64 0, AV.b false]) h)
                      (onB (decide (a = 16)) (Post (AV.agg [AV.i IntKind.i64 0, AV.i IntKind.i64 3, AV.i IntKind.i64 0, AV.b false]) h)
                        (onB (decide (a = 17)) (Post (AV.agg [AV.i IntKind.i64 0, AV.i IntKind.i64 16777215, AV.i IntKind.i64 0, AV.b true]) h)
                          (onB (decide (a = 18)) (Post (AV.agg [AV.i IntKind.i64 64, AV.i IntKind.i64 64000, AV.i IntKind.i64 1024, AV.b true]) h)
                            (Post (AV.agg [AV.i IntKind.i64 0, AV.i IntKind.i64 1073741824, AV.i IntKind.i64 0, AV.b false]) h))))))))
              (onB (decide (a = 7)) (Post (AV.agg [AV.i IntKind.i64 0, AV.i IntKind.i64 1099511627776, AV.i IntKind.i64 0, AV.b false]) h)
                (onB (decide (a = 9)) (Post (AV.agg [AV.i IntKind.i64 0, AV.i IntKind.i64 1048576, AV.i IntKind.i64 0, AV.b false]) h)
                  (onB (decide (a = 10)) (Post (AV.agg [AV.i IntKind.i64 0, AV.i IntKind.i64 1048576, AV.i IntKind.i64 1, AV.b false]) h)
                    (onB (decide (a = 15)) (Post (AV.agg [AV.i IntKind.i64 0, AV.i IntKind.i64 4, AV.i IntKind.i64 0, AV.b false]) h)
                      (onB (decide (a = 16)) (Post (AV.agg [AV.i IntKind.i64 0, AV.i IntKind.i64 3, AV.i IntKind.i64 0, AV.b false]) h)
                        (onB (decide (a = 17)) (Post (AV.agg [AV.i IntKind.i64 0, AV.i IntKind.i64 16777215, AV.i IntKind.i64 0, AV.b true]) h)
                          (onB (decide (a = 18)) (Post (AV.agg [AV.i IntKind.i64 64, AV.i IntKind.i64 64000, AV.i IntKind.i64 1024, AV.b true]) h)
                            (Post (AV.agg [AV.i IntKind.i64 0, AV.i IntKind.i64 1073741824, AV.i IntKind.i64 0, AV.b false]) h))))))))))
          (onB (decide (a = 4))
            (onB (decide (a = 4)) (Post (AV.agg [AV.i IntKind.i64 (-1), AV.i IntKind.i64 1099511627776, AV.i IntKind.i64 (-1), AV.b false]) h)
              (onB (decide (a = 5))
                (onB (decide (a = 5)) (Post (AV.agg [AV.i IntKind.i64 0, AV.i IntKind.i64 1099511627776, AV.i IntKind.i64 0, AV.b false]) h)
                  (onB (decide (a = 9)) (Post (AV.agg [AV.i IntKind.i64 0, AV.i IntKind.i64 1048576, AV.i IntKind.i64 0, AV.b false]) h)
                    (onB (decide (a = 10)) (Post (AV.agg [AV.i IntKind.i64 0, AV.i IntKind.i64 1048576, AV.i IntKind.i64 1, AV.b false]) h)
                      (onB (decide (a = 15)) (Post (AV.agg [AV.i IntKind.i64 0, AV.i IntKind.i64 4, AV.i IntKind.i64 0, AV.b false]) h)
                        (onB (decide (a = 16)) (Post (AV.agg [AV.i IntKind.i64 0, AV.i IntKind.i64 3, AV.i IntKind.i64 0, AV.b false]) h)
                          (onB (decide (a = 17)) (Post (AV.agg [AV.i IntKind.i64 0, AV.i IntKind.i64 16777215, AV.i IntKind.i64 0, AV.b true]) h)
                            (onB (decide (a = 18)) (Post (AV.agg [AV.i IntKind.i64 64, AV.i IntKind.i64 64000, AV.i IntKind.i64 1024, AV.b true]) h)
                              (Post (AV.agg [AV.i IntKind.i64 0, AV.i IntKind.i64 1073741824, AV.i IntKind.i64 0, AV.b false]) h))))))))
                (onB (decide (a = 7)) (Post (AV.agg [AV.i IntKind.i64 0, AV.i IntKind.i64 1099511627776, AV.i IntKind.i64 0, AV.b false]) h)
                  (onB (decide (a = 9)) (Post (AV.agg [AV.i IntKind.i64 0, AV.i IntKind.i64 1048576, AV.i IntKind.i64 0, AV.b false]) h)
                    (onB (decide (a = 10)) (Post (AV.agg [AV.i IntKind.i64 0, AV.i IntKind.i64 1048576, AV.i IntKind.i64 1, AV.b false]) h)
                      (onB (decide (a = 15)) (Post (AV.agg [AV.i IntKind.i64 0, AV.i IntKind.i64 4, AV.i IntKind.i64 0, AV.b false]) h)
                        (onB (decide (a = 16)) (Post (AV.agg [AV.i IntKind.i64 0, AV.i IntKind.i64 3, AV.i IntKind.i64 0, AV.b false]) h)
                          (onB (decide (a = 17)) (Post (AV.agg [AV.i IntKind.i64 0, AV.i IntKind.i64 16777215, AV.i IntKind.i64 0, AV.b true]) h)
                            (onB (decide (a = 18)) (Post (AV.agg [AV.i IntKind.i64 64, AV.i IntKind.i64 64000, AV.i IntKind.i64 1024, AV.b true]) h)
                              (Post (AV.agg [AV.i IntKind.i64 0, AV.i IntKind.i64 1073741824, AV.i IntKind.i64 0, AV.b false]) h))))))))))
            (onB (decide (a = 6))
              (onB (decide (a = 6)) (Post (AV.agg [AV.i IntKind.i64 (-1), AV.i IntKind.i64 1099511627776, AV.i IntKind.i64 (-1), AV.b false]) h)
                (onB (decide (a = 5))
                  (onB (decide (a = 5)) (Post (AV.agg [AV.i IntKind.i64 0, AV.i IntKind.i64 1099511627776, AV.i IntKind.i64 0, AV.b false]) h)
                    (onB (decide (a = 9)) (Post (AV.agg [AV.i IntKind.i64 0, AV.i IntKind.i64 1048576, AV.i IntKind.i64 0, AV.b false]) h)
                      (onB (decide (a = 10)) (Post (AV.agg [AV.i IntKind.i64 0, AV.i IntKind.i64 1048576, AV.i IntKind.i64 1, AV.b false]) h)
                        (onB (decide (a = 15)) (Post (AV.agg [AV.i IntKind.i64 0, AV.i IntKind.i64 4, AV.i IntKind.i64 0, AV.b false]) h)
                          (onB (decide (a = 16)) (Post (AV.agg [AV.i IntKind.i64 0, AV.i IntKind.i64 3, AV.i IntKind.i64 0, AV.b false]) h)
                            (onB (decide (a = 17)) (Post (AV.agg [AV.i IntKind.i64 0, AV.i IntKind.i64 16777215, AV.i IntKind.i64 0, AV.b true]) h)
                              (onB (decide (a = 18)) (Post (AV.agg [AV.i IntKind.i64 64, AV.i IntKind.i64 64000, AV.i IntKind.i64 1024, AV.b true]) h)
                                (Post (AV.agg [AV.i IntKind.i64 0, AV.i IntKind.i64 1073741824, AV.i IntKind.i64 0, AV.b false]) h))))))))
                  (onB (decide (a = 7)) (Post (AV.agg [AV.i IntKind.i64 0, AV.i IntKind.i64 1099511627776, AV.i IntKind.i64 0, AV.b false]) h)
                    (onB (decide (a = 9)) (Post (AV.agg [AV.i IntKind.i64 0, AV.i IntKind.i64 1048576, AV.i IntKind.i64 0, AV.b false]) h)
                      (onB (decide (a = 10)) (Post (AV.agg [AV.i IntKind.i64 0, AV.i IntKind.i64 1048576, AV.i IntKind.i64 1, AV.b false]) h)
                        (onB (decide (a = 15)) (Post (AV.agg [AV.i IntKind.i64 0, AV.i IntKind.i64 4, AV.i IntKind.i64 0, AV.b false]) h)
                          (onB (decide (a = 16)) (Post (AV.agg [AV.i IntKind.i64 0, AV.i IntKind.i64 3, AV.i IntKind.i64 0, AV.b false]) h)
                            (onB (decide (a = 17)) (Post (AV.agg [AV.i IntKind.i64 0, AV.i IntKind.i64 16777215, AV.i IntKind.i64 0, AV.b true]) h)
                              (onB (decide (a = 18)) (Post (AV.agg [AV.i IntKind.i64 64, AV.i IntKind.i64 64000, AV.i IntKind.i64 1024, AV.b true]) h)
                                (Post (AV.agg [AV.i IntKind.i64 0, AV.i IntKind.i64 1073741824, AV.i IntKind.i64 0, AV.b false]) h))))))))))
              (onB (decide (a = 8))
                (onB (decide (a = 8)) (Post (AV.agg [AV.i IntKind.i64 (-1), AV.i IntKind.i64 1099511627776, AV.i IntKind.i64 (-1), AV.b false]) h)
                  (onB (decide (a = 5))
                    (onB (decide (a = 5)) (Post (AV.agg [AV.i IntKind.i64 0, AV.i IntKind.i64 1099511627776, AV.i IntKind.i64 0, AV.b false]) h)
                      (onB (decide (a = 9)) (Post (AV.agg [AV.i IntKind.i64 0, AV.i IntKind.i64 1048576, AV.i IntKind.i64 0, AV.b false]) h)
                        (onB (decide (a = 10)) (Post (AV.agg [AV.i IntKind.i64 0, AV.i IntKind.i64 1048576, AV.i IntKind.i64 1, AV.b false]) h)
                          (onB (decide (a = 15)) (Post (AV.agg [AV.i IntKind.i64 0, AV.i IntKind.i64 4, AV.i IntKind.i64 0, AV.b false]) h)
                            (onB (decide (a = 16)) (Post (AV.agg [AV.i IntKind.i64 0, AV.i IntKind.i64 3, AV.i IntKind.i64 0, AV.b false]) h)
                              (onB (decide (a = 17)) (Post (AV.agg [AV.i IntKind.i64 0, AV.i IntKind.i64 16777215, AV.i IntKind.i64 0, AV.b true]) h)
                                (onB (decide (a = 18)) (Post (AV.agg [AV.i IntKind.i64 64, AV.i IntKind.i64 64000, AV.i IntKind.i64 1024, AV.b true]) h)
                                  (Post (AV.agg [AV.i IntKind.i64 0, AV.i IntKind.i64 1073741824, AV.i IntKind.i64 0, AV.b false]) h))))))))
                    (onB (decide (a = 7)) (Post (AV.agg [AV.i IntKind.i64 0, AV.i IntKind.i64 1099511627776, AV.i IntKind.i64 0, AV.b false]) h)
                      (onB (decide (a = 9)) (Post (AV.agg [AV.i IntKind.i64 0, AV.i IntKind.i64 1048576, AV.i IntKind.i64 0, AV.b false]) h)
                        (onB (decide (a = 10)) (Post (AV.agg [AV.i IntKind.i64 0, AV.i IntKind.i64 1048576, AV.i IntKind.i64 1, AV.b false]) h)
                          (onB (decide (a = 15)) (Post (AV.agg [AV.i IntKind.i64 0, AV.i IntKind.i64 4, AV.i IntKind.i64 0, AV.b false]) h)
                            (onB (decide (a = 16)) (Post (AV.agg [AV.i IntKind.i64 0, AV.i IntKind.i64 3, AV.i IntKind.i64 0, AV.b false]) h)
                              (onB (decide (a = 17)) (Post (AV.agg [AV.i IntKind.i64 0, AV.i IntKind.i64 16777215, AV.i IntKind.i64 0, AV.b true]) h)
                                (onB (decide (a = 18)) (Post (AV.agg [AV.i IntKind.i64 64, AV.i IntKind.i64 64000, AV.i IntKind.i64 1024, AV.b true]) h)
                                  (Post (AV.agg [AV.i IntKind.i64 0, AV.i IntKind.i64 1073741824, AV.i IntKind.i64 0, AV.b false]) h))))))))))
                (onB (decide (a = 11)) (Post (AV.agg [AV.i IntKind.i64 (-1), AV.i IntKind.i64 1099511627776, AV.i IntKind.i64 (-1), AV.b false]) h)
                  (onB (decide (a = 5))
                    (onB (decide (a = 5)) (Post (AV.agg [AV.i IntKind.i64 0, AV.i IntKind.i64 1099511627776, AV.i IntKind.i64 0, AV.b false]) h)
                      (onB (decide (a = 9)) (Post (AV.agg [AV.i IntKind.i64 0, AV.i IntKind.i64 1048576, AV.i IntKind.i64 0, AV.b false]) h)
                        (onB (decide (a = 10)) (Post (AV.agg [AV.i IntKind.i64 0, AV.i IntKind.i64 1048576, AV.i IntKind.i64 1, AV.b false]) h)
                          (onB (decide (a = 15)) (Post (AV.agg [AV.i IntKind.i64 0, AV.i IntKind.i64 4, AV.i IntKind.i64 0, AV.b false]) h)
                            (onB (decide (a = 16)) (Post (AV.agg [AV.i IntKind.i64 0, AV.i IntKind.i64 3, AV.i IntKind.i64 0, AV.b false]) h)
                              (onB (decide (a = 17)) (Post (AV.agg [AV.i IntKind.i64 0, AV.i IntKind.i64 16777215, AV.i IntKind.i64 0, AV.b true]) h)
                                (onB (decide (a = 18)) (Post (AV.agg [AV.i IntKind.i64 64, AV.i IntKind.i64 64000, AV.i IntKind.i64 1024, AV.b true]) h)
                                  (Post (AV.agg [AV.i IntKind.i64 0, AV.i IntKind.i64 1073741824, AV.i IntKind.i64 0, AV.b false]) h))))))))
                    (onB (decide (a = 7)) (Post (AV.agg [AV.i IntKind.i64 0, AV.i IntKind.i64 1099511627776, AV.i IntKind.i64 0, AV.b false]) h)
                      (onB (decide (a = 9)) (Post (AV.agg [AV.i IntKind.i64 0, AV.i IntKind.i64 1048576, AV.i IntKind.i64 0, AV.b false]) h)
                        (onB (decide (a = 10)) (Post (AV.agg [AV.i IntKind.i64 0, AV.i IntKind.i64 1048576, AV.i IntKind.i64 1, AV.b false]) h)
                          (onB (decide (a = 15)) (Post (AV.agg [AV.i IntKind.i64 0, AV.i IntKind.i64 4, AV.i IntKind.i64 0, AV.b false]) h)
                            (onB (decide (a = 16)) (Post (AV.agg [AV.i IntKind.i64 0, AV.i IntKind.i64 3, AV.i IntKind.i64 0, AV.b false]) h)
                              (onB (decide (a = 17)) (Post (AV.agg [AV.i IntKind.i64 0, AV.i IntKind.i64 16777215, AV.i IntKind.i64 0, AV.b true]) h)
                                (onB (decide (a = 18)) (Post (AV.agg [AV.i IntKind.i64 64, AV.i IntKind.i64 64000, AV.i IntKind.i64 1024, AV.b true]) h)
                                  (Post (AV.agg [AV.i IntKind.i64 0, AV.i IntKind.i64 1073741824, AV.i IntKind.i64 0, AV.b false]) h))))))))))))))))) := by kernel_rfl
/- slices.BinarySearchFunc[[]arras/api.Reg,arras/api.Reg,int] -/
theorem vc38 (a : AV) (b : Int) (h : Hp) (Post : AV → Hp → Prop) : vcCall Try.prog [] 38 [.vv a, .ii .i64 b, .ff 39 []] h Post = (
  onO (lenV a) fun p0 =>
  ∃ I0 : Nat → Int → Int → Hp → Prop,
    (∃ p1, I0 p1 0 (↑p0) h) ∧
      ∀ (p2 : Nat) (h0 : Hp) (n0 n1 : Int),
        I0 p2 n0 n1 h0 →
          onB (decide (n0 < n1))
            (onO (intO BinOp.add IntKind.i64 n0 n1) fun n2 =>
              onO (wrO IntKind.u64 n2) fun n3 =>
                onO (shO BinOp.shr IntKind.u64 n3 1) fun n4 =>
                  onO (wrO IntKind.i64 n4) fun n5 =>
                    onO (idxV a n5 4) fun r0 =>
                      onO (rdH h0 r0.fst r0.snd 4) fun l0 =>
                        onL [Kd.int IntKind.i64, Kd.int IntKind.i64, Kd.int IntKind.i64, Kd.int IntKind.i64] l0 fun n6 n7 n8 n9 =>
                          wpC Try.prog (OfNat.ofNat 39) [AV.agg [AV.i IntKind.i64 n6, AV.i IntKind.i64 n7, AV.i IntKind.i64 n8, AV.i IntKind.i64 n9], AV.i IntKind.i64 b]
                            (fun a0 h1 =>
                              onRet [Sh.one (Kd.int IntKind.i64)] a0 fun n10 =>
                                onB (decide (n10 < 0)) (onO (intO BinOp.add IntKind.i64 n5 1) fun n11 => ∃ p3, ltN p3 p2 ∧ I0 p3 n11 n1 h1) (∃ p4, ltN p4 p2 ∧ I0 p4 n0 n5 h1))
                            h0)
            (onB (decide (n0 < ↑p0))
              (onO (idxV a n0 4) fun r1 =>
                onO (rdH h0 r1.fst r1.snd 4) fun l1 =>
                  onL [Kd.int IntKind.i64, Kd.int IntKind.i64, Kd.int IntKind.i64, Kd.int IntKind.i64] l1 fun n12 n13 n14 n15 =>
                    wpC Try.prog (OfNat.ofNat 39) [AV.agg [AV.i IntKind.i64 n12, AV.i IntKind.i64 n13, AV.i IntKind.i64 n14, AV.i IntKind.i64 n15], AV.i IntKind.i64 b]
                      (fun a1 h2 => onRet [Sh.one (Kd.int IntKind.i64)] a1 fun n16 => Post (AV.tup [AV.i IntKind.i64 n0, AV.b (decide (n16 = 0))]) h2) h0)
              (Post (AV.tup [AV.i IntKind.i64 n0, AV.b false]) h0))) := by kernel_rfl
/-! ### plain -/
noncomputable def cmpN (a b : Int) : Int := if a < b then -1 else if b < a then 1 else 0
noncomputable def cmpT (a b : D.Stamp) : Int := if cmpN a.time b.time = 0 then cmpN a.rep b.rep else cmpN a.time b.time
noncomputable def isS (s : D.Stamp) : Bool := decide (1 ≤ s.time) && (decide (s.time ≤ 1099511627776) && (decide (0 ≤ s.rep) && decide (s.rep < 16)))
noncomputable def propP (a : Int) : Bool := decide (0 ≤ a) && decide (a < 19)
noncomputable def lowP : Nat → Int
  | 3 | 4 | 6 | 8 | 11 => -1
  | 18 => 64
  | _ => 0
noncomputable def highP : Nat → Int
  | 0 => 2 | 1 | 2 => 1
  | 3 | 4 | 5 | 6 | 7 | 8 | 11 => 1099511627776
  | 9 | 10 => 1048576
  | 12 | 13 | 14 => 1073741824
  | 15 => 4 | 16 => 3 | 17 => 16777215 | 18 => 64000
  | _ => 0
noncomputable def plainP : Nat → Int
  | 3 | 4 | 6 | 8 | 11 => -1
  | 10 => 1
  | 18 => 1024
  | _ => 0
noncomputable def goesP : Nat → Bool
  | 17 | 18 => true
  | _ => false
noncomputable def mayP (a b : Int) : Bool := propP a && (decide (lowP a.toNat ≤ b) && decide (b ≤ highP a.toNat))
section
variable {h : Hp} {Post : AV → Hp → Prop}
theorem c44 {a : Int} (k : Post (.b false) h) : wpC Try.prog 44 [.i .i64 a] Post h := by
  refine call_sound (args := [.ii .i64 a]) (cuts := []) ⟨trivial, trivial⟩ ?_
  rw [vc44]
  simpa using k
theorem c40 {a b : Int} (k : Post (.i .i64 (cmpN a b)) h) : wpC Try.prog 40 [.i .i64 a, .i .i64 b] Post h := by
  refine call_sound (args := [.ii .i64 a, .ii .i64 b]) (cuts := []) ⟨trivial, trivial, trivial⟩ ?_
  rw [vc40]
  refine c44 (onRet.b (c44 (onRet.b (onB.neg rfl (onB.neg rfl ?_)))))
  refine onB.dec (fun e => ?_) (fun e => onB.dec (fun e' => ?_) (fun e' => ?_))
  · simpa [cmpN, e] using k
  · simpa [cmpN, e, e'] using k
  · simpa [cmpN, e, e'] using k
theorem c43 {a : AV} {x y : Int} (r : Ints h a [x, y]) (k : Post (.i .i64 (if x = 0 then y else x)) h) : wpC Try.prog 43 [a] Post h := by
  refine call_sound (args := [.vv a]) (cuts := []) ⟨Raw.sc r, trivial⟩ ?_
  rw [vc43]
  refine onO.mk r.len ?_
  refine ⟨fun m _ i h' => h' = h ∧ 0 ≤ i ∧ i ≤ 2 ∧ m = 2 - i.toNat ∧ (0 < i → x = 0) ∧ (1 < i → y = 0), ⟨2, rfl, by omega, by omega, rfl, by omega, by omega⟩, ?_⟩
  rintro m h0 n0 i ⟨rfl, i0, i2, rfl, hx, hy⟩
  have hc : i = 0 ∨ i = 1 ∨ i = 2 := by omega
  refine onB.dec (fun e => ?_) (fun e => ?_)
  · rcases hc with rfl | rfl | rfl
    · obtain ⟨b, o, e1, e2⟩ := r.idx (i := 0) (x := x) (by omega) rfl
      refine onO.mk e1 (onO.mk e2 (onL.i1 (onB.ndec (fun e => ?_) (fun e => ?_))))
      · rw [if_neg e] at k; exact k
      · exact onO.mk (add64 (by omega) (by omega)) ⟨1, by show 1 < 2; omega, rfl, by omega, by omega, rfl, fun _ => e, by omega⟩
    · obtain ⟨b, o, e1, e2⟩ := r.idx (i := 1) (x := y) (by omega) rfl
      have hx := hx (by omega)
      rw [if_pos hx] at k
      refine onO.mk e1 (onO.mk e2 (onL.i1 (onB.ndec (fun e => k) (fun e => ?_))))
      exact onO.mk (add64 (by omega) (by omega)) ⟨0, by show 0 < 1; omega, rfl, by omega, by omega, rfl, fun _ => hx, fun _ => e⟩
    · exact absurd e (by simp)
  · rcases hc with rfl | rfl | rfl
    · exact absurd e (by simp)
    · exact absurd e (by simp)
    · rw [if_pos (hx (by omega)), hy (by omega)] at k; exact k
/-- stamp.Cmp: what is there then is more than before -/
theorem c36 {a b : D.Stamp} (k : ∀ h', h.le h' → h'.lo = h.lo → Post (.i .i64 (cmpT a b)) h') : wpC Try.prog 36 [.agg [.i .i64 a.time, .i .i64 a.rep], .agg [.i .i64 b.time, .i .i64 b.rep]] Post h := by
  refine call_sound (args := [.ag [.ii .i64 a.time, .ii .i64 a.rep], .ag [.ii .i64 b.time, .ii .i64 b.rep]]) (cuts := []) ⟨⟨trivial, trivial, trivial⟩, ⟨trivial, trivial, trivial⟩, trivial⟩ ?_
  rw [vc36]
  intro _ _
  refine c40 (onRet.i (c40 (onRet.i fun p hp hlo => ?_)))
  have f := Fresh.put (Hp.le_refl h) rfl hp hlo (css := [[.i .i64 (cmpN a.time b.time)], [.i .i64 (cmpN a.rep b.rep)]]) (sz := 1) (len := 2) true (fun c hc => by simp at hc; rcases hc with rfl | rfl <;> rfl) rfl rfl
  refine c43 (x := cmpN a.time b.time) (y := cmpN a.rep b.rep) f.row (onRet.i (k _ (Hp.le_put hp) rfl))
theorem c26 {s : D.Stamp} (k : Post (.b (isS s)) h) : wpC Try.prog 26 [.agg [.i .i64 s.time, .i .i64 s.rep]] Post h := by
  refine call_sound (args := [.ag [.ii .i64 s.time, .ii .i64 s.rep]]) (cuts := []) ⟨⟨trivial, trivial, trivial⟩, trivial⟩ ?_
  rw [vc26]
  intro _
  unfold isS at k
  refine onB.dec (fun e => onB.dec (fun e1 => onB.dec (fun e2 => ?_) (fun e2 => ?_)) (fun e1 => ?_)) (fun e => ?_)
  · simpa only [e, e1, e2, decide_true, Bool.true_and] using k
  · simpa only [e, e1, e2, decide_true, decide_false, Bool.true_and, Bool.false_and] using k
  · simpa only [e, e1, decide_true, decide_false, Bool.true_and, Bool.false_and] using k
  · simpa only [e, decide_false, Bool.false_and] using k
end
section
variable {h : Hp} {Post : AV → Hp → Prop}
theorem c33 {a : Int} (k : Post (.b (propP a)) h) : wpC Try.prog 33 [.i .i64 a] Post h := by
  refine call_sound (args := [.ii .i64 a]) (cuts := []) ⟨trivial, trivial⟩ ?_
  rw [vc33]
  unfold propP at k
  refine onB.dec (fun e => ?_) (fun e => ?_)
  · simpa only [e, decide_true, Bool.true_and] using k
  · simpa only [e, decide_false, Bool.false_and] using k
theorem prop_cases {a : Int} (h0 : 0 ≤ a) (h1 : a < 19) : a = 0 ∨ a = 1 ∨ a = 2 ∨ a = 3 ∨ a = 4 ∨ a = 5 ∨ a = 6 ∨ a = 7 ∨ a = 8 ∨ a = 9 ∨ a = 10 ∨ a = 11 ∨ a = 12 ∨ a = 13 ∨ a = 14 ∨ a = 15 ∨ a = 16 ∨ a = 17 ∨ a = 18 := by omega
theorem c34 {a : Int} (h0 : 0 ≤ a) (h1 : a < 19) (k : Post (.agg [.i .i64 (lowP a.toNat), .i .i64 (highP a.toNat), .i .i64 (plainP a.toNat), .b (goesP a.toNat)]) h) : wpC Try.prog 34 [.i .i64 a] Post h := by
  refine call_sound (args := [.ii .i64 a]) (cuts := []) ⟨trivial, trivial⟩ ?_
  rw [vc34]
  intro _
  rcases prop_cases h0 h1 with rfl | rfl | rfl | rfl | rfl | rfl | rfl | rfl | rfl | rfl | rfl | rfl | rfl | rfl | rfl | rfl | rfl | rfl | rfl
  all_goals repeat' first
    | exact k
    | refine onB.pos rfl ?_
    | refine onB.neg rfl ?_
theorem c30 {a : Int} (k : ∀ n, (propP a = true → n = plainP a.toNat) → Post (.tup [.i .i64 (if propP a then lowP a.toNat else 0), .i .i64 (if propP a then highP a.toNat else 0), .i .i64 n, .b (propP a)]) h) : wpC Try.prog 30 [.i .i64 a] Post h := by
  refine call_sound (args := [.ii .i64 a]) (cuts := []) ⟨trivial, trivial⟩ ?_
  rw [vc30]
  by_cases hr : 0 ≤ a ∧ a < 19
  · have hp : propP a = true := by simp [propP, hr]
    rcases prop_cases hr.1 hr.2 with rfl | rfl | rfl | rfl | rfl | rfl | rfl | rfl | rfl | rfl | rfl | rfl | rfl | rfl | rfl | rfl | rfl | rfl | rfl
    all_goals repeat' first
      | exact k _ (fun _ => rfl)
      | refine onB.pos rfl ?_
      | refine onB.neg rfl ?_
  · have hp : propP a = false := by
      cases hb : propP a with
      | false => rfl
      | true => simp [propP] at hb; exact absurd hb hr
    have k := k 0 (fun e => by rw [hp] at e; cases e)
    rw [hp] at k
    repeat' first
      | exact k
      | refine onB.neg (decide_eq_false (by omega)) ?_
theorem c25 {a b : Int} (k : Post (.b (mayP a b)) h) : wpC Try.prog 25 [.i .i64 a, .i .i64 b] Post h := by
  refine call_sound (args := [.ii .i64 a, .ii .i64 b]) (cuts := []) ⟨trivial, trivial, trivial⟩ ?_
  rw [vc25]
  refine c33 (onRet.b ?_)
  unfold mayP at k
  refine onB.mk (fun e => ?_) (fun e => ?_)
  · have hr : 0 ≤ a ∧ a < 19 := by simpa [propP] using e
    refine c34 hr.1 hr.2 ?_
    refine onB.dec (fun e1 => c34 hr.1 hr.2 ?_) (fun e1 => ?_)
    · rw [e, decide_eq_true e1, Bool.true_and, Bool.true_and] at k; exact k
    · rw [e, decide_eq_false e1] at k; exact k
  · rw [e] at k; exact k
noncomputable def checkP (a b : Int) : Int := if propP a = true then (if mayP a b = true then 0 else 9) else 3
theorem checkP_ok {a b : Int} : decide (checkP a b = 0) = mayP a b := by
  unfold checkP
  cases h1 : propP a with
  | false => simp [mayP, h1]
  | true =>
    cases h2 : mayP a b <;> simp
theorem c16 {a b : Int} (k : Post (.i .i64 (checkP a b)) h) : wpC Try.prog 16 [.i .i64 a, .i .i64 b] Post h := by
  refine call_sound (args := [.ii .i64 a, .ii .i64 b]) (cuts := []) ⟨trivial, trivial, trivial⟩ ?_
  rw [vc16]
  refine c30 fun n _ => ?_
  unfold checkP mayP at k
  show onB (!(propP a)) _ _
  cases hp : propP a with
  | false => rw [hp] at k; exact onB.pos rfl k
  | true =>
    rw [hp] at k
    simp only [if_true, Bool.true_and] at k
    refine onB.neg rfl (onB.dec (fun e => ?_) (fun e => onB.dec (fun e1 => ?_) (fun e1 => ?_)))
    · simp only [if_true] at e
      have : ¬ lowP a.toNat ≤ b := by omega
      simpa [this] using k
    · simp only [if_true] at e1
      have : ¬ b ≤ highP a.toNat := by omega
      simpa [this] using k
    · simp only [if_true] at e e1
      have e2 : lowP a.toNat ≤ b := by omega
      have e3 : b ≤ highP a.toNat := by omega
      simpa [e2, e3] using k
end
/-! ### plain -/
noncomputable def okR (x : D.Reg) : Bool := mayP x.prop x.value && isS x.stamp
noncomputable def mayR : Option Int → List D.Reg → Bool
  | _, [] => true
  | p, x :: l => okR x && ((match p with | none => true | some q => decide (q < x.prop)) && mayR (some x.prop) l)
noncomputable def prevP (l : List D.Reg) : Nat → Option Int
  | 0 => none
  | k + 1 => (l[k]?).map (·.prop)
noncomputable def regC (x : D.Reg) : List AV := [.i .i64 x.prop, .i .i64 x.value, .i .i64 x.stamp.time, .i .i64 x.stamp.rep]
theorem reg_cells {h : Hp} {x : D.Reg} : ∀ c, D.kReg.K h x c → c = regC x := fun c k => (D.kReg_open k).1
theorem reg_flat : D.kReg.Flat := fun h h' x c k => k
theorem drop_of {α : Type} {l : List α} {k : Nat} {x : α} (h : l[k]? = some x) : l.drop k = x :: l.drop (k + 1) := by
  obtain ⟨hk, e⟩ := List.getElem?_eq_some_iff.1 h
  rw [List.drop_eq_getElem_cons hk, e]
theorem get_lt {α : Type} {l : List α} {k : Nat} (h : k < l.length) : ∃ x, l[k]? = some x := ⟨_, List.getElem?_eq_getElem h⟩
theorem take_succ' {α : Type} {l : List α} {k : Nat} {x : α} (h : l[k]? = some x) : l.take (k + 1) = l.take k ++ [x] := by
  rw [List.take_add_one, h]; rfl
abbrev RegRow := D.kReg.Row
section
variable {h : Hp} {a : AV} {l : List D.Reg}
theorem reg0 (r : RegRow h a l) {k : Nat} {x : D.Reg} (e : l[k]? = some x) {K : Int → Prop} (q : K x.prop) : onO (idxV a (k : Int) 4) fun r0 => onO (rdH h r0.1 (r0.2 + 0) 1) fun l0 => onL [Kd.int .i64] l0 K :=
  r.part (Int.natCast_nonneg k) (by simpa using e) reg_cells (p := [.i .i64 x.prop]) rfl rfl (onL.i1 q)
theorem reg1 (r : RegRow h a l) {k : Nat} {x : D.Reg} (e : l[k]? = some x) {K : Int → Prop} (q : K x.value) : onO (idxV a (k : Int) 4) fun r0 => onO (rdH h r0.1 (r0.2 + 1) 1) fun l0 => onL [Kd.int .i64] l0 K :=
  r.part (Int.natCast_nonneg k) (by simpa using e) reg_cells (p := [.i .i64 x.value]) rfl rfl (onL.i1 q)
theorem reg2 (r : RegRow h a l) {k : Nat} {x : D.Reg} (e : l[k]? = some x) {K : Int → Int → Prop} (q : K x.stamp.time x.stamp.rep) : onO (idxV a (k : Int) 4) fun r0 => onO (rdH h r0.1 (r0.2 + 2) 2) fun l0 => onL [Kd.int .i64, Kd.int .i64] l0 K :=
  r.part (Int.natCast_nonneg k) (by simpa using e) reg_cells (p := [.i .i64 x.stamp.time, .i .i64 x.stamp.rep]) rfl rfl (onL.i2 q)
theorem regW (r : RegRow h a l) {k : Nat} {x : D.Reg} (e : l[k]? = some x) {K : Int → Int → Int → Int → Prop} (q : K x.prop x.value x.stamp.time x.stamp.rep) : onO (idxV a (k : Int) 4) fun r0 => onO (rdH h r0.1 r0.2 4) fun l0 => onL [Kd.int .i64, Kd.int .i64, Kd.int .i64, Kd.int .i64] l0 K :=
  r.whole (Int.natCast_nonneg k) (by simpa using e) reg_cells rfl (onL.i4 q)
theorem Kn.Row.all {α : Type} {d : Kn α} {h : Hp} {a : AV} {l : List α} (r : d.Row h a l) {x : α} (hx : x ∈ l) : ∃ c, d.K h x c := by
  obtain ⟨css, _, r2⟩ := r
  obtain ⟨i, hi, rfl⟩ := List.getElem_of_mem hx
  obtain ⟨c, _, k⟩ := r2.get (List.getElem?_eq_getElem hi)
  exact ⟨c, k⟩
theorem inc64 {k : Nat} (h : k < 1000000000000) : intO .add .i64 (k : Int) 1 = some ((k + 1 : Nat) : Int) := by
  rw [add64 (by omega) (by omega)]; rfl
end
section
variable {h : Hp} {a b : AV} {l la lb : List D.Reg} {Post : AV → Hp → Prop}
theorem c24 (r : RegRow h a l) (hb : l.length < 1000000) (k : Post (.b (mayR none l)) h) : wpC Try.prog 24 [a] Post h := by
  refine call_sound (args := [.vv a]) (cuts := [0]) ⟨r.sc, trivial⟩ ?_
  rw [vc24]
  refine ⟨fun m i _ h' => h' = h ∧ ∃ k : Nat, i = k ∧ k ≤ l.length ∧ m = l.length - k ∧ mayR none l = mayR (prevP l k) (l.drop k), ⟨l.length, rfl, 0, rfl, by omega, rfl, rfl⟩, ?_⟩
  rintro m h0 _ _ ⟨rfl, j, rfl, hj, rfl, hp⟩
  refine Dup.mk (onO.mk r.len (onB.dec (fun e => ?_) (fun e => ?_)))
  · have : j = l.length := by omega
    rw [hp, this, List.drop_length] at k
    exact k
  · obtain ⟨x, hx⟩ := get_lt (l := l) (k := j) (by omega)
    rw [drop_of hx] at hp
    simp only [mayR, okR] at hp
    refine reg0 r hx (reg1 r hx (c25 (onRet.b (onB.mk (fun e1 => ?_) (fun e1 => ?_)))))
    · refine reg2 r hx (c26 (onRet.b (onB.mk (fun e2 => ?_) (fun e2 => ?_))))
      · rw [e1, e2, Bool.true_and, Bool.true_and] at hp
        refine onB.dec (fun e3 => ?_) (fun e3 => ?_)
        · have : j = 0 := by omega
          subst this
          exact onO.mk (inc64 (k := 0) (by omega)) ⟨_, by show l.length - 1 < l.length - 0; omega, rfl, 1, rfl, by omega, rfl, by simp only [prevP, Bool.true_and] at hp; simp only [prevP, hx]; exact hp⟩
        · obtain ⟨j, rfl⟩ : ∃ i, j = i + 1 := ⟨j - 1, by omega⟩
          obtain ⟨y, hy⟩ := get_lt (l := l) (k := j) (by omega)
          have hs : intO .sub .i64 ((j + 1 : Nat) : Int) 1 = some (j : Int) := by rw [sub64 (by omega) (by omega)]; congr 1; omega
          simp only [prevP, hy, Option.map_some] at hp
          refine onO.mk hs (reg0 r hy (reg0 r hx (onB.dec (fun e4 => ?_) (fun e4 => ?_))))
          · rw [decide_eq_true e4, Bool.true_and] at hp
            exact onO.mk (inc64 (by omega)) ⟨_, by show l.length - (j + 1 + 1) < l.length - (j + 1); omega, rfl, j + 1 + 1, rfl, by omega, rfl, by simp only [prevP, hx]; exact hp⟩
          · rw [decide_eq_false e4, Bool.false_and] at hp
            rw [hp] at k; exact k
      · rw [e1, e2] at hp
        rw [hp] at k; exact k
    · rw [e1] at hp
      rw [hp] at k; exact k
theorem c12 (ra : RegRow h a la) (rb : RegRow h b lb) (hb : la.length < 1000000) (k : Post (.b (decide (la = lb))) h) : wpC Try.prog 12 [a, b] Post h := by
  refine call_sound (args := [.vv a, .vv b]) (cuts := []) ⟨ra.sc, rb.sc, trivial⟩ ?_
  rw [vc12]
  refine onO.mk ra.len (onO.mk rb.len (onB.ndec (fun e => ?_) (fun e => ?_)))
  · rw [decide_eq_false (fun e' => e (by rw [e']))] at k
    exact k
  · have hl : la.length = lb.length := by omega
    refine ⟨fun m _ i h' => h' = h ∧ ∃ k : Nat, i = k ∧ k ≤ la.length ∧ m = la.length - k ∧ la.take k = lb.take k, ⟨la.length, rfl, 0, rfl, by omega, rfl, by simp⟩, ?_⟩
    rintro m h0 _ _ ⟨rfl, j, rfl, hj, rfl, hp⟩
    refine onO.mk ra.len (onB.dec (fun e => ?_) (fun e => ?_))
    · obtain ⟨x, hx⟩ := get_lt (l := la) (k := j) (by omega)
      obtain ⟨y, hy⟩ := get_lt (l := lb) (k := j) (by omega)
      refine regW ra hx (regW rb hy (onB.not (fun e1 => ?_) (fun e1 => ?_)))
      · have hne : x ≠ y := by
          intro e2; subst e2; simp at e1
        have : la ≠ lb := by
          intro e2; subst e2; rw [hx] at hy; injection hy with hy; exact hne hy
        rw [decide_eq_false this] at k; exact k
      · have he : x = y := by
          simp only [Bool.and_eq_true, decide_eq_true_eq] at e1
          obtain ⟨e1, e2, e3, e4⟩ := e1
          cases x with
          | mk p v s =>
            cases s
            cases y with
            | mk p2 v2 s2 => cases s2; simp_all
        subst he
        exact onO.mk (inc64 (by omega)) ⟨_, by show la.length - (j + 1) < la.length - j; omega, rfl, j + 1, rfl, by omega, rfl, by rw [take_succ' hx, take_succ' hy, hp]⟩
    · have : j = la.length := by omega
      subst this
      rw [List.take_length, hl, List.take_length] at hp
      rw [decide_eq_true hp] at k; exact k
end
theorem onRet.a2 {n m : Int} {K : Int → Int → Prop} (k : K n m) : onRet [Sh.agg [Kd.int .i64, Kd.int .i64]] (.agg [.i .i64 n, .i .i64 m]) K := k
/-! ### Clone -/
theorem Raw.src {h : Hp} {a : AV} {sz : Nat} {css : List (List AV)} (r : Raw h a sz css) : ∃ s, srcV sz a = some (css.length, s) ∧ srcH h s = some css.flatten := by
  obtain ⟨hc, r⟩ := r
  cases a <;> first | exact r.elim | skip
  · rename_i b o len lo ex z
    obtain ⟨r1, r2, r3, r4⟩ := r
    subst r1; subst r2
    refine ⟨_, by show cond (Nat.beq z z) _ _ = _; rw [Nat.beq_refl, cond_true], ?_⟩
    cases hl : Nat.beq css.length 0 with
    | true =>
      have : css = [] := List.length_eq_zero_iff.1 (beq_eq' hl)
      subst this; rfl
    | false =>
      rcases r4 with r4 | r4
      · subst r4; cases hl
      · exact r4
  all_goals
    have r : css = [] := r
    subst r
    exact ⟨.lit [], rfl, rfl⟩
theorem Raw.nil {h : Hp} {a : AV} {sz : Nat} {css : List (List AV)} (r : Raw h a sz css) : ∃ c, nilSl a = some c ∧ (c = true → css = []) := by
  obtain ⟨hc, r⟩ := r
  cases a <;> first | exact r.elim | skip
  · exact ⟨false, rfl, fun e => by cases e⟩
  · exact ⟨true, rfl, fun _ => r⟩
  · exact ⟨false, rfl, fun e => by cases e⟩
/-- a copy by append to an empty row of its own -/
theorem clone_body {α : Type} {d : Kn α} {h : Hp} {a : AV} {l : List α} {sz nb : Nat} {Post : AV → Hp → Prop} (r : d.Row h a l) (hsz : d.sz = sz) (fl : d.Flat) (hb : l.length < 1000000) (hm : Nat.ble ((4 * l.length + 4000) * nb) 17179869184 = true) (k : ∀ r' h', d.Own h h' r' l → Post r' h') :
    onO (nilSl a) fun c0 => onB c0 (Post AV.ns h) (∀ (p0 : Nat), h.g p0 = none → h.lo.le p0 → onO (srcV sz a) fun r0 =>
      onC (((4 * r0.fst + 4000) * nb).ble (OfNat.ofNat 17179869184)) (wpE (Eff.app (AV.sl p0 0 0 0 true sz) r0.fst r0.snd sz) (fun x0 h0 => onO x0 fun a0 => Post a0 h0) (h.put p0 []))) := by
  subst hsz
  obtain ⟨css, r1, r2⟩ := r
  obtain ⟨c, e1, e2⟩ := r1.nil
  have hl := r2.length
  refine onO.mk e1 (onB.mk (fun e => ?_) (fun _ p hp hlo => ?_))
  · have := e2 e
    subst this
    have : l = [] := List.length_eq_zero_iff.1 hl
    subst this
    exact k _ _ (Kn.Own.nil d h)
  · obtain ⟨s, s1, s2⟩ := r1.src
    refine onO.mk s1 (onC.mk (by rw [← hl]; exact hm) ?_)
    have f := Fresh.put (Hp.le_refl h) rfl hp hlo (css := []) (sz := d.sz) (len := 0) true (fun c hc => by cases hc) rfl (cs := []) rfl
    have ow : d.Own h (h.put p []) (.sl p 0 0 0 true d.sz) [] := ⟨h, [], Hp.le_refl h, rfl, f, .nil⟩
    have s3 : srcH (h.put p []) s = some css.flatten := by
      cases s with
      | lit l => exact s2
      | mem b o n => exact rdH_le (Hp.le_put hp) s2
    exact ow.app rfl fl (r2.mono fun _ _ q => fl _ _ _ _ q) s3 hl (by simp; omega) fun r' h' o' => onO.mk rfl (k _ _ (by simpa using o'))
section
variable {h : Hp} {a b : AV} {Post : AV → Hp → Prop}
theorem in64_of {n : Int} (k : In64 n) : Kn.int.K h n [.i .i64 n] := ⟨rfl, k⟩
end
/- arras/arraslaw0.Within -/
theorem vc15 (a : Int) (b : Int) (h : Hp) (Post : AV → Hp → Prop) : vcCall Try.prog [] 15 [(SV.ii .i64 a), (SV.ii .i64 b)] h Post = (
  onO (wrO IntKind.u64 a) fun n0 => onO (wrO IntKind.u64 b) fun n1 => onO (intO BinOp.rem IntKind.u64 n0 n1) fun n2 => onO (wrO IntKind.i64 n2) fun n3 => Post (AV.i IntKind.i64 n3) h) := by kernel_rfl
section
variable {h : Hp} {Post : AV → Hp → Prop}
theorem rem64 {a b : Int} (h : b ≠ 0) : intO .rem .u64 a b = some (a.tmod b) := by
  have : eqI b 0 = false := by
    cases b with
    | ofNat n => cases n with
      | zero => exact absurd rfl h
      | succ n => rfl
    | negSucc n => rfl
  unfold intO intA
  simp only [this, cond_false]
theorem wru64 (n : Int) : wrO .u64 n = some (n % 18446744073709551616) := by unfold wrO; rw [wrap_mod rfl]; rfl
theorem c15 {a b : Int} (h0 : 0 < b) (h1 : b < 9223372036854775808) (k : ∀ n, 0 ≤ n → n < b → Post (.i .i64 n) h) : wpC Try.prog 15 [.i .i64 a, .i .i64 b] Post h := by
  refine call_sound (args := [.ii .i64 a, .ii .i64 b]) (cuts := []) ⟨trivial, trivial, trivial⟩ ?_
  rw [vc15]
  have e : b % 18446744073709551616 = b := by omega
  have h2 := Int.emod_nonneg a (show (18446744073709551616 : Int) ≠ 0 by omega)
  refine onO.mk (wru64 _) (onO.mk (wru64 _) ?_)
  rw [e]
  have h3 : (a % 18446744073709551616).tmod b = (a % 18446744073709551616) % b := Int.tmod_eq_emod_of_nonneg h2
  have h4 := Int.emod_nonneg (a % 18446744073709551616) (show b ≠ 0 by omega)
  have h5 := Int.emod_lt_of_pos (a % 18446744073709551616) h0
  refine onO.mk (rem64 (by omega)) ?_
  rw [h3]
  exact onO.mk (wr64 (by omega) (by omega)) (k _ h4 h5)
end
open Classical in
open Classical in
section
variable {g h : Hp} {a b : AV} {Post : AV → Hp → Prop}
theorem onTup.z {K : Prop} (k : K) : onTup [] (.tup []) K := k
end
/- arras/arraslaw15.wakes -/
theorem vc14  (h : Hp) (Post : AV → Hp → Prop) : vcCall Try.prog [] 14 [] h Post = (
  wpC Try.prog 8 [AV.ns, AV.i IntKind.i64 17, AV.i IntKind.i64 1, AV.agg [AV.i IntKind.i64 5, AV.i IntKind.i64 0]]
  (fun a0 h0 =>
    onTup [Sh.one Kd.ref, Sh.one (Kd.int IntKind.i64)] a0 fun a1 n0 =>
      wpC Try.prog 8 [a1, AV.i IntKind.i64 17, AV.i IntKind.i64 2, AV.agg [AV.i IntKind.i64 4, AV.i IntKind.i64 0]]
        (fun a2 h1 =>
          onTup [Sh.one Kd.ref, Sh.one (Kd.int IntKind.i64)] a2 fun a3 n1 =>
            wpC Try.prog 18 [a3, AV.i IntKind.i64 17]
              (fun a4 h2 =>
                onTup [Sh.one (Kd.int IntKind.i64), Sh.one (Kd.int IntKind.i64)] a4 fun n2 n3 =>
                  wpC Try.prog 11 [AV.i IntKind.i64 n0]
                    (fun a5 h3 =>
                      onRet [Sh.one (Kd.int IntKind.i64)] a5 fun n4 =>
                        onB (decide (n4 = 0))
                          (wpC Try.prog 11 [AV.i IntKind.i64 n1]
                            (fun a6 h4 =>
                              onRet [Sh.one (Kd.int IntKind.i64)] a6 fun n5 =>
                                onB (decide (n5 = 0))
                                  (wpC Try.prog 11 [AV.i IntKind.i64 n3]
                                    (fun a7 h5 => onRet [Sh.one (Kd.int IntKind.i64)] a7 fun n6 => onB (decide (n6 = 0)) (Post (AV.b (decide (n2 = 1))) h5) (Post (AV.b false) h5)) h4)
                                  (Post (AV.b false) h4))
                            h3)
                          (Post (AV.b false) h3))
                    h2)
              h1)
        h0)
  h) := by kernel_rfl
/- arras/arraslaw15.RegOrders -/
theorem vc4 (a0 : AV) (a1 : AV) (a2 : AV) (h : Hp) (Post : AV → Hp → Prop) : vcCall Try.prog [11000036,
 22999999,
 37000109,
 46999999,
 57000177,
 78999999,
 81000226] 4 [(SV.ag [(SV.vv a0), (SV.vv a1), (SV.vv a2)])] h Post = (
  ∀ (p0 : Nat),
  wpC Try.prog 7 [AV.agg [a0, a1, a2]]
    (fun a0 h0 =>
      onRet [Sh.one Kd.bool] a0 fun c0 =>
        onB c0 (Post (AV.b true) h0)
          (∃ I0 : Nat → AV → Int → Hp → Prop,
            (∃ p1, I0 p1 AV.ns 0 h0) ∧
              ∀ (p2 : Nat) (h1 : Hp) (a1 : AV),
                a1.sc = true →
                  ∀ (n0 : Int),
                    I0 p2 a1 n0 h1 →
                      ∃ I1 : Bool → Hp → Prop,
                        (onO (lenV a2) fun p3 => onB (decide (n0 < ↑p3)) (I1 (decide (n0 < 20)) h1) (I1 false h1)) ∧
                          ∀ (h2 : Hp) (c1 : Bool),
                            I1 c1 h2 →
                              onB c1
                                (onO (idxV a2 n0 4) fun r0 =>
                                  onO (rdH h2 r0.fst r0.snd 4) fun l0 =>
                                    onL [Kd.int IntKind.i64, Kd.int IntKind.i64, Kd.int IntKind.i64, Kd.int IntKind.i64] l0 fun n1 n2 n3 n4 =>
                                      ∀ (p4 : Nat),
                                        onO (intO BinOp.add IntKind.i64 n0 1) fun n5 =>
                                          wpC Try.prog 15 [AV.i IntKind.i64 n4, AV.i IntKind.i64 16]
                                            (fun a2 h3 =>
                                              onRet [Sh.one (Kd.int IntKind.i64)] a2 fun n6 =>
                                                wpC Try.prog 16 [AV.i IntKind.i64 n1, AV.i IntKind.i64 n2]
                                                  (fun a3 h4 =>
                                                    onRet [Sh.one (Kd.int IntKind.i64)] a3 fun n7 =>
                                                      ∃ I2 : AV → Hp → Prop,
                                                        onB (decide (n7 = 0))
                                                            (∀ (p5 : Nat),
                                                              wpE (Eff.app a1 1 (Src.lit [AV.i IntKind.i64 n1, AV.i IntKind.i64 n2, AV.i IntKind.i64 n5, AV.i IntKind.i64 n6]) 4)
                                                                (fun x0 h5 => onO x0 fun a4 => I2 a4 h5) h4)
                                                            (I2 a1 h4) ∧
                                                          ∀ (h6 : Hp) (a5 : AV), a5.sc = true → I2 a5 h6 → onO (intO BinOp.add IntKind.i64 n0 1) fun n8 => ∃ p6, ltN p6 p2 ∧ I0 p6 a5 n8 h6)
                                                  h3)
                                            h2)
                                (∃ I3 : Nat → AV → AV → AV → AV → Bool → Int → Hp → Prop,
                                  (∃ p7, I3 p7 AV.ns AV.ns AV.ns AV.ns false 0 h2) ∧
                                    ∀ (p8 : Nat) (h7 : Hp) (a6 : AV),
                                      a6.sc = true →
                                        ∀ (a7 : AV),
                                          a7.sc = true →
                                            ∀ (a8 : AV),
                                              a8.sc = true →
                                                ∀ (a9 : AV),
                                                  a9.sc = true →
                                                    ∀ (c2 : Bool) (n9 : Int),
                                                      I3 p8 a6 a7 a8 a9 c2 n9 h7 →
                                                        onO (lenV a1) fun p9 =>
                                                          onB (decide (n9 < ↑p9))
                                                            (onO (idxV a1 n9 4) fun r1 =>
                                                              onO (rdH h7 r1.fst r1.snd 4) fun l1 =>
                                                                onL [Kd.int IntKind.i64, Kd.int IntKind.i64, Kd.int IntKind.i64, Kd.int IntKind.i64] l1 fun n10 n11 n12 n13 =>
                                                                  onO (lenV a1) fun p10 =>
                                                                    onO (intO BinOp.sub IntKind.i64 (↑p10) 1) fun n14 =>
                                                                      onO (intO BinOp.sub IntKind.i64 n14 n9) fun n15 =>
                                                                        onO (idxV a1 n15 4) fun r2 =>
                                                                          onO (rdH h7 r2.fst r2.snd 4) fun l2 =>
                                                                            onL [Kd.int IntKind.i64, Kd.int IntKind.i64, Kd.int IntKind.i64, Kd.int IntKind.i64] l2 fun n16 n17 n18 n19 =>
                                                                              ∀ (p11 p12 : Nat),
                                                                                wpC Try.prog 8 [a6, AV.i IntKind.i64 n10, AV.i IntKind.i64 n11, AV.agg [AV.i IntKind.i64 n12, AV.i IntKind.i64 n13]]
                                                                                  (fun a10 h8 =>
                                                                                    onTup [Sh.one Kd.ref, Sh.one (Kd.int IntKind.i64)] a10 fun a11 n20 =>
                                                                                      wpC Try.prog 8
                                                                                        [a7, AV.i IntKind.i64 n16, AV.i IntKind.i64 n17, AV.agg [AV.i IntKind.i64 n18, AV.i IntKind.i64 n19]]
                                                                                        (fun a12 h9 =>
                                                                                          onTup [Sh.one Kd.ref, Sh.one (Kd.int IntKind.i64)] a12 fun a13 n21 =>
                                                                                            ∃ I4 : Bool → Hp → Prop,
                                                                                              wpC Try.prog 11 [AV.i IntKind.i64 n20]
                                                                                                  (fun a14 h10 =>
                                                                                                    onRet [Sh.one (Kd.int IntKind.i64)] a14 fun n22 =>
                                                                                                      onB (!decide (n22 = 0)) (I4 true h10)
                                                                                                        (wpC Try.prog 11 [AV.i IntKind.i64 n21]
                                                                                                          (fun a15 h11 => onRet [Sh.one (Kd.int IntKind.i64)] a15 fun n23 => I4 (!decide (n23 = 0)) h11)
                                                                                                          h10))
                                                                                                  h9 ∧
                                                                                                ∀ (h12 : Hp) (c3 : Bool),
                                                                                                  I4 c3 h12 →
                                                                                                    onB c3 (Post (AV.b false) h12)
                                                                                                      (onO (intO BinOp.rem IntKind.i64 n9 2) fun n24 =>
                                                                                                        ∃ I5 : AV → AV → Int → Hp → Prop,
                                                                                                          onB (decide (n24 = 0))
                                                                                                              (wpC Try.prog 8
                                                                                                                [a8, AV.i IntKind.i64 n10, AV.i IntKind.i64 n11,
                                                                                                                  AV.agg [AV.i IntKind.i64 n12, AV.i IntKind.i64 n13]]
                                                                                                                (fun a16 h13 =>
                                                                                                                  onTup [Sh.one Kd.ref, Sh.one (Kd.int IntKind.i64)] a16 fun a17 n25 =>
                                                                                                                    I5 a17 a9 n25 h13)
                                                                                                                h12)
                                                                                                              (wpC Try.prog 8
                                                                                                                [a9, AV.i IntKind.i64 n10, AV.i IntKind.i64 n11,
                                                                                                                  AV.agg [AV.i IntKind.i64 n12, AV.i IntKind.i64 n13]]
                                                                                                                (fun a18 h14 =>
                                                                                                                  onTup [Sh.one Kd.ref, Sh.one (Kd.int IntKind.i64)] a18 fun a19 n26 =>
                                                                                                                    I5 a8 a19 n26 h14)
                                                                                                                h12) ∧
                                                                                                            ∀ (h15 : Hp) (a20 : AV),
                                                                                                              a20.sc = true →
                                                                                                                ∀ (a21 : AV),
                                                                                                                  a21.sc = true →
                                                                                                                    ∀ (n27 : Int),
                                                                                                                      I5 a20 a21 n27 h15 →
                                                                                                                        wpC Try.prog 11 [AV.i IntKind.i64 n27]
                                                                                                                          (fun a22 h16 =>
                                                                                                                            onRet [Sh.one (Kd.int IntKind.i64)] a22 fun n28 =>
                                                                                                                              onB (!decide (n28 = 0)) (Post (AV.b false) h16)
                                                                                                                                (onO (intO BinOp.add IntKind.i64 n9 1) fun n29 =>
                                                                                                                                  ∃ p13, ltN p13 p8 ∧ I3 p13 a11 a13 a20 a21 c2 n29 h16))
                                                                                                                          h15))
                                                                                        h8)
                                                                                  h7)
                                                            (wpC Try.prog 17 [a8, a9]
                                                              (fun a23 h17 =>
                                                                onTup [Sh.one Kd.ref, Sh.one (Kd.int IntKind.i64)] a23 fun a24 n30 =>
                                                                  wpC Try.prog 17 [a9, a8]
                                                                    (fun a25 h18 =>
                                                                      onTup [Sh.one Kd.ref, Sh.one (Kd.int IntKind.i64)] a25 fun a26 n31 =>
                                                                        ∃ I6 : Bool → Hp → Prop,
                                                                          wpC Try.prog 11 [AV.i IntKind.i64 n30]
                                                                              (fun a27 h19 =>
                                                                                onRet [Sh.one (Kd.int IntKind.i64)] a27 fun n32 =>
                                                                                  onB (!decide (n32 = 0)) (I6 true h19)
                                                                                    (wpC Try.prog 11 [AV.i IntKind.i64 n31]
                                                                                      (fun a28 h20 =>
                                                                                        onRet [Sh.one (Kd.int IntKind.i64)] a28 fun n33 =>
                                                                                          onB (!decide (n33 = 0)) (I6 true h20)
                                                                                            (wpC Try.prog 12 [a6, a7]
                                                                                              (fun a29 h21 =>
                                                                                                onRet [Sh.one Kd.bool] a29 fun c4 =>
                                                                                                  onB (!c4) (I6 true h21)
                                                                                                    (wpC Try.prog 12 [a24, a6]
                                                                                                      (fun a30 h22 =>
                                                                                                        onRet [Sh.one Kd.bool] a30 fun c5 =>
                                                                                                          onB (!c5) (I6 true h22)
                                                                                                            (wpC Try.prog 12 [a26, a6]
                                                                                                              (fun a31 h23 => onRet [Sh.one Kd.bool] a31 fun c6 => I6 (!c6) h23) h22))
                                                                                                      h21))
                                                                                              h20))
                                                                                      h19))
                                                                              h18 ∧
                                                                            ∀ (h24 : Hp) (c7 : Bool),
                                                                              I6 c7 h24 →
                                                                                onB c7 (Post (AV.b false) h24)
                                                                                  (∃ I7 : Nat → Bool → Int → Hp → Prop,
                                                                                    (∃ p14, I7 p14 c2 0 h24) ∧
                                                                                      ∀ (p15 : Nat) (h25 : Hp) (c8 : Bool) (n34 : Int),
                                                                                        I7 p15 c8 n34 h25 →
                                                                                          onB (decide (n34 < 19))
                                                                                            (∃ I8 : Nat → Int → Int → Hp → Prop,
                                                                                              (∃ p16, I8 p16 (-1) 0 h25) ∧
                                                                                                ∀ (p17 : Nat) (h26 : Hp) (n35 n36 : Int),
                                                                                                  I8 p17 n35 n36 h26 →
                                                                                                    onO (lenV a1) fun p18 =>
                                                                                                      onB (decide (n36 < ↑p18))
                                                                                                        (onO (idxV a1 n36 4) fun r3 =>
                                                                                                          onO (rdH h26 r3.fst (r3.snd + 0) 1) fun l3 =>
                                                                                                            onL [Kd.int IntKind.i64] l3 fun n37 =>
                                                                                                              ∃ I9 : Int → Hp → Prop,
                                                                                                                onB (decide (n37 = n34)) (I9 n36 h26) (I9 n35 h26) ∧
                                                                                                                  ∀ (h27 : Hp) (n38 : Int),
                                                                                                                    I9 n38 h27 →
                                                                                                                      onO (intO BinOp.add IntKind.i64 n36 1) fun n39 =>
                                                                                                                        ∃ p19, ltN p19 p17 ∧ I8 p19 n38 n39 h27)
                                                                                                        (wpC Try.prog 18 [a6, AV.i IntKind.i64 n34]
                                                                                                          (fun a32 h28 =>
                                                                                                            onTup [Sh.one (Kd.int IntKind.i64), Sh.one (Kd.int IntKind.i64)] a32 fun n40 n41 =>
                                                                                                              ∃ I10 : Bool → Hp → Prop,
                                                                                                                onB (decide (n35 < 0))
                                                                                                                    (wpC Try.prog 11 [AV.i IntKind.i64 n41]
                                                                                                                      (fun a33 h29 =>
                                                                                                                        onRet [Sh.one (Kd.int IntKind.i64)] a33 fun n42 =>
                                                                                                                          onB (!decide (n42 = 3)) (I10 true h29)
                                                                                                                            (onB (decide (0 ≤ n35))
                                                                                                                              (wpC Try.prog 11 [AV.i IntKind.i64 n41]
                                                                                                                                (fun a34 h30 =>
                                                                                                                                  onRet [Sh.one (Kd.int IntKind.i64)] a34 fun n43 =>
                                                                                                                                    onB (!decide (n43 = 0)) (I10 true h30)
                                                                                                                                      (onO (idxV a1 n35 4) fun r4 =>
                                                                                                                                        onO (rdH h30 r4.fst (r4.snd + 1) 1) fun l4 =>
                                                                                                                                          onL [Kd.int IntKind.i64] l4 fun n44 =>
                                                                                                                                            I10 (!decide (n40 = n44)) h30))
                                                                                                                                h29)
                                                                                                                              (I10 false h29)))
                                                                                                                      h28)
                                                                                                                    (onB (decide (0 ≤ n35))
                                                                                                                      (wpC Try.prog 11 [AV.i IntKind.i64 n41]
                                                                                                                        (fun a35 h31 =>
                                                                                                                          onRet [Sh.one (Kd.int IntKind.i64)] a35 fun n45 =>
                                                                                                                            onB (!decide (n45 = 0)) (I10 true h31)
                                                                                                                              (onO (idxV a1 n35 4) fun r5 =>
                                                                                                                                onO (rdH h31 r5.fst (r5.snd + 1) 1) fun l5 =>
                                                                                                                                  onL [Kd.int IntKind.i64] l5 fun n46 => I10 (!decide (n40 = n46)) h31))
                                                                                                                        h28)
                                                                                                                      (I10 false h28)) ∧
                                                                                                                  ∀ (h32 : Hp) (c9 : Bool),
                                                                                                                    I10 c9 h32 →
                                                                                                                      onB c9 (Post (AV.b false) h32)
                                                                                                                        (onO (intO BinOp.add IntKind.i64 n34 1) fun n47 =>
                                                                                                                          ∃ p20, ltN p20 p15 ∧ I7 p20 c8 n47 h32))
                                                                                                          h26))
                                                                                            (wpC Try.prog 14 [] (fun a36 h33 => onRet [Sh.one Kd.bool] a36 fun c10 => Post (AV.b c10) h33) h25)))
                                                                    h17)
                                                              h7))))
    h) := by kernel_rfl
/-- a register put where it stands by its property -/
noncomputable def putR (x : D.Reg) : List D.Reg → List D.Reg
  | [] => [x]
  | y :: l => if y.prop < x.prop then y :: putR x l else if y.prop = x.prop then (if cmpT y.stamp x.stamp < 0 then x else y) :: l else x :: y :: l
noncomputable def Inc (l : List D.Reg) : Prop := l.Pairwise fun a b => a.prop < b.prop
theorem mayR_inc : ∀ {l : List D.Reg} {p : Option Int}, mayR p l = true → Inc l ∧ ∀ q, p = some q → ∀ y ∈ l, q < y.prop
  | [], p, _ => ⟨.nil, fun q _ y hy => by cases hy⟩
  | x :: l, p, h => by
    simp only [mayR, Bool.and_eq_true] at h
    obtain ⟨h1, h2, h3⟩ := h
    obtain ⟨i1, i2⟩ := mayR_inc h3
    have hp : ∀ q, p = some q → q < x.prop := fun q e => by subst e; simpa using h2
    refine ⟨.cons (fun y hy => i2 _ rfl y hy) i1, fun q e y hy => ?_⟩
    rcases List.mem_cons.1 hy with rfl | hy
    · exact hp q e
    · have := i2 _ rfl y hy
      have := hp q e
      omega
theorem mayR_ok : ∀ {l : List D.Reg} {p : Option Int}, mayR p l = true → ∀ y ∈ l, okR y = true
  | [], p, _, y, hy => by cases hy
  | x :: l, p, h, y, hy => by
    simp only [mayR, Bool.and_eq_true] at h
    obtain ⟨h1, h2, h3⟩ := h
    rcases List.mem_cons.1 hy with rfl | hy
    · exact h1
    · exact mayR_ok h3 y hy
theorem putR_may {x : D.Reg} (hx : okR x = true) : ∀ {l : List D.Reg} {p : Option Int}, mayR p l = true → (∀ q, p = some q → q < x.prop) → mayR p (putR x l) = true
  | [], p, _, hp => by
    simp only [putR, mayR, hx, Bool.true_and, Bool.and_true]
    cases p with
    | none => rfl
    | some q => simpa using hp q rfl
  | y :: l, p, h, hp => by
    simp only [mayR, Bool.and_eq_true] at h
    obtain ⟨h1, h2, h3⟩ := h
    unfold putR
    split
    · rename_i e
      simp only [mayR, h1, Bool.true_and]
      rw [putR_may hx h3 (fun q hq => by injection hq with hq; omega), Bool.and_true]
      cases p with
      | none => rfl
      | some q => exact h2
    · rename_i e
      split
      · rename_i e2
        have key : ∀ z : D.Reg, okR z = true → z.prop = y.prop → mayR p (z :: l) = true := fun z hz hzp => by
          simp only [mayR, hz, Bool.true_and, hzp, h3, Bool.and_true]
          cases p with
          | none => rfl
          | some q => exact h2
        split
        · exact key x hx e2.symm
        · exact key y h1 rfl
      · have hlt : x.prop < y.prop := by omega
        have hd : decide (x.prop < y.prop) = true := by simpa using hlt
        simp only [mayR, hx, h1, h3, hd, Bool.true_and, Bool.and_true]
        cases p with
        | none => rfl
        | some q => simpa using hp q rfl
/-- i is where the property stands, or would -/
noncomputable def At15 (p : Int) (l : List D.Reg) (i : Nat) : Prop := i ≤ l.length ∧ (∀ (k : Nat) (y : D.Reg), k < i → l[k]? = some y → y.prop < p) ∧ ∀ (k : Nat) (y : D.Reg), i ≤ k → l[k]? = some y → p ≤ y.prop
theorem putR_at {x : D.Reg} : ∀ {l : List D.Reg} {i : Nat}, At15 x.prop l i → putR x l = (match l[i]? with
    | some y => if y.prop = x.prop then (if cmpT y.stamp x.stamp < 0 then l.set i x else l) else l.take i ++ x :: l.drop i
    | none => l.take i ++ x :: l.drop i)
  | [], 0, _ => rfl
  | [], i + 1, h => by have := h.1; simp at this
  | y :: l, 0, h => by
    have h3 := h.2.2 0 y (Nat.le_refl _) rfl
    unfold putR
    rw [if_neg (by omega)]
    simp only [List.getElem?_cons_zero, List.set_cons_zero, List.take_zero, List.nil_append, List.drop_zero]
    split
    · split <;> rfl
    · rfl
  | y :: l, i + 1, h => by
    obtain ⟨h1, h2, h3⟩ := h
    have e := h2 0 y (by omega) rfl
    have ih : At15 x.prop l i := ⟨by simp at h1; omega, fun k z hk hz => h2 (k + 1) z (by omega) (by simpa using hz), fun k z hk hz => h3 (k + 1) z (by omega) (by simpa using hz)⟩
    unfold putR
    rw [if_pos e, putR_at ih]
    simp only [List.getElem?_cons_succ, List.set_cons_succ, List.take_succ_cons, List.drop_succ_cons]
    cases l[i]? with
    | none => rfl
    | some z =>
      simp only
      split
      · split <;> rfl
      · rfl
theorem putR_len {x : D.Reg} : ∀ (l : List D.Reg), (putR x l).length ≤ l.length + 1
  | [] => by simp [putR]
  | y :: l => by
    have := putR_len (x := x) l
    unfold putR
    split
    · simp; omega
    · split <;> simp
/-! ### contracts -/
theorem shr1u {n : Nat} (h : n < 18446744073709551616) : shO .shr .u64 (n : Int) 1 = some ((n / 2 : Nat) : Int) := by
  unfold shO
  show (match some (AV.i .u64 (Int.fdiv (n : Int) ((2 : Nat) : Int))) with | some (.i _ c) => some c | _ => none) = _
  show some (Int.fdiv (n : Int) ((2 : Nat) : Int)) = _
  rw [Int.fdiv_eq_ediv_of_nonneg _ (by omega)]
  rfl
theorem wri64 {n : Nat} (h : n < 9223372036854775808) : wrO .i64 (n : Int) = some (n : Int) := by
  unfold wrO; rw [wrap64 (by omega) (by omega)]
section
variable {h : Hp} {a b : AV} {l m : List D.Reg} {Post : AV → Hp → Prop}
theorem reg_k {x : D.Reg} {c : List AV} (k : D.kReg.K h x c) {h' : Hp} : D.kReg.K h' x (regC x) := by
  have := reg_cells c k
  subst this; exact reg_flat _ _ _ _ k
theorem okR_nums {x : D.Reg} (hx : okR x = true) : D.kReg.K h x (regC x) := by
  unfold okR mayP isS propP at hx
  simp only [Bool.and_eq_true, decide_eq_true_eq] at hx
  obtain ⟨⟨h1, h2, h3⟩, h4, h5, h6, h7⟩ := hx
  have lb : ∀ n : Nat, -1 ≤ lowP n := fun n => by unfold lowP; split <;> omega
  have hb : ∀ n : Nat, highP n ≤ 1099511627776 := fun n => by unfold highP; split <;> omega
  have := lb x.prop.toNat
  have := hb x.prop.toNat
  have i1 : In64 x.prop := ⟨by omega, by omega⟩
  have i2 : In64 x.value := ⟨by omega, by omega⟩
  have i3 : In64 x.stamp.time := ⟨by omega, by omega⟩
  have i4 : In64 x.stamp.rep := ⟨by omega, by omega⟩
  exact ⟨_, _, rfl, in64_of i1, _, _, rfl, in64_of i2, _, _, rfl, in64_of i3, in64_of i4⟩
theorem c31 (r : RegRow h a l) (hb : l.length < 1000000) (k : ∀ r' h', D.kReg.Own h h' r' l → Post r' h') : wpC Try.prog 31 [a] Post h := by
  refine call_sound (args := [.vv a]) (cuts := []) ⟨r.sc, trivial⟩ ?_
  rw [vc31]
  exact clone_body r rfl reg_flat hb (Nat.ble_eq_true_of_le (by omega)) k
theorem c39 {x : D.Reg} {p : Int} (k : Post (.i .i64 (cmpN x.prop p)) h) : wpC Try.prog 39 [.agg (regC x), .i .i64 p] Post h := by
  refine call_sound (args := [.ag [.ii .i64 x.prop, .ii .i64 x.value, .ii .i64 x.stamp.time, .ii .i64 x.stamp.rep], .ii .i64 p]) (cuts := []) ⟨⟨trivial, trivial, trivial, trivial, trivial⟩, trivial, trivial⟩ ?_
  rw [vc39]
  exact fun _ => c40 (onRet.i k)
theorem cmpN_neg {a b : Int} : cmpN a b < 0 ↔ a < b := by
  unfold cmpN
  split
  · simp [*]
  · split <;> omega
theorem cmpN_zero {a b : Int} : cmpN a b = 0 ↔ a = b := by
  unfold cmpN
  split
  · omega
  · split <;> omega
theorem inc_lt (hi : Inc l) {i j : Nat} {x y : D.Reg} (hij : i < j) (hx : l[i]? = some x) (hy : l[j]? = some y) : x.prop < y.prop := by
  obtain ⟨h1, rfl⟩ := List.getElem?_eq_some_iff.1 hx
  obtain ⟨h2, rfl⟩ := List.getElem?_eq_some_iff.1 hy
  exact List.pairwise_iff_getElem.1 hi i j h1 h2 hij
/-- where it stands, and whether -/
noncomputable def foundR (p : Int) (l : List D.Reg) (i : Nat) : Bool := match l[i]? with
  | some y => decide (y.prop = p)
  | none => false
theorem c38 {p : Int} (r : RegRow h a l) (hb : l.length < 1000000) (hi : Inc l) (k : ∀ i : Nat, At15 p l i → Post (.tup [.i .i64 (i : Int), .b (foundR p l i)]) h) : wpC Try.prog 38 [a, .i .i64 p, .f 39 []] Post h := by
  refine call_sound (args := [.vv a, .ii .i64 p, .ff 39 []]) (cuts := []) ⟨r.sc, trivial, trivial, trivial⟩ ?_
  rw [vc38]
  refine onO.mk r.len ⟨fun m n0 n1 h' => h = h' ∧ ∃ i j : Nat, n0 = i ∧ n1 = j ∧ i ≤ j ∧ j ≤ l.length ∧ m = j - i ∧ (∀ (k : Nat) (y : D.Reg), k < i → l[k]? = some y → y.prop < p) ∧ ∀ (k : Nat) (y : D.Reg), j ≤ k → l[k]? = some y → p ≤ y.prop, ⟨l.length, rfl, 0, l.length, rfl, rfl, by omega, by omega, rfl, fun k y hk => by omega, fun k y hk hy => by rw [List.getElem?_eq_none hk] at hy; cases hy⟩, ?_⟩
  rintro m _ _ _ ⟨rfl, i, j, rfl, rfl, hij, hj, rfl, h1, h2⟩
  refine onB.dec (fun e => ?_) (fun e => ?_)
  · have hlt : i < j := by omega
    refine onO.mk (add64 (by omega) (by omega)) ?_
    rw [← Int.natCast_add]
    refine onO.mk ((show wrO .u64 ((i + j : Nat) : Int) = some ((i + j : Nat) : Int) by rw [wru64]; congr 1; omega)) (onO.mk (shr1u (by omega)) (onO.mk (wri64 (by omega)) ?_))
    obtain ⟨x, hx⟩ := get_lt (l := l) (k := (i + j) / 2) (by omega)
    refine regW r hx (c39 (x := x) (onRet.i (onB.dec (fun e1 => ?_) (fun e1 => ?_))))
    · have e1 := cmpN_neg.1 e1
      refine onO.mk (inc64 (by omega)) ⟨j - ((i + j) / 2 + 1), by show _ < _; omega, rfl, (i + j) / 2 + 1, j, rfl, rfl, by omega, hj, rfl, fun k y hk hy => ?_, h2⟩
      rcases Nat.lt_or_ge k ((i + j) / 2) with hk2 | hk2
      · have := inc_lt hi hk2 hy hx; omega
      · have : k = (i + j) / 2 := by omega
        subst this
        rw [hx] at hy; injection hy with hy; subst hy; exact e1
    · have e1 : ¬ x.prop < p := fun q => e1 (cmpN_neg.2 q)
      refine ⟨(i + j) / 2 - i, by show _ < _; omega, rfl, i, (i + j) / 2, rfl, rfl, by omega, by omega, rfl, h1, fun k y hk hy => ?_⟩
      rcases Nat.eq_or_lt_of_le hk with hk2 | hk2
      · subst hk2
        rw [hx] at hy; injection hy with hy; subst hy; omega
      · have := inc_lt hi hk2 hx hy; omega
  · have : i = j := by omega
    subst this
    have k := k i ⟨hj, h1, h2⟩
    refine onB.dec (fun e1 => ?_) (fun e1 => ?_)
    · obtain ⟨x, hx⟩ := get_lt (l := l) (k := i) (by omega)
      refine regW r hx (c39 (x := x) (onRet.i ?_))
      unfold foundR at k
      rw [hx] at k
      simp only at k
      rw [show decide (cmpN x.prop p = 0) = decide (x.prop = p) by rw [decide_eq_decide]; exact cmpN_zero]
      exact k
    · unfold foundR at k
      rw [List.getElem?_eq_none (by omega)] at k
      exact k
theorem c32 {p : Int} (r : RegRow h a l) (hb : l.length < 1000000) (hi : Inc l) (k : ∀ i : Nat, At15 p l i → Post (.tup [.i .i64 (i : Int), .b (foundR p l i)]) h) : wpC Try.prog 32 [a, .i .i64 p] Post h := by
  refine call_sound (args := [.vv a, .ii .i64 p]) (cuts := []) ⟨r.sc, trivial, trivial⟩ ?_
  rw [vc32]
  exact c38 r hb hi fun i hi => onTup.ib (k i hi)
end
theorem Fresh.upp {g h h' : Hp} {a : AV} {sz : Nat} {css : List (List AV)} (f : Fresh g h a sz css) (le : h.le h') (lo : h'.lo = h.lo) : Fresh g h' a sz css :=
  ⟨Hp.le_trans f.le le, lo.trans f.lo, f.row.mono le, fun b o len l ex z e => by
    obtain ⟨n1, n2, cs, n3, n4⟩ := f.new b o len l ex z e
    exact ⟨n1, n2, cs, le b cs n3, n4⟩⟩
theorem Kn.Own.upp {α : Type} {d : Kn α} {g h h' : Hp} {a : AV} {l : List α} (o : d.Own g h a l) (le : h.le h') (lo : h'.lo = h.lo) : d.Own g h' a l := by
  obtain ⟨p, css, h0, h1, f, h2⟩ := o
  exact ⟨p, css, h0, h1, f.upp le lo, h2⟩
theorem All2.set {α β : Type} {R : α → β → Prop} {xs : List α} {ys : List β} (h : All2 R xs ys) {i : Nat} {x : α} {y : β} (hr : R x y) : All2 R (xs.set i x) (ys.set i y) :=
  All2.of_get (by rw [List.length_set, List.length_set, h.length]) fun k a b ha hb => by
    by_cases e : i = k
    · subst e
      rw [List.getElem?_set_self' ] at ha hb
      cases hx : xs[i]? with
      | none => rw [hx] at ha; cases ha
      | some _ =>
        cases hy : ys[i]? with
        | none => rw [hy] at hb; cases hb
        | some _ =>
          rw [hx] at ha; rw [hy] at hb
          injection ha with ha; injection hb with hb
          subst ha; subst hb; exact hr
    · rw [List.getElem?_set_ne e] at ha hb
      exact h.get2 ha hb
/-- one element written -/
theorem Kn.Own.set1 {α : Type} {d : Kn α} {g h : Hp} {a : AV} {l : List α} {sz : Nat} (o : d.Own g h a l) (hsz : d.sz = sz) (fl : d.Flat) {i : Nat} {x : α} {c : List AV} (hi : i < l.length) (hx : d.K h x c) {Post : Option AV → Hp → Prop} (k : ∀ h', d.Own g h' a (l.set i x) → Post none h') :
    onO (idxV a (i : Int) sz) fun r => wpE (.w r.1 r.2 (.lit c) none) Post h := by
  subst hsz
  obtain ⟨p, css, h0, h1, f, h2⟩ := o
  have hcl : c.length = d.sz := Kn.all_len (All2.cons hx .nil) c (by simp)
  have hsc : c.all AV.sc = true := by have := Kn.all_sc (All2.cons hx .nil); simpa using this
  obtain ⟨c0, hc0⟩ := get_lt (l := css) (k := i) (by rw [← h2.length]; exact hi)
  have hc0l := f.row.1 c0 (List.mem_of_getElem? hc0)
  refine f.set hc0 0 (new := c) (by omega) hsc fun h' f' => k h' ⟨p, _, h0, h1, f', ?_⟩
  have e : splice c0 0 c = c := by
    unfold splice
    rw [List.take_zero, List.nil_append, List.drop_eq_nil_of_le (by omega), List.append_nil]
  rw [e]
  exact All2.set h2 (fl _ _ _ _ hx)
/-! ### plain -/
noncomputable def setOk (l : List D.Reg) (x : D.Reg) : Bool := mayR none l && (mayP x.prop x.value && isS x.stamp)
noncomputable def mergeR (l b : List D.Reg) : List D.Reg := b.foldl (fun l x => putR x l) l
noncomputable def getR (p : Int) : List D.Reg → Option Int
  | [] => none
  | y :: l => if y.prop = p then some y.value else getR p l
theorem getR_none {p : Int} : ∀ {l : List D.Reg}, (∀ y ∈ l, y.prop ≠ p) → getR p l = none
  | [], _ => rfl
  | y :: l, h => by unfold getR; rw [if_neg (h y (by simp)), getR_none fun z hz => h z (by simp [hz])]
theorem getR_at {p : Int} : ∀ {l : List D.Reg} {i : Nat}, Inc l → At15 p l i → getR p l = (match l[i]? with
    | some y => if y.prop = p then some y.value else none
    | none => none)
  | [], i, _, _ => by cases i <;> rfl
  | y :: l, 0, hi, h => by
    cases hi with
    | cons h1 h2 =>
    have h3 := h.2.2 0 y (Nat.le_refl _) rfl
    show getR p (y :: l) = if y.prop = p then some y.value else none
    unfold getR
    split
    · rfl
    · exact getR_none fun z hz => by have := h1 z hz; omega
  | y :: l, i + 1, hi, h => by
    obtain ⟨h1, h2, h3⟩ := h
    have e := h2 0 y (by omega) rfl
    cases hi with
    | cons g1 g2 =>
    have ih : At15 p l i := ⟨by simp at h1; omega, fun k z hk hz => h2 (k + 1) z (by omega) (by simpa using hz), fun k z hk hz => h3 (k + 1) z (by omega) (by simpa using hz)⟩
    show getR p (y :: l) = (match l[i]? with | some y => if y.prop = p then some y.value else none | none => none)
    unfold getR
    rw [if_neg (by omega), getR_at g2 ih]
theorem mergeR_may : ∀ {b l : List D.Reg}, mayR none l = true → (∀ x ∈ b, okR x = true) → mayR none (mergeR l b) = true
  | [], l, h, _ => h
  | x :: b, l, h, hb => mergeR_may (b := b) (putR_may (hb x (by simp)) h (fun q e => by cases e)) fun y hy => hb y (by simp [hy])
theorem mergeR_len : ∀ (b l : List D.Reg), (mergeR l b).length ≤ l.length + b.length
  | [], l => by simp [mergeR]
  | x :: b, l => by
    have h1 := mergeR_len b (putR x l)
    have h2 := putR_len (x := x) l
    show (mergeR (putR x l) b).length ≤ _
    simp; omega
theorem mergeR_snoc {l b : List D.Reg} {x : D.Reg} : mergeR l (b ++ [x]) = putR x (mergeR l b) := by unfold mergeR; rw [List.foldl_append]; rfl
section
variable {g h : Hp} {a b : AV} {l m la lb : List D.Reg} {x : D.Reg} {Post : AV → Hp → Prop}
theorem c35 (o : D.kReg.Own g h a l) (hx : D.kReg.K h x (regC x)) {p : Nat} (hp : h.g p = none) (hlo : h.lo ≤ p) {i : Nat} (hi : i ≤ l.length) (hb : l.length + 1 < 1000000) (k : ∀ r h', D.kReg.Own g h' r (l.take i ++ x :: l.drop i) → Post r h') : wpC Try.prog 35 [a, .i .i64 (i : Int), .sl p 0 1 1 true 4] Post (h.put p (regC x)) :=
  Kn.Own.ins (sz := 4) rfl (fun _ _ => rfl) rfl reg_flat o hx hp hlo hi hb k
theorem c27 (r : RegRow h a l) (hi : Inc l) (hx : D.kReg.K h x (regC x)) (hb : l.length + 1 < 1000000) (k : ∀ r' h', D.kReg.Own h h' r' (putR x l) → Post r' h') : wpC Try.prog 27 [a, .agg (regC x)] Post h := by
  refine call_sound (args := [.vv a, .ag [.ii .i64 x.prop, .ii .i64 x.value, .ii .i64 x.stamp.time, .ii .i64 x.stamp.rep]]) (cuts := []) ⟨r.sc, ⟨trivial, trivial, trivial, trivial, trivial⟩, trivial⟩ ?_
  rw [vc27]
  refine fun _ => c31 r (by omega) fun a1 h1 o => onRet.r o.sc (c32 o.row (by omega) hi fun i hat => onTup.ib ?_)
  have e := putR_at hat
  have hxx : D.kReg.K h1 x (regC x) := reg_k hx
  unfold foundR
  cases hy : l[i]? with
  | none =>
    rw [hy] at e
    simp only at e
    refine onB.pos rfl fun p hp hlo => c35 o hxx hp hlo hat.1 hb fun r' h' o' => onRet.r o'.sc (k _ _ (by rw [e]; exact o'))
  | some y =>
    rw [hy] at e
    simp only at e
    by_cases e1 : y.prop = x.prop
    · rw [if_pos e1] at e
      refine onB.neg (by simp [e1]) (reg2 o.row hy (c36 (a := y.stamp) (b := x.stamp) fun h3 le lo => onRet.i (onB.dec (fun e2 => ?_) (fun e2 => ?_))))
      · rw [if_pos e2] at e
        exact (o.upp le lo).set1 rfl reg_flat (x := x) (List.getElem?_eq_some_iff.1 hy).1 (reg_k hx) fun h' o' => k _ _ (by rw [e]; exact o')
      · rw [if_neg e2] at e
        exact k _ _ (by rw [e]; exact o.upp le lo)
    · rw [if_neg e1] at e
      refine onB.pos (by simp [e1]) fun p hp hlo => c35 o hxx hp hlo hat.1 hb fun r' h' o' => onRet.r o'.sc (k _ _ (by rw [e]; exact o'))
theorem c8 (r : RegRow h a l) (hb : l.length + 1 < 1000000) (hx : D.kReg.K h x (regC x)) (k1 : setOk l x = false → Post (.tup [.ns, .i .i64 1]) h) (k2 : setOk l x = true → ∀ r' h', D.kReg.Own h h' r' (putR x l) → Post (.tup [r', .i .i64 0]) h') :
    wpC Try.prog 8 [a, .i .i64 x.prop, .i .i64 x.value, .agg [.i .i64 x.stamp.time, .i .i64 x.stamp.rep]] Post h := by
  refine call_sound (args := [.vv a, .ii .i64 x.prop, .ii .i64 x.value, .ag [.ii .i64 x.stamp.time, .ii .i64 x.stamp.rep]]) (cuts := []) ⟨r.sc, trivial, trivial, ⟨trivial, trivial, trivial⟩, trivial⟩ ?_
  rw [vc8]
  unfold setOk at k1 k2
  refine fun _ => c24 r (by omega) (onRet.b (onB.not (fun e => k1 (by rw [e]; rfl)) (fun e => c25 (onRet.b (onB.not (fun e1 => k1 (by rw [e, e1]; rfl)) (fun e1 => c26 (onRet.b (onB.not (fun e2 => k1 (by rw [e, e1, e2]; rfl)) (fun e2 => ?_)))))))))
  exact c27 r (mayR_inc e).1 hx hb fun r' h' o => onRet.r o.sc (k2 (by rw [e, e1, e2]; rfl) _ _ o)
theorem c11 {n : Int} (k : Post (.i .i64 n) h) : wpC Try.prog 11 [.i .i64 n] Post h := by
  refine call_sound (args := [.ii .i64 n]) (cuts := []) ⟨trivial, trivial⟩ ?_
  rw [vc11]; exact k
end
section
variable {g h : Hp} {a b c : AV} {l m la lb : List D.Reg} {x : D.Reg} {Post : AV → Hp → Prop}
theorem c7 {L : List D.RegDo} (ra : RegRow h a l) (rb : RegRow h b m) (rc : D.kRegDo.Row h c L) (h1 : l.length ≤ 140737488351232) (h2 : m.length ≤ 140737488351232) (h3 : L.length ≤ 140737488351232) (k1 : Post (.b true) h) (k2 : l.length ≤ 2000 → m.length ≤ 2000 → L.length ≤ 2000 → Post (.b false) h) : wpC Try.prog 7 [.agg [a, b, c]] Post h := by
  refine call_sound (args := [.ag [.vv a, .vv b, .vv c]]) (cuts := []) ⟨⟨ra.sc, rb.sc, rc.sc, trivial⟩, trivial⟩ ?_
  rw [vc7]
  refine fun _ => onO.mk ra.len (onO.mk rb.len (onO.mk (add64 (by omega) (by omega)) (onO.mk rc.len (onO.mk (add64 (by omega) (by omega)) ?_))))
  by_cases e : (2000 : Int) < (l.length : Int) + m.length + L.length
  · rw [decide_eq_true e]; exact k1
  · rw [decide_eq_false e]; exact k2 (by omega) (by omega) (by omega)
theorem c17 (ra : RegRow h a la) (rb : RegRow h b lb) (hl : la.length + lb.length < 900000) (k1 : (mayR none la && mayR none lb) = false → Post (.tup [.ns, .i .i64 1]) h) (k2 : (mayR none la && mayR none lb) = true → ∀ r' h', D.kReg.Own h h' r' (mergeR la lb) → Post (.tup [r', .i .i64 0]) h') : wpC Try.prog 17 [a, b] Post h := by
  refine call_sound (args := [.vv a, .vv b]) (cuts := []) ⟨ra.sc, rb.sc, trivial⟩ ?_
  rw [vc17]
  refine c24 ra (by omega) (onRet.b (onB.not (fun e => k1 (by rw [e]; rfl)) (fun e => c24 rb (by omega) (onRet.b (onB.not (fun e1 => k1 (by rw [e, e1]; rfl)) (fun e1 => ?_))))))
  have hok := mayR_ok e1
  refine c31 ra (by omega) fun a3 h2 o3 => onRet.r o3.sc (onO.mk rb.len ⟨fun m a4 n0 h' => ∃ j : Nat, n0 = j ∧ j ≤ lb.length ∧ m = lb.length - j ∧ D.kReg.Own h h' a4 (mergeR la (lb.take j)), ⟨lb.length, 0, rfl, by omega, rfl, o3⟩, ?_⟩)
  rintro m h3 a4 _ _ ⟨j, rfl, hj, rfl, ow⟩
  refine onB.dec (fun e2 => ?_) (fun e2 => ?_)
  · obtain ⟨y, hy⟩ := get_lt (l := lb) (k := j) (by omega)
    have r0 : RegRow h3 b lb := rb.mono ow.le
    obtain ⟨cy, hcy⟩ := r0.all (List.mem_of_getElem? hy)
    have hm := mergeR_may e fun z hz => hok z (List.mem_of_mem_take (i := j) hz)
    have hlen := mergeR_len (lb.take j) la
    rw [List.length_take] at hlen
    refine regW r0 hy fun _ => c27 (x := y) ow.row (mayR_inc hm).1 (reg_k hcy) (by omega) fun r' h4 o4 => onRet.r o4.sc (onO.mk (inc64 (by omega)) ⟨_, by show lb.length - (j + 1) < lb.length - j; omega, j + 1, rfl, by omega, rfl, ?_⟩)
    rw [take_succ' hy, mergeR_snoc]
    exact o4.mono ow.le ow.lo
  · have : j = lb.length := by omega
    subst this
    rw [List.take_length] at ow
    exact k2 (by rw [e, e1]; rfl) _ _ ow
theorem c18 {p : Int} (r : RegRow h a l) (hb : l.length < 1000000) (k : Post (.tup [.i .i64 (if mayR none l = true then (getR p l).getD 0 else 0), .i .i64 (if mayR none l = true then (if (getR p l).isSome = true then 0 else 3) else 1)]) h) : wpC Try.prog 18 [a, .i .i64 p] Post h := by
  refine call_sound (args := [.vv a, .ii .i64 p]) (cuts := []) ⟨r.sc, trivial, trivial⟩ ?_
  rw [vc18]
  refine c24 r hb (onRet.b (onB.not (fun e => ?_) (fun e => ?_)))
  · rw [if_neg (by rw [e]; simp), if_neg (by rw [e]; simp)] at k; exact k
  · rw [if_pos e, if_pos e] at k
    have hi := (mayR_inc e).1
    refine c32 r hb hi fun i hat => onTup.ib ?_
    have hg := getR_at hi hat
    unfold foundR
    cases hy : l[i]? with
    | none =>
      rw [hy] at hg
      simp only at hg
      rw [hg] at k
      exact onB.pos rfl k
    | some y =>
      rw [hy] at hg
      simp only at hg
      by_cases e1 : y.prop = p
      · rw [if_pos e1] at hg
        rw [hg] at k
        exact onB.neg (by simp [e1]) (reg1 r hy k)
      · rw [if_neg e1] at hg
        rw [hg] at k
        exact onB.pos (by simp [e1]) k
theorem nsR : RegRow h .ns [] := ⟨[], ⟨fun _ h => (by cases h), rfl⟩, .nil⟩
theorem c14 (k : ∀ h', Post (.b true) h') : wpC Try.prog 14 [] Post h := by
  refine call_sound (args := []) (cuts := []) trivial ?_
  rw [vc14]
  have hx1 : okR ⟨17, 1, ⟨5, 0⟩⟩ = true := by decide
  have hx2 : okR ⟨17, 2, ⟨4, 0⟩⟩ = true := by decide
  refine c8 (l := []) (x := ⟨17, 1, ⟨5, 0⟩⟩) nsR (by simp) (okR_nums hx1) (fun e => absurd e (by decide)) fun _ r1 h1 o1 => onTup.ri o1.sc ?_
  have e1 : putR ⟨17, 1, ⟨5, 0⟩⟩ [] = [⟨17, 1, ⟨5, 0⟩⟩] := rfl
  rw [e1] at o1
  refine c8 (x := ⟨17, 2, ⟨4, 0⟩⟩) o1.row (by simp) (okR_nums hx2) (fun e => absurd e (by decide)) fun _ r2 h2 o2 => onTup.ri o2.sc ?_
  have e2 : putR ⟨17, 2, ⟨4, 0⟩⟩ [⟨17, 1, ⟨5, 0⟩⟩] = [⟨17, 1, ⟨5, 0⟩⟩] := rfl
  rw [e2] at o2
  refine c18 (p := 17) o2.row (by simp) ?_
  have e3 : mayR none [(⟨17, 1, ⟨5, 0⟩⟩ : D.Reg)] = true := by decide
  have e4 : getR 17 [(⟨17, 1, ⟨5, 0⟩⟩ : D.Reg)] = some 1 := rfl
  rw [e3, e4]
  exact onTup.ii (c11 (onRet.i (onB.pos rfl (c11 (onRet.i (onB.pos rfl (c11 (onRet.i (onB.pos rfl (k _)))))))))) 
noncomputable def regX (p : D.RegDo) : D.Reg := ⟨p.prop, p.value, p.s⟩
theorem regdo_open {p : D.RegDo} {cs : List AV} (k : D.kRegDo.K h p cs) : cs = [.i .i64 p.prop, .i .i64 p.value, .i .i64 p.s.time, .i .i64 p.s.rep] ∧ D.kReg.K h (regX p) (regC (regX p)) := by
  obtain ⟨e, i1, i2, i3, i4⟩ := D.kRegDo_open k
  exact ⟨e, _, _, rfl, in64_of i1, _, _, rfl, in64_of i2, _, _, rfl, in64_of i3, in64_of i4⟩
end
noncomputable def lkR (p : Int) : List D.Reg → Option D.Reg
  | [] => none
  | y :: l => if y.prop = p then some y else lkR p l
noncomputable def joinR (o : Option D.Reg) (x : D.Reg) : D.Reg := match o with
  | none => x
  | some y => if cmpT y.stamp x.stamp < 0 then x else y
theorem lkR_in {p : Int} {y : D.Reg} : ∀ {l : List D.Reg}, lkR p l = some y → y ∈ l ∧ y.prop = p
  | [], h => by cases h
  | z :: l, h => by
    unfold lkR at h
    split at h
    · rename_i e; injection h with h; subst h; exact ⟨by simp, e⟩
    · have := lkR_in h; exact ⟨by simp [this.1], this.2⟩
theorem lkR_no {p : Int} : ∀ {l : List D.Reg}, (∀ y ∈ l, y.prop ≠ p) → lkR p l = none
  | [], _ => rfl
  | y :: l, h => by unfold lkR; rw [if_neg (h y (by simp)), lkR_no fun z hz => h z (by simp [hz])]
theorem lkR_mem {z : D.Reg} : ∀ {l : List D.Reg}, Inc l → z ∈ l → lkR z.prop l = some z
  | [], _, h => by cases h
  | y :: l, hi, h => by
    cases hi with
    | cons h1 h2 =>
    unfold lkR
    rcases List.mem_cons.1 h with rfl | h
    · rw [if_pos rfl]
    · rw [if_neg (by have := h1 z h; omega), lkR_mem h2 h]
theorem getR_lk {p : Int} : ∀ (l : List D.Reg), getR p l = (lkR p l).map (·.value)
  | [] => rfl
  | y :: l => by
    unfold getR lkR
    split
    · rfl
    · exact getR_lk l
theorem inc_ext : ∀ {l m : List D.Reg}, Inc l → Inc m → (∀ p, lkR p l = lkR p m) → l = m
  | [], [], _, _, _ => rfl
  | [], y :: m, _, hm, h => by
    have := h y.prop
    rw [lkR_mem hm (by simp)] at this; cases this
  | x :: l, [], hl, _, h => by
    have := h x.prop
    rw [lkR_mem hl (by simp)] at this; cases this
  | x :: l, y :: m, hl, hm, h => by
    have e1 := h x.prop
    rw [lkR_mem hl (by simp)] at e1
    have e2 := h y.prop
    rw [lkR_mem hm (by simp)] at e2
    obtain ⟨i1, _⟩ := lkR_in e1.symm
    obtain ⟨i2, _⟩ := lkR_in e2
    cases hl with
    | cons h1 h2 =>
    cases hm with
    | cons g1 g2 =>
    have hxy : x = y := by
      rcases List.mem_cons.1 i1 with e | i1
      · exact e
      · rcases List.mem_cons.1 i2 with e | i2
        · exact e.symm
        · have := g1 x i1
          have := h1 y i2
          omega
    subst hxy
    congr 1
    refine inc_ext h2 g2 fun p => ?_
    by_cases e : x.prop = p
    · rw [lkR_no fun z hz => by have := h1 z hz; omega, lkR_no fun z hz => by have := g1 z hz; omega]
    · have := h p
      unfold lkR at this
      rwa [if_neg e, if_neg e] at this
theorem putR_mem {x y : D.Reg} : ∀ {l : List D.Reg}, y ∈ putR x l → y = x ∨ y ∈ l
  | [], h => by simp [putR] at h; exact .inl h
  | z :: l, h => by
    unfold putR at h
    split at h
    · rcases List.mem_cons.1 h with rfl | h
      · exact .inr (by simp)
      · exact (putR_mem h).imp id fun h => by simp [h]
    · split at h
      · rcases List.mem_cons.1 h with e | h
        · split at e
          · exact .inl e
          · exact .inr (by simp [e])
        · exact .inr (by simp [h])
      · rcases List.mem_cons.1 h with e | h
        · exact .inl e
        · exact .inr h
theorem putR_inc {x : D.Reg} : ∀ {l : List D.Reg}, Inc l → Inc (putR x l)
  | [], _ => .cons (fun y hy => by cases hy) .nil
  | z :: l, hi => by
    cases hi with
    | cons h1 h2 =>
    unfold putR
    split
    · rename_i e
      refine .cons (fun y hy => ?_) (putR_inc h2)
      rcases putR_mem hy with rfl | hy
      · exact e
      · exact h1 y hy
    · rename_i e
      split
      · rename_i e2
        refine .cons (fun y hy => ?_) h2
        have := h1 y hy
        split <;> omega
      · exact .cons (fun y hy => by
          rcases List.mem_cons.1 hy with rfl | hy
          · omega
          · have := h1 y hy; omega) (.cons h1 h2)
theorem lkR_put {x : D.Reg} {p : Int} : ∀ {l : List D.Reg}, Inc l → lkR p (putR x l) = if x.prop = p then some (joinR (lkR p l) x) else lkR p l
  | [], _ => rfl
  | y :: l, hi => by
    cases hi with
    | cons h1 h2 =>
    unfold putR
    by_cases e1 : y.prop < x.prop
    · rw [if_pos e1]
      show (if y.prop = p then some y else lkR p (putR x l)) = _
      by_cases e2 : y.prop = p
      · rw [if_pos e2, if_neg (show ¬ x.prop = p by omega)]
        show _ = if y.prop = p then some y else lkR p l
        rw [if_pos e2]
      · rw [if_neg e2, lkR_put h2]
        show _ = if x.prop = p then some (joinR (if y.prop = p then some y else lkR p l) x) else if y.prop = p then some y else lkR p l
        rw [if_neg e2]
    · rw [if_neg e1]
      by_cases e2 : y.prop = x.prop
      · rw [if_pos e2]
        have hp : (if cmpT y.stamp x.stamp < 0 then x else y).prop = x.prop := by split <;> omega
        show (if (if cmpT y.stamp x.stamp < 0 then x else y).prop = p then some (if cmpT y.stamp x.stamp < 0 then x else y) else lkR p l) = if x.prop = p then some (joinR (if y.prop = p then some y else lkR p l) x) else if y.prop = p then some y else lkR p l
        rw [hp]
        by_cases e3 : x.prop = p
        · rw [if_pos e3, if_pos e3, if_pos (show y.prop = p by omega)]; rfl
        · rw [if_neg e3, if_neg e3, if_neg (show ¬ y.prop = p by omega)]
      · rw [if_neg e2]
        show (if x.prop = p then some x else lkR p (y :: l)) = _
        by_cases e3 : x.prop = p
        · rw [if_pos e3, if_pos e3, lkR_no (l := y :: l) fun z hz => ?_]
          · rfl
          · rcases List.mem_cons.1 hz with rfl | hz
            · omega
            · have := h1 z hz; omega
        · rw [if_neg e3, if_neg e3]
/-- of each property of these registers, the one set last -/
structure SumR (S : D.Reg → Prop) (l : List D.Reg) : Prop where
  inc : Inc l
  tel : ∀ p y, lkR p l = some y ↔ (S y ∧ y.prop = p ∧ ∀ z, S z → z.prop = p → z.stamp.time ≤ y.stamp.time)
  emp : ∀ p, lkR p l = none → ∀ z, S z → z.prop ≠ p
theorem SumR.nil : SumR (fun _ => False) [] := ⟨.nil, fun p y => ⟨(fun h => by cases h), fun h => h.1.elim⟩, fun p _ z h => h.elim⟩
theorem SumR.to {S S' : D.Reg → Prop} {l : List D.Reg} (s : SumR S l) (h : ∀ y, S y ↔ S' y) : SumR S' l := by
  have : S = S' := funext fun y => propext (h y)
  rw [← this]; exact s
theorem SumR.eq {S : D.Reg → Prop} {l m : List D.Reg} (a : SumR S l) (b : SumR S m) : l = m :=
  inc_ext a.inc b.inc fun p => by
    cases hl : lkR p l with
    | some y => exact ((b.tel p y).2 ((a.tel p y).1 hl)).symm
    | none =>
      cases hm : lkR p m with
      | none => rfl
      | some y =>
        have := (b.tel p y).1 hm
        exact absurd this.2.1 (a.emp p hl y this.1)
theorem cmpT_lt {a b : D.Stamp} (h : a.time ≠ b.time) : cmpT a b < 0 ↔ a.time < b.time := by
  have h0 : cmpN a.time b.time ≠ 0 := fun e => h (cmpN_zero.1 e)
  unfold cmpT
  rw [if_neg h0]
  exact cmpN_neg
theorem SumR.put {S : D.Reg → Prop} {l : List D.Reg} {x : D.Reg} (s : SumR S l) (hd : ∀ y, S y → y.stamp.time = x.stamp.time → y = x) : SumR (fun y => S y ∨ y = x) (putR x l) := by
  refine ⟨putR_inc s.inc, fun p y => ?_, fun p h z hz => ?_⟩
  · rw [lkR_put s.inc]
    by_cases e : x.prop = p
    · rw [if_pos e]
      cases hl : lkR p l with
      | none =>
        have hn := s.emp p hl
        constructor
        · intro h; injection h with h; subst h
          refine ⟨.inr rfl, e, fun z hz hzp => ?_⟩
          rcases hz with hz | rfl
          · exact absurd hzp (hn z hz)
          · exact Int.le_refl _
        · rintro ⟨hy, hyp, _⟩
          rcases hy with hy | rfl
          · exact absurd hyp (hn y hy)
          · rfl
      | some y0 =>
        obtain ⟨g1, g2, g3⟩ := (s.tel p y0).1 hl
        have hj : ∀ r, joinR (some y0) x = r ↔ r = (if cmpT y0.stamp x.stamp < 0 then x else y0) := fun r => ⟨fun h => h.symm, fun h => h.symm⟩
        constructor
        · intro h; injection h with h
          have h := (hj y).1 h
          by_cases et : y0.stamp.time = x.stamp.time
          · have := hd y0 g1 et
            subst this
            have : y = y0 := by rw [h]; split <;> rfl
            subst this
            refine ⟨.inl g1, g2, fun z hz hzp => ?_⟩
            rcases hz with hz | rfl
            · exact g3 z hz hzp
            · exact Int.le_refl _
          · by_cases ht : y0.stamp.time < x.stamp.time
            · rw [if_pos ((cmpT_lt et).2 ht)] at h
              subst h
              refine ⟨.inr rfl, e, fun z hz hzp => ?_⟩
              rcases hz with hz | rfl
              · have := g3 z hz hzp; omega
              · exact Int.le_refl _
            · rw [if_neg (fun q => ht ((cmpT_lt et).1 q))] at h
              subst h
              refine ⟨.inl g1, g2, fun z hz hzp => ?_⟩
              rcases hz with hz | rfl
              · exact g3 z hz hzp
              · omega
        · rintro ⟨hy, hyp, hmax⟩
          congr 1
          refine (hj y).2 ?_
          have m0 := hmax y0 (.inl g1) g2
          have m1 := hmax x (.inr rfl) e
          by_cases et : y0.stamp.time = x.stamp.time
          · have := hd y0 g1 et
            subst this
            have hyy : y = y0 := by
              rcases hy with hy | h
              · exact hd y hy (by have := g3 y hy hyp; omega)
              · exact h
            rw [hyy]; split <;> rfl
          · by_cases ht : y0.stamp.time < x.stamp.time
            · rw [if_pos ((cmpT_lt et).2 ht)]
              rcases hy with hy | h
              · have := g3 y hy hyp; omega
              · exact h
            · rw [if_neg (fun q => ht ((cmpT_lt et).1 q))]
              rcases hy with hy | h
              · have hle := g3 y hy hyp
                have hy2 : lkR p l = .some y := (s.tel p y).2 ⟨hy, hyp, fun z hz hzp => hmax z (.inl hz) hzp⟩
                rw [hl] at hy2; injection hy2 with hy2; exact hy2.symm
              · subst h; omega
    · rw [if_neg e, s.tel]
      constructor
      · rintro ⟨h1, h2, h3⟩
        refine ⟨.inl h1, h2, fun z hz hzp => ?_⟩
        rcases hz with hz | rfl
        · exact h3 z hz hzp
        · exact absurd hzp e
      · rintro ⟨h1, h2, h3⟩
        refine ⟨?_, h2, fun z hz hzp => h3 z (.inl hz) hzp⟩
        rcases h1 with h1 | rfl
        · exact h1
        · exact absurd h2 e
  · rw [lkR_put s.inc] at h
    by_cases e : x.prop = p
    · rw [if_pos e] at h; cases h
    · rw [if_neg e] at h
      rcases hz with hz | rfl
      · exact s.emp p h z hz
      · exact e
/-- all told by some of them -/
theorem SumR.more {T T' : D.Reg → Prop} {l : List D.Reg} (s : SumR T l) (h1 : ∀ y, T y → T' y) (h2 : ∀ z, T' z → ∃ w, T w ∧ w.prop = z.prop ∧ z.stamp.time ≤ w.stamp.time) (hd : ∀ y z, T' y → T' z → y.stamp.time = z.stamp.time → y = z) : SumR T' l := by
  refine ⟨s.inc, fun p y => ?_, fun p h z hz e => ?_⟩
  · rw [s.tel]
    constructor
    · rintro ⟨g1, g2, g3⟩
      refine ⟨h1 y g1, g2, fun z hz hzp => ?_⟩
      obtain ⟨w, w1, w2, w3⟩ := h2 z hz
      have := g3 w w1 (by omega)
      omega
    · rintro ⟨g1, g2, g3⟩
      obtain ⟨w, w1, w2, w3⟩ := h2 y g1
      have := g3 w (h1 w w1) (by omega)
      have e := hd y w g1 (h1 w w1) (by omega)
      subst e
      exact ⟨w1, g2, fun z hz hzp => g3 z (h1 z hz) hzp⟩
  · obtain ⟨w, w1, w2, w3⟩ := h2 z hz
    exact s.emp p h w w1 (by omega)
theorem SumR.fold : ∀ {b l : List D.Reg} {S : D.Reg → Prop}, SumR S l → (∀ x ∈ b, ∀ y, (S y ∨ y ∈ b) → y.stamp.time = x.stamp.time → y = x) → SumR (fun y => S y ∨ y ∈ b) (mergeR l b)
  | [], l, S, s, _ => s.to fun y => by simp
  | x :: b, l, S, s, hd => by
    have s1 := s.put (x := x) fun y hy e => hd x (by simp) y (.inl hy) e
    have s2 := SumR.fold (b := b) s1 fun z hz y hy e => hd z (by simp [hz]) y (by
      rcases hy with (hy | rfl) | hy
      · exact .inl hy
      · exact .inr (by simp)
      · exact .inr (by simp [hy])) e
    exact s2.to fun y => by simp [or_assoc]
/-- brought together -/
theorem SumR.merge {S S' : D.Reg → Prop} {l b : List D.Reg} (s : SumR S l) (s' : SumR S' b) (hd : ∀ y z, (S y ∨ S' y) → (S z ∨ S' z) → y.stamp.time = z.stamp.time → y = z) : SumR (fun y => S y ∨ S' y) (mergeR l b) := by
  have hb : ∀ z ∈ b, S' z := fun z hz => ((s'.tel z.prop z).1 (lkR_mem s'.inc hz)).1
  refine (s.fold (b := b) fun x hx y hy e => hd y x (hy.imp id (hb y)) (.inr (hb x hx)) e).more (fun y hy => hy.imp id (hb y)) (fun z hz => ?_) hd
  rcases hz with hz | hz
  · exact ⟨z, .inl hz, rfl, Int.le_refl _⟩
  · cases hl : lkR z.prop b with
    | none => exact absurd rfl (s'.emp z.prop hl z hz)
    | some w =>
      obtain ⟨g1, g2, g3⟩ := (s'.tel z.prop w).1 hl
      exact ⟨w, .inr (lkR_in hl).1, g2, g3 z hz rfl⟩
noncomputable def ActsOk (lst : List D.Reg) (j : Nat) : Prop := (∀ y ∈ lst, okR y = true ∧ y.stamp.time ≤ j) ∧ lst.Pairwise (fun a b => a.stamp.time < b.stamp.time) ∧ lst.length ≤ j
theorem acts_lt {lst : List D.Reg} {j : Nat} (ok : ActsOk lst j) {k k' : Nat} {y z : D.Reg} (h : k < k') (hy : lst[k]? = some y) (hz : lst[k']? = some z) : y.stamp.time < z.stamp.time := by
  obtain ⟨h1, rfl⟩ := List.getElem?_eq_some_iff.1 hy
  obtain ⟨h2, rfl⟩ := List.getElem?_eq_some_iff.1 hz
  exact List.pairwise_iff_getElem.1 ok.2.1 k k' h1 h2 h
theorem acts_inj {lst : List D.Reg} {j : Nat} (ok : ActsOk lst j) {k k' : Nat} {y z : D.Reg} (hy : lst[k]? = some y) (hz : lst[k']? = some z) (e : y.stamp.time = z.stamp.time) : y = z := by
  rcases Nat.lt_trichotomy k k' with h | h | h
  · have := acts_lt ok h hy hz; omega
  · subst h; rw [hy] at hz; injection hz
  · have := acts_lt ok h hz hy; omega
noncomputable def LastAt (lst : List D.Reg) (p : Int) (i : Nat) (n : Int) : Prop :=
  (n = -1 ∧ ∀ (k : Nat) (y : D.Reg), k < i → lst[k]? = some y → y.prop ≠ p) ∨ ∃ (t : Nat) (y : D.Reg), n = (t : Int) ∧ t < i ∧ lst[t]? = some y ∧ y.prop = p ∧ ∀ (k : Nat) (z : D.Reg), t < k → k < i → lst[k]? = some z → z.prop ≠ p
/-- those of some places -/
noncomputable def Some15 (lst : List D.Reg) (A : Nat → Prop) : D.Reg → Prop := fun y => ∃ k, A k ∧ lst[k]? = some y
theorem Some15.put {lst : List D.Reg} {j : Nat} (ok : ActsOk lst j) {A B : Nat → Prop} {l : List D.Reg} {i : Nat} {x : D.Reg} (s : SumR (Some15 lst A) l) (hx : lst[i]? = some x) (h : ∀ k, k < lst.length → (B k ↔ (A k ∨ k = i))) : SumR (Some15 lst B) (putR x l) :=
  (s.put fun y ⟨k, _, hk⟩ e => acts_inj ok hk hx e).to fun y => by
    constructor
    · rintro (⟨k, hA, hk⟩ | rfl)
      · exact ⟨k, (h k (List.getElem?_eq_some_iff.1 hk).1).2 (.inl hA), hk⟩
      · exact ⟨i, (h i (List.getElem?_eq_some_iff.1 hx).1).2 (.inr rfl), hx⟩
    · rintro ⟨k, hB, hk⟩
      rcases (h k (List.getElem?_eq_some_iff.1 hk).1).1 hB with hA | rfl
      · exact .inl ⟨k, hA, hk⟩
      · rw [hx] at hk; injection hk with hk; exact .inr hk.symm
theorem Some15.to {lst : List D.Reg} {A B : Nat → Prop} {l : List D.Reg} (s : SumR (Some15 lst A) l) (h : ∀ k, k < lst.length → (B k ↔ A k)) : SumR (Some15 lst B) l :=
  SumR.to s fun y => ⟨fun ⟨k, hA, hk⟩ => ⟨k, (h k (List.getElem?_eq_some_iff.1 hk).1).2 hA, hk⟩, fun ⟨k, hB, hk⟩ => ⟨k, (h k (List.getElem?_eq_some_iff.1 hk).1).1 hB, hk⟩⟩
theorem Some15.nil {lst : List D.Reg} {A : Nat → Prop} (h : ∀ k, k < lst.length → ¬ A k) : SumR (Some15 lst A) [] :=
  SumR.to SumR.nil fun y => ⟨fun h => h.elim, fun ⟨k, hA, hk⟩ => h k (List.getElem?_eq_some_iff.1 hk).1 hA⟩
theorem rem2 {n : Nat} (h : n < 1000000000000) : intO .rem .i64 (n : Int) 2 = some ((n % 2 : Nat) : Int) := by
  have e : intO .rem .i64 (n : Int) 2 = some (((n : Int)).tmod 2) := rfl
  rw [e]; congr 1
section
variable {g h : Hp} {a b c : AV} {l m la lb : List D.Reg} {x : D.Reg} {Post : AV → Hp → Prop}
theorem setOk_of {l : List D.Reg} {x : D.Reg} (h1 : mayR none l = true) (h2 : okR x = true) : setOk l x = true := by
  unfold setOk
  unfold okR at h2
  rw [h1, h2]; rfl
/-- Set, where all may be -/
theorem c71' (r : RegRow h a l) (hb : l.length + 1 < 1000000) (hm : mayR none l = true) (hx : okR x = true) (k : ∀ r' h', h.le h' → RegRow h' r' (putR x l) → mayR none (putR x l) = true → Post (.tup [r', .i .i64 0]) h') :
    wpC Try.prog 8 [a, .i .i64 x.prop, .i .i64 x.value, .agg [.i .i64 x.stamp.time, .i .i64 x.stamp.rep]] Post h :=
  c8 r hb (okR_nums hx) (fun e => by rw [setOk_of hm hx] at e; cases e) fun _ r' h' o => k r' h' o.le o.row (putR_may hx hm fun q e => by cases e)
theorem D.lawRegOrders {x : D.RegA} {cells : List AV} (kx : D.kRegA.K h x cells) : wpC Try.prog 4 [.agg cells] (fun v _ => v = .b true) h := by
  obtain ⟨a0, a1, a2, rfl, ⟨r0, h0⟩, ⟨r1, h1⟩, ⟨r2, h2⟩⟩ := D.kRegA_open kx
  refine call_sound (args := [.ag [.vv a0, .vv a1, .vv a2]]) (cuts := [11000036, 22999999, 37000109, 46999999, 57000177, 78999999, 81000226]) ⟨⟨r0.sc, r1.sc, r2.sc, trivial⟩, trivial⟩ ?_
  rw [vc4]
  refine fun _ => c7 r0 r1 r2 (by omega) (by omega) (by omega) (onRet.b (onB.pos rfl rfl)) fun b0 b1 b2 => onRet.b (onB.neg rfl ?_)
  refine ⟨fun m a1 n0 h' => ∃ (j : Nat) (lst : List D.Reg), n0 = j ∧ j ≤ x.l.length ∧ j ≤ 20 ∧ m = x.l.length - j ∧ D.kReg.Own h h' a1 lst ∧ ActsOk lst j, ⟨_, 0, [], rfl, by omega, by omega, rfl, Kn.Own.nil _ _, (fun y hy => by cases hy), .nil, by simp⟩, ?_⟩
  rintro m h1 A _ _ ⟨j, lst, rfl, hj, hj20, rfl, ow, ok⟩
  refine ⟨fun b h' => h1 = h' ∧ (b = true → j < x.l.length ∧ j < 20), onO.mk r2.len (onB.dec (fun e => ⟨rfl, fun e2 => ⟨by omega, by have := of_decide_eq_true e2; omega⟩⟩) (fun e => ⟨rfl, fun e => by cases e⟩)), ?_⟩
  rintro _ c1 ⟨rfl, hc1⟩
  refine onB.mk (fun e => ?_) (fun _ => ?_)
  · obtain ⟨hlt, h20⟩ := hc1 e
    obtain ⟨p, hp⟩ := get_lt (l := x.l) (k := j) hlt
    obtain ⟨bb, oo, cc, e1, e2, e3⟩ := r2.idx (i := (j : Int)) (Int.natCast_nonneg j) (by simpa using hp)
    obtain ⟨rfl, hX⟩ := regdo_open e3
    refine onO.mk e1 (onO.mk (rdH_le ow.le e2) (onL.i4 fun _ => onO.mk (inc64 (by omega)) (c15 (by omega) (by omega) fun n6 h60 h61 => onRet.i (c16 (onRet.i ?_)))))
    rw [checkP_ok]
    refine ⟨fun a5 h' => ∃ lst', D.kReg.Own h h' a5 lst' ∧ ActsOk lst' (j + 1), onB.mk (fun e4 => fun _ => ?_) (fun e4 => ?_), ?_⟩
    · have hok : okR ⟨p.prop, p.value, ⟨((j + 1 : Nat) : Int), n6⟩⟩ = true := by
        unfold okR isS
        rw [e4]
        simp only [Bool.true_and, Bool.and_eq_true, decide_eq_true_eq]
        omega
      have hll := ok.2.2
      refine ow.app1 rfl reg_flat (x := ⟨p.prop, p.value, ⟨((j + 1 : Nat) : Int), n6⟩⟩) (okR_nums hok) (by omega) fun r' h' o' => onO.mk rfl ?_
      refine ⟨_, o', fun y hy => ?_, ?_, by simp; omega⟩
      · rcases List.mem_append.1 hy with hy | hy
        · exact ⟨(ok.1 y hy).1, by have := (ok.1 y hy).2; omega⟩
        · simp at hy; subst hy; exact ⟨hok, Int.le_refl _⟩
      · refine List.pairwise_append.2 ⟨ok.2.1, .cons (fun y hy => by cases hy) .nil, fun y hy z hz => ?_⟩
        simp at hz; subst hz
        have := (ok.1 y hy).2
        show y.stamp.time < ((j + 1 : Nat) : Int); omega
    · exact ⟨lst, ow, fun y hy => ⟨(ok.1 y hy).1, by have := (ok.1 y hy).2; omega⟩, ok.2.1, by have := ok.2.2; omega⟩
    rintro h6 a5 _ ⟨lst', ow', ok'⟩
    exact onO.mk (inc64 (by omega)) ⟨_, by show x.l.length - (j + 1) < x.l.length - j; omega, j + 1, lst', rfl, by omega, by omega, rfl, ow', ok'⟩
  have rl := ow.row
  have hN : lst.length ≤ 20 := Nat.le_trans ok.2.2 hj20
  have okk : ∀ {k : Nat} {y : D.Reg}, lst[k]? = some y → okR y = true := fun {k y} hk => (ok.1 y (List.mem_of_getElem? hk)).1
  refine ⟨fun q a6 a7 a8 a9 _ n9 h' => ∃ (i : Nat) (u d e o : List D.Reg), n9 = i ∧ i ≤ lst.length ∧ q = lst.length - i ∧ h1.le h' ∧ (RegRow h' a6 u ∧ RegRow h' a7 d ∧ RegRow h' a8 e ∧ RegRow h' a9 o) ∧ (mayR none u = true ∧ mayR none d = true ∧ mayR none e = true ∧ mayR none o = true) ∧ (u.length ≤ i ∧ d.length ≤ i ∧ e.length ≤ i ∧ o.length ≤ i) ∧
    SumR (Some15 lst fun k => k < i) u ∧ SumR (Some15 lst fun k => lst.length - i ≤ k) d ∧ SumR (Some15 lst fun k => k < i ∧ k % 2 = 0) e ∧ SumR (Some15 lst fun k => k < i ∧ k % 2 = 1) o,
    ⟨lst.length, 0, [], [], [], [], rfl, by omega, rfl, Hp.le_refl _, ⟨nsR, nsR, nsR, nsR⟩, ⟨rfl, rfl, rfl, rfl⟩, ⟨by simp, by simp, by simp, by simp⟩, Some15.nil fun k hk h => by omega, Some15.nil fun k hk h => by omega, Some15.nil fun k hk h => by omega, Some15.nil fun k hk h => by omega⟩, ?_⟩
  rintro q h7 a6 _ a7 _ a8 _ a9 _ c2 _ ⟨i, u, d, e, o, rfl, hi, rfl, le7, ⟨ru, rd, re, ro⟩, ⟨mu, md, me, mo⟩, ⟨lu, ld, lle, lo⟩, su, sd, se, so⟩
  have rl7 := rl.mono le7
  refine onO.mk rl7.len (onB.dec (fun e1 => ?_) (fun e1 => ?_))
  · have hlt : i < lst.length := by omega
    obtain ⟨X, hX⟩ := get_lt hlt
    obtain ⟨Y, hY⟩ := get_lt (l := lst) (k := lst.length - 1 - i) (by omega)
    have eix : (lst.length : Int) - 1 - i = ((lst.length - 1 - i : Nat) : Int) := by omega
    refine regW rl7 hX (onO.mk rl7.len (onO.mk (sub64 (by omega) (by omega)) (onO.mk (sub64 (by omega) (by omega)) ?_)))
    rw [eix]
    refine regW rl7 hY fun _ _ => c71' (x := X) ru (by omega) mu (okk hX) fun r8 h8 le8 w8 m8 => onTup.ri w8.sc (c71' (x := Y) (rd.mono le8) (by omega) md (okk hY) fun r9 h9 le9 w9 m9 => onTup.ri w9.sc ?_)
    have le79 := Hp.le_trans le8 le9
    have pl1 := putR_len (x := X) u
    have pl2 := putR_len (x := Y) d
    have pl3 := putR_len (x := X) e
    have pl4 := putR_len (x := X) o
    refine ⟨fun c h' => h9 = h' ∧ c = false, c11 (onRet.i (onB.neg rfl (c11 (onRet.i ⟨rfl, rfl⟩)))), ?_⟩
    rintro _ c3 ⟨rfl, rfl⟩
    refine onB.neg rfl (onO.mk (rem2 (by omega)) ⟨fun a20 a21 n27 h' => ∃ e' o' : List D.Reg, n27 = 0 ∧ h9.le h' ∧ (RegRow h' a20 e' ∧ RegRow h' a21 o') ∧ (mayR none e' = true ∧ mayR none o' = true) ∧ (e'.length ≤ i + 1 ∧ o'.length ≤ i + 1) ∧ SumR (Some15 lst fun k => k < i + 1 ∧ k % 2 = 0) e' ∧ SumR (Some15 lst fun k => k < i + 1 ∧ k % 2 = 1) o', onB.dec (fun e2 => ?_) (fun e2 => ?_), ?_⟩)
    · have e2 : i % 2 = 0 := by omega
      exact c71' (x := X) (re.mono le79) (by omega) me (okk hX) fun r13 h13 le13 w13 m13 => onTup.ri w13.sc ⟨_, o, rfl, le13, ⟨w13, ro.mono (Hp.le_trans le79 le13)⟩, ⟨m13, mo⟩, ⟨by omega, by omega⟩, Some15.put ok se hX fun k hk => by omega, Some15.to so fun k hk => by omega⟩
    · have e2 : i % 2 = 1 := by omega
      exact c71' (x := X) (ro.mono le79) (by omega) mo (okk hX) fun r13 h13 le13 w13 m13 => onTup.ri w13.sc ⟨e, _, rfl, le13, ⟨re.mono (Hp.le_trans le79 le13), w13⟩, ⟨me, m13⟩, ⟨by omega, by omega⟩, Some15.to se fun k hk => by omega, Some15.put ok so hX fun k hk => by omega⟩
    rintro h15 a20 _ a21 _ _ ⟨e', o', rfl, le15, ⟨re', ro'⟩, ⟨me', mo'⟩, ⟨l1, l2⟩, se', so'⟩
    refine c11 (onRet.i (onB.neg rfl (onO.mk (inc64 (by omega)) ⟨_, by show lst.length - (i + 1) < lst.length - i; omega, i + 1, _, _, e', o', rfl, by omega, rfl, Hp.le_trans le7 (Hp.le_trans le79 le15), ⟨w8.mono (Hp.le_trans le9 le15), w9.mono le15, re', ro'⟩, ⟨m8, m9, me', mo'⟩, ⟨by omega, by omega, l1, l2⟩, Some15.put ok su hX fun k hk => by omega, Some15.put ok sd hY fun k hk => by omega, se', so'⟩)))
  · have : i = lst.length := by omega
    subst this
    refine c17 re ro (by omega) (fun q => by rw [me, mo] at q; cases q) fun _ r24 h17 o17 => onTup.ri o17.sc ?_
    refine c17 (ro.mono o17.le) (re.mono o17.le) (by omega) (fun q => by rw [me, mo] at q; cases q) fun _ r26 h18 o18 => onTup.ri o18.sc ?_
    have le18 := Hp.le_trans o17.le o18.le
    have hdist : ∀ {A B : Nat → Prop} (y z : D.Reg), (Some15 lst A y ∨ Some15 lst B y) → (Some15 lst A z ∨ Some15 lst B z) → y.stamp.time = z.stamp.time → y = z := fun {A B} y z hy hz e => by
      rcases hy with ⟨k, _, hk⟩ | ⟨k, _, hk⟩ <;> rcases hz with ⟨k', _, hk'⟩ | ⟨k', _, hk'⟩ <;> exact acts_inj ok hk hk' e
    have s1 : mergeR e o = u := SumR.eq ((se.merge so hdist).to fun y => ⟨fun hy => by
        rcases hy with ⟨k, hA, hk⟩ | ⟨k, hA, hk⟩ <;> exact ⟨k, hA.1, hk⟩, fun ⟨k, hA, hk⟩ => by
        rcases Nat.mod_two_eq_zero_or_one k with hm | hm
        · exact .inl ⟨k, ⟨hA, hm⟩, hk⟩
        · exact .inr ⟨k, ⟨hA, hm⟩, hk⟩⟩) su
    have s2 : mergeR o e = u := SumR.eq ((so.merge se hdist).to fun y => ⟨fun hy => by
        rcases hy with ⟨k, hA, hk⟩ | ⟨k, hA, hk⟩ <;> exact ⟨k, hA.1, hk⟩, fun ⟨k, hA, hk⟩ => by
        rcases Nat.mod_two_eq_zero_or_one k with hm | hm
        · exact .inr ⟨k, ⟨hA, hm⟩, hk⟩
        · exact .inl ⟨k, ⟨hA, hm⟩, hk⟩⟩) su
    have s3 : u = d := SumR.eq su (Some15.to sd fun k hk => by omega)
    rw [s1] at o17
    rw [s2] at o18
    have ru18 := ru.mono le18
    have rl18 := rl7.mono le18
    refine ⟨fun c h' => h18 = h' ∧ c = false, c11 (onRet.i (onB.neg rfl (c11 (onRet.i (onB.neg rfl (c12 ru18 (rd.mono le18) (by omega) (onRet.b (onB.neg (by rw [decide_eq_true s3]; rfl) (c12 (o17.row.mono o18.le) ru18 (by omega) (onRet.b (onB.neg (by simp) (c12 o18.row ru18 (by omega) (onRet.b ⟨rfl, by simp⟩))))))))))))), ?_⟩
    rintro _ c7 ⟨rfl, rfl⟩
    refine onB.neg rfl ⟨fun q _ n34 h' => h18 = h' ∧ ∃ t : Nat, n34 = t ∧ t ≤ 19 ∧ q = 19 - t, ⟨19, rfl, 0, rfl, by omega, rfl⟩, ?_⟩
    rintro q _ c8 _ ⟨rfl, t, rfl, ht, rfl⟩
    refine onB.dec (fun e2 => ?_) (fun e2 => c14 fun h' => onRet.b rfl)
    refine ⟨fun q n35 n36 h' => h18 = h' ∧ ∃ i : Nat, n36 = i ∧ i ≤ lst.length ∧ q = lst.length - i ∧ LastAt lst t i n35, ⟨_, rfl, 0, rfl, by omega, rfl, .inl ⟨rfl, fun k y hk => by omega⟩⟩, ?_⟩
    rintro q _ n35 _ ⟨rfl, i, rfl, hi, rfl, la⟩
    refine onO.mk rl18.len (onB.dec (fun e3 => ?_) (fun e3 => ?_))
    · obtain ⟨z, hz⟩ := get_lt (l := lst) (k := i) (by omega)
      refine reg0 rl18 hz ⟨fun n38 h' => h18 = h' ∧ LastAt lst t (i + 1) n38, onB.dec (fun e4 => ⟨rfl, .inr ⟨i, z, rfl, by omega, hz, e4, fun k w h1 h2 => by omega⟩⟩) (fun e4 => ⟨rfl, ?_⟩), ?_⟩
      · rcases la with ⟨h1, h2⟩ | ⟨t', y, h1, h2, h3, h4, h5⟩
        · refine .inl ⟨h1, fun k y hk hy => ?_⟩
          rcases Nat.lt_or_ge k i with h | h
          · exact h2 k y h hy
          · have : k = i := by omega
            subst this
            rw [hz] at hy; injection hy with hy; subst hy; exact e4
        · refine .inr ⟨t', y, h1, by omega, h3, h4, fun k w hk1 hk2 hw => ?_⟩
          rcases Nat.lt_or_ge k i with h | h
          · exact h5 k w hk1 h hw
          · have : k = i := by omega
            subst this
            rw [hz] at hw; injection hw with hw; subst hw; exact e4
      rintro _ n38 ⟨rfl, la'⟩
      exact onO.mk (inc64 (by omega)) ⟨_, by show lst.length - (i + 1) < lst.length - i; omega, rfl, i + 1, rfl, by omega, rfl, la'⟩
    · have : i = lst.length := by omega
      subst this
      refine c18 (p := (t : Int)) ru18 (by omega) ?_
      rw [if_pos mu, if_pos mu, getR_lk]
      refine onTup.ii ⟨fun c h' => h18 = h' ∧ c = false, ?_, ?_⟩
      · rcases la with ⟨rfl, h2⟩ | ⟨t', y, rfl, h2, h3, h4, h5⟩
        · have hn : lkR (t : Int) u = none := by
            cases hl : lkR (t : Int) u with
            | none => rfl
            | some y =>
              obtain ⟨⟨k, hk, hy⟩, hyp, _⟩ := (su.tel _ _).1 hl
              exact absurd hyp (h2 k y hk hy)
          rw [hn]
          exact onB.pos rfl (c11 (onRet.i (onB.neg rfl (onB.neg rfl ⟨rfl, rfl⟩))))
        · have hs : lkR (t : Int) u = some y := (su.tel _ _).2 ⟨⟨t', h2, h3⟩, h4, fun z ⟨k, hk, hz⟩ hzp => by
            rcases Nat.lt_trichotomy k t' with h | h | h
            · have := acts_lt ok h hz h3; omega
            · subst h; rw [h3] at hz; injection hz with hz; rw [hz]; exact Int.le_refl _
            · exact absurd hzp (h5 k z h hk hz)⟩
          rw [hs]
          exact onB.neg (decide_eq_false (by omega)) (onB.pos (decide_eq_true (by omega)) (c11 (onRet.i (onB.neg rfl (reg1 rl18 h3 ⟨rfl, by simp⟩)))))
      rintro _ c9 ⟨rfl, rfl⟩
      exact onB.neg rfl (onO.mk (inc64 (by omega)) ⟨_, by show 19 - (t + 1) < 19 - t; omega, rfl, t + 1, rfl, by omega, rfl⟩)
end
end Go.Proofs.YtaeellmdgkhbpaaAn
