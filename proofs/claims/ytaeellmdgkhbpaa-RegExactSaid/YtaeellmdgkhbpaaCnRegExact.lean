/- What the functions that the law reaches come to, down to the law itself. -/
import Derived.Test.YtaeellmdgkhbpaaBnH
import Derived.Test.YtaeellmdgkhbpaaProg
import Derived.Lib.Overlaps
set_option linter.unusedVariables false
set_option linter.unusedSimpArgs false
set_option maxRecDepth 100000
namespace Go.Proofs.YtaeellmdgkhbpaaAn
open Go
/-- a function, by its number -/
abbrev fno (fn : Nat) : Nat := fn
abbrev tyo (t : Nat) : Nat := t
theorem ov_ext [Hook] {P : Program} {f : FuncId} {g : Func} {tS tR e : TypeId} {size : Nat} (hf : P.funcs[f]? = some g) (h1 : (g.name == "runtime.NumGoroutine") = false) (h2 : g.body.isNone = true) (h3 : Extern.findNext g = none)
    (h4 : Extern.find g = some (Extern.SlicesOverlaps.overlaps #[tS, tS] #[tR])) (ht : P.underlying tS = some (.slice e)) (hz : szOf P e = some size) (w : World) {rb oo la ca rb2 oo2 lb cb : Nat} {rc : Array Value} {ty : TypeId} {k : Nat} {rc2 : Array Value} {ty2 : TypeId} {fz2 : Nat × Nat}
    (w1 : w.heap[rb]? = some (.cells rc ty (k, k))) (w2 : w.heap[rb2]? = some (.cells rc2 ty2 fz2)) (w3 : rc2.size ≠ 0) (hne : rb ≠ rb2) :
    (callFunc f #[.slice (some ⟨rb, oo, none⟩) la ca, .slice (some ⟨rb2, oo2, none⟩) lb cb]).run P w = .ok (.value (.bool false)) w := by
  have fz : ∀ o, w.frozen? ⟨rb, o, none⟩ = false := fun o => by
    simp only [World.frozen?, w1]
    simp only [Bool.and_eq_false_iff, decide_eq_false_iff_not]
    omega
  rw [run_callFunc_extern hf h1 h2 h3 h4, Lib.run_overlaps_apart w tS tR e ht size (fun w => run_sizeOf' w hz) ⟨rb, oo, none⟩ ⟨rb2, oo2, none⟩ la ca lb cb hne ty ty2 rc.size rc2.size (by simp only [World.shape?, w1]) (by simp only [World.shape?, w2]) w3 (fz _) (fz _)]
  rfl
theorem no_call (P : Program) : CallOk P fun _ _ _ => none := fun f args H v H' j w args' h => by cases h
theorem hk_mixed : Try.prog.follows .mixedOrders = true := by kernel_rfl
noncomputable abbrev hookR0 : Hook := ⟨fun _ => false, fun _ _ _ => none, fun f => Nat.beq f (fno (fn := 41))⟩
theorem extR0 : @ExtOk hookR0 Try.prog :=
  letI := hookR0
  ⟨fun f hf w rb oo la ca rb2 oo2 lb cb rc ty k rc2 ty2 fz2 w1 w2 w3 hne => by
    have e : f = fno (fn := 41) := beq_eq' hf
    subst e
    exact ov_ext (g := Try.f41) (tS := tyo (t := 22)) (tR := tyo (t := 4)) Try.func41 (by kernel_rfl) (by kernel_rfl) (by kernel_rfl) (by kernel_rfl) Try.underlying22 (size := 4) (by kernel_rfl) w w1 w2 w3 hne⟩
theorem vc35 (s : AV) (i : Int) (v : AV) (h : Hp) (Post : AV → Hp → Prop) : (letI := hookR0; vcCall Try.prog [] 35 [.vv s, .ii .i64 i, .vv v] h Post) = InsVC 4 32 [.i .i64 0, .i .i64 0, .i .i64 0, .i .i64 0] s i v h Post := by kernel_rfl
theorem specR : @InsSpec hookR0 Try.prog (fno (fn := 35)) 4 := by
  letI := hookR0
  refine ⟨fun h sb cap len i vb vo vn vl vx cells2 old new h1 h2 h3 h4 h5 h6 h7 h8 h9 h10 h11 h12 h13 h14 => ?_, fun h s vb vo vn vl vx new hsn h1 h2 h3 h4 h5 h6 => ?_⟩
  · refine call_sound (args := [.vv (.sl sb 0 len cap true 4), .ii .i64 (.ofNat i), .vv (.sl vb vo vn vl vx 4)]) (cuts := []) ⟨rfl, trivial, rfl, trivial⟩ ?_
    rw [vc35]
    exact ins_sl (sz := 4) (bt := 32) (zs := [.i .i64 0, .i .i64 0, .i .i64 0, .i .i64 0]) rfl (by omega) (by omega) h1 h2 h3 h4 h5 h6 h7 h8 h9 h10 h11 h12 h13 h14
  · refine call_sound (args := [.vv s, .ii .i64 (.ofNat 0), .vv (.sl vb vo vn vl vx 4)]) (cuts := []) ⟨by rcases hsn with rfl | ⟨z, rfl⟩ <;> rfl, trivial, rfl, trivial⟩ ?_
    rw [vc35]
    exact ins_ns hsn (sz := 4) (bt := 32) (zs := [.i .i64 0, .i .i64 0, .i .i64 0, .i .i64 0]) (by omega) h2 h4 h6
noncomputable instance hookI : Hook := ⟨fun f => Nat.beq f (fno (fn := 35)), fun f a H => cond (Nat.beq f (fno (fn := 35))) (insA 4 a H) none, fun _ => false⟩
instance hookI_ext : ExtOk Try.prog := ⟨fun f h => by cases h⟩
theorem hookI_ok : CallOk Try.prog Hook.call := fun f args H v H' j w args' he hR hv => by
  have he : cond (Nat.beq f (fno (fn := 35))) (insA 4 args H) none = some (v, H') := he
  obtain ⟨hc, he⟩ := cond_some he
  have e := beq_eq' hc
  subst e
  exact insA_ok hookR0 extR0 (no_call _) hk_mixed specR he hR hv
/-- what 64 bits hold -/
noncomputable def In64 (n : Int) : Prop := -9223372036854775808 ≤ n ∧ n < 9223372036854775808
namespace D
structure Stamp where
  time : Int
  rep : Int
deriving DecidableEq
noncomputable def kStamp : Kn Stamp := Kn.iso (Kn.pair Kn.int Kn.int) fun s => (s.time, s.rep)
structure Reg where
  prop : Int
  value : Int
  stamp : Stamp
deriving DecidableEq
noncomputable def kReg : Kn Reg := Kn.iso (Kn.pair Kn.int (Kn.pair Kn.int kStamp)) fun s => (s.prop, s.value, s.stamp)
structure RegDo where
  prop : Int
  value : Int
  s : Stamp
deriving DecidableEq
noncomputable def kRegDo : Kn RegDo := Kn.iso (Kn.pair Kn.int (Kn.pair Kn.int kStamp)) fun s => (s.prop, s.value, s.s)
structure RegA where
  r : List (Reg)
  q : List (Reg)
  l : List (RegDo)
deriving DecidableEq
noncomputable def kRegA : Kn RegA := Kn.iso (Kn.pair (Kn.slice kReg 32) (Kn.pair (Kn.slice kReg 32) (Kn.slice kRegDo 32))) fun s => (s.r, s.q, s.l)
theorem oStamp : Opens Try.prog 28 kStamp := opens_struct (P := Try.prog) (t := 28) Try.underlying28 (by kernel_rfl) (by kernel_rfl) (opens_cons (opens_int (P := Try.prog) Try.underlying3) (opens_one (opens_int (P := Try.prog) Try.underlying3))) _ (fun a => ⟨a.1, a.2⟩) fun _ => rfl
theorem oReg : Opens Try.prog 54 kReg := opens_struct (P := Try.prog) (t := 54) Try.underlying54 (by kernel_rfl) (by kernel_rfl) (opens_cons (opens_int (P := Try.prog) Try.underlying3) (opens_cons (opens_int (P := Try.prog) Try.underlying3) (opens_one oStamp))) _ (fun a => ⟨a.1, a.2.1, a.2.2⟩) fun _ => rfl
theorem oRegDo : Opens Try.prog 30 kRegDo := opens_struct (P := Try.prog) (t := 30) Try.underlying30 (by kernel_rfl) (by kernel_rfl) (opens_cons (opens_int (P := Try.prog) Try.underlying3) (opens_cons (opens_int (P := Try.prog) Try.underlying3) (opens_one oStamp))) _ (fun a => ⟨a.1, a.2.1, a.2.2⟩) fun _ => rfl
theorem oRegA : Opens Try.prog 25 kRegA := opens_struct (P := Try.prog) (t := 25) Try.underlying25 (by kernel_rfl) (by kernel_rfl) (opens_cons (opens_slice (P := Try.prog) 32 Try.underlying22 (by kernel_rfl) (by decide) (by kernel_rfl) oReg) (opens_cons (opens_slice (P := Try.prog) 32 Try.underlying22 (by kernel_rfl) (by decide) (by kernel_rfl) oReg) (opens_one (opens_slice (P := Try.prog) 32 Try.underlying23 (by kernel_rfl) (by decide) (by kernel_rfl) oRegDo)))) _ (fun a => ⟨a.1, a.2.1, a.2.2⟩) fun _ => rfl
theorem kStamp_open {h : Hp} {s : Stamp} {cs : List AV} (k : kStamp.K h s cs) : cs = [.i .i64 s.time, .i .i64 s.rep] ∧ In64 s.time ∧ In64 s.rep := by
  obtain ⟨c0, r0, e0, q0, q1⟩ := k
  obtain ⟨z0, f0⟩ := q0
  obtain ⟨z1, f1⟩ := q1
  refine ⟨?_, f0, f1⟩
  rw [e0, z0, z1]; rfl
theorem kReg_open {h : Hp} {s : Reg} {cs : List AV} (k : kReg.K h s cs) : cs = [.i .i64 s.prop, .i .i64 s.value, .i .i64 s.stamp.time, .i .i64 s.stamp.rep] ∧ In64 s.prop ∧ In64 s.value ∧ In64 s.stamp.time ∧ In64 s.stamp.rep := by
  obtain ⟨c0, r0, e0, q0, c1, r1, e1, q1, q2⟩ := k
  obtain ⟨z0, f0⟩ := q0
  obtain ⟨z1, f1⟩ := q1
  obtain ⟨z2, f2_0, f2_1⟩ := kStamp_open q2
  refine ⟨?_, f0, f1, f2_0, f2_1⟩
  rw [e0, z0, e1, z1, z2]; rfl
theorem kRegDo_open {h : Hp} {s : RegDo} {cs : List AV} (k : kRegDo.K h s cs) : cs = [.i .i64 s.prop, .i .i64 s.value, .i .i64 s.s.time, .i .i64 s.s.rep] ∧ In64 s.prop ∧ In64 s.value ∧ In64 s.s.time ∧ In64 s.s.rep := by
  obtain ⟨c0, r0, e0, q0, c1, r1, e1, q1, q2⟩ := k
  obtain ⟨z0, f0⟩ := q0
  obtain ⟨z1, f1⟩ := q1
  obtain ⟨z2, f2_0, f2_1⟩ := kStamp_open q2
  refine ⟨?_, f0, f1, f2_0, f2_1⟩
  rw [e0, z0, e1, z1, z2]; rfl
theorem kRegA_open {h : Hp} {s : RegA} {cs : List AV} (k : kRegA.K h s cs) : ∃ a0 a1 a2, cs = [a0, a1, a2] ∧ (kReg.Row h a0 s.r ∧ s.r.length * 32 ≤ 140737488351232) ∧ (kReg.Row h a1 s.q ∧ s.q.length * 32 ≤ 140737488351232) ∧ (kRegDo.Row h a2 s.l ∧ s.l.length * 32 ≤ 140737488351232) := by
  obtain ⟨c0, r0, e0, q0, c1, r1, e1, q1, q2⟩ := k
  obtain ⟨b0, z0, f0⟩ := q0
  obtain ⟨b1, z1, f1⟩ := q1
  obtain ⟨b2, z2, f2⟩ := q2
  refine ⟨b0, b1, b2, ?_, f0, f1, f2⟩
  rw [e0, z0, e1, z1, z2]; rfl
end D
/- arras/arrasref0.CopyRegs -/
theorem vc9 (a : AV) (h : Hp) (Post : AV → Hp → Prop) : vcCall Try.prog [] 9 [(SV.vv a)] h Post = (
  ∃ I0 : Nat → AV → Int → Hp → Prop,
  (∃ p0, I0 p0 AV.ns 0 h) ∧
    ∀ (p1 : Nat) (h0 : Hp) (a0 : AV),
      a0.sc = true →
        ∀ (n0 : Int),
          I0 p1 a0 n0 h0 →
            onO (lenV a) fun p2 =>
              onB (decide (n0 < ↑p2))
                (onO (idxV a n0 4) fun r0 =>
                  onO (rdH h0 r0.fst r0.snd 4) fun l0 =>
                    onL [Kd.int IntKind.i64, Kd.int IntKind.i64, Kd.int IntKind.i64, Kd.int IntKind.i64] l0 fun n1 n2 n3 n4 =>
                      ∀ (p3 : Nat),
                        wpE (Eff.app a0 1 (Src.lit [AV.i IntKind.i64 n1, AV.i IntKind.i64 n2, AV.i IntKind.i64 n3, AV.i IntKind.i64 n4]) 4)
                          (fun x0 h1 => onO x0 fun a1 => onO (intO BinOp.add IntKind.i64 n0 1) fun n5 => ∃ p4, ltN p4 p1 ∧ I0 p4 a1 n5 h1) h0)
                (Post a0 h0)) := by kernel_rfl
/- arras/arrasref0.EqRegs -/
theorem vc12 (a : AV) (b : AV) (h : Hp) (Post : AV → Hp → Prop) : vcCall Try.prog [] 12 [(SV.vv a), (SV.vv b)] h Post = (
  onO (lenV a) fun p0 =>
  onO (lenV b) fun p1 =>
    onB (!decide ((↑p0 : Int) = ↑p1)) (Post (AV.b false) h)
      (∃ I0 : Nat → Bool → Int → Hp → Prop,
        (∃ p2, I0 p2 false 0 h) ∧
          ∀ (p3 : Nat) (h0 : Hp) (c0 : Bool) (n0 : Int),
            I0 p3 c0 n0 h0 →
              onO (lenV a) fun p4 =>
                onB (decide (n0 < ↑p4))
                  (onO (idxV a n0 4) fun r0 =>
                    onO (rdH h0 r0.fst r0.snd 4) fun l0 =>
                      onL [Kd.int IntKind.i64, Kd.int IntKind.i64, Kd.int IntKind.i64, Kd.int IntKind.i64] l0 fun n1 n2 n3 n4 =>
                        onO (idxV b n0 4) fun r1 =>
                          onO (rdH h0 r1.fst r1.snd 4) fun l1 =>
                            onL [Kd.int IntKind.i64, Kd.int IntKind.i64, Kd.int IntKind.i64, Kd.int IntKind.i64] l1 fun n5 n6 n7 n8 =>
                              onB (!(fun c => decide (n1 = n5) && c) ((fun c => decide (n2 = n6) && c) ((fun c => decide (n3 = n7) && c) (decide (n4 = n8))))) (Post (AV.b false) h0)
                                (onO (intO BinOp.add IntKind.i64 n0 1) fun n9 => ∃ p5, ltN p5 p3 ∧ I0 p5 c0 n9 h0))
                  (Post (AV.b true) h0))) := by kernel_rfl
/- arras/reg.May -/
theorem vc24 (a : AV) (h : Hp) (Post : AV → Hp → Prop) : vcCall Try.prog [0] 24 [(SV.vv a)] h Post = (
  ∃ I0 : Nat → Int → Bool → Hp → Prop,
  (∃ p0, I0 p0 0 false h) ∧
    ∀ (p1 : Nat) (h0 : Hp) (n0 : Int) (c0 : Bool),
      I0 p1 n0 c0 h0 →
        Dup
          (onO (lenV a) fun p2 =>
            onB (decide (n0 = ↑p2)) (Post (AV.b true) h0)
              (onO (idxV a n0 4) fun r0 =>
                onO (rdH h0 r0.fst (r0.snd + 0) 1) fun l0 =>
                  onL [Kd.int IntKind.i64] l0 fun n1 =>
                    onO (idxV a n0 4) fun r1 =>
                      onO (rdH h0 r1.fst (r1.snd + 1) 1) fun l1 =>
                        onL [Kd.int IntKind.i64] l1 fun n2 =>
                          wpC Try.prog 25 [AV.i IntKind.i64 n1, AV.i IntKind.i64 n2]
                            (fun a0 h1 =>
                              onRet [Sh.one Kd.bool] a0 fun c1 =>
                                onB c1
                                  (onO (idxV a n0 4) fun r2 =>
                                    onO (rdH h1 r2.fst (r2.snd + 2) 2) fun l2 =>
                                      onL [Kd.int IntKind.i64, Kd.int IntKind.i64] l2 fun n3 n4 =>
                                        wpC Try.prog 26 [AV.agg [AV.i IntKind.i64 n3, AV.i IntKind.i64 n4]]
                                          (fun a1 h2 =>
                                            onRet [Sh.one Kd.bool] a1 fun c2 =>
                                              onB c2
                                                (onB (decide (n0 = 0)) (onO (intO BinOp.add IntKind.i64 n0 1) fun n5 => ∃ p3, ltN p3 p1 ∧ I0 p3 n5 c0 h2)
                                                  (onO (intO BinOp.sub IntKind.i64 n0 1) fun n6 =>
                                                    onO (idxV a n6 4) fun r3 =>
                                                      onO (rdH h2 r3.fst (r3.snd + 0) 1) fun l3 =>
                                                        onL [Kd.int IntKind.i64] l3 fun n7 =>
                                                          onO (idxV a n0 4) fun r4 =>
                                                            onO (rdH h2 r4.fst (r4.snd + 0) 1) fun l4 =>
                                                              onL [Kd.int IntKind.i64] l4 fun n8 =>
                                                                onB (decide (n7 < n8)) (onO (intO BinOp.add IntKind.i64 n0 1) fun n9 => ∃ p4, ltN p4 p1 ∧ I0 p4 n9 c0 h2) (Post (AV.b false) h2)))
                                                (Post (AV.b false) h2))
                                          h1)
                                  (Post (AV.b false) h1))
                            h0))) := by kernel_rfl
/- arras/prop.May -/
theorem vc25 (a : Int) (b : Int) (h : Hp) (Post : AV → Hp → Prop) : vcCall Try.prog [] 25 [(SV.ii .i64 a), (SV.ii .i64 b)] h Post = (
  wpC Try.prog 33 [AV.i IntKind.i64 a]
  (fun a0 h0 =>
    onRet [Sh.one Kd.bool] a0 fun c0 =>
      onB c0
        (wpC Try.prog 34 [AV.i IntKind.i64 a]
          (fun a1 h1 =>
            onRet [Sh.agg [Kd.int IntKind.i64, Kd.int IntKind.i64, Kd.int IntKind.i64, Kd.bool]] a1 fun n0 n1 n2 c1 =>
              onB (decide (n0 ≤ b))
                (wpC Try.prog 34 [AV.i IntKind.i64 a]
                  (fun a2 h2 => onRet [Sh.agg [Kd.int IntKind.i64, Kd.int IntKind.i64, Kd.int IntKind.i64, Kd.bool]] a2 fun n3 n4 n5 c2 => Post (AV.b (decide (b ≤ n4))) h2) h1)
                (Post (AV.b false) h1))
          h0)
        (Post (AV.b false) h0))
  h) := by kernel_rfl
/- arras/prop.Is -/
theorem vc33 (a : Int) (h : Hp) (Post : AV → Hp → Prop) : vcCall Try.prog [] 33 [(SV.ii .i64 a)] h Post = (
  onB (decide (0 ≤ a)) (Post (AV.b (decide (a < 19))) h) (Post (AV.b false) h)) := by kernel_rfl
/- arras/stamp.Is -/
theorem vc26 (a0 : Int) (a1 : Int) (h : Hp) (Post : AV → Hp → Prop) : vcCall Try.prog [] 26 [(SV.ag [(SV.ii .i64 a0), (SV.ii .i64 a1)])] h Post = (
  ∀ (p0 : Nat), onB (decide (1 ≤ a0)) (onB (decide (a0 ≤ 1099511627776)) (onB (decide (0 ≤ a1)) (Post (AV.b (decide (a1 < 16))) h) (Post (AV.b false) h)) (Post (AV.b false) h)) (Post (AV.b false) h)) := by kernel_rfl
/- arras/reg.Set -/
theorem vc8 (a : AV) (b : Int) (c : Int) (d0 : Int) (d1 : Int) (h : Hp) (Post : AV → Hp → Prop) : vcCall Try.prog [] 8 [(SV.vv a), (SV.ii .i64 b), (SV.ii .i64 c), (SV.ag [(SV.ii .i64 d0), (SV.ii .i64 d1)])] h Post = (
  ∀ (p0 : Nat),
  wpC Try.prog 24 [a]
    (fun a0 h0 =>
      onRet [Sh.one Kd.bool] a0 fun c0 =>
        onB (!c0) (Post (AV.tup [AV.ns, AV.i IntKind.i64 1]) h0)
          (wpC Try.prog 25 [AV.i IntKind.i64 b, AV.i IntKind.i64 c]
            (fun a1 h1 =>
              onRet [Sh.one Kd.bool] a1 fun c1 =>
                onB (!c1) (Post (AV.tup [AV.ns, AV.i IntKind.i64 1]) h1)
                  (wpC Try.prog 26 [AV.agg [AV.i IntKind.i64 d0, AV.i IntKind.i64 d1]]
                    (fun a2 h2 =>
                      onRet [Sh.one Kd.bool] a2 fun c2 =>
                        onB (!c2) (Post (AV.tup [AV.ns, AV.i IntKind.i64 1]) h2)
                          (wpC Try.prog 27 [a, AV.agg [AV.i IntKind.i64 b, AV.i IntKind.i64 c, AV.i IntKind.i64 d0, AV.i IntKind.i64 d1]]
                            (fun a3 h3 => onRet [Sh.one Kd.ref] a3 fun a4 => Post (AV.tup [a4, AV.i IntKind.i64 0]) h3) h2))
                    h1))
            h0))
    h) := by kernel_rfl
/- arras/reg.Put -/
theorem vc27 (a : AV) (b0 : Int) (b1 : Int) (b2 : Int) (b3 : Int) (h : Hp) (Post : AV → Hp → Prop) : vcCall Try.prog [] 27 [(SV.vv a), (SV.ag [(SV.ii .i64 b0), (SV.ii .i64 b1), (SV.ii .i64 b2), (SV.ii .i64 b3)])] h Post = (
  ∀ (p0 : Nat),
  wpC Try.prog 31 [a]
    (fun a0 h0 =>
      onRet [Sh.one Kd.ref] a0 fun a1 =>
        wpC Try.prog 32 [a1, AV.i IntKind.i64 b0]
          (fun a2 h1 =>
            onTup [Sh.one (Kd.int IntKind.i64), Sh.one Kd.bool] a2 fun n0 c0 =>
              onB (!c0)
                (∀ (p1 : Nat),
                  h1.g p1 = none →
                    h1.lo.le p1 →
                      wpC Try.prog 35 [a1, AV.i IntKind.i64 n0, AV.sl p1 0 1 1 true 4] (fun a3 h2 => onRet [Sh.one Kd.ref] a3 fun a4 => Post a4 h2)
                        (h1.put p1 [AV.i IntKind.i64 b0, AV.i IntKind.i64 b1, AV.i IntKind.i64 b2, AV.i IntKind.i64 b3]))
                (onO (idxV a1 n0 4) fun r0 =>
                  onO (rdH h1 r0.fst (r0.snd + 2) 2) fun l0 =>
                    onL [Kd.int IntKind.i64, Kd.int IntKind.i64] l0 fun n1 n2 =>
                      wpC Try.prog 36 [AV.agg [AV.i IntKind.i64 n1, AV.i IntKind.i64 n2], AV.agg [AV.i IntKind.i64 b2, AV.i IntKind.i64 b3]]
                        (fun a5 h3 =>
                          onRet [Sh.one (Kd.int IntKind.i64)] a5 fun n3 =>
                            onB (decide (n3 < 0))
                              (onO (idxV a1 n0 4) fun r1 =>
                                wpE (Eff.w r1.fst r1.snd (Src.lit [AV.i IntKind.i64 b0, AV.i IntKind.i64 b1, AV.i IntKind.i64 b2, AV.i IntKind.i64 b3]) none) (fun x0 h4 => Post a1 h4) h3)
                              (Post a1 h3))
                        h1))
          h0)
    h) := by kernel_rfl
/- slices.Clone[[]arras/api.Reg,arras/api.Reg] -/
theorem vc31 (a : AV) (h : Hp) (Post : AV → Hp → Prop) : vcCall Try.prog [] 31 [(SV.vv a)] h Post = (
  onO (nilSl a) fun c0 =>
  onB c0 (Post AV.ns h)
    (∀ (p0 : Nat),
      h.g p0 = none →
        h.lo.le p0 →
          onO (srcV 4 a) fun r0 =>
            onC (((4 * r0.fst + 4000) * 32).ble (OfNat.ofNat 17179869184)) (wpE (Eff.app (AV.sl p0 0 0 0 true 4) r0.fst r0.snd 4) (fun x0 h0 => onO x0 fun a0 => Post a0 h0) (h.put p0 [])))) := by kernel_rfl
/- arras/reg.find -/
theorem vc32 (a : AV) (b : Int) (h : Hp) (Post : AV → Hp → Prop) : vcCall Try.prog [] 32 [(SV.vv a), (SV.ii .i64 b)] h Post = (
  wpC Try.prog 38 [a, AV.i IntKind.i64 b, AV.f 39 []] (fun a0 h0 => onTup [Sh.one (Kd.int IntKind.i64), Sh.one Kd.bool] a0 fun n0 c0 => Post (AV.tup [AV.i IntKind.i64 n0, AV.b c0]) h0) h) := by kernel_rfl
/- arras/reg.find$1 -/
theorem vc39 (a0 : Int) (a1 : Int) (a2 : Int) (a3 : Int) (b : Int) (h : Hp) (Post : AV → Hp → Prop) : vcCall Try.prog [] 39 [(SV.ag [(SV.ii .i64 a0), (SV.ii .i64 a1), (SV.ii .i64 a2), (SV.ii .i64 a3)]), (SV.ii .i64 b)] h Post = (
  ∀ (p0 : Nat), wpC Try.prog 40 [AV.i IntKind.i64 a0, AV.i IntKind.i64 b] (fun a0 h0 => onRet [Sh.one (Kd.int IntKind.i64)] a0 fun n0 => Post (AV.i IntKind.i64 n0) h0) h) := by kernel_rfl
/- cmp.Compare[int] -/
theorem vc40 (a : Int) (b : Int) (h : Hp) (Post : AV → Hp → Prop) : vcCall Try.prog [] 40 [(SV.ii .i64 a), (SV.ii .i64 b)] h Post = (
  wpC Try.prog 44 [AV.i IntKind.i64 a]
  (fun a0 h0 =>
    onRet [Sh.one Kd.bool] a0 fun c0 =>
      wpC Try.prog 44 [AV.i IntKind.i64 b]
        (fun a1 h1 =>
          onRet [Sh.one Kd.bool] a1 fun c1 =>
            onB c0 (onB c1 (Post (AV.i IntKind.i64 0) h1) (Post (AV.i IntKind.i64 (-1)) h1))
              (onB c1 (Post (AV.i IntKind.i64 1) h1) (onB (decide (a < b)) (Post (AV.i IntKind.i64 (-1)) h1) (onB (decide (b < a)) (Post (AV.i IntKind.i64 1) h1) (Post (AV.i IntKind.i64 0) h1)))))
        h0)
  h) := by kernel_rfl
/- cmp.isNaN[int] -/
theorem vc44 (a : Int) (h : Hp) (Post : AV → Hp → Prop) : vcCall Try.prog [] 44 [(SV.ii .i64 a)] h Post = (
  Post (AV.b !decide (a = a)) h) := by kernel_rfl
/- arras/stamp.Cmp -/
theorem vc36 (a0 : Int) (a1 : Int) (b0 : Int) (b1 : Int) (h : Hp) (Post : AV → Hp → Prop) : vcCall Try.prog [] 36 [(SV.ag [(SV.ii .i64 a0), (SV.ii .i64 a1)]), (SV.ag [(SV.ii .i64 b0), (SV.ii .i64 b1)])] h Post = (
  ∀ (p0 p1 : Nat),
  wpC Try.prog 40 [AV.i IntKind.i64 a0, AV.i IntKind.i64 b0]
    (fun a0 h0 =>
      onRet [Sh.one (Kd.int IntKind.i64)] a0 fun n0 =>
        wpC Try.prog 40 [AV.i IntKind.i64 a1, AV.i IntKind.i64 b1]
          (fun a1 h1 =>
            onRet [Sh.one (Kd.int IntKind.i64)] a1 fun n1 =>
              ∀ (p2 : Nat),
                h1.g p2 = none →
                  h1.lo.le p2 →
                    wpC Try.prog 43 [AV.sl p2 0 2 2 true 1] (fun a2 h2 => onRet [Sh.one (Kd.int IntKind.i64)] a2 fun n2 => Post (AV.i IntKind.i64 n2) h2)
                      (h1.put p2 [AV.i IntKind.i64 n0, AV.i IntKind.i64 n1]))
          h0)
    h) := by kernel_rfl
/- cmp.Or[int] -/
theorem vc43 (a : AV) (h : Hp) (Post : AV → Hp → Prop) : vcCall Try.prog [] 43 [(SV.vv a)] h Post = (
  onO (lenV a) fun p0 =>
  ∃ I0 : Nat → Int → Int → Hp → Prop,
    (∃ p1, I0 p1 0 0 h) ∧
      ∀ (p2 : Nat) (h0 : Hp) (n0 n1 : Int),
        I0 p2 n0 n1 h0 →
          onB (decide (n1 < ↑p0))
            (onO (idxV a n1 1) fun r0 =>
              onO (rdH h0 r0.fst r0.snd 1) fun l0 =>
                onL [Kd.int IntKind.i64] l0 fun n2 => onB (!decide (n2 = 0)) (Post (AV.i IntKind.i64 n2) h0) (onO (intO BinOp.add IntKind.i64 n1 1) fun n3 => ∃ p3, ltN p3 p2 ∧ I0 p3 n0 n3 h0))
            (Post (AV.i IntKind.i64 0) h0)) := by kernel_rfl
/- arras/arrasref14.MaySet -/
theorem vc10 (a : AV) (b : Int) (c : Int) (d0 : Int) (d1 : Int) (h : Hp) (Post : AV → Hp → Prop) : vcCall Try.prog [] 10 [(SV.vv a), (SV.ii .i64 b), (SV.ii .i64 c), (SV.ag [(SV.ii .i64 d0), (SV.ii .i64 d1)])] h Post = (
  ∀ (p0 : Nat),
  wpC Try.prog 19 [a]
    (fun a0 h0 =>
      onRet [Sh.one Kd.bool] a0 fun c0 =>
        onB c0
          (wpC Try.prog 16 [AV.i IntKind.i64 b, AV.i IntKind.i64 c]
            (fun a1 h1 =>
              onRet [Sh.one (Kd.int IntKind.i64)] a1 fun n0 =>
                onB (decide (n0 = 0)) (wpC Try.prog 28 [AV.agg [AV.i IntKind.i64 d0, AV.i IntKind.i64 d1]] (fun a2 h2 => onRet [Sh.one Kd.bool] a2 fun c1 => Post (AV.b c1) h2) h1)
                  (Post (AV.b false) h1))
            h0)
          (Post (AV.b false) h0))
    h) := by kernel_rfl
/- arras/arrasref14.Regs -/
theorem vc19 (a : AV) (h : Hp) (Post : AV → Hp → Prop) : vcCall Try.prog [] 19 [(SV.vv a)] h Post = (
  ∃ I0 : Nat → Bool → Int → Hp → Prop,
  (∃ p0, I0 p0 false 0 h) ∧
    ∀ (p1 : Nat) (h0 : Hp) (c0 : Bool) (n0 : Int),
      I0 p1 c0 n0 h0 →
        onO (lenV a) fun p2 =>
          onB (decide (n0 < ↑p2))
            (onO (idxV a n0 4) fun r0 =>
              onO (rdH h0 r0.fst (r0.snd + 0) 1) fun l0 =>
                onL [Kd.int IntKind.i64] l0 fun n1 =>
                  onO (idxV a n0 4) fun r1 =>
                    onO (rdH h0 r1.fst (r1.snd + 1) 1) fun l1 =>
                      onL [Kd.int IntKind.i64] l1 fun n2 =>
                        wpC Try.prog 16 [AV.i IntKind.i64 n1, AV.i IntKind.i64 n2]
                          (fun a0 h1 =>
                            onRet [Sh.one (Kd.int IntKind.i64)] a0 fun n3 =>
                              onB (!decide (n3 = 0)) (Post (AV.b false) h1)
                                (onO (idxV a n0 4) fun r2 =>
                                  onO (rdH h1 r2.fst (r2.snd + 2) 2) fun l2 =>
                                    onL [Kd.int IntKind.i64, Kd.int IntKind.i64] l2 fun n4 n5 =>
                                      wpC Try.prog 28 [AV.agg [AV.i IntKind.i64 n4, AV.i IntKind.i64 n5]]
                                        (fun a1 h2 =>
                                          onRet [Sh.one Kd.bool] a1 fun c1 =>
                                            onB (!c1) (Post (AV.b false) h2)
                                              (onB (decide (0 < n0))
                                                (onO (intO BinOp.sub IntKind.i64 n0 1) fun n6 =>
                                                  onO (idxV a n6 4) fun r3 =>
                                                    onO (rdH h2 r3.fst (r3.snd + 0) 1) fun l3 =>
                                                      onL [Kd.int IntKind.i64] l3 fun n7 =>
                                                        onO (idxV a n0 4) fun r4 =>
                                                          onO (rdH h2 r4.fst (r4.snd + 0) 1) fun l4 =>
                                                            onL [Kd.int IntKind.i64] l4 fun n8 =>
                                                              onB (decide (n8 ≤ n7)) (Post (AV.b false) h2) (onO (intO BinOp.add IntKind.i64 n0 1) fun n9 => ∃ p3, ltN p3 p1 ∧ I0 p3 c0 n9 h2))
                                                (onO (intO BinOp.add IntKind.i64 n0 1) fun n10 => ∃ p4, ltN p4 p1 ∧ I0 p4 c0 n10 h2)))
                                        h1))
                          h0)
            (Post (AV.b true) h0)) := by kernel_rfl
/- arras/arrasref8.Check -/
theorem vc16 (a : Int) (b : Int) (h : Hp) (Post : AV → Hp → Prop) : vcCall Try.prog [] 16 [(SV.ii .i64 a), (SV.ii .i64 b)] h Post = (
  wpC Try.prog 30 [AV.i IntKind.i64 a]
  (fun a0 h0 =>
    onTup [Sh.one (Kd.int IntKind.i64), Sh.one (Kd.int IntKind.i64), Sh.one (Kd.int IntKind.i64), Sh.one Kd.bool] a0 fun n0 n1 n2 c0 =>
      onB (!c0) (Post (AV.i IntKind.i64 3) h0) (onB (decide (b < n0)) (Post (AV.i IntKind.i64 9) h0) (onB (decide (n1 < b)) (Post (AV.i IntKind.i64 9) h0) (Post (AV.i IntKind.i64 0) h0))))
  h) := by kernel_rfl
/- arras/arrasref6.Stamp -/
theorem vc28 (a0 : Int) (a1 : Int) (h : Hp) (Post : AV → Hp → Prop) : vcCall Try.prog [] 28 [(SV.ag [(SV.ii .i64 a0), (SV.ii .i64 a1)])] h Post = (
  ∀ (p0 : Nat),
  onB (decide (1 ≤ a0))
    (onB (decide (a0 ≤ 1099511627776)) (wpC Try.prog 37 [AV.i IntKind.i64 a1, AV.i IntKind.i64 15] (fun a0 h0 => onRet [Sh.one Kd.bool] a0 fun c0 => Post (AV.b c0) h0) h) (Post (AV.b false) h))
    (Post (AV.b false) h)) := by kernel_rfl
/- arras/arrasref14.Set -/
theorem vc13 (a : AV) (b : Int) (c : Int) (d0 : Int) (d1 : Int) (h : Hp) (Post : AV → Hp → Prop) : vcCall Try.prog [] 13 [(SV.vv a), (SV.ii .i64 b), (SV.ii .i64 c), (SV.ag [(SV.ii .i64 d0), (SV.ii .i64 d1)])] h Post = (
  ∀ (p0 p1 : Nat),
  ∃ I0 : Nat → Bool → AV → Int → Hp → Prop,
    (∃ p2, I0 p2 false AV.ns 0 h) ∧
      ∀ (p3 : Nat) (h0 : Hp) (c0 : Bool) (a0 : AV),
        a0.sc = true →
          ∀ (n0 : Int),
            I0 p3 c0 a0 n0 h0 →
              onO (lenV a) fun p4 =>
                onB (decide (n0 < ↑p4))
                  (onO (idxV a n0 4) fun r0 =>
                    onO (rdH h0 r0.fst (r0.snd + 0) 1) fun l0 =>
                      onL [Kd.int IntKind.i64] l0 fun n1 =>
                        onB (decide (n1 = b))
                          (onO (idxV a n0 4) fun r1 =>
                            onO (rdH h0 r1.fst (r1.snd + 2) 2) fun l1 =>
                              onL [Kd.int IntKind.i64, Kd.int IntKind.i64] l1 fun n2 n3 =>
                                wpC Try.prog 29 [AV.agg [AV.i IntKind.i64 n2, AV.i IntKind.i64 n3], AV.agg [AV.i IntKind.i64 d0, AV.i IntKind.i64 d1]]
                                  (fun a1 h1 =>
                                    onRet [Sh.one (Kd.int IntKind.i64)] a1 fun n4 =>
                                      onB (decide (n4 < 0))
                                        (∀ (p5 : Nat),
                                          wpE (Eff.app a0 1 (Src.lit [AV.i IntKind.i64 b, AV.i IntKind.i64 c, AV.i IntKind.i64 d0, AV.i IntKind.i64 d1]) 4)
                                            (fun x0 h2 => onO x0 fun a2 => onO (intO BinOp.add IntKind.i64 n0 1) fun n5 => ∃ p6, ltN p6 p3 ∧ I0 p6 true a2 n5 h2) h1)
                                        (onO (idxV a n0 4) fun r2 =>
                                          onO (rdH h1 r2.fst r2.snd 4) fun l2 =>
                                            onL [Kd.int IntKind.i64, Kd.int IntKind.i64, Kd.int IntKind.i64, Kd.int IntKind.i64] l2 fun n6 n7 n8 n9 =>
                                              ∀ (p7 : Nat),
                                                wpE (Eff.app a0 1 (Src.lit [AV.i IntKind.i64 n6, AV.i IntKind.i64 n7, AV.i IntKind.i64 n8, AV.i IntKind.i64 n9]) 4)
                                                  (fun x1 h3 => onO x1 fun a3 => onO (intO BinOp.add IntKind.i64 n0 1) fun n10 => ∃ p8, ltN p8 p3 ∧ I0 p8 true a3 n10 h3) h1))
                                  h0)
                          (onB (!c0)
                            (onO (idxV a n0 4) fun r3 =>
                              onO (rdH h0 r3.fst (r3.snd + 0) 1) fun l3 =>
                                onL [Kd.int IntKind.i64] l3 fun n11 =>
                                  onB (decide (b < n11))
                                    (∀ (p9 : Nat),
                                      wpE (Eff.app a0 1 (Src.lit [AV.i IntKind.i64 b, AV.i IntKind.i64 c, AV.i IntKind.i64 d0, AV.i IntKind.i64 d1]) 4)
                                        (fun x2 h4 =>
                                          onO x2 fun a4 =>
                                            onO (idxV a n0 4) fun r4 =>
                                              onO (rdH h4 r4.fst r4.snd 4) fun l4 =>
                                                onL [Kd.int IntKind.i64, Kd.int IntKind.i64, Kd.int IntKind.i64, Kd.int IntKind.i64] l4 fun n12 n13 n14 n15 =>
                                                  ∀ (p10 : Nat),
                                                    wpE (Eff.app a4 1 (Src.lit [AV.i IntKind.i64 n12, AV.i IntKind.i64 n13, AV.i IntKind.i64 n14, AV.i IntKind.i64 n15]) 4)
                                                      (fun x3 h5 => onO x3 fun a5 => onO (intO BinOp.add IntKind.i64 n0 1) fun n16 => ∃ p11, ltN p11 p3 ∧ I0 p11 true a5 n16 h5) h4)
                                        h0)
                                    (onO (idxV a n0 4) fun r5 =>
                                      onO (rdH h0 r5.fst r5.snd 4) fun l5 =>
                                        onL [Kd.int IntKind.i64, Kd.int IntKind.i64, Kd.int IntKind.i64, Kd.int IntKind.i64] l5 fun n17 n18 n19 n20 =>
                                          ∀ (p12 : Nat),
                                            wpE (Eff.app a0 1 (Src.lit [AV.i IntKind.i64 n17, AV.i IntKind.i64 n18, AV.i IntKind.i64 n19, AV.i IntKind.i64 n20]) 4)
                                              (fun x4 h6 => onO x4 fun a6 => onO (intO BinOp.add IntKind.i64 n0 1) fun n21 => ∃ p13, ltN p13 p3 ∧ I0 p13 c0 a6 n21 h6) h0))
                            (onO (idxV a n0 4) fun r6 =>
                              onO (rdH h0 r6.fst r6.snd 4) fun l6 =>
                                onL [Kd.int IntKind.i64, Kd.int IntKind.i64, Kd.int IntKind.i64, Kd.int IntKind.i64] l6 fun n22 n23 n24 n25 =>
                                  ∀ (p14 : Nat),
                                    wpE (Eff.app a0 1 (Src.lit [AV.i IntKind.i64 n22, AV.i IntKind.i64 n23, AV.i IntKind.i64 n24, AV.i IntKind.i64 n25]) 4)
                                      (fun x5 h7 => onO x5 fun a7 => onO (intO BinOp.add IntKind.i64 n0 1) fun n26 => ∃ p15, ltN p15 p3 ∧ I0 p15 c0 a7 n26 h7) h0)))
                  (onB (!c0)
                    (∀ (p16 : Nat), wpE (Eff.app a0 1 (Src.lit [AV.i IntKind.i64 b, AV.i IntKind.i64 c, AV.i IntKind.i64 d0, AV.i IntKind.i64 d1]) 4) (fun x6 h8 => onO x6 fun a8 => Post a8 h8) h0)
                    (Post a0 h0))) := by kernel_rfl
/- arras/arrasref6.Cmp -/
theorem vc29 (a0 : Int) (a1 : Int) (b0 : Int) (b1 : Int) (h : Hp) (Post : AV → Hp → Prop) : vcCall Try.prog [] 29 [(SV.ag [(SV.ii .i64 a0), (SV.ii .i64 a1)]), (SV.ag [(SV.ii .i64 b0), (SV.ii .i64 b1)])] h Post = (
  ∀ (p0 p1 : Nat),
  onB (decide (a0 < b0)) (Post (AV.i IntKind.i64 (-1)) h)
    (onB (decide (a0 = b0))
      (onB (decide (a1 < b1)) (Post (AV.i IntKind.i64 (-1)) h) (onB (!(fun c => decide (a0 = b0) && c) (decide (a1 = b1))) (Post (AV.i IntKind.i64 1) h) (Post (AV.i IntKind.i64 0) h)))
      (onB (!(fun c => decide (a0 = b0) && c) (decide (a1 = b1))) (Post (AV.i IntKind.i64 1) h) (Post (AV.i IntKind.i64 0) h)))) := by kernel_rfl
/- arras/arrasref14.Get -/
theorem vc22 (a : AV) (b : Int) (h : Hp) (Post : AV → Hp → Prop) : vcCall Try.prog [] 22 [(SV.vv a), (SV.ii .i64 b)] h Post = (
  ∃ I0 : Nat → Int → Bool → Int → Hp → Prop,
  (∃ p0, I0 p0 0 false 0 h) ∧
    ∀ (p1 : Nat) (h0 : Hp) (n0 : Int) (c0 : Bool) (n1 : Int),
      I0 p1 n0 c0 n1 h0 →
        onO (lenV a) fun p2 =>
          onB (decide (n1 < ↑p2))
            (onO (idxV a n1 4) fun r0 =>
              onO (rdH h0 r0.fst (r0.snd + 0) 1) fun l0 =>
                onL [Kd.int IntKind.i64] l0 fun n2 =>
                  onB (decide (n2 = b))
                    (onO (idxV a n1 4) fun r1 => onO (rdH h0 r1.fst (r1.snd + 1) 1) fun l1 => onL [Kd.int IntKind.i64] l1 fun n3 => Post (AV.tup [AV.i IntKind.i64 n3, AV.b true]) h0)
                    (onO (intO BinOp.add IntKind.i64 n1 1) fun n4 => ∃ p3, ltN p3 p1 ∧ I0 p3 n0 c0 n4 h0))
            (Post (AV.tup [AV.i IntKind.i64 0, AV.b false]) h0)) := by kernel_rfl
/- arras/arrasref14.Merge -/
theorem vc20 (a : AV) (b : AV) (h : Hp) (Post : AV → Hp → Prop) : vcCall Try.prog [] 20 [(SV.vv a), (SV.vv b)] h Post = (
  wpC Try.prog 9 [a]
  (fun a0 h0 =>
    onRet [Sh.one Kd.ref] a0 fun a1 =>
      ∃ I0 : Nat → AV → Int → Hp → Prop,
        (∃ p0, I0 p0 a1 0 h0) ∧
          ∀ (p1 : Nat) (h1 : Hp) (a2 : AV),
            a2.sc = true →
              ∀ (n0 : Int),
                I0 p1 a2 n0 h1 →
                  onO (lenV b) fun p2 =>
                    onB (decide (n0 < ↑p2))
                      (onO (idxV b n0 4) fun r0 =>
                        onO (rdH h1 r0.fst (r0.snd + 0) 1) fun l0 =>
                          onL [Kd.int IntKind.i64] l0 fun n1 =>
                            onO (idxV b n0 4) fun r1 =>
                              onO (rdH h1 r1.fst (r1.snd + 1) 1) fun l1 =>
                                onL [Kd.int IntKind.i64] l1 fun n2 =>
                                  onO (idxV b n0 4) fun r2 =>
                                    onO (rdH h1 r2.fst (r2.snd + 2) 2) fun l2 =>
                                      onL [Kd.int IntKind.i64, Kd.int IntKind.i64] l2 fun n3 n4 =>
                                        wpC Try.prog 13 [a2, AV.i IntKind.i64 n1, AV.i IntKind.i64 n2, AV.agg [AV.i IntKind.i64 n3, AV.i IntKind.i64 n4]]
                                          (fun a3 h2 => onRet [Sh.one Kd.ref] a3 fun a4 => onO (intO BinOp.add IntKind.i64 n0 1) fun n5 => ∃ p3, ltN p3 p1 ∧ I0 p3 a4 n5 h2) h1)
                      (Post a2 h1))
  h) := by kernel_rfl
/- arras/reg.Merge -/
theorem vc17 (a : AV) (b : AV) (h : Hp) (Post : AV → Hp → Prop) : vcCall Try.prog [] 17 [(SV.vv a), (SV.vv b)] h Post = (
  wpC Try.prog 24 [a]
  (fun a0 h0 =>
    onRet [Sh.one Kd.bool] a0 fun c0 =>
      onB (!c0) (Post (AV.tup [AV.ns, AV.i IntKind.i64 1]) h0)
        (wpC Try.prog 24 [b]
          (fun a1 h1 =>
            onRet [Sh.one Kd.bool] a1 fun c1 =>
              onB (!c1) (Post (AV.tup [AV.ns, AV.i IntKind.i64 1]) h1)
                (wpC Try.prog 31 [a]
                  (fun a2 h2 =>
                    onRet [Sh.one Kd.ref] a2 fun a3 =>
                      onO (lenV b) fun p0 =>
                        ∃ I0 : Nat → AV → Int → Hp → Prop,
                          (∃ p1, I0 p1 a3 0 h2) ∧
                            ∀ (p2 : Nat) (h3 : Hp) (a4 : AV),
                              a4.sc = true →
                                ∀ (n0 : Int),
                                  I0 p2 a4 n0 h3 →
                                    onB (decide (n0 < ↑p0))
                                      (onO (idxV b n0 4) fun r0 =>
                                        onO (rdH h3 r0.fst r0.snd 4) fun l0 =>
                                          onL [Kd.int IntKind.i64, Kd.int IntKind.i64, Kd.int IntKind.i64, Kd.int IntKind.i64] l0 fun n1 n2 n3 n4 =>
                                            ∀ (p3 : Nat),
                                              wpC Try.prog 27 [a4, AV.agg [AV.i IntKind.i64 n1, AV.i IntKind.i64 n2, AV.i IntKind.i64 n3, AV.i IntKind.i64 n4]]
                                                (fun a5 h4 => onRet [Sh.one Kd.ref] a5 fun a6 => onO (intO BinOp.add IntKind.i64 n0 1) fun n5 => ∃ p4, ltN p4 p2 ∧ I0 p4 a6 n5 h4) h3)
                                      (Post (AV.tup [a4, AV.i IntKind.i64 0]) h3))
                  h1))
          h0))
  h) := by kernel_rfl
/- arras/reg.Get -/
theorem vc18 (a : AV) (b : Int) (h : Hp) (Post : AV → Hp → Prop) : vcCall Try.prog [] 18 [(SV.vv a), (SV.ii .i64 b)] h Post = (
  wpC Try.prog 24 [a]
  (fun a0 h0 =>
    onRet [Sh.one Kd.bool] a0 fun c0 =>
      onB (!c0) (Post (AV.tup [AV.i IntKind.i64 0, AV.i IntKind.i64 1]) h0)
        (wpC Try.prog 32 [a, AV.i IntKind.i64 b]
          (fun a1 h1 =>
            onTup [Sh.one (Kd.int IntKind.i64), Sh.one Kd.bool] a1 fun n0 c1 =>
              onB (!c1) (Post (AV.tup [AV.i IntKind.i64 0, AV.i IntKind.i64 3]) h1)
                (onO (idxV a n0 4) fun r0 => onO (rdH h1 r0.fst (r0.snd + 1) 1) fun l0 => onL [Kd.int IntKind.i64] l0 fun n1 => Post (AV.tup [AV.i IntKind.i64 n1, AV.i IntKind.i64 0]) h1))
          h0))
  h) := by kernel_rfl
/- arras/reg.Check -/
theorem vc21 (a : AV) (h : Hp) (Post : AV → Hp → Prop) : vcCall Try.prog [] 21 [(SV.vv a)] h Post = (
  wpC Try.prog 24 [a] (fun a0 h0 => onRet [Sh.one Kd.bool] a0 fun c0 => onB (!c0) (Post (AV.i IntKind.i64 1) h0) (Post (AV.i IntKind.i64 0) h0)) h) := by kernel_rfl
/- arras/arrasref0.Num -/
theorem vc37 (a : Int) (b : Int) (h : Hp) (Post : AV → Hp → Prop) : vcCall Try.prog [] 37 [(SV.ii .i64 a), (SV.ii .i64 b)] h Post = (
  onB (decide (0 ≤ a)) (Post (AV.b (decide (a ≤ b))) h) (Post (AV.b false) h)) := by kernel_rfl
/- arras/arraslaw15.heavy -/
theorem vc7 (a0 : AV) (a1 : AV) (a2 : AV) (h : Hp) (Post : AV → Hp → Prop) : vcCall Try.prog [] 7 [(SV.ag [(SV.vv a0), (SV.vv a1), (SV.vv a2)])] h Post = (
  ∀ (p0 : Nat),
  onO (lenV a0) fun p1 =>
    onO (lenV a1) fun p2 => onO (intO BinOp.add IntKind.i64 ↑p1 ↑p2) fun n0 => onO (lenV a2) fun p3 => onO (intO BinOp.add IntKind.i64 n0 ↑p3) fun n1 => Post (AV.b (decide (2000 < n1))) h) := by kernel_rfl
/- arras/arraslaw15.num -/
theorem vc11 (a : Int) (h : Hp) (Post : AV → Hp → Prop) : vcCall Try.prog [] 11 [(SV.ii .i64 a)] h Post = (
  Post (AV.i IntKind.i64 a) h) := by kernel_rfl
/- arras/arraslaw0.Regs -/
theorem vc23 (a : AV) (h : Hp) (Post : AV → Hp → Prop) : vcCall Try.prog [] 23 [(SV.vv a)] h Post = (
  ∃ I0 : Nat → Int → Hp → Prop,
  (∃ p0, I0 p0 0 h) ∧
    ∀ (p1 : Nat) (h0 : Hp) (n0 : Int),
      I0 p1 n0 h0 →
        onO (lenV a) fun p2 =>
          onB (decide (n0 < ↑p2))
            (onO (idxV a n0 4) fun r0 =>
              wpE (Eff.w r0.fst r0.snd (Src.lit [AV.i IntKind.i64 (-9), AV.i IntKind.i64 0, AV.i IntKind.i64 0, AV.i IntKind.i64 0]) none)
                (fun x0 h1 => onO (intO BinOp.add IntKind.i64 n0 1) fun n1 => ∃ p3, ltN p3 p1 ∧ I0 p3 n1 h1) h0)
            (∀ (p4 : Nat), wpE (Eff.app a 1 (Src.lit [AV.i IntKind.i64 0, AV.i IntKind.i64 0, AV.i IntKind.i64 0, AV.i IntKind.i64 0]) 4) (fun x1 h2 => onO x1 fun a0 => Post (AV.tup []) h2) h0)) := by kernel_rfl
/- arras/arrasref8.value -/
theorem vc30 (a : Int) (h : Hp) (Post : AV → Hp → Prop) : vcCall Try.prog [] 30 [(SV.ii .i64 a)] h Post = (
  onB (decide (a = 0)) (Post (AV.tup [AV.i IntKind.i64 0, AV.i IntKind.i64 2, AV.i IntKind.i64 0, AV.b true]) h)
  (onB (decide (a = 1))
    (onB (decide (a = 1)) (Post (AV.tup [AV.i IntKind.i64 0, AV.i IntKind.i64 1, AV.i IntKind.i64 0, AV.b true]) h)
      (onB (decide (a = 3))
        (onB (decide (a = 3)) (Post (AV.tup [AV.i IntKind.i64 (-1), AV.i IntKind.i64 1099511627776, AV.i IntKind.i64 (-1), AV.b true]) h)
          (onB (decide (a = 5))
            (onB (decide (a = 5)) (Post (AV.tup [AV.i IntKind.i64 0, AV.i IntKind.i64 1099511627776, AV.i IntKind.i64 0, AV.b true]) h)
              (onB (decide (a = 9)) (Post (AV.tup [AV.i IntKind.i64 0, AV.i IntKind.i64 1048576, AV.i IntKind.i64 0, AV.b true]) h)
                (onB (decide (a = 10)) (Post (AV.tup [AV.i IntKind.i64 0, AV.i IntKind.i64 1048576, AV.i IntKind.i64 1, AV.b true]) h)
                  (onB (decide (a = 12))
                    (onB (decide (a = 12)) (Post (AV.tup [AV.i IntKind.i64 0, AV.i IntKind.i64 1073741824, AV.i IntKind.i64 0, AV.b true]) h)
                      (onB (decide (a = 15)) (Post (AV.tup [AV.i IntKind.i64 0, AV.i IntKind.i64 4, AV.i IntKind.i64 0, AV.b true]) h)
                        (onB (decide (a = 16)) (Post (AV.tup [AV.i IntKind.i64 0, AV.i IntKind.i64 3, AV.i IntKind.i64 0, AV.b true]) h)
                          (onB (decide (a = 17)) (Post (AV.tup [AV.i IntKind.i64 0, AV.i IntKind.i64 16777215, AV.i IntKind.i64 0, AV.b true]) h)
                            (onB (decide (a = 18)) (Post (AV.tup [AV.i IntKind.i64 64, AV.i IntKind.i64 64000, AV.i IntKind.i64 1024, AV.b true]) h)
                              (Post (AV.tup [AV.i IntKind.i64 0, AV.i IntKind.i64 0, AV.i IntKind.i64 0, AV.b false]) h))))))
                    (onB (decide (a = 13))
                      (onB (decide (a = 13)) (Post (AV.tup [AV.i IntKind.i64 0, AV.i IntKind.i64 1073741824, AV.i IntKind.i64 0, AV.b true]) h)
                        (onB (decide (a = 15)) (Post (AV.tup [AV.i IntKind.i64 0, AV.i IntKind.i64 4, AV.i IntKind.i64 0, AV.b true]) h)
                          (onB (decide (a = 16)) (Post (AV.tup [AV.i IntKind.i64 0, AV.i IntKind.i64 3, AV.i IntKind.i64 0, AV.b true]) h)
                            (onB (decide (a = 17)) (Post (AV.tup [AV.i IntKind.i64 0, AV.i IntKind.i64 16777215, AV.i IntKind.i64 0, AV.b true]) h)
                              (onB (decide (a = 18)) (Post (AV.tup [AV.i IntKind.i64 64, AV.i IntKind.i64 64000, AV.i IntKind.i64 1024, AV.b true]) h)
                                (Post (AV.tup [AV.i IntKind.i64 0, AV.i IntKind.i64 0, AV.i IntKind.i64 0, AV.b false]) h))))))
                      (onB (decide (a = 14)) (Post (AV.tup [AV.i IntKind.i64 0, AV.i IntKind.i64 1073741824, AV.i IntKind.i64 0, AV.b true]) h)
                        (onB (decide (a = 15)) (Post (AV.tup [AV.i IntKind.i64 0, AV.i IntKind.i64 4, AV.i IntKind.i64 0, AV.b true]) h)
                          (onB (decide (a = 16)) (Post (AV.tup [AV.i IntKind.i64 0, AV.i IntKind.i64 3, AV.i IntKind.i64 0, AV.b true]) h)
                            (onB (decide (a = 17)) (Post (AV.tup [AV.i IntKind.i64 0, AV.i IntKind.i64 16777215, AV.i IntKind.i64 0, AV.b true]) h)
                              (onB (decide (a = 18)) (Post (AV.tup [AV.i IntKind.i64 64, AV.i IntKind.i64 64000, AV.i IntKind.i64 1024, AV.b true]) h)
                                (Post (AV.tup [AV.i IntKind.i64 0, AV.i IntKind.i64 0, AV.i IntKind.i64 0, AV.b false]) h)))))))))))
            (onB (decide (a = 7)) (Post (AV.tup [AV.i IntKind.i64 0, AV.i IntKind.i64 1099511627776, AV.i IntKind.i64 0, AV.b true]) h)
              (onB (decide (a = 9)) (Post (AV.tup [AV.i IntKind.i64 0, AV.i IntKind.i64 1048576, AV.i IntKind.i64 0, AV.b true]) h)
                (onB (decide (a = 10)) (Post (AV.tup [AV.i IntKind.i64 0, AV.i IntKind.i64 1048576, AV.i IntKind.i64 1, AV.b true]) h)
                  (onB (decide (a = 12))
                    (onB (decide (a = 12)) (Post (AV.tup [AV.i IntKind.i64 0, AV.i IntKind.i64 1073741824, AV.i IntKind.i64 0, AV.b true]) h)
                      (onB (decide (a = 15)) (Post (AV.tup [AV.i IntKind.i64 0, AV.i IntKind.i64 4, AV.i IntKind.i64 0, AV.b true]) h)
                        (onB (decide (a = 16)) (Post (AV.tup [AV.i IntKind.i64 0, AV.i IntKind.i64 3, AV.i IntKind.i64 0, AV.b true]) h)
                          (onB (decide (a = 17)) (Post (AV.tup [AV.i IntKind.i64 0, AV.i IntKind.i64 16777215, AV.i IntKind.i64 0, AV.b true]) h)
                            (onB (decide (a = 18)) (Post (AV.tup [AV.i IntKind.i64 64, AV.i IntKind.i64 64000, AV.i IntKind.i64 1024, AV.b true]) h)
                              (Post (AV.tup [AV.i IntKind.i64 0, AV.i IntKind.i64 0, AV.i IntKind.i64 0, AV.b false]) h))))))
                    (onB (decide (a = 13))
                      (onB (decide (a = 13)) (Post (AV.tup [AV.i IntKind.i64 0, AV.i IntKind.i64 1073741824, AV.i IntKind.i64 0, AV.b true]) h)
                        (onB (decide (a = 15)) (Post (AV.tup [AV.i IntKind.i64 0, AV.i IntKind.i64 4, AV.i IntKind.i64 0, AV.b true]) h)
                          (onB (decide (a = 16)) (Post (AV.tup [AV.i IntKind.i64 0, AV.i IntKind.i64 3, AV.i IntKind.i64 0, AV.b true]) h)
                            (onB (decide (a = 17)) (Post (AV.tup [AV.i IntKind.i64 0, AV.i IntKind.i64 16777215, AV.i IntKind.i64 0, AV.b true]) h)
                              (onB (decide (a = 18)) (Post (AV.tup [AV.i IntKind.i64 64, AV.i IntKind.i64 64000, AV.i IntKind.i64 1024, AV.b true]) h)
                                (Post (AV.tup [AV.i IntKind.i64 0, AV.i IntKind.i64 0, AV.i IntKind.i64 0, AV.b false]) h))))))
                      (onB (decide (a = 14)) (Post (AV.tup [AV.i IntKind.i64 0, AV.i IntKind.i64 1073741824, AV.i IntKind.i64 0, AV.b true]) h)
                        (onB (decide (a = 15)) (Post (AV.tup [AV.i IntKind.i64 0, AV.i IntKind.i64 4, AV.i IntKind.i64 0, AV.b true]) h)
                          (onB (decide (a = 16)) (Post (AV.tup [AV.i IntKind.i64 0, AV.i IntKind.i64 3, AV.i IntKind.i64 0, AV.b true]) h)
                            (onB (decide (a = 17)) (Post (AV.tup [AV.i IntKind.i64 0, AV.i IntKind.i64 16777215, AV.i IntKind.i64 0, AV.b true]) h)
                              (onB (decide (a = 18)) (Post (AV.tup [AV.i IntKind.i64 64, AV.i IntKind.i64 64000, AV.i IntKind.i64 1024, AV.b true]) h)
                                (Post (AV.tup [AV.i IntKind.i64 0, AV.i IntKind.i64 0, AV.i IntKind.i64 0, AV.b false]) h)))))))))))))
        (onB (decide (a = 4))
          (onB (decide (a = 4)) (Post (AV.tup [AV.i IntKind.i64 (-1), AV.i IntKind.i64 1099511627776, AV.i IntKind.i64 (-1), AV.b true]) h)
            (onB (decide (a = 5))
              (onB (decide (a = 5)) (Post (AV.tup [AV.i IntKind.i64 0, AV.i IntKind.i64 1099511627776, AV.i IntKind.i64 0, AV.b true]) h)
                (onB (decide (a = 9)) (Post (AV.tup [AV.i IntKind.i64 0, AV.i IntKind.i64 1048576, AV.i IntKind.i64 0, AV.b true]) h)
                  (onB (decide (a = 10)) (Post (AV.tup [AV.i IntKind.i64 0, AV.i IntKind.i64 1048576, AV.i IntKind.i64 1, AV.b true]) h)
                    (onB (decide (a = 12))
                      (onB (decide (a = 12)) (Post (AV.tup [AV.i IntKind.i64 0, AV.i IntKind.i64 1073741824, AV.i IntKind.i64 0, AV.b true]) h)
                        (onB (decide (a = 15)) (Post (AV.tup [AV.i IntKind.i64 0, AV.i IntKind.i64 4, AV.i IntKind.i64 0, AV.b true]) h)
                          (onB (decide (a = 16)) (Post (AV.tup [AV.i IntKind.i64 0, AV.i IntKind.i64 3, AV.i IntKind.i64 0, AV.b true]) h)
                            (onB (decide (a = 17)) (Post (AV.tup [AV.i IntKind.i64 0, AV.i IntKind.i64 16777215, AV.i IntKind.i64 0, AV.b true]) h)
                              (onB (decide (a = 18)) (Post (AV.tup [AV.i IntKind.i64 64, AV.i IntKind.i64 64000, AV.i IntKind.i64 1024, AV.b true]) h)
                                (Post (AV.tup [AV.i IntKind.i64 0, AV.i IntKind.i64 0, AV.i IntKind.i64 0, AV.b false]) h))))))
                      (onB (decide (a = 13))
                        (onB (decide (a = 13)) (Post (AV.tup [AV.i IntKind.i64 0, AV.i IntKind.i64 1073741824, AV.i IntKind.i64 0, AV.b true]) h)
                          (onB (decide (a = 15)) (Post (AV.tup [AV.i IntKind.i64 0, AV.i IntKind.i64 4, AV.i IntKind.i64 0, AV.b true]) h)
                            (onB (decide (a = 16)) (Post (AV.tup [AV.i IntKind.i64 0, AV.i IntKind.i64 3, AV.i IntKind.i64 0, AV.b true]) h)
                              (onB (decide (a = 17)) (Post (AV.tup [AV.i IntKind.i64 0, AV.i IntKind.i64 16777215, AV.i IntKind.i64 0, AV.b true]) h)
                                (onB (decide (a = 18)) (Post (AV.tup [AV.i IntKind.i64 64, AV.i IntKind.i64 64000, AV.i IntKind.i64 1024, AV.b true]) h)
                                  (Post (AV.tup [AV.i IntKind.i64 0, AV.i IntKind.i64 0, AV.i IntKind.i64 0, AV.b false]) h))))))
                        (onB (decide (a = 14)) (Post (AV.tup [AV.i IntKind.i64 0, AV.i IntKind.i64 1073741824, AV.i IntKind.i64 0, AV.b true]) h)
                          (onB (decide (a = 15)) (Post (AV.tup [AV.i IntKind.i64 0, AV.i IntKind.i64 4, AV.i IntKind.i64 0, AV.b true]) h)
                            (onB (decide (a = 16)) (Post (AV.tup [AV.i IntKind.i64 0, AV.i IntKind.i64 3, AV.i IntKind.i64 0, AV.b true]) h)
                              (onB (decide (a = 17)) (Post (AV.tup [AV.i IntKind.i64 0, AV.i IntKind.i64 16777215, AV.i IntKind.i64 0, AV.b true]) h)
                                (onB (decide (a = 18)) (Post (AV.tup [AV.i IntKind.i64 64, AV.i IntKind.i64 64000, AV.i IntKind.i64 1024, AV.b true]) h)
                                  (Post (AV.tup [AV.i IntKind.i64 0, AV.i IntKind.i64 0, AV.i IntKind.i64 0, AV.b false]) h)))))))))))
              (onB (decide (a = 7)) (Post (AV.tup [AV.i IntKind.i64 0, AV.i IntKind.i64 1099511627776, AV.i IntKind.i64 0, AV.b true]) h)
                (onB (decide (a = 9)) (Post (AV.tup [AV.i IntKind.i64 0, AV.i IntKind.i64 1048576, AV.i IntKind.i64 0, AV.b true]) h)
                  (onB (decide (a = 10)) (Post (AV.tup [AV.i IntKind.i64 0, AV.i IntKind.i64 1048576, AV.i IntKind.i64 1, AV.b true]) h)
                    (onB (decide (a = 12))
                      (onB (decide (a = 12)) (Post (AV.tup [AV.i IntKind.i64 0, AV.i IntKind.i64 1073741824, AV.i IntKind.i64 0, AV.b true]) h)
                        (onB (decide (a = 15)) (Post (AV.tup [AV.i IntKind.i64 0, AV.i IntKind.i64 4, AV.i IntKind.i64 0, AV.b true]) h)
                          (onB (decide (a = 16)) (Post (AV.tup [AV.i IntKind.i64 0, AV.i IntKind.i64 3, AV.i IntKind.i64 0, AV.b true]) h)
                            (onB (decide (a = 17)) (Post (AV.tup [AV.i IntKind.i64 0, AV.i IntKind.i64 16777215, AV.i IntKind.i64 0, AV.b true]) h)
                              (onB (decide (a = 18)) (Post (AV.tup [AV.i IntKind.i64 64, AV.i IntKind.i64 64000, AV.i IntKind.i64 1024, AV.b true]) h)
                                (Post (AV.tup [AV.i IntKind.i64 0, AV.i IntKind.i64 0, AV.i IntKind.i64 0, AV.b false]) h))))))
                      (onB (decide (a = 13))
                        (onB (decide (a = 13)) (Post (AV.tup [AV.i IntKind.i64 0, AV.i IntKind.i64 1073741824, AV.i IntKind.i64 0, AV.b true]) h)
                          (onB (decide (a = 15)) (Post (AV.tup [AV.i IntKind.i64 0, AV.i IntKind.i64 4, AV.i IntKind.i64 0, AV.b true]) h)
                            (onB (decide (a = 16)) (Post (AV.tup [AV.i IntKind.i64 0, AV.i IntKind.i64 3, AV.i IntKind.i64 0, AV.b true]) h)
                              (onB (decide (a = 17)) (Post (AV.tup [AV.i IntKind.i64 0, AV.i IntKind.i64 16777215, AV.i IntKind.i64 0, AV.b true]) h)
                                (onB (decide (a = 18)) (Post (AV.tup [AV.i IntKind.i64 64, AV.i IntKind.i64 64000, AV.i IntKind.i64 1024, AV.b true]) h)
                                  (Post (AV.tup [AV.i IntKind.i64 0, AV.i IntKind.i64 0, AV.i IntKind.i64 0, AV.b false]) h))))))
                        (onB (decide (a = 14)) (Post (AV.tup [AV.i IntKind.i64 0, AV.i IntKind.i64 1073741824, AV.i IntKind.i64 0, AV.b true]) h)
                          (onB (decide (a = 15)) (Post (AV.tup [AV.i IntKind.i64 0, AV.i IntKind.i64 4, AV.i IntKind.i64 0, AV.b true]) h)
                            (onB (decide (a = 16)) (Post (AV.tup [AV.i IntKind.i64 0, AV.i IntKind.i64 3, AV.i IntKind.i64 0, AV.b true]) h)
                              (onB (decide (a = 17)) (Post (AV.tup [AV.i IntKind.i64 0, AV.i IntKind.i64 16777215, AV.i IntKind.i64 0, AV.b true]) h)
                                (onB (decide (a = 18)) (Post (AV.tup [AV.i IntKind.i64 64, AV.i IntKind.i64 64000, AV.i IntKind.i64 1024, AV.b true]) h)
                                  (Post (AV.tup [AV.i IntKind.i64 0, AV.i IntKind.i64 0, AV.i IntKind.i64 0, AV.b false]) h)))))))))))))
          (onB (decide (a = 6))
            (onB (decide (a = 6)) (Post (AV.tup [AV.i IntKind.i64 (-1), AV.i IntKind.i64 1099511627776, AV.i IntKind.i64 (-1), AV.b true]) h)
              (onB (decide (a = 5))
                (onB (decide (a = 5)) (Post (AV.tup [AV.i IntKind.i64 0, AV.i IntKind.i64 1099511627776, AV.i IntKind.i64 0, AV.b true]) h)
                  (onB (decide (a = 9)) (Post (AV.tup [AV.i IntKind.i64 0, AV.i IntKind.i64 1048576, AV.i IntKind.i64 0, AV.b true]) h)
                    (onB (decide (a = 10)) (Post (AV.tup [AV.i IntKind.i64 0, AV.i IntKind.i64 1048576, AV.i IntKind.i64 1, AV.b true]) h)
                      (onB (decide (a = 12))
                        (onB (decide (a = 12)) (Post (AV.tup [AV.i IntKind.i64 0, AV.i IntKind.i64 1073741824, AV.i IntKind.i64 0, AV.b true]) h)
                          (onB (decide (a = 15)) (Post (AV.tup [AV.i IntKind.i64 0, AV.i IntKind.i64 4, AV.i IntKind.i64 0, AV.b true]) h)
                            (onB (decide (a = 16)) (Post (AV.tup [AV.i IntKind.i64 0, AV.i IntKind.i64 3, AV.i IntKind.i64 0, AV.b true]) h)
                              (onB (decide (a = 17)) (Post (AV.tup [AV.i IntKind.i64 0, AV.i IntKind.i64 16777215, AV.i IntKind.i64 0, AV.b true]) h)
                                (onB (decide (a = 18)) (Post (AV.tup [AV.i IntKind.i64 64, AV.i IntKind.i64 64000, AV.i IntKind.i64 1024, AV.b true]) h)
                                  (Post (AV.tup [AV.i IntKind.i64 0, AV.i IntKind.i64 0, AV.i IntKind.i64 0, AV.b false]) h))))))
                        (onB (decide (a = 13))
                          (onB (decide (a = 13)) (Post (AV.tup [AV.i IntKind.i64 0, AV.i IntKind.i64 1073741824, AV.i IntKind.i64 0, AV.b true]) h)
                            (onB (decide (a = 15)) (Post (AV.tup [AV.i IntKind.i64 0, AV.i IntKind.i64 4, AV.i IntKind.i64 0, AV.b true]) h)
                              (onB (decide (a = 16)) (Post (AV.tup [AV.i IntKind.i64 0, AV.i IntKind.i64 3, AV.i IntKind.i64 0, AV.b true]) h)
                                (onB (decide (a = 17)) (Post (AV.tup [AV.i IntKind.i64 0, AV.i IntKind.i64 16777215, AV.i IntKind.i64 0, AV.b true]) h)
                                  (onB (decide (a = 18)) (Post (AV.tup [AV.i IntKind.i64 64, AV.i IntKind.i64 64000, AV.i IntKind.i64 1024, AV.b true]) h)
                                    (Post (AV.tup [AV.i IntKind.i64 0, AV.i IntKind.i64 0, AV.i IntKind.i64 0, AV.b false]) h))))))
                          (onB (decide (a = 14)) (Post (AV.tup [AV.i IntKind.i64 0, AV.i IntKind.i64 1073741824, AV.i IntKind.i64 0, AV.b true]) h)
                            (onB (decide (a = 15)) (Post (AV.tup [AV.i IntKind.i64 0, AV.i IntKind.i64 4, AV.i IntKind.i64 0, AV.b true]) h)
                              (onB (decide (a = 16)) (Post (AV.tup [AV.i IntKind.i64 0, AV.i IntKind.i64 3, AV.i IntKind.i64 0, AV.b true]) h)
                                (onB (decide (a = 17)) (Post (AV.tup [AV.i IntKind.i64 0, AV.i IntKind.i64 16777215, AV.i IntKind.i64 0, AV.b true]) h)
                                  (onB (decide (a = 18)) (Post (AV.tup [AV.i IntKind.i64 64, AV.i IntKind.i64 64000, AV.i IntKind.i64 1024, AV.b true]) h)
                                    (Post (AV.tup [AV.i IntKind.i64 0, AV.i IntKind.i64 0, AV.i IntKind.i64 0, AV.b false]) h)))))))))))
                (onB (decide (a = 7)) (Post (AV.tup [AV.i IntKind.i64 0, AV.i IntKind.i64 1099511627776, AV.i IntKind.i64 0, AV.b true]) h)
                  (onB (decide (a = 9)) (Post (AV.tup [AV.i IntKind.i64 0, AV.i IntKind.i64 1048576, AV.i IntKind.i64 0, AV.b true]) h)
                    (onB (decide (a = 10)) (Post (AV.tup [AV.i IntKind.i64 0, AV.i IntKind.i64 1048576, AV.i IntKind.i64 1, AV.b true]) h)
                      (onB (decide (a = 12))
                        (onB (decide (a = 12)) (Post (AV.tup [AV.i IntKind.i64 0, AV.i IntKind.i64 1073741824, AV.i IntKind.i64 0, AV.b true]) h)
                          (onB (decide (a = 15)) (Post (AV.tup [AV.i IntKind.i64 0, AV.i IntKind.i64 4, AV.i IntKind.i64 0, AV.b true]) h)
                            (onB (decide (a = 16)) (Post (AV.tup [AV.i IntKind.i64 0, AV.i IntKind.i64 3, AV.i IntKind.i64 0, AV.b true]) h)
                              (onB (decide (a = 17)) (Post (AV.tup [AV.i IntKind.i64 0, AV.i IntKind.i64 16777215, AV.i IntKind.i64 0, AV.b true]) h)
                                (onB (decide (a = 18)) (Post (AV.tup [AV.i IntKind.i64 64, AV.i IntKind.i64 64000, AV.i IntKind.i64 1024, AV.b true]) h)
                                  (Post (AV.tup [AV.i IntKind.i64 0, AV.i IntKind.i64 0, AV.i IntKind.i64 0, AV.b false]) h))))))
                        (onB (decide (a = 13))
                          (onB (decide (a = 13)) (Post (AV.tup [AV.i IntKind.i64 0, AV.i IntKind.i64 1073741824, AV.i IntKind.i64 0, AV.b true]) h)
                            (onB (decide (a = 15)) (Post (AV.tup [AV.i IntKind.i64 0, AV.i IntKind.i64 4, AV.i IntKind.i64 0, AV.b true]) h)
                              (onB (decide (a = 16)) (Post (AV.tup [AV.i IntKind.i64 0, AV.i IntKind.i64 3, AV.i IntKind.i64 0, AV.b true]) h)
                                (onB (decide (a = 17)) (Post (AV.tup [AV.i IntKind.i64 0, AV.i IntKind.i64 16777215, AV.i IntKind.i64 0, AV.b true]) h)
                                  (onB (decide (a = 18)) (Post (AV.tup [AV.i IntKind.i64 64, AV.i IntKind.i64 64000, AV.i IntKind.i64 1024, AV.b true]) h)
                                    (Post (AV.tup [AV.i IntKind.i64 0, AV.i IntKind.i64 0, AV.i IntKind.i64 0, AV.b false]) h))))))
                          (onB (decide (a = 14)) (Post (AV.tup [AV.i IntKind.i64 0, AV.i IntKind.i64 1073741824, AV.i IntKind.i64 0, AV.b true]) h)
                            (onB (decide (a = 15)) (Post (AV.tup [AV.i IntKind.i64 0, AV.i IntKind.i64 4, AV.i IntKind.i64 0, AV.b true]) h)
                              (onB (decide (a = 16)) (Post (AV.tup [AV.i IntKind.i64 0, AV.i IntKind.i64 3, AV.i IntKind.i64 0, AV.b true]) h)
                                (onB (decide (a = 17)) (Post (AV.tup [AV.i IntKind.i64 0, AV.i IntKind.i64 16777215, AV.i IntKind.i64 0, AV.b true]) h)
                                  (onB (decide (a = 18)) (Post (AV.tup [AV.i IntKind.i64 64, AV.i IntKind.i64 64000, AV.i IntKind.i64 1024, AV.b true]) h)
                                    (Post (AV.tup [AV.i IntKind.i64 0, AV.i IntKind.i64 0, AV.i IntKind.i64 0, AV.b false]) h)))))))))))))
            (onB (decide (a = 8))
              (onB (decide (a = 8)) (Post (AV.tup [AV.i IntKind.i64 (-1), AV.i IntKind.i64 1099511627776, AV.i IntKind.i64 (-1), AV.b true]) h)
                (onB (decide (a = 5))
                  (onB (decide (a = 5)) (Post (AV.tup [AV.i IntKind.i64 0, AV.i IntKind.i64 1099511627776, AV.i IntKind.i64 0, AV.b true]) h)
                    (onB (decide (a = 9)) (Post (AV.tup [AV.i IntKind.i64 0, AV.i IntKind.i64 1048576, AV.i IntKind.i64 0, AV.b true]) h)
                      (onB (decide (a = 10)) (Post (AV.tup [AV.i IntKind.i64 0, AV.i IntKind.i64 1048576, AV.i IntKind.i64 1, AV.b true]) h)
                        (onB (decide (a = 12))
                          (onB (decide (a = 12)) (Post (AV.tup [AV.i IntKind.i64 0, AV.i IntKind.i64 1073741824, AV.i IntKind.i64 0, AV.b true]) h)
                            (onB (decide (a = 15)) (Post (AV.tup [AV.i IntKind.i64 0, AV.i IntKind.i64 4, AV.i IntKind.i64 0, AV.b true]) h)
                              (onB (decide (a = 16)) (Post (AV.tup [AV.i IntKind.i64 0, AV.i IntKind.i64 3, AV.i IntKind.i64 0, AV.b true]) h)
                                (onB (decide (a = 17)) (Post (AV.tup [AV.i IntKind.i64 0, AV.i IntKind.i64 16777215, AV.i IntKind.i64 0, AV.b true]) h)
                                  (onB (decide (a = 18)) (Post (AV.tup [AV.i IntKind.i64 64, AV.i IntKind.i64 64000, AV.i IntKind.i64 1024, AV.b true]) h)
                                    (Post (AV.tup [AV.i IntKind.i64 0, AV.i IntKind.i64 0, AV.i IntKind.i64 0, AV.b false]) h))))))
                          (onB (decide (a = 13))
                            (onB (decide (a = 13)) (Post (AV.tup [AV.i IntKind.i64 0, AV.i IntKind.i64 1073741824, AV.i IntKind.i64 0, AV.b true]) h)
                              (onB (decide (a = 15)) (Post (AV.tup [AV.i IntKind.i64 0, AV.i IntKind.i64 4, AV.i IntKind.i64 0, AV.b true]) h)
                                (onB (decide (a = 16)) (Post (AV.tup [AV.i IntKind.i64 0, AV.i IntKind.i64 3, AV.i IntKind.i64 0, AV.b true]) h)
                                  (onB (decide (a = 17)) (Post (AV.tup [AV.i IntKind.i64 0, AV.i IntKind.i64 16777215, AV.i IntKind.i64 0, AV.b true]) h)
                                    (onB (decide (a = 18)) (Post (AV.tup [AV.i IntKind.i64 64, AV.i IntKind.i64 64000, AV.i IntKind.i64 1024, AV.b true]) h)
                                      (Post (AV.tup [AV.i IntKind.i64 0, AV.i IntKind.i64 0, AV.i IntKind.i64 0, AV.b false]) h))))))
                            (onB (decide (a = 14)) (Post (AV.tup [AV.i IntKind.i64 0, AV.i IntKind.i64 1073741824, AV.i IntKind.i64 0, AV.b true]) h)
                              (onB (decide (a = 15)) (Post (AV.tup [AV.i IntKind.i64 0, AV.i IntKind.i64 4, AV.i IntKind.i64 0, AV.b true]) h)
                                (onB (decide (a = 16)) (Post (AV.tup [AV.i IntKind.i64 0, AV.i IntKind.i64 3, AV.i IntKind.i64 0, AV.b true]) h)
                                  (onB (decide (a = 17)) (Post (AV.tup [AV.i IntKind.i64 0, AV.i IntKind.i64 16777215, AV.i IntKind.i64 0, AV.b true]) h)
                                    (onB (decide (a = 18)) (Post (AV.tup [AV.i IntKind.i64 64, AV.i IntKind.i64 64000, AV.i IntKind.i64 1024, AV.b true]) h)
                                      (Post (AV.tup [AV.i IntKind.i64 0, AV.i IntKind.i64 0, AV.i IntKind.i64 0, AV.b false]) h)))))))))))
                  (onB (decide (a = 7)) (Post (AV.tup [AV.i IntKind.i64 0, AV.i IntKind.i64 1099511627776, AV.i IntKind.i64 0, AV.b true]) h)
                    (onB (decide (a = 9)) (Post (AV.tup [AV.i IntKind.i64 0, AV.i IntKind.i64 1048576, AV.i IntKind.i64 0, AV.b true]) h)
                      (onB (decide (a = 10)) (Post (AV.tup [AV.i IntKind.i64 0, AV.i IntKind.i64 1048576, AV.i IntKind.i64 1, AV.b true]) h)
                        (onB (decide (a = 12))
                          (onB (decide (a = 12)) (Post (AV.tup [AV.i IntKind.i64 0, AV.i IntKind.i64 1073741824, AV.i IntKind.i64 0, AV.b true]) h)
                            (onB (decide (a = 15)) (Post (AV.tup [AV.i IntKind.i64 0, AV.i IntKind.i64 4, AV.i IntKind.i64 0, AV.b true]) h)
                              (onB (decide (a = 16)) (Post (AV.tup [AV.i IntKind.i64 0, AV.i IntKind.i64 3, AV.i IntKind.i64 0, AV.b true]) h)
                                (onB (decide (a = 17)) (Post (AV.tup [AV.i IntKind.i64 0, AV.i IntKind.i64 16777215, AV.i IntKind.i64 0, AV.b true]) h)
                                  (onB (decide (a = 18)) (Post (AV.tup [AV.i IntKind.i64 64, AV.i IntKind.i64 64000, AV.i IntKind.i64 1024, AV.b true]) h)
                                    (Post (AV.tup [AV.i IntKind.i64 0, AV.i IntKind.i64 0, AV.i IntKind.i64 0, AV.b false]) h))))))
                          (onB (decide (a = 13))
                            (onB (decide (a = 13)) (Post (AV.tup [AV.i IntKind.i64 0, AV.i IntKind.i64 1073741824, AV.i IntKind.i64 0, AV.b true]) h)
                              (onB (decide (a = 15)) (Post (AV.tup [AV.i IntKind.i64 0, AV.i IntKind.i64 4, AV.i IntKind.i64 0, AV.b true]) h)
                                (onB (decide (a = 16)) (Post (AV.tup [AV.i IntKind.i64 0, AV.i IntKind.i64 3, AV.i IntKind.i64 0, AV.b true]) h)
                                  (onB (decide (a = 17)) (Post (AV.tup [AV.i IntKind.i64 0, AV.i IntKind.i64 16777215, AV.i IntKind.i64 0, AV.b true]) h)
                                    (onB (decide (a = 18)) (Post (AV.tup [AV.i IntKind.i64 64, AV.i IntKind.i64 64000, AV.i IntKind.i64 1024, AV.b true]) h)
                                      (Post (AV.tup [AV.i IntKind.i64 0, AV.i IntKind.i64 0, AV.i IntKind.i64 0, AV.b false]) h))))))
                            (onB (decide (a = 14)) (Post (AV.tup [AV.i IntKind.i64 0, AV.i IntKind.i64 1073741824, AV.i IntKind.i64 0, AV.b true]) h)
                              (onB (decide (a = 15)) (Post (AV.tup [AV.i IntKind.i64 0, AV.i IntKind.i64 4, AV.i IntKind.i64 0, AV.b true]) h)
                                (onB (decide (a = 16)) (Post (AV.tup [AV.i IntKind.i64 0, AV.i IntKind.i64 3, AV.i IntKind.i64 0, AV.b true]) h)
                                  (onB (decide (a = 17)) (Post (AV.tup [AV.i IntKind.i64 0, AV.i IntKind.i64 16777215, AV.i IntKind.i64 0, AV.b true]) h)
                                    (onB (decide (a = 18)) (Post (AV.tup [AV.i IntKind.i64 64, AV.i IntKind.i64 64000, AV.i IntKind.i64 1024, AV.b true]) h)
                                      (Post (AV.tup [AV.i IntKind.i64 0, AV.i IntKind.i64 0, AV.i IntKind.i64 0, AV.b false]) h)))))))))))))
              (onB (decide (a = 11)) (Post (AV.tup [AV.i IntKind.i64 (-1), AV.i IntKind.i64 1099511627776, AV.i IntKind.i64 (-1), AV.b true]) h)
                (onB (decide (a = 5))
                  (onB (decide (a = 5)) (Post (AV.tup [AV.i IntKind.i64 0, AV.i IntKind.i64 1099511627776, AV.i IntKind.i64 0, AV.b true]) h)
                    (onB (decide (a = 9)) (Post (AV.tup [AV.i IntKind.i64 0, AV.i IntKind.i64 1048576, AV.i IntKind.i64 0, AV.b true]) h)
                      (onB (decide (a = 10)) (Post (AV.tup [AV.i IntKind.i64 0, AV.i IntKind.i64 1048576, AV.i IntKind.i64 1, AV.b true]) h)
                        (onB (decide (a = 12))
                          (onB (decide (a = 12)) (Post (AV.tup [AV.i IntKind.i64 0, AV.i IntKind.i64 1073741824, AV.i IntKind.i64 0, AV.b true]) h)
                            (onB (decide (a = 15)) (Post (AV.tup [AV.i IntKind.i64 0, AV.i IntKind.i64 4, AV.i IntKind.i64 0, AV.b true]) h)
                              (onB (decide (a = 16)) (Post (AV.tup [AV.i IntKind.i64 0, AV.i IntKind.i64 3, AV.i IntKind.i64 0, AV.b true]) h)
                                (onB (decide (a = 17)) (Post (AV.tup [AV.i IntKind.i64 0, AV.i IntKind.i64 16777215, AV.i IntKind.i64 0, AV.b true]) h)
                                  (onB (decide (a = 18)) (Post (AV.tup [AV.i IntKind.i64 64, AV.i IntKind.i64 64000, AV.i IntKind.i64 1024, AV.b true]) h)
                                    (Post (AV.tup [AV.i IntKind.i64 0, AV.i IntKind.i64 0, AV.i IntKind.i64 0, AV.b false]) h))))))
                          (onB (decide (a = 13))
                            (onB (decide (a = 13)) (Post (AV.tup [AV.i IntKind.i64 0, AV.i IntKind.i64 1073741824, AV.i IntKind.i64 0, AV.b true]) h)
                              (onB (decide (a = 15)) (Post (AV.tup [AV.i IntKind.i64 0, AV.i IntKind.i64 4, AV.i IntKind.i64 0, AV.b true]) h)
                                (onB (decide (a = 16)) (Post (AV.tup [AV.i IntKind.i64 0, AV.i IntKind.i64 3, AV.i IntKind.i64 0, AV.b true]) h)
                                  (onB (decide (a = 17)) (Post (AV.tup [AV.i IntKind.i64 0, AV.i IntKind.i64 16777215, AV.i IntKind.i64 0, AV.b true]) h)
                                    (onB (decide (a = 18)) (Post (AV.tup [AV.i IntKind.i64 64, AV.i IntKind.i64 64000, AV.i IntKind.i64 1024, AV.b true]) h)
                                      (Post (AV.tup [AV.i IntKind.i64 0, AV.i IntKind.i64 0, AV.i IntKind.i64 0, AV.b false]) h))))))
                            (onB (decide (a = 14)) (Post (AV.tup [AV.i IntKind.i64 0, AV.i IntKind.i64 1073741824, AV.i IntKind.i64 0, AV.b true]) h)
                              (onB (decide (a = 15)) (Post (AV.tup [AV.i IntKind.i64 0, AV.i IntKind.i64 4, AV.i IntKind.i64 0, AV.b true]) h)
                                (onB (decide (a = 16)) (Post (AV.tup [AV.i IntKind.i64 0, AV.i IntKind.i64 3, AV.i IntKind.i64 0, AV.b true]) h)
                                  (onB (decide (a = 17)) (Post (AV.tup [AV.i IntKind.i64 0, AV.i IntKind.i64 16777215, AV.i IntKind.i64 0, AV.b true]) h)
                                    (onB (decide (a = 18)) (Post (AV.tup [AV.i IntKind.i64 64, AV.i IntKind.i64 64000, AV.i IntKind.i64 1024, AV.b true]) h)
                                      (Post (AV.tup [AV.i IntKind.i64 0, AV.i IntKind.i64 0, AV.i IntKind.i64 0, AV.b false]) h)))))))))))
                  (onB (decide (a = 7)) (Post (AV.tup [AV.i IntKind.i64 0, AV.i IntKind.i64 1099511627776, AV.i IntKind.i64 0, AV.b true]) h)
                    (onB (decide (a = 9)) (Post (AV.tup [AV.i IntKind.i64 0, AV.i IntKind.i64 1048576, AV.i IntKind.i64 0, AV.b true]) h)
                      (onB (decide (a = 10)) (Post (AV.tup [AV.i IntKind.i64 0, AV.i IntKind.i64 1048576, AV.i IntKind.i64 1, AV.b true]) h)
                        (onB (decide (a = 12))
                          (onB (decide (a = 12)) (Post (AV.tup [AV.i IntKind.i64 0, AV.i IntKind.i64 1073741824, AV.i IntKind.i64 0, AV.b true]) h)
                            (onB (decide (a = 15)) (Post (AV.tup [AV.i IntKind.i64 0, AV.i IntKind.i64 4, AV.i IntKind.i64 0, AV.b true]) h)
                              (onB (decide (a = 16)) (Post (AV.tup [AV.i IntKind.i64 0, AV.i IntKind.i64 3, AV.i IntKind.i64 0, AV.b true]) h)
                                (onB (decide (a = 17)) (Post (AV.tup [AV.i IntKind.i64 0, AV.i IntKind.i64 16777215, AV.i IntKind.i64 0, AV.b true]) h)
                                  (onB (decide (a = 18)) (Post (AV.tup [AV.i IntKind.i64 64, AV.i IntKind.i64 64000, AV.i IntKind.i64 1024, AV.b true]) h)
                                    (Post (AV.tup [AV.i IntKind.i64 0, AV.i IntKind.i64 0, AV.i IntKind.i64 0, AV.b false]) h))))))
                          (onB (decide (a = 13))
                            (onB (decide (a = 13)) (Post (AV.tup [AV.i IntKind.i64 0, AV.i IntKind.i64 1073741824, AV.i IntKind.i64 0, AV.b true]) h)
                              (onB (decide (a = 15)) (Post (AV.tup [AV.i IntKind.i64 0, AV.i IntKind.i64 4, AV.i IntKind.i64 0, AV.b true]) h)
                                (onB (decide (a = 16)) (Post (AV.tup [AV.i IntKind.i64 0, AV.i IntKind.i64 3, AV.i IntKind.i64 0, AV.b true]) h)
                                  (onB (decide (a = 17)) (Post (AV.tup [AV.i IntKind.i64 0, AV.i IntKind.i64 16777215, AV.i IntKind.i64 0, AV.b true]) h)
                                    (onB (decide (a = 18)) (Post (AV.tup [AV.i IntKind.i64 64, AV.i IntKind.i64 64000, AV.i IntKind.i64 1024, AV.b true]) h)
                                      (Post (AV.tup [AV.i IntKind.i64 0, AV.i IntKind.i64 0, AV.i IntKind.i64 0, AV.b false]) h))))))
                            (onB (decide (a = 14)) (Post (AV.tup [AV.i IntKind.i64 0, AV.i IntKind.i64 1073741824, AV.i IntKind.i64 0, AV.b true]) h)
                              (onB (decide (a = 15)) (Post (AV.tup [AV.i IntKind.i64 0, AV.i IntKind.i64 4, AV.i IntKind.i64 0, AV.b true]) h)
                                (onB (decide (a = 16)) (Post (AV.tup [AV.i IntKind.i64 0, AV.i IntKind.i64 3, AV.i IntKind.i64 0, AV.b true]) h)
                                  (onB (decide (a = 17)) (Post (AV.tup [AV.i IntKind.i64 0, AV.i IntKind.i64 16777215, AV.i IntKind.i64 0, AV.b true]) h)
                                    (onB (decide (a = 18)) (Post (AV.tup [AV.i IntKind.i64 64, AV.i IntKind.i64 64000, AV.i IntKind.i64 1024, AV.b true]) h)
                                      (Post (AV.tup [AV.i IntKind.i64 0, AV.i IntKind.i64 0, AV.i IntKind.i64 0, AV.b false]) h))))))))))))))))))
    (onB (decide (a = 2)) (Post (AV.tup [AV.i IntKind.i64 0, AV.i IntKind.i64 1, AV.i IntKind.i64 0, AV.b true]) h)
      (onB (decide (a = 3))
        (onB (decide (a = 3)) (Post (AV.tup [AV.i IntKind.i64 (-1), AV.i IntKind.i64 1099511627776, AV.i IntKind.i64 (-1), AV.b true]) h)
          (onB (decide (a = 5))
            (onB (decide (a = 5)) (Post (AV.tup [AV.i IntKind.i64 0, AV.i IntKind.i64 1099511627776, AV.i IntKind.i64 0, AV.b true]) h)
              (onB (decide (a = 9)) (Post (AV.tup [AV.i IntKind.i64 0, AV.i IntKind.i64 1048576, AV.i IntKind.i64 0, AV.b true]) h)
                (onB (decide (a = 10)) (Post (AV.tup [AV.i IntKind.i64 0, AV.i IntKind.i64 1048576, AV.i IntKind.i64 1, AV.b true]) h)
                  (onB (decide (a = 12))
                    (onB (decide (a = 12)) (Post (AV.tup [AV.i IntKind.i64 0, AV.i IntKind.i64 1073741824, AV.i IntKind.i64 0, AV.b true]) h)
                      (onB (decide (a = 15)) (Post (AV.tup [AV.i IntKind.i64 0, AV.i IntKind.i64 4, AV.i IntKind.i64 0, AV.b true]) h)
                        (onB (decide (a = 16)) (Post (AV.tup [AV.i IntKind.i64 0, AV.i IntKind.i64 3, AV.i IntKind.i64 0, AV.b true]) h)
                          (onB (decide (a = 17)) (Post (AV.tup [AV.i IntKind.i64 0, AV.i IntKind.i64 16777215, AV.i IntKind.i64 0, AV.b true]) h)
                            (onB (decide (a = 18)) (Post (AV.tup [AV.i IntKind.i64 64, AV.i IntKind.i64 64000, AV.i IntKind.i64 1024, AV.b true]) h)
                              (Post (AV.tup [AV.i IntKind.i64 0, AV.i IntKind.i64 0, AV.i IntKind.i64 0, AV.b false]) h))))))
                    (onB (decide (a = 13))
                      (onB (decide (a = 13)) (Post (AV.tup [AV.i IntKind.i64 0, AV.i IntKind.i64 1073741824, AV.i IntKind.i64 0, AV.b true]) h)
                        (onB (decide (a = 15)) (Post (AV.tup [AV.i IntKind.i64 0, AV.i IntKind.i64 4, AV.i IntKind.i64 0, AV.b true]) h)
                          (onB (decide (a = 16)) (Post (AV.tup [AV.i IntKind.i64 0, AV.i IntKind.i64 3, AV.i IntKind.i64 0, AV.b true]) h)
                            (onB (decide (a = 17)) (Post (AV.tup [AV.i IntKind.i64 0, AV.i IntKind.i64 16777215, AV.i IntKind.i64 0, AV.b true]) h)
                              (onB (decide (a = 18)) (Post (AV.tup [AV.i IntKind.i64 64, AV.i IntKind.i64 64000, AV.i IntKind.i64 1024, AV.b true]) h)
                                (Post (AV.tup [AV.i IntKind.i64 0, AV.i IntKind.i64 0, AV.i IntKind.i64 0, AV.b false]) h))))))
                      (onB (decide (a = 14)) (Post (AV.tup [AV.i IntKind.i64 0, AV.i IntKind.i64 1073741824, AV.i IntKind.i64 0, AV.b true]) h)
                        (onB (decide (a = 15)) (Post (AV.tup [AV.i IntKind.i64 0, AV.i IntKind.i64 4, AV.i IntKind.i64 0, AV.b true]) h)
                          (onB (decide (a = 16)) (Post (AV.tup [AV.i IntKind.i64 0, AV.i IntKind.i64 3, AV.i IntKind.i64 0, AV.b true]) h)
                            (onB (decide (a = 17)) (Post (AV.tup [AV.i IntKind.i64 0, AV.i IntKind.i64 16777215, AV.i IntKind.i64 0, AV.b true]) h)
                              (onB (decide (a = 18)) (Post (AV.tup [AV.i IntKind.i64 64, AV.i IntKind.i64 64000, AV.i IntKind.i64 1024, AV.b true]) h)
                                (Post (AV.tup [AV.i IntKind.i64 0, AV.i IntKind.i64 0, AV.i IntKind.i64 0, AV.b false]) h)))))))))))
            (onB (decide (a = 7)) (Post (AV.tup [AV.i IntKind.i64 0, AV.i IntKind.i64 1099511627776, AV.i IntKind.i64 0, AV.b true]) h)
              (onB (decide (a = 9)) (Post (AV.tup [AV.i IntKind.i64 0, AV.i IntKind.i64 1048576, AV.i IntKind.i64 0, AV.b true]) h)
                (onB (decide (a = 10)) (Post (AV.tup [AV.i IntKind.i64 0, AV.i IntKind.i64 1048576, AV.i IntKind.i64 1, AV.b true]) h)
                  (onB (decide (a = 12))
                    (onB (decide (a = 12)) (Post (AV.tup [AV.i IntKind.i64 0, AV.i IntKind.i64 1073741824, AV.i IntKind.i64 0, AV.b true]) h)
                      (onB (decide (a = 15)) (Post (AV.tup [AV.i IntKind.i64 0, AV.i IntKind.i64 4, AV.i IntKind.i64 0, AV.b true]) h)
                        (onB (decide (a = 16)) (Post (AV.tup [AV.i IntKind.i64 0, AV.i IntKind.i64 3, AV.i IntKind.i64 0, AV.b true]) h)
                          (onB (decide (a = 17)) (Post (AV.tup [AV.i IntKind.i64 0, AV.i IntKind.i64 16777215, AV.i IntKind.i64 0, AV.b true]) h)
                            (onB (decide (a = 18)) (Post (AV.tup [AV.i IntKind.i64 64, AV.i IntKind.i64 64000, AV.i IntKind.i64 1024, AV.b true]) h)
                              (Post (AV.tup [AV.i IntKind.i64 0, AV.i IntKind.i64 0, AV.i IntKind.i64 0, AV.b false]) h))))))
                    (onB (decide (a = 13))
                      (onB (decide (a = 13)) (Post (AV.tup [AV.i IntKind.i64 0, AV.i IntKind.i64 1073741824, AV.i IntKind.i64 0, AV.b true]) h)
                        (onB (decide (a = 15)) (Post (AV.tup [AV.i IntKind.i64 0, AV.i IntKind.i64 4, AV.i IntKind.i64 0, AV.b true]) h)
                          (onB (decide (a = 16)) (Post (AV.tup [AV.i IntKind.i64 0, AV.i IntKind.i64 3, AV.i IntKind.i64 0, AV.b true]) h)
                            (onB (decide (a = 17)) (Post (AV.tup [AV.i IntKind.i64 0, AV.i IntKind.i64 16777215, AV.i IntKind.i64 0, AV.b true]) h)
                              (onB (decide (a = 18)) (Post (AV.tup [AV.i IntKind.i64 64, AV.i IntKind.i64 64000, AV.i IntKind.i64 1024, AV.b true]) h)
                                (Post (AV.tup [AV.i IntKind.i64 0, AV.i IntKind.i64 0, AV.i IntKind.i64 0, AV.b false]) h))))))
                      (onB (decide (a = 14)) (Post (AV.tup [AV.i IntKind.i64 0, AV.i IntKind.i64 1073741824, AV.i IntKind.i64 0, AV.b true]) h)
                        (onB (decide (a = 15)) (Post (AV.tup [AV.i IntKind.i64 0, AV.i IntKind.i64 4, AV.i IntKind.i64 0, AV.b true]) h)
                          (onB (decide (a = 16)) (Post (AV.tup [AV.i IntKind.i64 0, AV.i IntKind.i64 3, AV.i IntKind.i64 0, AV.b true]) h)
                            (onB (decide (a = 17)) (Post (AV.tup [AV.i IntKind.i64 0, AV.i IntKind.i64 16777215, AV.i IntKind.i64 0, AV.b true]) h)
                              (onB (decide (a = 18)) (Post (AV.tup [AV.i IntKind.i64 64, AV.i IntKind.i64 64000, AV.i IntKind.i64 1024, AV.b true]) h)
                                (Post (AV.tup [AV.i IntKind.i64 0, AV.i IntKind.i64 0, AV.i IntKind.i64 0, AV.b false]) h)))))))))))))
        (onB (decide (a = 4))
          (onB (decide (a = 4)) (Post (AV.tup [AV.i IntKind.i64 (-1), AV.i IntKind.i64 1099511627776, AV.i IntKind.i64 (-1), AV.b true]) h)
            (onB (decide (a = 5))
              (onB (decide (a = 5)) (Post (AV.tup [AV.i IntKind.i64 0, AV.i IntKind.i64 1099511627776, AV.i IntKind.i64 0, AV.b true]) h)
                (onB (decide (a = 9)) (Post (AV.tup [AV.i IntKind.i64 0, AV.i IntKind.i64 1048576, AV.i IntKind.i64 0, AV.b true]) h)
                  (onB (decide (a = 10)) (Post (AV.tup [AV.i IntKind.i64 0, AV.i IntKind.i64 1048576, AV.i IntKind.i64 1, AV.b true]) h)
                    (onB (decide (a = 12))
                      (onB (decide (a = 12)) (Post (AV.tup [AV.i IntKind.i64 0, AV.i IntKind.i64 1073741824, AV.i IntKind.i64 0, AV.b true]) h)
                        (onB (decide (a = 15)) (Post (AV.tup [AV.i IntKind.i64 0, AV.i IntKind.i64 4, AV.i IntKind.i64 0, AV.b true]) h)
                          (onB (decide (a = 16)) (Post (AV.tup [AV.i IntKind.i64 0, AV.i IntKind.i64 3, AV.i IntKind.i64 0, AV.b true]) h)
                            (onB (decide (a = 17)) (Post (AV.tup [AV.i IntKind.i64 0, AV.i IntKind.i64 16777215, AV.i IntKind.i64 0, AV.b true]) h)
                              (onB (decide (a = 18)) (Post (AV.tup [AV.i IntKind.i64 64, AV.i IntKind.i64 64000, AV.i IntKind.i64 1024, AV.b true]) h)
                                (Post (AV.tup [AV.i IntKind.i64 0, AV.i IntKind.i64 0, AV.i IntKind.i64 0, AV.b false]) h))))))
                      (onB (decide (a = 13))
                        (onB (decide (a = 13)) (Post (AV.tup [AV.i IntKind.i64 0, AV.i IntKind.i64 1073741824, AV.i IntKind.i64 0, AV.b true]) h)
                          (onB (decide (a = 15)) (Post (AV.tup [AV.i IntKind.i64 0, AV.i IntKind.i64 4, AV.i IntKind.i64 0, AV.b true]) h)
                            (onB (decide (a = 16)) (Post (AV.tup [AV.i IntKind.i64 0, AV.i IntKind.i64 3, AV.i IntKind.i64 0, AV.b true]) h)
                              (onB (decide (a = 17)) (Post (AV.tup [AV.i IntKind.i64 0, AV.i IntKind.i64 16777215, AV.i IntKind.i64 0, AV.b true]) h)
                                (onB (decide (a = 18)) (Post (AV.tup [AV.i IntKind.i64 64, AV.i IntKind.i64 64000, AV.i IntKind.i64 1024, AV.b true]) h)
                                  (Post (AV.tup [AV.i IntKind.i64 0, AV.i IntKind.i64 0, AV.i IntKind.i64 0, AV.b false]) h))))))
                        (onB (decide (a = 14)) (Post (AV.tup [AV.i IntKind.i64 0, AV.i IntKind.i64 1073741824, AV.i IntKind.i64 0, AV.b true]) h)
                          (onB (decide (a = 15)) (Post (AV.tup [AV.i IntKind.i64 0, AV.i IntKind.i64 4, AV.i IntKind.i64 0, AV.b true]) h)
                            (onB (decide (a = 16)) (Post (AV.tup [AV.i IntKind.i64 0, AV.i IntKind.i64 3, AV.i IntKind.i64 0, AV.b true]) h)
                              (onB (decide (a = 17)) (Post (AV.tup [AV.i IntKind.i64 0, AV.i IntKind.i64 16777215, AV.i IntKind.i64 0, AV.b true]) h)
                                (onB (decide (a = 18)) (Post (AV.tup [AV.i IntKind.i64 64, AV.i IntKind.i64 64000, AV.i IntKind.i64 1024, AV.b true]) h)
                                  (Post (AV.tup [AV.i IntKind.i64 0, AV.i IntKind.i64 0, AV.i IntKind.i64 0, AV.b false]) h)))))))))))
              (onB (decide (a = 7)) (Post (AV.tup [AV.i IntKind.i64 0, AV.i IntKind.i64 1099511627776, AV.i IntKind.i64 0, AV.b true]) h)
                (onB (decide (a = 9)) (Post (AV.tup [AV.i IntKind.i64 0, AV.i IntKind.i64 1048576, AV.i IntKind.i64 0, AV.b true]) h)
                  (onB (decide (a = 10)) (Post (AV.tup [AV.i IntKind.i64 0, AV.i IntKind.i64 1048576, AV.i IntKind.i64 1, AV.b true]) h)
                    (onB (decide (a = 12))
                      (onB (decide (a = 12)) (Post (AV.tup [AV.i IntKind.i64 0, AV.i IntKind.i64 1073741824, AV.i IntKind.i64 0, AV.b true]) h)
                        (onB (decide (a = 15)) (Post (AV.tup [AV.i IntKind.i64 0, AV.i IntKind.i64 4, AV.i IntKind.i64 0, AV.b true]) h)
                          (onB (decide (a = 16)) (Post (AV.tup [AV.i IntKind.i64 0, AV.i IntKind.i64 3, AV.i IntKind.i64 0, AV.b true]) h)
                            (onB (decide (a = 17)) (Post (AV.tup [AV.i IntKind.i64 0, AV.i IntKind.i64 16777215, AV.i IntKind.i64 0, AV.b true]) h)
                              (onB (decide (a = 18)) (Post (AV.tup [AV.i IntKind.i64 64, AV.i IntKind.i64 64000, AV.i IntKind.i64 1024, AV.b true]) h)
                                (Post (AV.tup [AV.i IntKind.i64 0, AV.i IntKind.i64 0, AV.i IntKind.i64 0, AV.b false]) h))))))
                      (onB (decide (a = 13))
                        (onB (decide (a = 13)) (Post (AV.tup [AV.i IntKind.i64 0, AV.i IntKind.i64 1073741824, AV.i IntKind.i64 0, AV.b true]) h)
                          (onB (decide (a = 15)) (Post (AV.tup [AV.i IntKind.i64 0, AV.i IntKind.i64 4, AV.i IntKind.i64 0, AV.b true]) h)
                            (onB (decide (a = 16)) (Post (AV.tup [AV.i IntKind.i64 0, AV.i IntKind.i64 3, AV.i IntKind.i64 0, AV.b true]) h)
                              (onB (decide (a = 17)) (Post (AV.tup [AV.i IntKind.i64 0, AV.i IntKind.i64 16777215, AV.i IntKind.i64 0, AV.b true]) h)
                                (onB (decide (a = 18)) (Post (AV.tup [AV.i IntKind.i64 64, AV.i IntKind.i64 64000, AV.i IntKind.i64 1024, AV.b true]) h)
                                  (Post (AV.tup [AV.i IntKind.i64 0, AV.i IntKind.i64 0, AV.i IntKind.i64 0, AV.b false]) h))))))
                        (onB (decide (a = 14)) (Post (AV.tup [AV.i IntKind.i64 0, AV.i IntKind.i64 1073741824, AV.i IntKind.i64 0, AV.b true]) h)
                          (onB (decide (a = 15)) (Post (AV.tup [AV.i IntKind.i64 0, AV.i IntKind.i64 4, AV.i IntKind.i64 0, AV.b true]) h)
                            (onB (decide (a = 16)) (Post (AV.tup [AV.i IntKind.i64 0, AV.i IntKind.i64 3, AV.i IntKind.i64 0, AV.b true]) h)
                              (onB (decide (a = 17)) (Post (AV.tup [AV.i IntKind.i64 0, AV.i IntKind.i64 16777215, AV.i IntKind.i64 0, AV.b true]) h)
                                (onB (decide (a = 18)) (Post (AV.tup [AV.i IntKind.i64 64, AV.i IntKind.i64 64000, AV.i IntKind.i64 1024, AV.b true]) h)
                                  (Post (AV.tup [AV.i IntKind.i64 0, AV.i IntKind.i64 0, AV.i IntKind.i64 0, AV.b false]) h)))))))))))))
          (onB (decide (a = 6))
            (onB (decide (a = 6)) (Post (AV.tup [AV.i IntKind.i64 (-1), AV.i IntKind.i64 1099511627776, AV.i IntKind.i64 (-1), AV.b true]) h)
              (onB (decide (a = 5))
                (onB (decide (a = 5)) (Post (AV.tup [AV.i IntKind.i64 0, AV.i IntKind.i64 1099511627776, AV.i IntKind.i64 0, AV.b true]) h)
                  (onB (decide (a = 9)) (Post (AV.tup [AV.i IntKind.i64 0, AV.i IntKind.i64 1048576, AV.i IntKind.i64 0, AV.b true]) h)
                    (onB (decide (a = 10)) (Post (AV.tup [AV.i IntKind.i64 0, AV.i IntKind.i64 1048576, AV.i IntKind.i64 1, AV.b true]) h)
                      (onB (decide (a = 12))
                        (onB (decide (a = 12)) (Post (AV.tup [AV.i IntKind.i64 0, AV.i IntKind.i64 1073741824, AV.i IntKind.i64 0, AV.b true]) h)
                          (onB (decide (a = 15)) (Post (AV.tup [AV.i IntKind.i64 0, AV.i IntKind.i64 4, AV.i IntKind.i64 0, AV.b true]) h)
                            (onB (decide (a = 16)) (Post (AV.tup [AV.i IntKind.i64 0, AV.i IntKind.i64 3, AV.i IntKind.i64 0, AV.b true]) h)
                              (onB (decide (a = 17)) (Post (AV.tup [AV.i IntKind.i64 0, AV.i IntKind.i64 16777215, AV.i IntKind.i64 0, AV.b true]) h)
                                (onB (decide (a = 18)) (Post (AV.tup [AV.i IntKind.i64 64, AV.i IntKind.i64 64000, AV.i IntKind.i64 1024, AV.b true]) h)
                                  (Post (AV.tup [AV.i IntKind.i64 0, AV.i IntKind.i64 0, AV.i IntKind.i64 0, AV.b false]) h))))))
                        (onB (decide (a = 13))
                          (onB (decide (a = 13)) (Post (AV.tup [AV.i IntKind.i64 0, AV.i IntKind.i64 1073741824, AV.i IntKind.i64 0, AV.b true]) h)
                            (onB (decide (a = 15)) (Post (AV.tup [AV.i IntKind.i64 0, AV.i IntKind.i64 4, AV.i IntKind.i64 0, AV.b true]) h)
                              (onB (decide (a = 16)) (Post (AV.tup [AV.i IntKind.i64 0, AV.i IntKind.i64 3, AV.i IntKind.i64 0, AV.b true]) h)
                                (onB (decide (a = 17)) (Post (AV.tup [AV.i IntKind.i64 0, AV.i IntKind.i64 16777215, AV.i IntKind.i64 0, AV.b true]) h)
                                  (onB (decide (a = 18)) (Post (AV.tup [AV.i IntKind.i64 64, AV.i IntKind.i64 64000, AV.i IntKind.i64 1024, AV.b true]) h)
                                    (Post (AV.tup [AV.i IntKind.i64 0, AV.i IntKind.i64 0, AV.i IntKind.i64 0, AV.b false]) h))))))
                          (onB (decide (a = 14)) (Post (AV.tup [AV.i IntKind.i64 0, AV.i IntKind.i64 1073741824, AV.i IntKind.i64 0, AV.b true]) h)
                            (onB (decide (a = 15)) (Post (AV.tup [AV.i IntKind.i64 0, AV.i IntKind.i64 4, AV.i IntKind.i64 0, AV.b true]) h)
                              (onB (decide (a = 16)) (Post (AV.tup [AV.i IntKind.i64 0, AV.i IntKind.i64 3, AV.i IntKind.i64 0, AV.b true]) h)
                                (onB (decide (a = 17)) (Post (AV.tup [AV.i IntKind.i64 0, AV.i IntKind.i64 16777215, AV.i IntKind.i64 0, AV.b true]) h)
                                  (onB (decide (a = 18)) (Post (AV.tup [AV.i IntKind.i64 64, AV.i IntKind.i64 64000, AV.i IntKind.i64 1024, AV.b true]) h)
                                    (Post (AV.tup [AV.i IntKind.i64 0, AV.i IntKind.i64 0, AV.i IntKind.i64 0, AV.b false]) h)))))))))))
                (onB (decide (a = 7)) (Post (AV.tup [AV.i IntKind.i64 0, AV.i IntKind.i64 1099511627776, AV.i IntKind.i64 0, AV.b true]) h)
                  (onB (decide (a = 9)) (Post (AV.tup [AV.i IntKind.i64 0, AV.i IntKind.i64 1048576, AV.i IntKind.i64 0, AV.b true]) h)
                    (onB (decide (a = 10)) (Post (AV.tup [AV.i IntKind.i64 0, AV.i IntKind.i64 1048576, AV.i IntKind.i64 1, AV.b true]) h)
                      (onB (decide (a = 12))
                        (onB (decide (a = 12)) (Post (AV.tup [AV.i IntKind.i64 0, AV.i IntKind.i64 1073741824, AV.i IntKind.i64 0, AV.b true]) h)
                          (onB (decide (a = 15)) (Post (AV.tup [AV.i IntKind.i64 0, AV.i IntKind.i64 4, AV.i IntKind.i64 0, AV.b true]) h)
                            (onB (decide (a = 16)) (Post (AV.tup [AV.i IntKind.i64 0, AV.i IntKind.i64 3, AV.i IntKind.i64 0, AV.b true]) h)
                              (onB (decide (a = 17)) (Post (AV.tup [AV.i IntKind.i64 0, AV.i IntKind.i64 16777215, AV.i IntKind.i64 0, AV.b true]) h)
                                (onB (decide (a = 18)) (Post (AV.tup [AV.i IntKind.i64 64, AV.i IntKind.i64 64000, AV.i IntKind.i64 1024, AV.b true]) h)
                                  (Post (AV.tup [AV.i IntKind.i64 0, AV.i IntKind.i64 0, AV.i IntKind.i64 0, AV.b false]) h))))))
                        (onB (decide (a = 13))
                          (onB (decide (a = 13)) (Post (AV.tup [AV.i IntKind.i64 0, AV.i IntKind.i64 1073741824, AV.i IntKind.i64 0, AV.b true]) h)
                            (onB (decide (a = 15)) (Post (AV.tup [AV.i IntKind.i64 0, AV.i IntKind.i64 4, AV.i IntKind.i64 0, AV.b true]) h)
                              (onB (decide (a = 16)) (Post (AV.tup [AV.i IntKind.i64 0, AV.i IntKind.i64 3, AV.i IntKind.i64 0, AV.b true]) h)
                                (onB (decide (a = 17)) (Post (AV.tup [AV.i IntKind.i64 0, AV.i IntKind.i64 16777215, AV.i IntKind.i64 0, AV.b true]) h)
                                  (onB (decide (a = 18)) (Post (AV.tup [AV.i IntKind.i64 64, AV.i IntKind.i64 64000, AV.i IntKind.i64 1024, AV.b true]) h)
                                    (Post (AV.tup [AV.i IntKind.i64 0, AV.i IntKind.i64 0, AV.i IntKind.i64 0, AV.b false]) h))))))
                          (onB (decide (a = 14)) (Post (AV.tup [AV.i IntKind.i64 0, AV.i IntKind.i64 1073741824, AV.i IntKind.i64 0, AV.b true]) h)
                            (onB (decide (a = 15)) (Post (AV.tup [AV.i IntKind.i64 0, AV.i IntKind.i64 4, AV.i IntKind.i64 0, AV.b true]) h)
                              (onB (decide (a = 16)) (Post (AV.tup [AV.i IntKind.i64 0, AV.i IntKind.i64 3, AV.i IntKind.i64 0, AV.b true]) h)
                                (onB (decide (a = 17)) (Post (AV.tup [AV.i IntKind.i64 0, AV.i IntKind.i64 16777215, AV.i IntKind.i64 0, AV.b true]) h)
                                  (onB (decide (a = 18)) (Post (AV.tup [AV.i IntKind.i64 64, AV.i IntKind.i64 64000, AV.i IntKind.i64 1024, AV.b true]) h)
                                    (Post (AV.tup [AV.i IntKind.i64 0, AV.i IntKind.i64 0, AV.i IntKind.i64 0, AV.b false]) h)))))))))))))
            (onB (decide (a = 8))
              (onB (decide (a = 8)) (Post (AV.tup [AV.i IntKind.i64 (-1), AV.i IntKind.i64 1099511627776, AV.i IntKind.i64 (-1), AV.b true]) h)
                (onB (decide (a = 5))
                  (onB (decide (a = 5)) (Post (AV.tup [AV.i IntKind.i64 0, AV.i IntKind.i64 1099511627776, AV.i IntKind.i64 0, AV.b true]) h)
                    (onB (decide (a = 9)) (Post (AV.tup [AV.i IntKind.i64 0, AV.i IntKind.i64 1048576, AV.i IntKind.i64 0, AV.b true]) h)
                      (onB (decide (a = 10)) (Post (AV.tup [AV.i IntKind.i64 0, AV.i IntKind.i64 1048576, AV.i IntKind.i64 1, AV.b true]) h)
                        (onB (decide (a = 12))
                          (onB (decide (a = 12)) (Post (AV.tup [AV.i IntKind.i64 0, AV.i IntKind.i64 1073741824, AV.i IntKind.i64 0, AV.b true]) h)
                            (onB (decide (a = 15)) (Post (AV.tup [AV.i IntKind.i64 0, AV.i IntKind.i64 4, AV.i IntKind.i64 0, AV.b true]) h)
                              (onB (decide (a = 16)) (Post (AV.tup [AV.i IntKind.i64 0, AV.i IntKind.i64 3, AV.i IntKind.i64 0, AV.b true]) h)
                                (onB (decide (a = 17)) (Post (AV.tup [AV.i IntKind.i64 0, AV.i IntKind.i64 16777215, AV.i IntKind.i64 0, AV.b true]) h)
                                  (onB (decide (a = 18)) (Post (AV.tup [AV.i IntKind.i64 64, AV.i IntKind.i64 64000, AV.i IntKind.i64 1024, AV.b true]) h)
                                    (Post (AV.tup [AV.i IntKind.i64 0, AV.i IntKind.i64 0, AV.i IntKind.i64 0, AV.b false]) h))))))
                          (onB (decide (a = 13))
                            (onB (decide (a = 13)) (Post (AV.tup [AV.i IntKind.i64 0, AV.i IntKind.i64 1073741824, AV.i IntKind.i64 0, AV.b true]) h)
                              (onB (decide (a = 15)) (Post (AV.tup [AV.i IntKind.i64 0, AV.i IntKind.i64 4, AV.i IntKind.i64 0, AV.b true]) h)
                                (onB (decide (a = 16)) (Post (AV.tup [AV.i IntKind.i64 0, AV.i IntKind.i64 3, AV.i IntKind.i64 0, AV.b true]) h)
                                  (onB (decide (a = 17)) (Post (AV.tup [AV.i IntKind.i64 0, AV.i IntKind.i64 16777215, AV.i IntKind.i64 0, AV.b true]) h)
                                    (onB (decide (a = 18)) (Post (AV.tup [AV.i IntKind.i64 64, AV.i IntKind.i64 64000, AV.i IntKind.i64 1024, AV.b true]) h)
                                      (Post (AV.tup [AV.i IntKind.i64 0, AV.i IntKind.i64 0, AV.i IntKind.i64 0, AV.b false]) h))))))
                            (onB (decide (a = 14)) (Post (AV.tup [AV.i IntKind.i64 0, AV.i IntKind.i64 1073741824, AV.i IntKind.i64 0, AV.b true]) h)
                              (onB (decide (a = 15)) (Post (AV.tup [AV.i IntKind.i64 0, AV.i IntKind.i64 4, AV.i IntKind.i64 0, AV.b true]) h)
                                (onB (decide (a = 16)) (Post (AV.tup [AV.i IntKind.i64 0, AV.i IntKind.i64 3, AV.i IntKind.i64 0, AV.b true]) h)
                                  (onB (decide (a = 17)) (Post (AV.tup [AV.i IntKind.i64 0, AV.i IntKind.i64 16777215, AV.i IntKind.i64 0, AV.b true]) h)
                                    (onB (decide (a = 18)) (Post (AV.tup [AV.i IntKind.i64 64, AV.i IntKind.i64 64000, AV.i IntKind.i64 1024, AV.b true]) h)
                                      (Post (AV.tup [AV.i IntKind.i64 0, AV.i IntKind.i64 0, AV.i IntKind.i64 0, AV.b false]) h)))))))))))
                  (onB (decide (a = 7)) (Post (AV.tup [AV.i IntKind.i64 0, AV.i IntKind.i64 1099511627776, AV.i IntKind.i64 0, AV.b true]) h)
                    (onB (decide (a = 9)) (Post (AV.tup [AV.i IntKind.i64 0, AV.i IntKind.i64 1048576, AV.i IntKind.i64 0, AV.b true]) h)
                      (onB (decide (a = 10)) (Post (AV.tup [AV.i IntKind.i64 0, AV.i IntKind.i64 1048576, AV.i IntKind.i64 1, AV.b true]) h)
                        (onB (decide (a = 12))
                          (onB (decide (a = 12)) (Post (AV.tup [AV.i IntKind.i64 0, AV.i IntKind.i64 1073741824, AV.i IntKind.i64 0, AV.b true]) h)
                            (onB (decide (a = 15)) (Post (AV.tup [AV.i IntKind.i64 0, AV.i IntKind.i64 4, AV.i IntKind.i64 0, AV.b true]) h)
                              (onB (decide (a = 16)) (Post (AV.tup [AV.i IntKind.i64 0, AV.i IntKind.i64 3, AV.i IntKind.i64 0, AV.b true]) h)
                                (onB (decide (a = 17)) (Post (AV.tup [AV.i IntKind.i64 0, AV.i IntKind.i64 16777215, AV.i IntKind.i64 0, AV.b true]) h)
                                  (onB (decide (a = 18)) (Post (AV.tup [AV.i IntKind.i64 64, AV.i IntKind.i64 64000, AV.i IntKind.i64 1024, AV.b true]) h)
                                    (Post (AV.tup [AV.i IntKind.i64 0, AV.i IntKind.i64 0, AV.i IntKind.i64 0, AV.b false]) h))))))
                          (onB (decide (a = 13))
                            (onB (decide (a = 13)) (Post (AV.tup [AV.i IntKind.i64 0, AV.i IntKind.i64 1073741824, AV.i IntKind.i64 0, AV.b true]) h)
                              (onB (decide (a = 15)) (Post (AV.tup [AV.i IntKind.i64 0, AV.i IntKind.i64 4, AV.i IntKind.i64 0, AV.b true]) h)
                                (onB (decide (a = 16)) (Post (AV.tup [AV.i IntKind.i64 0, AV.i IntKind.i64 3, AV.i IntKind.i64 0, AV.b true]) h)
                                  (onB (decide (a = 17)) (Post (AV.tup [AV.i IntKind.i64 0, AV.i IntKind.i64 16777215, AV.i IntKind.i64 0, AV.b true]) h)
                                    (onB (decide (a = 18)) (Post (AV.tup [AV.i IntKind.i64 64, AV.i IntKind.i64 64000, AV.i IntKind.i64 1024, AV.b true]) h)
                                      (Post (AV.tup [AV.i IntKind.i64 0, AV.i IntKind.i64 0, AV.i IntKind.i64 0, AV.b false]) h))))))
                            (onB (decide (a = 14)) (Post (AV.tup [AV.i IntKind.i64 0, AV.i IntKind.i64 1073741824, AV.i IntKind.i64 0, AV.b true]) h)
                              (onB (decide (a = 15)) (Post (AV.tup [AV.i IntKind.i64 0, AV.i IntKind.i64 4, AV.i IntKind.i64 0, AV.b true]) h)
                                (onB (decide (a = 16)) (Post (AV.tup [AV.i IntKind.i64 0, AV.i IntKind.i64 3, AV.i IntKind.i64 0, AV.b true]) h)
                                  (onB (decide (a = 17)) (Post (AV.tup [AV.i IntKind.i64 0, AV.i IntKind.i64 16777215, AV.i IntKind.i64 0, AV.b true]) h)
                                    (onB (decide (a = 18)) (Post (AV.tup [AV.i IntKind.i64 64, AV.i IntKind.i64 64000, AV.i IntKind.i64 1024, AV.b true]) h)
                                      (Post (AV.tup [AV.i IntKind.i64 0, AV.i IntKind.i64 0, AV.i IntKind.i64 0, AV.b false]) h)))))))))))))
              (onB (decide (a = 11)) (Post (AV.tup [AV.i IntKind.i64 (-1), AV.i IntKind.i64 1099511627776, AV.i IntKind.i64 (-1), AV.b true]) h)
                (onB (decide (a = 5))
                  (onB (decide (a = 5)) (Post (AV.tup [AV.i IntKind.i64 0, AV.i IntKind.i64 1099511627776, AV.i IntKind.i64 0, AV.b true]) h)
                    (onB (decide (a = 9)) (Post (AV.tup [AV.i IntKind.i64 0, AV.i IntKind.i64 1048576, AV.i IntKind.i64 0, AV.b true]) h)
                      (onB (decide (a = 10)) (Post (AV.tup [AV.i IntKind.i64 0, AV.i IntKind.i64 1048576, AV.i IntKind.i64 1, AV.b true]) h)
                        (onB (decide (a = 12))
                          (onB (decide (a = 12)) (Post (AV.tup [AV.i IntKind.i64 0, AV.i IntKind.i64 1073741824, AV.i IntKind.i64 0, AV.b true]) h)
                            (onB (decide (a = 15)) (Post (AV.tup [AV.i IntKind.i64 0, AV.i IntKind.i64 4, AV.i IntKind.i64 0, AV.b true]) h)
                              (onB (decide (a = 16)) (Post (AV.tup [AV.i IntKind.i64 0, AV.i IntKind.i64 3, AV.i IntKind.i64 0, AV.b true]) h)
                                (onB (decide (a = 17)) (Post (AV.tup [AV.i IntKind.i64 0, AV.i IntKind.i64 16777215, AV.i IntKind.i64 0, AV.b true]) h)
                                  (onB (decide (a = 18)) (Post (AV.tup [AV.i IntKind.i64 64, AV.i IntKind.i64 64000, AV.i IntKind.i64 1024, AV.b true]) h)
                                    (Post (AV.tup [AV.i IntKind.i64 0, AV.i IntKind.i64 0, AV.i IntKind.i64 0, AV.b false]) h))))))
                          (onB (decide (a = 13))
                            (onB (decide (a = 13)) (Post (AV.tup [AV.i IntKind.i64 0, AV.i IntKind.i64 1073741824, AV.i IntKind.i64 0, AV.b true]) h)
                              (onB (decide (a = 15)) (Post (AV.tup [AV.i IntKind.i64 0, AV.i IntKind.i64 4, AV.i IntKind.i64 0, AV.b true]) h)
                                (onB (decide (a = 16)) (Post (AV.tup [AV.i IntKind.i64 0, AV.i IntKind.i64 3, AV.i IntKind.i64 0, AV.b true]) h)
                                  (onB (decide (a = 17)) (Post (AV.tup [AV.i IntKind.i64 0, AV.i IntKind.i64 16777215, AV.i IntKind.i64 0, AV.b true]) h)
                                    (onB (decide (a = 18)) (Post (AV.tup [AV.i IntKind.i64 64, AV.i IntKind.i64 64000, AV.i IntKind.i64 1024, AV.b true]) h)
                                      (Post (AV.tup [AV.i IntKind.i64 0, AV.i IntKind.i64 0, AV.i IntKind.i64 0, AV.b false]) h))))))
                            (onB (decide (a = 14)) (Post (AV.tup [AV.i IntKind.i64 0, AV.i IntKind.i64 1073741824, AV.i IntKind.i64 0, AV.b true]) h)
                              (onB (decide (a = 15)) (Post (AV.tup [AV.i IntKind.i64 0, AV.i IntKind.i64 4, AV.i IntKind.i64 0, AV.b true]) h)
                                (onB (decide (a = 16)) (Post (AV.tup [AV.i IntKind.i64 0, AV.i IntKind.i64 3, AV.i IntKind.i64 0, AV.b true]) h)
                                  (onB (decide (a = 17)) (Post (AV.tup [AV.i IntKind.i64 0, AV.i IntKind.i64 16777215, AV.i IntKind.i64 0, AV.b true]) h)
                                    (onB (decide (a = 18)) (Post (AV.tup [AV.i IntKind.i64 64, AV.i IntKind.i64 64000, AV.i IntKind.i64 1024, AV.b true]) h)
                                      (Post (AV.tup [AV.i IntKind.i64 0, AV.i IntKind.i64 0, AV.i IntKind.i64 0, AV.b false]) h)))))))))))
                  (onB (decide (a = 7)) (Post (AV.tup [AV.i IntKind.i64 0, AV.i IntKind.i64 1099511627776, AV.i IntKind.i64 0, AV.b true]) h)
                    (onB (decide (a = 9)) (Post (AV.tup [AV.i IntKind.i64 0, AV.i IntKind.i64 1048576, AV.i IntKind.i64 0, AV.b true]) h)
                      (onB (decide (a = 10)) (Post (AV.tup [AV.i IntKind.i64 0, AV.i IntKind.i64 1048576, AV.i IntKind.i64 1, AV.b true]) h)
                        (onB (decide (a = 12))
                          (onB (decide (a = 12)) (Post (AV.tup [AV.i IntKind.i64 0, AV.i IntKind.i64 1073741824, AV.i IntKind.i64 0, AV.b true]) h)
                            (onB (decide (a = 15)) (Post (AV.tup [AV.i IntKind.i64 0, AV.i IntKind.i64 4, AV.i IntKind.i64 0, AV.b true]) h)
                              (onB (decide (a = 16)) (Post (AV.tup [AV.i IntKind.i64 0, AV.i IntKind.i64 3, AV.i IntKind.i64 0, AV.b true]) h)
                                (onB (decide (a = 17)) (Post (AV.tup [AV.i IntKind.i64 0, AV.i IntKind.i64 16777215, AV.i IntKind.i64 0, AV.b true]) h)
                                  (onB (decide (a = 18)) (Post (AV.tup [AV.i IntKind.i64 64, AV.i IntKind.i64 64000, AV.i IntKind.i64 1024, AV.b true]) h)
                                    (Post (AV.tup [AV.i IntKind.i64 0, AV.i IntKind.i64 0, AV.i IntKind.i64 0, AV.b false]) h))))))
                          (onB (decide (a = 13))
                            (onB (decide (a = 13)) (Post (AV.tup [AV.i IntKind.i64 0, AV.i IntKind.i64 1073741824, AV.i IntKind.i64 0, AV.b true]) h)
                              (onB (decide (a = 15)) (Post (AV.tup [AV.i IntKind.i64 0, AV.i IntKind.i64 4, AV.i IntKind.i64 0, AV.b true]) h)
                                (onB (decide (a = 16)) (Post (AV.tup [AV.i IntKind.i64 0, AV.i IntKind.i64 3, AV.i IntKind.i64 0, AV.b true]) h)
                                  (onB (decide (a = 17)) (Post (AV.tup [AV.i IntKind.i64 0, AV.i IntKind.i64 16777215, AV.i IntKind.i64 0, AV.b true]) h)
                                    (onB (decide (a = 18)) (Post (AV.tup [AV.i IntKind.i64 64, AV.i IntKind.i64 64000, AV.i IntKind.i64 1024, AV.b true]) h)
                                      (Post (AV.tup [AV.i IntKind.i64 0, AV.i IntKind.i64 0, AV.i IntKind.i64 0, AV.b false]) h))))))
                            (onB (decide (a = 14)) (Post (AV.tup [AV.i IntKind.i64 0, AV.i IntKind.i64 1073741824, AV.i IntKind.i64 0, AV.b true]) h)
                              (onB (decide (a = 15)) (Post (AV.tup [AV.i IntKind.i64 0, AV.i IntKind.i64 4, AV.i IntKind.i64 0, AV.b true]) h)
                                (onB (decide (a = 16)) (Post (AV.tup [AV.i IntKind.i64 0, AV.i IntKind.i64 3, AV.i IntKind.i64 0, AV.b true]) h)
                                  (onB (decide (a = 17)) (Post (AV.tup [AV.i IntKind.i64 0, AV.i IntKind.i64 16777215, AV.i IntKind.i64 0, AV.b true]) h)
                                    (onB (decide (a = 18)) (Post (AV.tup [AV.i IntKind.i64 64, AV.i IntKind.i64 64000, AV.i IntKind.i64 1024, AV.b true]) h)
                                      (Post (AV.tup [AV.i IntKind.i64 0, AV.i IntKind.i64 0, AV.i IntKind.i64 0, AV.b false]) h)))))))))))))))))))) := by kernel_rfl
/- arras/prop.ruleOf -/
theorem vc34 (a : Int) (h : Hp) (Post : AV → Hp → Prop) : vcCall Try.prog [] 34 [(SV.ii .i64 a)] h Post = (
  ∀ (p0 : Nat),
  onB (decide (a = 0)) (Post (AV.agg [AV.i IntKind.i64 0, AV.i IntKind.i64 2, AV.i IntKind.i64 0, AV.b false]) h)
    (onB (decide (a = 1))
      (onB (decide (a = 1)) (Post (AV.agg [AV.i IntKind.i64 0, AV.i IntKind.i64 1, AV.i IntKind.i64 0, AV.b false]) h)
        (onB (decide (a = 3))
          (onB (decide (a = 3)) (Post (AV.agg [AV.i IntKind.i64 (-1), AV.i IntKind.i64 1099511627776, AV.i IntKind.i64 (-1), AV.b false]) h)
            (onB (decide (a = 5))
              (onB (decide (a = 5)) (Post (AV.agg [AV.i IntKind.i64 0, AV.i IntKind.i64 1099511627776, AV.i IntKind.i64 0, AV.b false]) h)
                (onB (decide (a = 9)) (Post (AV.agg [AV.i IntKind.i64 0, AV.i IntKind.i64 1048576, AV.i IntKind.i64 0, AV.b false]) h)
                  (onB (decide (a = 10)) (Post (AV.agg [AV.i IntKind.i64 0, AV.i IntKind.i64 1048576, AV.i IntKind.i64 1, AV.b false]) h)
                    (onB (decide (a = 15)) (Post (AV.agg [AV.i IntKind.i64 0, AV.i IntKind.i64 4, AV.i IntKind.i64 0, AV.b false]) h)
                      (onB (decide (a = 16)) (Post (AV.agg [AV.i IntKind.i64 0, AV.i IntKind.i64 3, AV.i IntKind.i64 0, AV.b false]) h)
                        (onB (decide (a = 17)) (Post (AV.agg [AV.i IntKind.i64 0, AV.i IntKind.i64 16777215, AV.i IntKind.i64 0, AV.b true]) h)
                          (onB (decide (a = 18)) (Post (AV.agg [AV.i IntKind.i64 64, AV.i IntKind.i64 64000, AV.i IntKind.i64 1024, AV.b true]) h)
                            (Post (AV.agg [AV.i IntKind.i64 0, AV.i IntKind.i64 1073741824, AV.i IntKind.i64 0, AV.b false]) h))))))))
              (onB (decide (a = 7)) (Post (AV.agg [AV.i IntKind.i64 0, AV.i IntKind.i64 1099511627776, AV.i IntKind.i64 0, AV.b false]) h)
                (onB (decide (a = 9)) (Post (AV.agg [AV.i IntKind.i64 0, AV.i IntKind.i64 1048576, AV.i IntKind.i64 0, AV.b false]) h)
                  (onB (decide (a = 10)) (Post (AV.agg [AV.i IntKind.i64 0, AV.i IntKind.i64 1048576, AV.i IntKind.i64 1, AV.b false]) h)
                    (onB (decide (a = 15)) (Post (AV.agg [AV.i IntKind.i64 0, AV.i IntKind.i64 4, AV.i IntKind.i64 0, AV.b false]) h)
                      (onB (decide (a = 16)) (Post (AV.agg [AV.i IntKind.i64 0, AV.i IntKind.i64 3, AV.i IntKind.i64 0, AV.b false]) h)
                        (onB (decide (a = 17)) (Post (AV.agg [AV.i IntKind.i64 0, AV.i IntKind.i64 16777215, AV.i IntKind.i64 0, AV.b true]) h)
                          (onB (decide (a = 18)) (Post (AV.agg [AV.i IntKind.i64 64, AV.i IntKind.i64 64000, AV.i IntKind.i64 1024, AV.b true]) h)
                            (Post (AV.agg [AV.i IntKind.i64 0, AV.i IntKind.i64 1073741824, AV.i IntKind.i64 0, AV.b false]) h))))))))))
          (onB (decide (a = 4))
            (onB (decide (a = 4)) (Post (AV.agg [AV.i IntKind.i64 (-1), AV.i IntKind.i64 1099511627776, AV.i IntKind.i64 (-1), AV.b false]) h)
              (onB (decide (a = 5))
                (onB (decide (a = 5)) (Post (AV.agg [AV.i IntKind.i64 0, AV.i IntKind.i64 1099511627776, AV.i IntKind.i64 0, AV.b false]) h)
                  (onB (decide (a = 9)) (Post (AV.agg [AV.i IntKind.i64 0, AV.i IntKind.i64 1048576, AV.i IntKind.i64 0, AV.b false]) h)
                    (onB (decide (a = 10)) (Post (AV.agg [AV.i IntKind.i64 0, AV.i IntKind.i64 1048576, AV.i IntKind.i64 1, AV.b false]) h)
                      (onB (decide (a = 15)) (Post (AV.agg [AV.i IntKind.i64 0, AV.i IntKind.i64 4, AV.i IntKind.i64 0, AV.b false]) h)
                        (onB (decide (a = 16)) (Post (AV.agg [AV.i IntKind.i64 0, AV.i IntKind.i64 3, AV.i IntKind.i64 0, AV.b false]) h)
                          (onB (decide (a = 17)) (Post (AV.agg [AV.i IntKind.i64 0, AV.i IntKind.i64 16777215, AV.i IntKind.i64 0, AV.b true]) h)
                            (onB (decide (a = 18)) (Post (AV.agg [AV.i IntKind.i64 64, AV.i IntKind.i64 64000, AV.i IntKind.i64 1024, AV.b true]) h)
                              (Post (AV.agg [AV.i IntKind.i64 0, AV.i IntKind.i64 1073741824, AV.i IntKind.i64 0, AV.b false]) h))))))))
                (onB (decide (a = 7)) (Post (AV.agg [AV.i IntKind.i64 0, AV.i IntKind.i64 1099511627776, AV.i IntKind.i64 0, AV.b false]) h)
                  (onB (decide (a = 9)) (Post (AV.agg [AV.i IntKind.i64 0, AV.i IntKind.i64 1048576, AV.i IntKind.i64 0, AV.b false]) h)
                    (onB (decide (a = 10)) (Post (AV.agg [AV.i IntKind.i64 0, AV.i IntKind.i64 1048576, AV.i IntKind.i64 1, AV.b false]) h)
                      (onB (decide (a = 15)) (Post (AV.agg [AV.i IntKind.i64 0, AV.i IntKind.i64 4, AV.i IntKind.i64 0, AV.b false]) h)
                        (onB (decide (a = 16)) (Post (AV.agg [AV.i IntKind.i64 0, AV.i IntKind.i64 3, AV.i IntKind.i64 0, AV.b false]) h)
                          (onB (decide (a = 17)) (Post (AV.agg [AV.i IntKind.i64 0, AV.i IntKind.i64 16777215, AV.i IntKind.i64 0, AV.b true]) h)
                            (onB (decide (a = 18)) (Post (AV.agg [AV.i IntKind.i64 64, AV.i IntKind.i64 64000, AV.i IntKind.i64 1024, AV.b true]) h)
                              (Post (AV.agg [AV.i IntKind.i64 0, AV.i IntKind.i64 1073741824, AV.i IntKind.i64 0, AV.b false]) h))))))))))
            (onB (decide (a = 6))
              (onB (decide (a = 6)) (Post (AV.agg [AV.i IntKind.i64 (-1), AV.i IntKind.i64 1099511627776, AV.i IntKind.i64 (-1), AV.b false]) h)
                (onB (decide (a = 5))
                  (onB (decide (a = 5)) (Post (AV.agg [AV.i IntKind.i64 0, AV.i IntKind.i64 1099511627776, AV.i IntKind.i64 0, AV.b false]) h)
                    (onB (decide (a = 9)) (Post (AV.agg [AV.i IntKind.i64 0, AV.i IntKind.i64 1048576, AV.i IntKind.i64 0, AV.b false]) h)
                      (onB (decide (a = 10)) (Post (AV.agg [AV.i IntKind.i64 0, AV.i IntKind.i64 1048576, AV.i IntKind.i64 1, AV.b false]) h)
                        (onB (decide (a = 15)) (Post (AV.agg [AV.i IntKind.i64 0, AV.i IntKind.i64 4, AV.i IntKind.i64 0, AV.b false]) h)
                          (onB (decide (a = 16)) (Post (AV.agg [AV.i IntKind.i64 0, AV.i IntKind.i64 3, AV.i IntKind.i64 0, AV.b false]) h)
                            (onB (decide (a = 17)) (Post (AV.agg [AV.i IntKind.i64 0, AV.i IntKind.i64 16777215, AV.i IntKind.i64 0, AV.b true]) h)
                              (onB (decide (a = 18)) (Post (AV.agg [AV.i IntKind.i64 64, AV.i IntKind.i64 64000, AV.i IntKind.i64 1024, AV.b true]) h)
                                (Post (AV.agg [AV.i IntKind.i64 0, AV.i IntKind.i64 1073741824, AV.i IntKind.i64 0, AV.b false]) h))))))))
                  (onB (decide (a = 7)) (Post (AV.agg [AV.i IntKind.i64 0, AV.i IntKind.i64 1099511627776, AV.i IntKind.i64 0, AV.b false]) h)
                    (onB (decide (a = 9)) (Post (AV.agg [AV.i IntKind.i64 0, AV.i IntKind.i64 1048576, AV.i IntKind.i64 0, AV.b false]) h)
                      (onB (decide (a = 10)) (Post (AV.agg [AV.i IntKind.i64 0, AV.i IntKind.i64 1048576, AV.i IntKind.i64 1, AV.b false]) h)
                        (onB (decide (a = 15)) (Post (AV.agg [AV.i IntKind.i64 0, AV.i IntKind.i64 4, AV.i IntKind.i64 0, AV.b false]) h)
                          (onB (decide (a = 16)) (Post (AV.agg [AV.i IntKind.i64 0, AV.i IntKind.i64 3, AV.i IntKind.i64 0, AV.b false]) h)
                            (onB (decide (a = 17)) (Post (AV.agg [AV.i IntKind.i64 0, AV.i IntKind.i64 16777215, AV.i IntKind.i64 0, AV.b true]) h)
                              (onB (decide (a = 18)) (Post (AV.agg [AV.i IntKind.i64 64, AV.i IntKind.i64 64000, AV.i IntKind.i64 1024, AV.b true]) h)
                                (Post (AV.agg [AV.i IntKind.i64 0, AV.i IntKind.i64 1073741824, AV.i IntKind.i64 0, AV.b false]) h))))))))))
              (onB (decide (a = 8))
                (onB (decide (a = 8)) (Post (AV.agg [AV.i IntKind.i64 (-1), AV.i IntKind.i64 1099511627776, AV.i IntKind.i64 (-1), AV.b false]) h)
                  (onB (decide (a = 5))
                    (onB (decide (a = 5)) (Post (AV.agg [AV.i IntKind.i64 0, AV.i IntKind.i64 1099511627776, AV.i IntKind.i64 0, AV.b false]) h)
                      (onB (decide (a = 9)) (Post (AV.agg [AV.i IntKind.i64 0, AV.i IntKind.i64 1048576, AV.i IntKind.i64 0, AV.b false]) h)
                        (onB (decide (a = 10)) (Post (AV.agg [AV.i IntKind.i64 0, AV.i IntKind.i64 1048576, AV.i IntKind.i64 1, AV.b false]) h)
                          (onB (decide (a = 15)) (Post (AV.agg [AV.i IntKind.i64 0, AV.i IntKind.i64 4, AV.i IntKind.i64 0, AV.b false]) h)
                            (onB (decide (a = 16)) (Post (AV.agg [AV.i IntKind.i64 0, AV.i IntKind.i64 3, AV.i IntKind.i64 0, AV.b false]) h)
                              (onB (decide (a = 17)) (Post (AV.agg [AV.i IntKind.i64 0, AV.i IntKind.i64 16777215, AV.i IntKind.i64 0, AV.b true]) h)
                                (onB (decide (a = 18)) (Post (AV.agg [AV.i IntKind.i64 64, AV.i IntKind.i64 64000, AV.i IntKind.i64 1024, AV.b true]) h)
                                  (Post (AV.agg [AV.i IntKind.i64 0, AV.i IntKind.i64 1073741824, AV.i IntKind.i64 0, AV.b false]) h))))))))
                    (onB (decide (a = 7)) (Post (AV.agg [AV.i IntKind.i64 0, AV.i IntKind.i64 1099511627776, AV.i IntKind.i64 0, AV.b false]) h)
                      (onB (decide (a = 9)) (Post (AV.agg [AV.i IntKind.i64 0, AV.i IntKind.i64 1048576, AV.i IntKind.i64 0, AV.b false]) h)
                        (onB (decide (a = 10)) (Post (AV.agg [AV.i IntKind.i64 0, AV.i IntKind.i64 1048576, AV.i IntKind.i64 1, AV.b false]) h)
                          (onB (decide (a = 15)) (Post (AV.agg [AV.i IntKind.i64 0, AV.i IntKind.i64 4, AV.i IntKind.i64 0, AV.b false]) h)
                            (onB (decide (a = 16)) (Post (AV.agg [AV.i IntKind.i64 0, AV.i IntKind.i64 3, AV.i IntKind.i64 0, AV.b false]) h)
                              (onB (decide (a = 17)) (Post (AV.agg [AV.i IntKind.i64 0, AV.i IntKind.i64 16777215, AV.i IntKind.i64 0, AV.b true]) h)
                                (onB (decide (a = 18)) (Post (AV.agg [AV.i IntKind.i64 64, AV.i IntKind.i64 64000, AV.i IntKind.i64 1024, AV.b true]) h)
                                  (Post (AV.agg [AV.i IntKind.i64 0, AV.i IntKind.i64 1073741824, AV.i IntKind.i64 0, AV.b false]) h))))))))))
                (onB (decide (a = 11)) (Post (AV.agg [AV.i IntKind.i64 (-1), AV.i IntKind.i64 1099511627776, AV.i IntKind.i64 (-1), AV.b false]) h)
                  (onB (decide (a = 5))
                    (onB (decide (a = 5)) (Post (AV.agg [AV.i IntKind.i64 0, AV.i IntKind.i64 1099511627776, AV.i IntKind.i64 0, AV.b false]) h)
                      (onB (decide (a = 9)) (Post (AV.agg [AV.i IntKind.i64 0, AV.i IntKind.i64 1048576, AV.i IntKind.i64 0, AV.b false]) h)
                        (onB (decide (a = 10)) (Post (AV.agg [AV.i IntKind.i64 0, AV.i IntKind.i64 1048576, AV.i IntKind.i64 1, AV.b false]) h)
                          (onB (decide (a = 15)) (Post (AV.agg [AV.i IntKind.i64 0, AV.i IntKind.i64 4, AV.i IntKind.i64 0, AV.b false]) h)
                            (onB (decide (a = 16)) (Post (AV.agg [AV.i IntKind.i64 0, AV.i IntKind.i64 3, AV.i IntKind.i64 0, AV.b false]) h)
                              (onB (decide (a = 17)) (Post (AV.agg [AV.i IntKind.i64 0, AV.i IntKind.i64 16777215, AV.i IntKind.i64 0, AV.b true]) h)
                                (onB (decide (a = 18)) (Post (AV.agg [AV.i IntKind.i64 64, AV.i IntKind.i64 64000, AV.i IntKind.i64 1024, AV.b true]) h)
                                  (Post (AV.agg [AV.i IntKind.i64 0, AV.i IntKind.i64 1073741824, AV.i IntKind.i64 0, AV.b false]) h))))))))
                    (onB (decide (a = 7)) (Post (AV.agg [AV.i IntKind.i64 0, AV.i IntKind.i64 1099511627776, AV.i IntKind.i64 0, AV.b false]) h)
                      (onB (decide (a = 9)) (Post (AV.agg [AV.i IntKind.i64 0, AV.i IntKind.i64 1048576, AV.i IntKind.i64 0, AV.b false]) h)
                        (onB (decide (a = 10)) (Post (AV.agg [AV.i IntKind.i64 0, AV.i IntKind.i64 1048576, AV.i IntKind.i64 1, AV.b false]) h)
                          (onB (decide (a = 15)) (Post (AV.agg [AV.i IntKind.i64 0, AV.i IntKind.i64 4, AV.i IntKind.i64 0, AV.b false]) h)
                            (onB (decide (a = 16)) (Post (AV.agg [AV.i IntKind.i64 0, AV.i IntKind.i64 3, AV.i IntKind.i64 0, AV.b false]) h)
                              (onB (decide (a = 17)) (Post (AV.agg [AV.i IntKind.i64 0, AV.i IntKind.i64 16777215, AV.i IntKind.i64 0, AV.b true]) h)
                                (onB (decide (a = 18)) (Post (AV.agg [AV.i IntKind.i64 64, AV.i IntKind.i64 64000, AV.i IntKind.i64 1024, AV.b true]) h)
                                  (Post (AV.agg [AV.i IntKind.i64 0, AV.i IntKind.i64 1073741824, AV.i IntKind.i64 0, AV.b false]) h)))))))))))))))
      (onB (decide (a = 2)) (Post (AV.agg [AV.i IntKind.i64 0, AV.i IntKind.i64 1, AV.i IntKind.i64 0, AV.b false]) h)
        (onB (decide (a = 3))
          (onB (decide (a = 3)) (Post (AV.agg [AV.i IntKind.i64 (-1), AV.i IntKind.i64 1099511627776, AV.i IntKind.i64 (-1), AV.b false]) h)
            (onB (decide (a = 5))
              (onB (decide (a = 5)) (Post (AV.agg [AV.i IntKind.i64 0, AV.i IntKind.i64 1099511627776, AV.i IntKind.i64 0, AV.b false]) h)
                (onB (decide (a = 9)) (Post (AV.agg [AV.i IntKind.i64 0, AV.i IntKind.i64 1048576, AV.i IntKind.i64 0, AV.b false]) h)
                  (onB (decide (a = 10)) (Post (AV.agg [AV.i IntKind.i64 0, AV.i IntKind.i64 1048576, AV.i IntKind.i64 1, AV.b false]) h)
                    (onB (decide (a = 15)) (Post (AV.agg [AV.i IntKind.i64 0, AV.i IntKind.i64 4, AV.i IntKind.i64 0, AV.b false]) h)
                      (onB (decide (a = 16)) (Post (AV.agg [AV.i IntKind.i64 0, AV.i IntKind.i64 3, AV.i IntKind.i64 0, AV.b false]) h)
                        (onB (decide (a = 17)) (Post (AV.agg [AV.i IntKind.i64 0, AV.i IntKind.i64 16777215, AV.i IntKind.i64 0, AV.b true]) h)
                          (onB (decide (a = 18)) (Post (AV.agg [AV.i IntKind.i64 64, AV.i IntKind.i64 64000, AV.i IntKind.i64 1024, AV.b true]) h)
                            (Post (AV.agg [AV.i IntKind.i64 0, AV.i IntKind.i64 1073741824, AV.i IntKind.i64 0, AV.b false]) h))))))))
              (onB (decide (a = 7)) (Post (AV.agg [AV.i IntKind.i64 0, AV.i IntKind.i64 1099511627776, AV.i IntKind.i64 0, AV.b false]) h)
                (onB (decide (a = 9)) (Post (AV.agg [AV.i IntKind.i64 0, AV.i IntKind.i64 1048576, AV.i IntKind.i64 0, AV.b false]) h)
                  (onB (decide (a = 10)) (Post (AV.agg [AV.i IntKind.i64 0, AV.i IntKind.i64 1048576, AV.i IntKind.i64 1, AV.b false]) h)
                    (onB (decide (a = 15)) (Post (AV.agg [AV.i IntKind.i64 0, AV.i IntKind.i64 4, AV.i IntKind.i64 0, AV.b false]) h)
                      (onB (decide (a = 16)) (Post (AV.agg [AV.i IntKind.i64 0, AV.i IntKind.i64 3, AV.i IntKind.i64 0, AV.b false]) h)
                        (onB (decide (a = 17)) (Post (AV.agg [AV.i IntKind.i64 0, AV.i IntKind.i64 16777215, AV.i IntKind.i64 0, AV.b true]) h)
                          (onB (decide (a = 18)) (Post (AV.agg [AV.i IntKind.i64 64, AV.i IntKind.i64 64000, AV.i IntKind.i64 1024, AV.b true]) h)
                            (Post (AV.agg [AV.i IntKind.i64 0, AV.i IntKind.i64 1073741824, AV.i IntKind.i64 0, AV.b false]) h))))))))))
          (onB (decide (a = 4))
            (onB (decide (a = 4)) (Post (AV.agg [AV.i IntKind.i64 (-1), AV.i IntKind.i64 1099511627776, AV.i IntKind.i64 (-1), AV.b false]) h)
              (onB (decide (a = 5))
                (onB (decide (a = 5)) (Post (AV.agg [AV.i IntKind.i64 0, AV.i IntKind.i64 1099511627776, AV.i IntKind.i64 0, AV.b false]) h)
                  (onB (decide (a = 9)) (Post (AV.agg [AV.i IntKind.i64 0, AV.i IntKind.i64 1048576, AV.i IntKind.i64 0, AV.b false]) h)
                    (onB (decide (a = 10)) (Post (AV.agg [AV.i IntKind.i64 0, AV.i IntKind.i64 1048576, AV.i IntKind.i64 1, AV.b false]) h)
                      (onB (decide (a = 15)) (Post (AV.agg [AV.i IntKind.i64 0, AV.i IntKind.i64 4, AV.i IntKind.i64 0, AV.b false]) h)
                        (onB (decide (a = 16)) (Post (AV.agg [AV.i IntKind.i64 0, AV.i IntKind.i64 3, AV.i IntKind.i64 0, AV.b false]) h)
                          (onB (decide (a = 17)) (Post (AV.agg [AV.i IntKind.i64 0, AV.i IntKind.i64 16777215, AV.i IntKind.i64 0, AV.b true]) h)
                            (onB (decide (a = 18)) (Post (AV.agg [AV.i IntKind.i64 64, AV.i IntKind.i64 64000, AV.i IntKind.i64 1024, AV.b true]) h)
                              (Post (AV.agg [AV.i IntKind.i64 0, AV.i IntKind.i64 1073741824, AV.i IntKind.i64 0, AV.b false]) h))))))))
                (onB (decide (a = 7)) (Post (AV.agg [AV.i IntKind.i64 0, AV.i IntKind.i64 1099511627776, AV.i IntKind.i64 0, AV.b false]) h)
                  (onB (decide (a = 9)) (Post (AV.agg [AV.i IntKind.i64 0, AV.i IntKind.i64 1048576, AV.i IntKind.i64 0, AV.b false]) h)
                    (onB (decide (a = 10)) (Post (AV.agg [AV.i IntKind.i64 0, AV.i IntKind.i64 1048576, AV.i IntKind.i64 1, AV.b false]) h)
                      (onB (decide (a = 15)) (Post (AV.agg [AV.i IntKind.i64 0, AV.i IntKind.i64 4, AV.i IntKind.i64 0, AV.b false]) h)
                        (onB (decide (a = 16)) (Post (AV.agg [AV.i IntKind.i64 0, AV.i IntKind.i64 3, AV.i IntKind.i64 0, AV.b false]) h)
                          (onB (decide (a = 17)) (Post (AV.agg [AV.i IntKind.i64 0, AV.i IntKind.i64 16777215, AV.i IntKind.i64 0, AV.b true]) h)
                            (onB (decide (a = 18)) (Post (AV.agg [AV.i IntKind.i64 64, AV.i IntKind.i64 64000, AV.i IntKind.i64 1024, AV.b true]) h)
                              (Post (AV.agg [AV.i IntKind.i64 0, AV.i IntKind.i64 1073741824, AV.i IntKind.i64 0, AV.b false]) h))))))))))
            (onB (decide (a = 6))
              (onB (decide (a = 6)) (Post (AV.agg [AV.i IntKind.i64 (-1), AV.i IntKind.i64 1099511627776, AV.i IntKind.i64 (-1), AV.b false]) h)
                (onB (decide (a = 5))
                  (onB (decide (a = 5)) (Post (AV.agg [AV.i IntKind.i64 0, AV.i IntKind.i64 1099511627776, AV.i IntKind.i64 0, AV.b false]) h)
                    (onB (decide (a = 9)) (Post (AV.agg [AV.i IntKind.i64 0, AV.i IntKind.i64 1048576, AV.i IntKind.i64 0, AV.b false]) h)
                      (onB (decide (a = 10)) (Post (AV.agg [AV.i IntKind.i64 0, AV.i IntKind.i64 1048576, AV.i IntKind.i64 1, AV.b false]) h)
                        (onB (decide (a = 15)) (Post (AV.agg [AV.i IntKind.i64 0, AV.i IntKind.i64 4, AV.i IntKind.i64 0, AV.b false]) h)
                          (onB (decide (a = 16)) (Post (AV.agg [AV.i IntKind.i64 0, AV.i IntKind.i64 3, AV.i IntKind.i64 0, AV.b false]) h)
                            (onB (decide (a = 17)) (Post (AV.agg [AV.i IntKind.i64 0, AV.i IntKind.i64 16777215, AV.i IntKind.i64 0, AV.b true]) h)
                              (onB (decide (a = 18)) (Post (AV.agg [AV.i IntKind.i64 64, AV.i IntKind.i64 64000, AV.i IntKind.i64 1024, AV.b true]) h)
                                (Post (AV.agg [AV.i IntKind.i64 0, AV.i IntKind.i64 1073741824, AV.i IntKind.i64 0, AV.b false]) h))))))))
                  (onB (decide (a = 7)) (Post (AV.agg [AV.i IntKind.i64 0, AV.i IntKind.i64 1099511627776, AV.i IntKind.i64 0, AV.b false]) h)
                    (onB (decide (a = 9)) (Post (AV.agg [AV.i IntKind.i64 0, AV.i IntKind.i64 1048576, AV.i IntKind.i64 0, AV.b false]) h)
                      (onB (decide (a = 10)) (Post (AV.agg [AV.i IntKind.i64 0, AV.i IntKind.i64 1048576, AV.i IntKind.i64 1, AV.b false]) h)
                        (onB (decide (a = 15)) (Post (AV.agg [AV.i IntKind.i64 0, AV.i IntKind.i64 4, AV.i IntKind.i64 0, AV.b false]) h)
                          (onB (decide (a = 16)) (Post (AV.agg [AV.i IntKind.i64 0, AV.i IntKind.i64 3, AV.i IntKind.i64 0, AV.b false]) h)
                            (onB (decide (a = 17)) (Post (AV.agg [AV.i IntKind.i64 0, AV.i IntKind.i64 16777215, AV.i IntKind.i64 0, AV.b true]) h)
                              (onB (decide (a = 18)) (Post (AV.agg [AV.i IntKind.i64 64, AV.i IntKind.i64 64000, AV.i IntKind.i64 1024, AV.b true]) h)
                                (Post (AV.agg [AV.i IntKind.i64 0, AV.i IntKind.i64 1073741824, AV.i IntKind.i64 0, AV.b false]) h))))))))))
              (onB (decide (a = 8))
                (onB (decide (a = 8)) (Post (AV.agg [AV.i IntKind.i64 (-1), AV.i IntKind.i64 1099511627776, AV.i IntKind.i64 (-1), AV.b false]) h)
                  (onB (decide (a = 5))
                    (onB (decide (a = 5)) (Post (AV.agg [AV.i IntKind.i64 0, AV.i IntKind.i64 1099511627776, AV.i IntKind.i64 0, AV.b false]) h)
                      (onB (decide (a = 9)) (Post (AV.agg [AV.i IntKind.i64 0, AV.i IntKind.i64 1048576, AV.i IntKind.i64 0, AV.b false]) h)
                        (onB (decide (a = 10)) (Post (AV.agg [AV.i IntKind.i64 0, AV.i IntKind.i64 1048576, AV.i IntKind.i64 1, AV.b false]) h)
                          (onB (decide (a = 15)) (Post (AV.agg [AV.i IntKind.i64 0, AV.i IntKind.i64 4, AV.i IntKind.i64 0, AV.b false]) h)
                            (onB (decide (a = 16)) (Post (AV.agg [AV.i IntKind.i64 0, AV.i IntKind.i64 3, AV.i IntKind.i64 0, AV.b false]) h)
                              (onB (decide (a = 17)) (Post (AV.agg [AV.i IntKind.i64 0, AV.i IntKind.i64 16777215, AV.i IntKind.i64 0, AV.b true]) h)
                                (onB (decide (a = 18)) (Post (AV.agg [AV.i IntKind.i64 64, AV.i IntKind.i64 64000, AV.i IntKind.i64 1024, AV.b true]) h)
                                  (Post (AV.agg [AV.i IntKind.i64 0, AV.i IntKind.i64 1073741824, AV.i IntKind.i64 0, AV.b false]) h))))))))
                    (onB (decide (a = 7)) (Post (AV.agg [AV.i IntKind.i64 0, AV.i IntKind.i64 1099511627776, AV.i IntKind.i64 0, AV.b false]) h)
                      (onB (decide (a = 9)) (Post (AV.agg [AV.i IntKind.i64 0, AV.i IntKind.i64 1048576, AV.i IntKind.i64 0, AV.b false]) h)
                        (onB (decide (a = 10)) (Post (AV.agg [AV.i IntKind.i64 0, AV.i IntKind.i64 1048576, AV.i IntKind.i64 1, AV.b false]) h)
                          (onB (decide (a = 15)) (Post (AV.agg [AV.i IntKind.i64 0, AV.i IntKind.i64 4, AV.i IntKind.i64 0, AV.b false]) h)
                            (onB (decide (a = 16)) (Post (AV.agg [AV.i IntKind.i64 0, AV.i IntKind.i64 3, AV.i IntKind.i64 0, AV.b false]) h)
                              (onB (decide (a = 17)) (Post (AV.agg [AV.i IntKind.i64 0, AV.i IntKind.i64 16777215, AV.i IntKind.i64 0, AV.b true]) h)
                                (onB (decide (a = 18)) (Post (AV.agg [AV.i IntKind.i64 64, AV.i IntKind.i64 64000, AV.i IntKind.i64 1024, AV.b true]) h)
                                  (Post (AV.agg [AV.i IntKind.i64 0, AV.i IntKind.i64 1073741824, AV.i IntKind.i64 0, AV.b false]) h))))))))))
                (onB (decide (a = 11)) (Post (AV.agg [AV.i IntKind.i64 (-1), AV.i IntKind.i64 1099511627776, AV.i IntKind.i64 (-1), AV.b false]) h)
                  (onB (decide (a = 5))
                    (onB (decide (a = 5)) (Post (AV.agg [AV.i IntKind.i64 0, AV.i IntKind.i64 1099511627776, AV.i IntKind.i64 0, AV.b false]) h)
                      (onB (decide (a = 9)) (Post (AV.agg [AV.i IntKind.i64 0, AV.i IntKind.i64 1048576, AV.i IntKind.i64 0, AV.b false]) h)
                        (onB (decide (a = 10)) (Post (AV.agg [AV.i IntKind.i64 0, AV.i IntKind.i64 1048576, AV.i IntKind.i64 1, AV.b false]) h)
                          (onB (decide (a = 15)) (Post (AV.agg [AV.i IntKind.i64 0, AV.i IntKind.i64 4, AV.i IntKind.i64 0, AV.b false]) h)
                            (onB (decide (a = 16)) (Post (AV.agg [AV.i IntKind.i64 0, AV.i IntKind.i64 3, AV.i IntKind.i64 0, AV.b false]) h)
                              (onB (decide (a = 17)) (Post (AV.agg [AV.i IntKind.i64 0, AV.i IntKind.i64 16777215, AV.i IntKind.i64 0, AV.b true]) h)
                                (onB (decide (a = 18)) (Post (AV.agg [AV.i IntKind.i64 64, AV.i IntKind.i64 64000, AV.i IntKind.i64 1024, AV.b true]) h)
                                  (Post (AV.agg [AV.i IntKind.i64 0, AV.i IntKind.i64 1073741824, AV.i IntKind.i64 0, AV.b false]) h))))))))
                    (onB (decide (a = 7)) (Post (AV.agg [AV.i IntKind.i64 0, AV.i IntKind.i64 1099511627776, AV.i IntKind.i64 0, AV.b false]) h)
                      (onB (decide (a = 9)) (Post (AV.agg [AV.i IntKind.i64 0, AV.i IntKind.i64 1048576, AV.i IntKind.i64 0, AV.b false]) h)
                        (onB (decide (a = 10)) (Post (AV.agg [AV.i IntKind.i64 0, AV.i IntKind.i64 1048576, AV.i IntKind.i64 1, AV.b false]) h)
                          (onB (decide (a = 15)) (Post (AV.agg [AV.i IntKind.i64 0, AV.i IntKind.i64 4, AV.i IntKind.i64 0, AV.b false]) h)
                            (onB (decide (a = 16)) (Post (AV.agg [AV.i IntKind.i64 0, AV.i IntKind.i64 3, AV.i IntKind.i64 0, AV.b false]) h)
                              (onB (decide (a = 17)) (Post (AV.agg [AV.i IntKind.i64 0, AV.i IntKind.i64 16777215, AV.i IntKind.i64 0, AV.b true]) h)
                                (onB (decide (a = 18)) (Post (AV.agg [AV.i IntKind.i64 64, AV.i IntKind.i64 64000, AV.i IntKind.i64 1024, AV.b true]) h)
                                  (Post (AV.agg [AV.i IntKind.i64 0, AV.i IntKind.i64 1073741824, AV.i IntKind.i64 0, AV.b false]) h))))))))))))))))) := by kernel_rfl
/- slices.BinarySearchFunc[[]arras/api.Reg,arras/api.Reg,int] -/
theorem vc38 (a : AV) (b : Int) (h : Hp) (Post : AV → Hp → Prop) : vcCall Try.prog [] 38 [.vv a, .ii .i64 b, .ff 39 []] h Post = (
  onO (lenV a) fun p0 =>
  ∃ I0 : Nat → Int → Int → Hp → Prop,
    (∃ p1, I0 p1 0 (↑p0) h) ∧
      ∀ (p2 : Nat) (h0 : Hp) (n0 n1 : Int),
        I0 p2 n0 n1 h0 →
          onB (decide (n0 < n1))
            (onO (intO BinOp.add IntKind.i64 n0 n1) fun n2 =>
              onO (wrO IntKind.u64 n2) fun n3 =>
                onO (shO BinOp.shr IntKind.u64 n3 1) fun n4 =>
                  onO (wrO IntKind.i64 n4) fun n5 =>
                    onO (idxV a n5 4) fun r0 =>
                      onO (rdH h0 r0.fst r0.snd 4) fun l0 =>
                        onL [Kd.int IntKind.i64, Kd.int IntKind.i64, Kd.int IntKind.i64, Kd.int IntKind.i64] l0 fun n6 n7 n8 n9 =>
                          wpC Try.prog (OfNat.ofNat 39) [AV.agg [AV.i IntKind.i64 n6, AV.i IntKind.i64 n7, AV.i IntKind.i64 n8, AV.i IntKind.i64 n9], AV.i IntKind.i64 b]
                            (fun a0 h1 =>
                              onRet [Sh.one (Kd.int IntKind.i64)] a0 fun n10 =>
                                onB (decide (n10 < 0)) (onO (intO BinOp.add IntKind.i64 n5 1) fun n11 => ∃ p3, ltN p3 p2 ∧ I0 p3 n11 n1 h1) (∃ p4, ltN p4 p2 ∧ I0 p4 n0 n5 h1))
                            h0)
            (onB (decide (n0 < ↑p0))
              (onO (idxV a n0 4) fun r1 =>
                onO (rdH h0 r1.fst r1.snd 4) fun l1 =>
                  onL [Kd.int IntKind.i64, Kd.int IntKind.i64, Kd.int IntKind.i64, Kd.int IntKind.i64] l1 fun n12 n13 n14 n15 =>
                    wpC Try.prog (OfNat.ofNat 39) [AV.agg [AV.i IntKind.i64 n12, AV.i IntKind.i64 n13, AV.i IntKind.i64 n14, AV.i IntKind.i64 n15], AV.i IntKind.i64 b]
                      (fun a1 h2 => onRet [Sh.one (Kd.int IntKind.i64)] a1 fun n16 => Post (AV.tup [AV.i IntKind.i64 n0, AV.b (decide (n16 = 0))]) h2) h0)
              (Post (AV.tup [AV.i IntKind.i64 n0, AV.b false]) h0))) := by kernel_rfl
/-! ### plain -/
noncomputable def cmpN (a b : Int) : Int := if a < b then -1 else if b < a then 1 else 0
noncomputable def cmpT (a b : D.Stamp) : Int := if cmpN a.time b.time = 0 then cmpN a.rep b.rep else cmpN a.time b.time
noncomputable def isS (s : D.Stamp) : Bool := decide (1 ≤ s.time) && (decide (s.time ≤ 1099511627776) && (decide (0 ≤ s.rep) && decide (s.rep < 16)))
noncomputable def propP (a : Int) : Bool := decide (0 ≤ a) && decide (a < 19)
noncomputable def lowP : Nat → Int
  | 3 | 4 | 6 | 8 | 11 => -1
  | 18 => 64
  | _ => 0
noncomputable def highP : Nat → Int
  | 0 => 2 | 1 | 2 => 1
  | 3 | 4 | 5 | 6 | 7 | 8 | 11 => 1099511627776
  | 9 | 10 => 1048576
  | 12 | 13 | 14 => 1073741824
  | 15 => 4 | 16 => 3 | 17 => 16777215 | 18 => 64000
  | _ => 0
noncomputable def plainP : Nat → Int
  | 3 | 4 | 6 | 8 | 11 => -1
  | 10 => 1
  | 18 => 1024
  | _ => 0
noncomputable def goesP : Nat → Bool
  | 17 | 18 => true
  | _ => false
noncomputable def mayP (a b : Int) : Bool := propP a && (decide (lowP a.toNat ≤ b) && decide (b ≤ highP a.toNat))
section
variable {h : Hp} {Post : AV → Hp → Prop}
theorem c44 {a : Int} (k : Post (.b false) h) : wpC Try.prog 44 [.i .i64 a] Post h := by
  refine call_sound (args := [.ii .i64 a]) (cuts := []) ⟨trivial, trivial⟩ ?_
  rw [vc44]
  simpa using k
theorem c40 {a b : Int} (k : Post (.i .i64 (cmpN a b)) h) : wpC Try.prog 40 [.i .i64 a, .i .i64 b] Post h := by
  refine call_sound (args := [.ii .i64 a, .ii .i64 b]) (cuts := []) ⟨trivial, trivial, trivial⟩ ?_
  rw [vc40]
  refine c44 (onRet.b (c44 (onRet.b (onB.neg rfl (onB.neg rfl ?_)))))
  refine onB.dec (fun e => ?_) (fun e => onB.dec (fun e' => ?_) (fun e' => ?_))
  · simpa [cmpN, e] using k
  · simpa [cmpN, e, e'] using k
  · simpa [cmpN, e, e'] using k
theorem c43 {a : AV} {x y : Int} (r : Ints h a [x, y]) (k : Post (.i .i64 (if x = 0 then y else x)) h) : wpC Try.prog 43 [a] Post h := by
  refine call_sound (args := [.vv a]) (cuts := []) ⟨Raw.sc r, trivial⟩ ?_
  rw [vc43]
  refine onO.mk r.len ?_
  refine ⟨fun m _ i h' => h' = h ∧ 0 ≤ i ∧ i ≤ 2 ∧ m = 2 - i.toNat ∧ (0 < i → x = 0) ∧ (1 < i → y = 0), ⟨2, rfl, by omega, by omega, rfl, by omega, by omega⟩, ?_⟩
  rintro m h0 n0 i ⟨rfl, i0, i2, rfl, hx, hy⟩
  have hc : i = 0 ∨ i = 1 ∨ i = 2 := by omega
  refine onB.dec (fun e => ?_) (fun e => ?_)
  · rcases hc with rfl | rfl | rfl
    · obtain ⟨b, o, e1, e2⟩ := r.idx (i := 0) (x := x) (by omega) rfl
      refine onO.mk e1 (onO.mk e2 (onL.i1 (onB.ndec (fun e => ?_) (fun e => ?_))))
      · rw [if_neg e] at k; exact k
      · exact onO.mk (add64 (by omega) (by omega)) ⟨1, by show 1 < 2; omega, rfl, by omega, by omega, rfl, fun _ => e, by omega⟩
    · obtain ⟨b, o, e1, e2⟩ := r.idx (i := 1) (x := y) (by omega) rfl
      have hx := hx (by omega)
      rw [if_pos hx] at k
      refine onO.mk e1 (onO.mk e2 (onL.i1 (onB.ndec (fun e => k) (fun e => ?_))))
      exact onO.mk (add64 (by omega) (by omega)) ⟨0, by show 0 < 1; omega, rfl, by omega, by omega, rfl, fun _ => hx, fun _ => e⟩
    · exact absurd e (by simp)
  · rcases hc with rfl | rfl | rfl
    · exact absurd e (by simp)
    · exact absurd e (by simp)
    · rw [if_pos (hx (by omega)), hy (by omega)] at k; exact k
/-- stamp.Cmp: what is there then is more than before -/
theorem c36 {a b : D.Stamp} (k : ∀ h', h.le h' → h'.lo = h.lo → Post (.i .i64 (cmpT a b)) h') : wpC Try.prog 36 [.agg [.i .i64 a.time, .i .i64 a.rep], .agg [.i .i64 b.time, .i .i64 b.rep]] Post h := by
  refine call_sound (args := [.ag [.ii .i64 a.time, .ii .i64 a.rep], .ag [.ii .i64 b.time, .ii .i64 b.rep]]) (cuts := []) ⟨⟨trivial, trivial, trivial⟩, ⟨trivial, trivial, trivial⟩, trivial⟩ ?_
  rw [vc36]
  intro _ _
  refine c40 (onRet.i (c40 (onRet.i fun p hp hlo => ?_)))
  have f := Fresh.put (Hp.le_refl h) rfl hp hlo (css := [[.i .i64 (cmpN a.time b.time)], [.i .i64 (cmpN a.rep b.rep)]]) (sz := 1) (len := 2) true (fun c hc => by simp at hc; rcases hc with rfl | rfl <;> rfl) rfl rfl
  refine c43 (x := cmpN a.time b.time) (y := cmpN a.rep b.rep) f.row (onRet.i (k _ (Hp.le_put hp) rfl))
theorem c29 {a b : D.Stamp} (k : Post (.i .i64 (cmpT a b)) h) : wpC Try.prog 29 [.agg [.i .i64 a.time, .i .i64 a.rep], .agg [.i .i64 b.time, .i .i64 b.rep]] Post h := by
  refine call_sound (args := [.ag [.ii .i64 a.time, .ii .i64 a.rep], .ag [.ii .i64 b.time, .ii .i64 b.rep]]) (cuts := []) ⟨⟨trivial, trivial, trivial⟩, ⟨trivial, trivial, trivial⟩, trivial⟩ ?_
  rw [vc29]
  intro _ _
  unfold cmpT cmpN at k
  refine onB.dec (fun e => ?_) (fun e => onB.dec (fun e1 => onB.dec (fun e2 => ?_) (fun e2 => onB.mk (fun e3 => ?_) (fun e3 => ?_))) (fun e1 => onB.mk (fun e3 => ?_) (fun e3 => ?_)))
  · simpa [e] using k
  · simpa [e, e1, e2] using k
  · simp [e1] at e3
    have : b.rep < a.rep := by omega
    simpa [e, e1, e2, this] using k
  · simp [e1] at e3
    simpa [e, e1, e2, e3] using k
  · have : b.time < a.time := by omega
    simpa [e, e1, this] using k
  · simp [e1] at e3
theorem c26 {s : D.Stamp} (k : Post (.b (isS s)) h) : wpC Try.prog 26 [.agg [.i .i64 s.time, .i .i64 s.rep]] Post h := by
  refine call_sound (args := [.ag [.ii .i64 s.time, .ii .i64 s.rep]]) (cuts := []) ⟨⟨trivial, trivial, trivial⟩, trivial⟩ ?_
  rw [vc26]
  intro _
  unfold isS at k
  refine onB.dec (fun e => onB.dec (fun e1 => onB.dec (fun e2 => ?_) (fun e2 => ?_)) (fun e1 => ?_)) (fun e => ?_)
  · simpa only [e, e1, e2, decide_true, Bool.true_and] using k
  · simpa only [e, e1, e2, decide_true, decide_false, Bool.true_and, Bool.false_and] using k
  · simpa only [e, e1, decide_true, decide_false, Bool.true_and, Bool.false_and] using k
  · simpa only [e, decide_false, Bool.false_and] using k
end
section
variable {h : Hp} {Post : AV → Hp → Prop}
theorem c37 {a b : Int} (k : Post (.b (decide (0 ≤ a) && decide (a ≤ b))) h) : wpC Try.prog 37 [.i .i64 a, .i .i64 b] Post h := by
  refine call_sound (args := [.ii .i64 a, .ii .i64 b]) (cuts := []) ⟨trivial, trivial, trivial⟩ ?_
  rw [vc37]
  refine onB.dec (fun e => ?_) (fun e => ?_)
  · simpa only [e, decide_true, Bool.true_and] using k
  · simpa only [e, decide_false, Bool.false_and] using k
theorem c28 {s : D.Stamp} (k : Post (.b (isS s)) h) : wpC Try.prog 28 [.agg [.i .i64 s.time, .i .i64 s.rep]] Post h := by
  refine call_sound (args := [.ag [.ii .i64 s.time, .ii .i64 s.rep]]) (cuts := []) ⟨⟨trivial, trivial, trivial⟩, trivial⟩ ?_
  rw [vc28]
  intro _
  unfold isS at k
  refine onB.dec (fun e => onB.dec (fun e1 => c37 (onRet.b ?_)) (fun e1 => ?_)) (fun e => ?_)
  · have e2 : decide (s.rep ≤ 15) = decide (s.rep < 16) := by rw [decide_eq_decide]; omega
    simpa only [e, e1, e2, decide_true, Bool.true_and] using k
  · simpa only [e, e1, decide_true, decide_false, Bool.true_and, Bool.false_and] using k
  · simpa only [e, decide_false, Bool.false_and] using k
theorem c33 {a : Int} (k : Post (.b (propP a)) h) : wpC Try.prog 33 [.i .i64 a] Post h := by
  refine call_sound (args := [.ii .i64 a]) (cuts := []) ⟨trivial, trivial⟩ ?_
  rw [vc33]
  unfold propP at k
  refine onB.dec (fun e => ?_) (fun e => ?_)
  · simpa only [e, decide_true, Bool.true_and] using k
  · simpa only [e, decide_false, Bool.false_and] using k
theorem prop_cases {a : Int} (h0 : 0 ≤ a) (h1 : a < 19) : a = 0 ∨ a = 1 ∨ a = 2 ∨ a = 3 ∨ a = 4 ∨ a = 5 ∨ a = 6 ∨ a = 7 ∨ a = 8 ∨ a = 9 ∨ a = 10 ∨ a = 11 ∨ a = 12 ∨ a = 13 ∨ a = 14 ∨ a = 15 ∨ a = 16 ∨ a = 17 ∨ a = 18 := by omega
theorem c34 {a : Int} (h0 : 0 ≤ a) (h1 : a < 19) (k : Post (.agg [.i .i64 (lowP a.toNat), .i .i64 (highP a.toNat), .i .i64 (plainP a.toNat), .b (goesP a.toNat)]) h) : wpC Try.prog 34 [.i .i64 a] Post h := by
  refine call_sound (args := [.ii .i64 a]) (cuts := []) ⟨trivial, trivial⟩ ?_
  rw [vc34]
  intro _
  rcases prop_cases h0 h1 with rfl | rfl | rfl | rfl | rfl | rfl | rfl | rfl | rfl | rfl | rfl | rfl | rfl | rfl | rfl | rfl | rfl | rfl | rfl
  all_goals repeat' first
    | exact k
    | refine onB.pos rfl ?_
    | refine onB.neg rfl ?_
theorem c30 {a : Int} (k : ∀ n, (propP a = true → n = plainP a.toNat) → Post (.tup [.i .i64 (if propP a then lowP a.toNat else 0), .i .i64 (if propP a then highP a.toNat else 0), .i .i64 n, .b (propP a)]) h) : wpC Try.prog 30 [.i .i64 a] Post h := by
  refine call_sound (args := [.ii .i64 a]) (cuts := []) ⟨trivial, trivial⟩ ?_
  rw [vc30]
  by_cases hr : 0 ≤ a ∧ a < 19
  · have hp : propP a = true := by simp [propP, hr]
    rcases prop_cases hr.1 hr.2 with rfl | rfl | rfl | rfl | rfl | rfl | rfl | rfl | rfl | rfl | rfl | rfl | rfl | rfl | rfl | rfl | rfl | rfl | rfl
    all_goals repeat' first
      | exact k _ (fun _ => rfl)
      | refine onB.pos rfl ?_
      | refine onB.neg rfl ?_
  · have hp : propP a = false := by
      cases hb : propP a with
      | false => rfl
      | true => simp [propP] at hb; exact absurd hb hr
    have k := k 0 (fun e => by rw [hp] at e; cases e)
    rw [hp] at k
    repeat' first
      | exact k
      | refine onB.neg (decide_eq_false (by omega)) ?_
theorem c25 {a b : Int} (k : Post (.b (mayP a b)) h) : wpC Try.prog 25 [.i .i64 a, .i .i64 b] Post h := by
  refine call_sound (args := [.ii .i64 a, .ii .i64 b]) (cuts := []) ⟨trivial, trivial, trivial⟩ ?_
  rw [vc25]
  refine c33 (onRet.b ?_)
  unfold mayP at k
  refine onB.mk (fun e => ?_) (fun e => ?_)
  · have hr : 0 ≤ a ∧ a < 19 := by simpa [propP] using e
    refine c34 hr.1 hr.2 ?_
    refine onB.dec (fun e1 => c34 hr.1 hr.2 ?_) (fun e1 => ?_)
    · rw [e, decide_eq_true e1, Bool.true_and, Bool.true_and] at k; exact k
    · rw [e, decide_eq_false e1] at k; exact k
  · rw [e] at k; exact k
noncomputable def checkP (a b : Int) : Int := if propP a = true then (if mayP a b = true then 0 else 9) else 3
theorem checkP_ok {a b : Int} : decide (checkP a b = 0) = mayP a b := by
  unfold checkP
  cases h1 : propP a with
  | false => simp [mayP, h1]
  | true =>
    cases h2 : mayP a b <;> simp
theorem c16 {a b : Int} (k : Post (.i .i64 (checkP a b)) h) : wpC Try.prog 16 [.i .i64 a, .i .i64 b] Post h := by
  refine call_sound (args := [.ii .i64 a, .ii .i64 b]) (cuts := []) ⟨trivial, trivial, trivial⟩ ?_
  rw [vc16]
  refine c30 fun n _ => ?_
  unfold checkP mayP at k
  show onB (!(propP a)) _ _
  cases hp : propP a with
  | false => rw [hp] at k; exact onB.pos rfl k
  | true =>
    rw [hp] at k
    simp only [if_true, Bool.true_and] at k
    refine onB.neg rfl (onB.dec (fun e => ?_) (fun e => onB.dec (fun e1 => ?_) (fun e1 => ?_)))
    · simp only [if_true] at e
      have : ¬ lowP a.toNat ≤ b := by omega
      simpa [this] using k
    · simp only [if_true] at e1
      have : ¬ b ≤ highP a.toNat := by omega
      simpa [this] using k
    · simp only [if_true] at e e1
      have e2 : lowP a.toNat ≤ b := by omega
      have e3 : b ≤ highP a.toNat := by omega
      simpa [e2, e3] using k
end
/-! ### plain -/
noncomputable def okR (x : D.Reg) : Bool := mayP x.prop x.value && isS x.stamp
noncomputable def mayR : Option Int → List D.Reg → Bool
  | _, [] => true
  | p, x :: l => okR x && ((match p with | none => true | some q => decide (q < x.prop)) && mayR (some x.prop) l)
noncomputable def prevP (l : List D.Reg) : Nat → Option Int
  | 0 => none
  | k + 1 => (l[k]?).map (·.prop)
noncomputable def regC (x : D.Reg) : List AV := [.i .i64 x.prop, .i .i64 x.value, .i .i64 x.stamp.time, .i .i64 x.stamp.rep]
theorem reg_cells {h : Hp} {x : D.Reg} : ∀ c, D.kReg.K h x c → c = regC x := fun c k => (D.kReg_open k).1
theorem reg_flat : D.kReg.Flat := fun h h' x c k => k
theorem drop_of {α : Type} {l : List α} {k : Nat} {x : α} (h : l[k]? = some x) : l.drop k = x :: l.drop (k + 1) := by
  obtain ⟨hk, e⟩ := List.getElem?_eq_some_iff.1 h
  rw [List.drop_eq_getElem_cons hk, e]
theorem get_lt {α : Type} {l : List α} {k : Nat} (h : k < l.length) : ∃ x, l[k]? = some x := ⟨_, List.getElem?_eq_getElem h⟩
theorem take_succ' {α : Type} {l : List α} {k : Nat} {x : α} (h : l[k]? = some x) : l.take (k + 1) = l.take k ++ [x] := by
  rw [List.take_add_one, h]; rfl
abbrev RegRow := D.kReg.Row
section
variable {h : Hp} {a : AV} {l : List D.Reg}
theorem reg0 (r : RegRow h a l) {k : Nat} {x : D.Reg} (e : l[k]? = some x) {K : Int → Prop} (q : K x.prop) : onO (idxV a (k : Int) 4) fun r0 => onO (rdH h r0.1 (r0.2 + 0) 1) fun l0 => onL [Kd.int .i64] l0 K :=
  r.part (Int.natCast_nonneg k) (by simpa using e) reg_cells (p := [.i .i64 x.prop]) rfl rfl (onL.i1 q)
theorem reg1 (r : RegRow h a l) {k : Nat} {x : D.Reg} (e : l[k]? = some x) {K : Int → Prop} (q : K x.value) : onO (idxV a (k : Int) 4) fun r0 => onO (rdH h r0.1 (r0.2 + 1) 1) fun l0 => onL [Kd.int .i64] l0 K :=
  r.part (Int.natCast_nonneg k) (by simpa using e) reg_cells (p := [.i .i64 x.value]) rfl rfl (onL.i1 q)
theorem reg2 (r : RegRow h a l) {k : Nat} {x : D.Reg} (e : l[k]? = some x) {K : Int → Int → Prop} (q : K x.stamp.time x.stamp.rep) : onO (idxV a (k : Int) 4) fun r0 => onO (rdH h r0.1 (r0.2 + 2) 2) fun l0 => onL [Kd.int .i64, Kd.int .i64] l0 K :=
  r.part (Int.natCast_nonneg k) (by simpa using e) reg_cells (p := [.i .i64 x.stamp.time, .i .i64 x.stamp.rep]) rfl rfl (onL.i2 q)
theorem regW (r : RegRow h a l) {k : Nat} {x : D.Reg} (e : l[k]? = some x) {K : Int → Int → Int → Int → Prop} (q : K x.prop x.value x.stamp.time x.stamp.rep) : onO (idxV a (k : Int) 4) fun r0 => onO (rdH h r0.1 r0.2 4) fun l0 => onL [Kd.int .i64, Kd.int .i64, Kd.int .i64, Kd.int .i64] l0 K :=
  r.whole (Int.natCast_nonneg k) (by simpa using e) reg_cells rfl (onL.i4 q)
theorem Kn.Row.all {α : Type} {d : Kn α} {h : Hp} {a : AV} {l : List α} (r : d.Row h a l) {x : α} (hx : x ∈ l) : ∃ c, d.K h x c := by
  obtain ⟨css, _, r2⟩ := r
  obtain ⟨i, hi, rfl⟩ := List.getElem_of_mem hx
  obtain ⟨c, _, k⟩ := r2.get (List.getElem?_eq_getElem hi)
  exact ⟨c, k⟩
theorem inc64 {k : Nat} (h : k < 1000000000000) : intO .add .i64 (k : Int) 1 = some ((k + 1 : Nat) : Int) := by
  rw [add64 (by omega) (by omega)]; rfl
end
section
variable {h : Hp} {a b : AV} {l la lb : List D.Reg} {Post : AV → Hp → Prop}
theorem c24 (r : RegRow h a l) (hb : l.length < 1000000) (k : Post (.b (mayR none l)) h) : wpC Try.prog 24 [a] Post h := by
  refine call_sound (args := [.vv a]) (cuts := [0]) ⟨r.sc, trivial⟩ ?_
  rw [vc24]
  refine ⟨fun m i _ h' => h' = h ∧ ∃ k : Nat, i = k ∧ k ≤ l.length ∧ m = l.length - k ∧ mayR none l = mayR (prevP l k) (l.drop k), ⟨l.length, rfl, 0, rfl, by omega, rfl, rfl⟩, ?_⟩
  rintro m h0 _ _ ⟨rfl, j, rfl, hj, rfl, hp⟩
  refine Dup.mk (onO.mk r.len (onB.dec (fun e => ?_) (fun e => ?_)))
  · have : j = l.length := by omega
    rw [hp, this, List.drop_length] at k
    exact k
  · obtain ⟨x, hx⟩ := get_lt (l := l) (k := j) (by omega)
    rw [drop_of hx] at hp
    simp only [mayR, okR] at hp
    refine reg0 r hx (reg1 r hx (c25 (onRet.b (onB.mk (fun e1 => ?_) (fun e1 => ?_)))))
    · refine reg2 r hx (c26 (onRet.b (onB.mk (fun e2 => ?_) (fun e2 => ?_))))
      · rw [e1, e2, Bool.true_and, Bool.true_and] at hp
        refine onB.dec (fun e3 => ?_) (fun e3 => ?_)
        · have : j = 0 := by omega
          subst this
          exact onO.mk (inc64 (k := 0) (by omega)) ⟨_, by show l.length - 1 < l.length - 0; omega, rfl, 1, rfl, by omega, rfl, by simp only [prevP, Bool.true_and] at hp; simp only [prevP, hx]; exact hp⟩
        · obtain ⟨j, rfl⟩ : ∃ i, j = i + 1 := ⟨j - 1, by omega⟩
          obtain ⟨y, hy⟩ := get_lt (l := l) (k := j) (by omega)
          have hs : intO .sub .i64 ((j + 1 : Nat) : Int) 1 = some (j : Int) := by rw [sub64 (by omega) (by omega)]; congr 1; omega
          simp only [prevP, hy, Option.map_some] at hp
          refine onO.mk hs (reg0 r hy (reg0 r hx (onB.dec (fun e4 => ?_) (fun e4 => ?_))))
          · rw [decide_eq_true e4, Bool.true_and] at hp
            exact onO.mk (inc64 (by omega)) ⟨_, by show l.length - (j + 1 + 1) < l.length - (j + 1); omega, rfl, j + 1 + 1, rfl, by omega, rfl, by simp only [prevP, hx]; exact hp⟩
          · rw [decide_eq_false e4, Bool.false_and] at hp
            rw [hp] at k; exact k
      · rw [e1, e2] at hp
        rw [hp] at k; exact k
    · rw [e1] at hp
      rw [hp] at k; exact k
theorem c19 (r : RegRow h a l) (hb : l.length < 1000000) (k : Post (.b (mayR none l)) h) : wpC Try.prog 19 [a] Post h := by
  refine call_sound (args := [.vv a]) (cuts := []) ⟨r.sc, trivial⟩ ?_
  rw [vc19]
  refine ⟨fun m _ i h' => h' = h ∧ ∃ k : Nat, i = k ∧ k ≤ l.length ∧ m = l.length - k ∧ mayR none l = mayR (prevP l k) (l.drop k), ⟨l.length, rfl, 0, rfl, by omega, rfl, rfl⟩, ?_⟩
  rintro m h0 _ _ ⟨rfl, j, rfl, hj, rfl, hp⟩
  refine onO.mk r.len (onB.dec (fun e => ?_) (fun e => ?_))
  · obtain ⟨x, hx⟩ := get_lt (l := l) (k := j) (by omega)
    rw [drop_of hx] at hp
    simp only [mayR, okR] at hp
    refine reg0 r hx (reg1 r hx (c16 (onRet.i ?_)))
    rw [checkP_ok]
    refine onB.not (fun e1 => ?_) (fun e1 => ?_)
    · rw [e1] at hp
      rw [hp] at k; exact k
    · refine reg2 r hx (c28 (onRet.b (onB.not (fun e2 => ?_) (fun e2 => ?_))))
      · rw [e1, e2] at hp
        rw [hp] at k; exact k
      · rw [e1, e2, Bool.true_and, Bool.true_and] at hp
        refine onB.dec (fun e3 => ?_) (fun e3 => ?_)
        · obtain ⟨j, rfl⟩ : ∃ i, j = i + 1 := ⟨j - 1, by omega⟩
          obtain ⟨y, hy⟩ := get_lt (l := l) (k := j) (by omega)
          have hs : intO .sub .i64 ((j + 1 : Nat) : Int) 1 = some (j : Int) := by rw [sub64 (by omega) (by omega)]; congr 1; omega
          simp only [prevP, hy, Option.map_some] at hp
          refine onO.mk hs (reg0 r hy (reg0 r hx (onB.dec (fun e4 => ?_) (fun e4 => ?_))))
          · rw [decide_eq_false (by omega), Bool.false_and] at hp
            rw [hp] at k; exact k
          · rw [decide_eq_true (by omega), Bool.true_and] at hp
            exact onO.mk (inc64 (by omega)) ⟨_, by show l.length - (j + 1 + 1) < l.length - (j + 1); omega, rfl, j + 1 + 1, rfl, by omega, rfl, by simp only [prevP, hx]; exact hp⟩
        · have : j = 0 := by omega
          subst this
          exact onO.mk (inc64 (k := 0) (by omega)) ⟨_, by show l.length - 1 < l.length - 0; omega, rfl, 1, rfl, by omega, rfl, by simp only [prevP, Bool.true_and] at hp; simp only [prevP, hx]; exact hp⟩
  · have : j = l.length := by omega
    rw [hp, this, List.drop_length] at k
    exact k
theorem c9 (r : RegRow h a l) (hb : l.length < 1000000) (k : ∀ r' h', D.kReg.Own h h' r' l → Post r' h') : wpC Try.prog 9 [a] Post h := by
  refine call_sound (args := [.vv a]) (cuts := []) ⟨r.sc, trivial⟩ ?_
  rw [vc9]
  refine ⟨fun m b i h' => ∃ k : Nat, i = k ∧ k ≤ l.length ∧ m = l.length - k ∧ D.kReg.Own h h' b (l.take k), ⟨l.length, 0, rfl, by omega, rfl, Kn.Own.nil _ _⟩, ?_⟩
  rintro m h0 b _ _ ⟨j, rfl, hj, rfl, ow⟩
  refine onO.mk r.len (onB.dec (fun e => ?_) (fun e => ?_))
  · obtain ⟨x, hx⟩ := get_lt (l := l) (k := j) (by omega)
    have r0 : RegRow h0 a l := r.mono ow.le
    obtain ⟨c, hc⟩ := r0.all (List.mem_of_getElem? hx)
    have := reg_cells c hc
    subst this
    refine regW r0 hx fun _ => ow.app1 rfl reg_flat hc (by simp; omega) fun r' h' ow' => ?_
    exact onO.mk rfl (onO.mk (inc64 (by omega)) ⟨_, by show l.length - (j + 1) < l.length - j; omega, j + 1, rfl, by omega, rfl, by rw [take_succ' hx]; exact ow'⟩)
  · have : j = l.length := by omega
    subst this
    rw [List.take_length] at ow
    exact k _ _ ow
theorem c12 (ra : RegRow h a la) (rb : RegRow h b lb) (hb : la.length < 1000000) (k : Post (.b (decide (la = lb))) h) : wpC Try.prog 12 [a, b] Post h := by
  refine call_sound (args := [.vv a, .vv b]) (cuts := []) ⟨ra.sc, rb.sc, trivial⟩ ?_
  rw [vc12]
  refine onO.mk ra.len (onO.mk rb.len (onB.ndec (fun e => ?_) (fun e => ?_)))
  · rw [decide_eq_false (fun e' => e (by rw [e']))] at k
    exact k
  · have hl : la.length = lb.length := by omega
    refine ⟨fun m _ i h' => h' = h ∧ ∃ k : Nat, i = k ∧ k ≤ la.length ∧ m = la.length - k ∧ la.take k = lb.take k, ⟨la.length, rfl, 0, rfl, by omega, rfl, by simp⟩, ?_⟩
    rintro m h0 _ _ ⟨rfl, j, rfl, hj, rfl, hp⟩
    refine onO.mk ra.len (onB.dec (fun e => ?_) (fun e => ?_))
    · obtain ⟨x, hx⟩ := get_lt (l := la) (k := j) (by omega)
      obtain ⟨y, hy⟩ := get_lt (l := lb) (k := j) (by omega)
      refine regW ra hx (regW rb hy (onB.not (fun e1 => ?_) (fun e1 => ?_)))
      · have hne : x ≠ y := by
          intro e2; subst e2; simp at e1
        have : la ≠ lb := by
          intro e2; subst e2; rw [hx] at hy; injection hy with hy; exact hne hy
        rw [decide_eq_false this] at k; exact k
      · have he : x = y := by
          simp only [Bool.and_eq_true, decide_eq_true_eq] at e1
          obtain ⟨e1, e2, e3, e4⟩ := e1
          cases x with
          | mk p v s =>
            cases s
            cases y with
            | mk p2 v2 s2 => cases s2; simp_all
        subst he
        exact onO.mk (inc64 (by omega)) ⟨_, by show la.length - (j + 1) < la.length - j; omega, rfl, j + 1, rfl, by omega, rfl, by rw [take_succ' hx, take_succ' hy, hp]⟩
    · have : j = la.length := by omega
      subst this
      rw [List.take_length, hl, List.take_length] at hp
      rw [decide_eq_true hp] at k; exact k
end
abbrev IR := Kn.int.Row
theorem onRet.a2 {n m : Int} {K : Int → Int → Prop} (k : K n m) : onRet [Sh.agg [Kd.int .i64, Kd.int .i64]] (.agg [.i .i64 n, .i .i64 m]) K := k
/-! ### Clone -/
theorem Raw.src {h : Hp} {a : AV} {sz : Nat} {css : List (List AV)} (r : Raw h a sz css) : ∃ s, srcV sz a = some (css.length, s) ∧ srcH h s = some css.flatten := by
  obtain ⟨hc, r⟩ := r
  cases a <;> first | exact r.elim | skip
  · rename_i b o len lo ex z
    obtain ⟨r1, r2, r3, r4⟩ := r
    subst r1; subst r2
    refine ⟨_, by show cond (Nat.beq z z) _ _ = _; rw [Nat.beq_refl, cond_true], ?_⟩
    cases hl : Nat.beq css.length 0 with
    | true =>
      have : css = [] := List.length_eq_zero_iff.1 (beq_eq' hl)
      subst this; rfl
    | false =>
      rcases r4 with r4 | r4
      · subst r4; cases hl
      · exact r4
  all_goals
    have r : css = [] := r
    subst r
    exact ⟨.lit [], rfl, rfl⟩
theorem Raw.nil {h : Hp} {a : AV} {sz : Nat} {css : List (List AV)} (r : Raw h a sz css) : ∃ c, nilSl a = some c ∧ (c = true → css = []) := by
  obtain ⟨hc, r⟩ := r
  cases a <;> first | exact r.elim | skip
  · exact ⟨false, rfl, fun e => by cases e⟩
  · exact ⟨true, rfl, fun _ => r⟩
  · exact ⟨false, rfl, fun e => by cases e⟩
/-- a copy by append to an empty row of its own -/
theorem clone_body {α : Type} {d : Kn α} {h : Hp} {a : AV} {l : List α} {sz nb : Nat} {Post : AV → Hp → Prop} (r : d.Row h a l) (hsz : d.sz = sz) (fl : d.Flat) (hb : l.length < 1000000) (hm : Nat.ble ((4 * l.length + 4000) * nb) 17179869184 = true) (k : ∀ r' h', d.Own h h' r' l → Post r' h') :
    onO (nilSl a) fun c0 => onB c0 (Post AV.ns h) (∀ (p0 : Nat), h.g p0 = none → h.lo.le p0 → onO (srcV sz a) fun r0 =>
      onC (((4 * r0.fst + 4000) * nb).ble (OfNat.ofNat 17179869184)) (wpE (Eff.app (AV.sl p0 0 0 0 true sz) r0.fst r0.snd sz) (fun x0 h0 => onO x0 fun a0 => Post a0 h0) (h.put p0 []))) := by
  subst hsz
  obtain ⟨css, r1, r2⟩ := r
  obtain ⟨c, e1, e2⟩ := r1.nil
  have hl := r2.length
  refine onO.mk e1 (onB.mk (fun e => ?_) (fun _ p hp hlo => ?_))
  · have := e2 e
    subst this
    have : l = [] := List.length_eq_zero_iff.1 hl
    subst this
    exact k _ _ (Kn.Own.nil d h)
  · obtain ⟨s, s1, s2⟩ := r1.src
    refine onO.mk s1 (onC.mk (by rw [← hl]; exact hm) ?_)
    have f := Fresh.put (Hp.le_refl h) rfl hp hlo (css := []) (sz := d.sz) (len := 0) true (fun c hc => by cases hc) rfl (cs := []) rfl
    have ow : d.Own h (h.put p []) (.sl p 0 0 0 true d.sz) [] := ⟨h, [], Hp.le_refl h, rfl, f, .nil⟩
    have s3 : srcH (h.put p []) s = some css.flatten := by
      cases s with
      | lit l => exact s2
      | mem b o n => exact rdH_le (Hp.le_put hp) s2
    exact ow.app rfl fl (r2.mono fun _ _ q => fl _ _ _ _ q) s3 hl (by simp; omega) fun r' h' o' => onO.mk rfl (k _ _ (by simpa using o'))
section
variable {h : Hp} {a b : AV} {Post : AV → Hp → Prop}
theorem in64_of {n : Int} (k : In64 n) : Kn.int.K h n [.i .i64 n] := ⟨rfl, k⟩
end
/-! ### operations with memory of their own -/
noncomputable def intC (l : List Int) : List (List AV) := l.map fun x => [.i .i64 x]
theorem ints_css {h : Hp} : ∀ {l : List Int} {css : List (List AV)}, All2 (Kn.int.K h) l css → css = intC l
  | [], _, .nil => rfl
  | _ :: _, _, .cons k t => by rw [k.1, ints_css t]; rfl
theorem Kn.Own.part {g h : Hp} {a : AV} {l : List Int} (o : Kn.int.Own g h a l) : ∃ q, q.le h ∧ Disj q g ∧ q.lo = g.lo ∧ (∀ b, q.g b ≠ none → g.lo ≤ b) ∧ Fresh (Hp.none g.lo) q a 1 (intC l) ∧ IR q a l := by
  obtain ⟨p, css, h0, h1, f, h2⟩ := o
  obtain ⟨q, q1, q2, q3, q4, q5⟩ := f.part
  have e := ints_css h2
  subst e
  rw [h1] at q3 q4 q5
  exact ⟨q, q1, q2.le_right h0, q3, q4, q5, _, q5.row, h2.mono fun _ _ k => k⟩
section
variable {h : Hp} {Post : AV → Hp → Prop}
theorem wru64 (n : Int) : wrO .u64 n = some (n % 18446744073709551616) := by unfold wrO; rw [wrap_mod rfl]; rfl
end
open Classical in
/-- what is seen of some blocks -/
noncomputable def Hp.res (h : Hp) (S : Nat → Prop) : Hp := ⟨fun k => if S k then h.g k else Option.none, h.lo⟩
open Classical in
theorem Hp.res_le (h : Hp) (S : Nat → Prop) : (h.res S).le h := fun k c e => by
  have e : (if S k then h.g k else Option.none) = some c := e
  by_cases hs : S k
  · rw [if_pos hs] at e; exact e
  · rw [if_neg hs] at e; cases e
theorem Hp.res_in {h : Hp} {S : Nat → Prop} {k : Nat} (hs : S k) : (h.res S).g k = h.g k := if_pos hs
theorem Hp.res_out {h : Hp} {S : Nat → Prop} {k : Nat} (hs : ¬ S k) : (h.res S).g k = Option.none := if_neg hs
theorem Hp.res_has {h : Hp} {S : Nat → Prop} {k : Nat} {c : List AV} (e : (h.res S).g k = some c) : S k := by
  by_cases hs : S k
  · exact hs
  · rw [Hp.res_out hs] at e; cases e
/-- all of a row of one's own, apart from the rest -/
theorem OwnD.part {α : Type} {E : Hp → α → List AV → Prop} {sz : Nat} {g h : Hp} {a : AV} {l : List α} (o : OwnD E sz g h a l) : ∃ q, q.le h ∧ Disj q g ∧ q.lo = g.lo ∧ OwnD E sz (Hp.none g.lo) q a l := by
  obtain ⟨p, css, qs, o⟩ := o
  have hin : ∀ i k, (qs i).g k ≠ none → h.g k = (qs i).g k := fun i k e => by
    cases hq : (qs i).g k with
    | none => exact absurd hq e
    | some c => exact o.fr.le k c (o.sub i k c hq)
  have hlo : h.lo = g.lo := o.fr.lo.trans o.lo
  refine ⟨h.res fun k => (∃ b of len lo ex z, a = .sl b of len lo ex z ∧ k = b) ∨ ∃ i, (qs i).g k ≠ none, Hp.res_le _ _, fun k c e => ?_, hlo, h.res fun k => ∃ i, (qs i).g k ≠ none, css, qs, none_le _ _, hlo, ?_, o.len, fun i k c e => ?_, fun i k c e => rfl, o.dd, o.qlo, o.own, o.el⟩
  · rcases Hp.res_has e with ⟨b, of, len, lo, ex, z, ea, rfl⟩ | ⟨i, hi⟩
    · exact le_none o.le (o.fr.new _ _ _ _ _ _ ea).1
    · cases hq : (qs i).g k with
      | none => exact absurd hq hi
      | some c' => exact o.dj i k c' hq
  · refine ⟨fun k c e => ?_, rfl, ⟨o.fr.row.1, ?_⟩, fun b of len lo ex z ea => ?_⟩
    · have hk := Hp.res_has e
      rw [Hp.res_in hk] at e
      rw [Hp.res_in (.inr hk)]; exact e
    · have r := o.fr.row.2
      cases a <;> first | exact r | skip
      obtain ⟨r1, r2, r3, r4⟩ := r
      refine ⟨r1, r2, r3, r4.imp id fun e => ?_⟩
      unfold rdH at e ⊢
      rw [Hp.res_in (.inl ⟨_, _, _, _, _, _, rfl, rfl⟩)]; exact e
    · obtain ⟨n1, n2, cs, n3, n4⟩ := o.fr.new _ _ _ _ _ _ ea
      refine ⟨?_, by show h.lo ≤ b; rw [o.fr.lo]; exact n2, cs, ?_, n4⟩
      · apply Hp.res_out
        rintro ⟨i, hi⟩
        cases hq : (qs i).g b with
        | none => exact hi hq
        | some c' => rw [o.sub i b c' hq] at n1; cases n1
      · rw [Hp.res_in (.inl ⟨_, _, _, _, _, _, ea, rfl⟩)]; exact n3
  · have hi : (qs i).g k ≠ none := by rw [e]; simp
    rw [Hp.res_in ⟨i, hi⟩, hin i k hi]; exact e
section
variable {g h : Hp} {a b : AV} {Post : AV → Hp → Prop}
theorem onTup.z {K : Prop} (k : K) : onTup [] (.tup []) K := k
end
section
variable {h : Hp} {a b : AV} {v : List Int} {Post : AV → Hp → Prop}
/-- an answer that may be written over, apart from what is seen -/
noncomputable def Spo (f : Nat) (g h : Hp) (A : AV) : Prop := ∃ q, q.le h ∧ Disj q g ∧ q.lo = h.lo ∧ wpC Try.prog f [A] (fun v _ => v = .tup []) q
theorem Spo.use {f : Nat} {g h H : Hp} {A : AV} {Post : AV → Hp → Prop} (o : Spo f g h A) (le : h.le H) (lo : H.lo = h.lo) (k : ∀ q H', Disj q g → q.le h → (restH H q).le H' → H'.lo = H.lo → Post (.tup []) H') : wpC Try.prog f [A] Post H := by
  obtain ⟨q, q1, q2, q3, w⟩ := o
  refine (wpC.part (Hp.le_trans q1 le) (q3.trans lo.symm) w).mono ?_
  rintro v H' ⟨q', _, l2, lo2, rfl⟩
  exact k q H' q2 q1 l2 lo2
end
/- arras/arraslaw15.wakes -/
theorem vc14  (h : Hp) (Post : AV → Hp → Prop) : vcCall Try.prog [] 14 [] h Post = (
  wpC Try.prog 8 [AV.ns, AV.i IntKind.i64 17, AV.i IntKind.i64 1, AV.agg [AV.i IntKind.i64 5, AV.i IntKind.i64 0]]
  (fun a0 h0 =>
    onTup [Sh.one Kd.ref, Sh.one (Kd.int IntKind.i64)] a0 fun a1 n0 =>
      wpC Try.prog 8 [a1, AV.i IntKind.i64 17, AV.i IntKind.i64 2, AV.agg [AV.i IntKind.i64 4, AV.i IntKind.i64 0]]
        (fun a2 h1 =>
          onTup [Sh.one Kd.ref, Sh.one (Kd.int IntKind.i64)] a2 fun a3 n1 =>
            wpC Try.prog 18 [a3, AV.i IntKind.i64 17]
              (fun a4 h2 =>
                onTup [Sh.one (Kd.int IntKind.i64), Sh.one (Kd.int IntKind.i64)] a4 fun n2 n3 =>
                  wpC Try.prog 11 [AV.i IntKind.i64 n0]
                    (fun a5 h3 =>
                      onRet [Sh.one (Kd.int IntKind.i64)] a5 fun n4 =>
                        onB (decide (n4 = 0))
                          (wpC Try.prog 11 [AV.i IntKind.i64 n1]
                            (fun a6 h4 =>
                              onRet [Sh.one (Kd.int IntKind.i64)] a6 fun n5 =>
                                onB (decide (n5 = 0))
                                  (wpC Try.prog 11 [AV.i IntKind.i64 n3]
                                    (fun a7 h5 => onRet [Sh.one (Kd.int IntKind.i64)] a7 fun n6 => onB (decide (n6 = 0)) (Post (AV.b (decide (n2 = 1))) h5) (Post (AV.b false) h5)) h4)
                                  (Post (AV.b false) h4))
                            h3)
                          (Post (AV.b false) h3))
                    h2)
              h1)
        h0)
  h) := by kernel_rfl
/- arras/arraslaw15.RegExact -/
theorem vc6 (a0 : AV) (a1 : AV) (a2 : AV) (h : Hp) (Post : AV → Hp → Prop) : vcCall Try.prog [11000033,
 21000057,
 32999999,
 39000083,
 59000129,
 73000154] 6 [(SV.ag [(SV.vv a0), (SV.vv a1), (SV.vv a2)])] h Post = (
  ∀ (p0 : Nat),
  wpC Try.prog 7 [AV.agg [a0, a1, a2]]
    (fun a0_1 h0 =>
      onRet [Sh.one Kd.bool] a0_1 fun c0 =>
        onB c0 (Post (AV.b true) h0)
          (wpC Try.prog 9 [a0]
            (fun a1_1 h1 =>
              onRet [Sh.one Kd.ref] a1_1 fun a2_1 =>
                ∃ I0 : Nat → Bool → AV → Int → Hp → Prop,
                  (∃ p1, I0 p1 false a2_1 0 h1) ∧
                    ∀ (p2 : Nat) (h2 : Hp) (c1 : Bool) (a3 : AV),
                      a3.sc = true →
                        ∀ (n0 : Int),
                          I0 p2 c1 a3 n0 h2 →
                            ∃ I1 : Bool → Hp → Prop,
                              (onO (lenV a2) fun p3 => onB (decide (n0 < ↑p3)) (I1 (decide (n0 < 25)) h2) (I1 false h2)) ∧
                                ∀ (h3 : Hp) (c2 : Bool),
                                  I1 c2 h3 →
                                    onB c2
                                      (onO (idxV a2 n0 4) fun r0 =>
                                        onO (rdH h3 r0.fst r0.snd 4) fun l0 =>
                                          onL [Kd.int IntKind.i64, Kd.int IntKind.i64, Kd.int IntKind.i64, Kd.int IntKind.i64] l0 fun n1 n2 n3 n4 =>
                                            ∀ (p4 : Nat),
                                              wpC Try.prog 19 [a3]
                                                (fun a4 h4 =>
                                                  onRet [Sh.one Kd.bool] a4 fun c3 =>
                                                    wpC Try.prog 21 [a3]
                                                      (fun a5 h5 =>
                                                        onRet [Sh.one (Kd.int IntKind.i64)] a5 fun n5 =>
                                                          wpC Try.prog 11 [AV.i IntKind.i64 n5]
                                                            (fun a6 h6 =>
                                                              onRet [Sh.one (Kd.int IntKind.i64)] a6 fun n6 =>
                                                                ∃ I2 : Bool → Hp → Prop,
                                                                  onB (!c3 == decide (n6 = 0)) (I2 true h6) (onB (!c3) (I2 (!decide (n6 = 1)) h6) (I2 false h6)) ∧
                                                                    ∀ (h7 : Hp) (c4 : Bool),
                                                                      I2 c4 h7 →
                                                                        onB c4 (Post (AV.b false) h7)
                                                                          (wpC Try.prog 18 [a3, AV.i IntKind.i64 n1]
                                                                            (fun a7 h8 =>
                                                                              onTup [Sh.one (Kd.int IntKind.i64), Sh.one (Kd.int IntKind.i64)] a7 fun n7 n8 =>
                                                                                ∃ I3 : Int → Int → Hp → Prop,
                                                                                  onB c3
                                                                                      (wpC Try.prog 22 [a3, AV.i IntKind.i64 n1]
                                                                                        (fun a8 h9 =>
                                                                                          onTup [Sh.one (Kd.int IntKind.i64), Sh.one Kd.bool] a8 fun n9 c5 => onB c5 (I3 0 n9 h9) (I3 3 0 h9))
                                                                                        h8)
                                                                                      (I3 1 0 h8) ∧
                                                                                    ∀ (h10 : Hp) (n10 n11 : Int),
                                                                                      I3 n10 n11 h10 →
                                                                                        ∃ I4 : Bool → Hp → Prop,
                                                                                          wpC Try.prog 11 [AV.i IntKind.i64 n8]
                                                                                              (fun a9 h11 =>
                                                                                                onRet [Sh.one (Kd.int IntKind.i64)] a9 fun n12 =>
                                                                                                  onB (!decide (n12 = n10)) (I4 true h11) (I4 (!decide (n7 = n11)) h11))
                                                                                              h10 ∧
                                                                                            ∀ (h12 : Hp) (c6 : Bool),
                                                                                              I4 c6 h12 →
                                                                                                onB c6 (Post (AV.b false) h12)
                                                                                                  (wpC Try.prog 9 [a3]
                                                                                                    (fun a10 h13 =>
                                                                                                      onRet [Sh.one Kd.ref] a10 fun a11 =>
                                                                                                        wpC Try.prog 8
                                                                                                          [a11, AV.i IntKind.i64 n1, AV.i IntKind.i64 n2,
                                                                                                            AV.agg [AV.i IntKind.i64 n3, AV.i IntKind.i64 n4]]
                                                                                                          (fun a12 h14 =>
                                                                                                            onTup [Sh.one Kd.ref, Sh.one (Kd.int IntKind.i64)] a12 fun a13 n13 =>
                                                                                                              wpC Try.prog 12 [a11, a3]
                                                                                                                (fun a14 h15 =>
                                                                                                                  onRet [Sh.one Kd.bool] a14 fun c7 =>
                                                                                                                    onB (!c7) (Post (AV.b false) h15)
                                                                                                                      (wpC Try.prog 10
                                                                                                                        [a3, AV.i IntKind.i64 n1, AV.i IntKind.i64 n2,
                                                                                                                          AV.agg [AV.i IntKind.i64 n3, AV.i IntKind.i64 n4]]
                                                                                                                        (fun a15 h16 =>
                                                                                                                          onRet [Sh.one Kd.bool] a15 fun c8 =>
                                                                                                                            onB (!c8)
                                                                                                                              (wpC Try.prog 11 [AV.i IntKind.i64 n13]
                                                                                                                                (fun a16 h17 =>
                                                                                                                                  onRet [Sh.one (Kd.int IntKind.i64)] a16 fun n14 =>
                                                                                                                                    onB (!decide (n14 = 1)) (Post (AV.b false) h17)
                                                                                                                                      (onO (intO BinOp.add IntKind.i64 n0 1) fun n15 =>
                                                                                                                                        ∃ p5, ltN p5 p2 ∧ I0 p5 c1 a3 n15 h17))
                                                                                                                                h16)
                                                                                                                              (wpC Try.prog 13
                                                                                                                                [a3, AV.i IntKind.i64 n1, AV.i IntKind.i64 n2,
                                                                                                                                  AV.agg [AV.i IntKind.i64 n3, AV.i IntKind.i64 n4]]
                                                                                                                                (fun a17 h18 =>
                                                                                                                                  onRet [Sh.one Kd.ref] a17 fun a18 =>
                                                                                                                                    ∃ I5 : Bool → Hp → Prop,
                                                                                                                                      wpC Try.prog 11 [AV.i IntKind.i64 n13]
                                                                                                                                          (fun a19 h19 =>
                                                                                                                                            onRet [Sh.one (Kd.int IntKind.i64)] a19 fun n16 =>
                                                                                                                                              onB (!decide (n16 = 0)) (I5 true h19)
                                                                                                                                                (wpC Try.prog 12 [a13, a18]
                                                                                                                                                  (fun a20 h20 =>
                                                                                                                                                    onRet [Sh.one Kd.bool] a20 fun c9 => I5 (!c9) h20)
                                                                                                                                                  h19))
                                                                                                                                          h18 ∧
                                                                                                                                        ∀ (h21 : Hp) (c10 : Bool),
                                                                                                                                          I5 c10 h21 →
                                                                                                                                            onB c10 (Post (AV.b false) h21)
                                                                                                                                              (wpC Try.prog 23 [a13]
                                                                                                                                                (fun a21 h22 =>
                                                                                                                                                  onTup [] a21
                                                                                                                                                    (wpC Try.prog 12 [a11, a3]
                                                                                                                                                      (fun a22 h23 =>
                                                                                                                                                        onRet [Sh.one Kd.bool] a22 fun c11 =>
                                                                                                                                                          onB (!c11) (Post (AV.b false) h23)
                                                                                                                                                            (onO (intO BinOp.add IntKind.i64 n0 1)
                                                                                                                                                              fun n17 =>
                                                                                                                                                              ∃ p6, ltN p6 p2 ∧ I0 p6 c1 a18 n17 h23))
                                                                                                                                                      h22))
                                                                                                                                                h21))
                                                                                                                                h16))
                                                                                                                        h15))
                                                                                                                h14)
                                                                                                          h13)
                                                                                                    h12))
                                                                            h7))
                                                            h5)
                                                      h4)
                                                h3)
                                      (wpC Try.prog 9 [a3]
                                        (fun a23 h24 =>
                                          onRet [Sh.one Kd.ref] a23 fun a24 =>
                                            wpC Try.prog 9 [a1]
                                              (fun a25 h25 =>
                                                onRet [Sh.one Kd.ref] a25 fun a26 =>
                                                  wpC Try.prog 17 [a24, a26]
                                                    (fun a27 h26 =>
                                                      onTup [Sh.one Kd.ref, Sh.one (Kd.int IntKind.i64)] a27 fun a28 n18 =>
                                                        ∃ I6 : Bool → Hp → Prop,
                                                          wpC Try.prog 19 [a3]
                                                              (fun a29 h27 =>
                                                                onRet [Sh.one Kd.bool] a29 fun c12 =>
                                                                  onB (!c12) (I6 true h27) (wpC Try.prog 19 [a1] (fun a30 h28 => onRet [Sh.one Kd.bool] a30 fun c13 => I6 (!c13) h28) h27))
                                                              h26 ∧
                                                            ∀ (h29 : Hp) (c14 : Bool),
                                                              I6 c14 h29 →
                                                                onB c14
                                                                  (wpC Try.prog 11 [AV.i IntKind.i64 n18]
                                                                    (fun a31 h30 =>
                                                                      onRet [Sh.one (Kd.int IntKind.i64)] a31 fun n19 =>
                                                                        onB (decide (n19 = 1)) (wpC Try.prog 14 [] (fun a32 h31 => onRet [Sh.one Kd.bool] a32 fun c15 => Post (AV.b c15) h31) h30)
                                                                          (Post (AV.b false) h30))
                                                                    h29)
                                                                  (wpC Try.prog 11 [AV.i IntKind.i64 n18]
                                                                    (fun a33 h32 =>
                                                                      onRet [Sh.one (Kd.int IntKind.i64)] a33 fun n20 =>
                                                                        onB (decide (n20 = 0))
                                                                          (wpC Try.prog 20 [a3, a1]
                                                                            (fun a34 h33 =>
                                                                              onRet [Sh.one Kd.ref] a34 fun a35 =>
                                                                                wpC Try.prog 12 [a28, a35]
                                                                                  (fun a36 h34 =>
                                                                                    onRet [Sh.one Kd.bool] a36 fun c16 =>
                                                                                      onB c16 (wpC Try.prog 14 [] (fun a37 h35 => onRet [Sh.one Kd.bool] a37 fun c17 => Post (AV.b c17) h35) h34)
                                                                                        (Post (AV.b false) h34))
                                                                                  h33)
                                                                            h32)
                                                                          (Post (AV.b false) h32))
                                                                    h29))
                                                    h25)
                                              h24)
                                        h3))
            h0))
    h) := by kernel_rfl
/-- a register put where it stands by its property -/
noncomputable def putR (x : D.Reg) : List D.Reg → List D.Reg
  | [] => [x]
  | y :: l => if y.prop < x.prop then y :: putR x l else if y.prop = x.prop then (if cmpT y.stamp x.stamp < 0 then x else y) :: l else x :: y :: l
/-- the document's loop -/
noncomputable def setR (x : D.Reg) : Bool → List D.Reg → List D.Reg
  | c, [] => if c = true then [] else [x]
  | c, y :: l => if y.prop = x.prop then (if cmpT y.stamp x.stamp < 0 then x else y) :: setR x true l else if c = false ∧ x.prop < y.prop then x :: y :: setR x true l else y :: setR x c l
noncomputable def Inc (l : List D.Reg) : Prop := l.Pairwise fun a b => a.prop < b.prop
theorem mayR_inc : ∀ {l : List D.Reg} {p : Option Int}, mayR p l = true → Inc l ∧ ∀ q, p = some q → ∀ y ∈ l, q < y.prop
  | [], p, _ => ⟨.nil, fun q _ y hy => by cases hy⟩
  | x :: l, p, h => by
    simp only [mayR, Bool.and_eq_true] at h
    obtain ⟨h1, h2, h3⟩ := h
    obtain ⟨i1, i2⟩ := mayR_inc h3
    have hp : ∀ q, p = some q → q < x.prop := fun q e => by subst e; simpa using h2
    refine ⟨.cons (fun y hy => i2 _ rfl y hy) i1, fun q e y hy => ?_⟩
    rcases List.mem_cons.1 hy with rfl | hy
    · exact hp q e
    · have := i2 _ rfl y hy
      have := hp q e
      omega
theorem mayR_ok : ∀ {l : List D.Reg} {p : Option Int}, mayR p l = true → ∀ y ∈ l, okR y = true
  | [], p, _, y, hy => by cases hy
  | x :: l, p, h, y, hy => by
    simp only [mayR, Bool.and_eq_true] at h
    obtain ⟨h1, h2, h3⟩ := h
    rcases List.mem_cons.1 hy with rfl | hy
    · exact h1
    · exact mayR_ok h3 y hy
theorem putR_may {x : D.Reg} (hx : okR x = true) : ∀ {l : List D.Reg} {p : Option Int}, mayR p l = true → (∀ q, p = some q → q < x.prop) → mayR p (putR x l) = true
  | [], p, _, hp => by
    simp only [putR, mayR, hx, Bool.true_and, Bool.and_true]
    cases p with
    | none => rfl
    | some q => simpa using hp q rfl
  | y :: l, p, h, hp => by
    simp only [mayR, Bool.and_eq_true] at h
    obtain ⟨h1, h2, h3⟩ := h
    unfold putR
    split
    · rename_i e
      simp only [mayR, h1, Bool.true_and]
      rw [putR_may hx h3 (fun q hq => by injection hq with hq; omega), Bool.and_true]
      cases p with
      | none => rfl
      | some q => exact h2
    · rename_i e
      split
      · rename_i e2
        have key : ∀ z : D.Reg, okR z = true → z.prop = y.prop → mayR p (z :: l) = true := fun z hz hzp => by
          simp only [mayR, hz, Bool.true_and, hzp, h3, Bool.and_true]
          cases p with
          | none => rfl
          | some q => exact h2
        split
        · exact key x hx e2.symm
        · exact key y h1 rfl
      · have hlt : x.prop < y.prop := by omega
        have hd : decide (x.prop < y.prop) = true := by simpa using hlt
        simp only [mayR, hx, h1, h3, hd, Bool.true_and, Bool.and_true]
        cases p with
        | none => rfl
        | some q => simpa using hp q rfl
theorem setR_past {x : D.Reg} : ∀ {l : List D.Reg}, (∀ y ∈ l, x.prop < y.prop) → setR x true l = l
  | [], _ => rfl
  | y :: l, h => by
    have hy := h y (by simp)
    unfold setR
    rw [if_neg (by omega), if_neg (by simp), setR_past fun z hz => h z (by simp [hz])]
theorem setR_eq {x : D.Reg} : ∀ {l : List D.Reg}, Inc l → setR x false l = putR x l
  | [], _ => rfl
  | y :: l, h => by
    cases h with
    | cons h1 h2 =>
    unfold setR putR
    by_cases e1 : y.prop < x.prop
    · rw [if_neg (by omega), if_neg (by omega), if_pos e1, setR_eq h2]
    · rw [if_neg e1]
      by_cases e2 : y.prop = x.prop
      · rw [if_pos e2, if_pos e2, setR_past fun z hz => by have := h1 z hz; omega]
      · rw [if_neg e2, if_neg e2, if_pos ⟨rfl, by omega⟩, setR_past fun z hz => by have := h1 z hz; omega]
/-- i is where the property stands, or would -/
noncomputable def At15 (p : Int) (l : List D.Reg) (i : Nat) : Prop := i ≤ l.length ∧ (∀ (k : Nat) (y : D.Reg), k < i → l[k]? = some y → y.prop < p) ∧ ∀ (k : Nat) (y : D.Reg), i ≤ k → l[k]? = some y → p ≤ y.prop
theorem putR_at {x : D.Reg} : ∀ {l : List D.Reg} {i : Nat}, At15 x.prop l i → putR x l = (match l[i]? with
    | some y => if y.prop = x.prop then (if cmpT y.stamp x.stamp < 0 then l.set i x else l) else l.take i ++ x :: l.drop i
    | none => l.take i ++ x :: l.drop i)
  | [], 0, _ => rfl
  | [], i + 1, h => by have := h.1; simp at this
  | y :: l, 0, h => by
    have h3 := h.2.2 0 y (Nat.le_refl _) rfl
    unfold putR
    rw [if_neg (by omega)]
    simp only [List.getElem?_cons_zero, List.set_cons_zero, List.take_zero, List.nil_append, List.drop_zero]
    split
    · split <;> rfl
    · rfl
  | y :: l, i + 1, h => by
    obtain ⟨h1, h2, h3⟩ := h
    have e := h2 0 y (by omega) rfl
    have ih : At15 x.prop l i := ⟨by simp at h1; omega, fun k z hk hz => h2 (k + 1) z (by omega) (by simpa using hz), fun k z hk hz => h3 (k + 1) z (by omega) (by simpa using hz)⟩
    unfold putR
    rw [if_pos e, putR_at ih]
    simp only [List.getElem?_cons_succ, List.set_cons_succ, List.take_succ_cons, List.drop_succ_cons]
    cases l[i]? with
    | none => rfl
    | some z =>
      simp only
      split
      · split <;> rfl
      · rfl
theorem putR_len {x : D.Reg} : ∀ (l : List D.Reg), (putR x l).length ≤ l.length + 1
  | [] => by simp [putR]
  | y :: l => by
    have := putR_len (x := x) l
    unfold putR
    split
    · simp; omega
    · split <;> simp
/-! ### contracts -/
theorem shr1u {n : Nat} (h : n < 18446744073709551616) : shO .shr .u64 (n : Int) 1 = some ((n / 2 : Nat) : Int) := by
  unfold shO
  show (match some (AV.i .u64 (Int.fdiv (n : Int) ((2 : Nat) : Int))) with | some (.i _ c) => some c | _ => none) = _
  show some (Int.fdiv (n : Int) ((2 : Nat) : Int)) = _
  rw [Int.fdiv_eq_ediv_of_nonneg _ (by omega)]
  rfl
theorem wri64 {n : Nat} (h : n < 9223372036854775808) : wrO .i64 (n : Int) = some (n : Int) := by
  unfold wrO; rw [wrap64 (by omega) (by omega)]
section
variable {h : Hp} {a b : AV} {l m : List D.Reg} {Post : AV → Hp → Prop}
theorem reg_k {x : D.Reg} {c : List AV} (k : D.kReg.K h x c) {h' : Hp} : D.kReg.K h' x (regC x) := by
  have := reg_cells c k
  subst this; exact reg_flat _ _ _ _ k
theorem okR_nums {x : D.Reg} (hx : okR x = true) : D.kReg.K h x (regC x) := by
  unfold okR mayP isS propP at hx
  simp only [Bool.and_eq_true, decide_eq_true_eq] at hx
  obtain ⟨⟨h1, h2, h3⟩, h4, h5, h6, h7⟩ := hx
  have lb : ∀ n : Nat, -1 ≤ lowP n := fun n => by unfold lowP; split <;> omega
  have hb : ∀ n : Nat, highP n ≤ 1099511627776 := fun n => by unfold highP; split <;> omega
  have := lb x.prop.toNat
  have := hb x.prop.toNat
  have i1 : In64 x.prop := ⟨by omega, by omega⟩
  have i2 : In64 x.value := ⟨by omega, by omega⟩
  have i3 : In64 x.stamp.time := ⟨by omega, by omega⟩
  have i4 : In64 x.stamp.rep := ⟨by omega, by omega⟩
  exact ⟨_, _, rfl, in64_of i1, _, _, rfl, in64_of i2, _, _, rfl, in64_of i3, in64_of i4⟩
theorem c31 (r : RegRow h a l) (hb : l.length < 1000000) (k : ∀ r' h', D.kReg.Own h h' r' l → Post r' h') : wpC Try.prog 31 [a] Post h := by
  refine call_sound (args := [.vv a]) (cuts := []) ⟨r.sc, trivial⟩ ?_
  rw [vc31]
  exact clone_body r rfl reg_flat hb (Nat.ble_eq_true_of_le (by omega)) k
theorem c39 {x : D.Reg} {p : Int} (k : Post (.i .i64 (cmpN x.prop p)) h) : wpC Try.prog 39 [.agg (regC x), .i .i64 p] Post h := by
  refine call_sound (args := [.ag [.ii .i64 x.prop, .ii .i64 x.value, .ii .i64 x.stamp.time, .ii .i64 x.stamp.rep], .ii .i64 p]) (cuts := []) ⟨⟨trivial, trivial, trivial, trivial, trivial⟩, trivial, trivial⟩ ?_
  rw [vc39]
  exact fun _ => c40 (onRet.i k)
theorem cmpN_neg {a b : Int} : cmpN a b < 0 ↔ a < b := by
  unfold cmpN
  split
  · simp [*]
  · split <;> omega
theorem cmpN_zero {a b : Int} : cmpN a b = 0 ↔ a = b := by
  unfold cmpN
  split
  · omega
  · split <;> omega
theorem inc_lt (hi : Inc l) {i j : Nat} {x y : D.Reg} (hij : i < j) (hx : l[i]? = some x) (hy : l[j]? = some y) : x.prop < y.prop := by
  obtain ⟨h1, rfl⟩ := List.getElem?_eq_some_iff.1 hx
  obtain ⟨h2, rfl⟩ := List.getElem?_eq_some_iff.1 hy
  exact List.pairwise_iff_getElem.1 hi i j h1 h2 hij
/-- where it stands, and whether -/
noncomputable def foundR (p : Int) (l : List D.Reg) (i : Nat) : Bool := match l[i]? with
  | some y => decide (y.prop = p)
  | none => false
theorem c38 {p : Int} (r : RegRow h a l) (hb : l.length < 1000000) (hi : Inc l) (k : ∀ i : Nat, At15 p l i → Post (.tup [.i .i64 (i : Int), .b (foundR p l i)]) h) : wpC Try.prog 38 [a, .i .i64 p, .f 39 []] Post h := by
  refine call_sound (args := [.vv a, .ii .i64 p, .ff 39 []]) (cuts := []) ⟨r.sc, trivial, trivial, trivial⟩ ?_
  rw [vc38]
  refine onO.mk r.len ⟨fun m n0 n1 h' => h = h' ∧ ∃ i j : Nat, n0 = i ∧ n1 = j ∧ i ≤ j ∧ j ≤ l.length ∧ m = j - i ∧ (∀ (k : Nat) (y : D.Reg), k < i → l[k]? = some y → y.prop < p) ∧ ∀ (k : Nat) (y : D.Reg), j ≤ k → l[k]? = some y → p ≤ y.prop, ⟨l.length, rfl, 0, l.length, rfl, rfl, by omega, by omega, rfl, fun k y hk => by omega, fun k y hk hy => by rw [List.getElem?_eq_none hk] at hy; cases hy⟩, ?_⟩
  rintro m _ _ _ ⟨rfl, i, j, rfl, rfl, hij, hj, rfl, h1, h2⟩
  refine onB.dec (fun e => ?_) (fun e => ?_)
  · have hlt : i < j := by omega
    refine onO.mk (add64 (by omega) (by omega)) ?_
    rw [← Int.natCast_add]
    refine onO.mk ((show wrO .u64 ((i + j : Nat) : Int) = some ((i + j : Nat) : Int) by rw [wru64]; congr 1; omega)) (onO.mk (shr1u (by omega)) (onO.mk (wri64 (by omega)) ?_))
    obtain ⟨x, hx⟩ := get_lt (l := l) (k := (i + j) / 2) (by omega)
    refine regW r hx (c39 (x := x) (onRet.i (onB.dec (fun e1 => ?_) (fun e1 => ?_))))
    · have e1 := cmpN_neg.1 e1
      refine onO.mk (inc64 (by omega)) ⟨j - ((i + j) / 2 + 1), by show _ < _; omega, rfl, (i + j) / 2 + 1, j, rfl, rfl, by omega, hj, rfl, fun k y hk hy => ?_, h2⟩
      rcases Nat.lt_or_ge k ((i + j) / 2) with hk2 | hk2
      · have := inc_lt hi hk2 hy hx; omega
      · have : k = (i + j) / 2 := by omega
        subst this
        rw [hx] at hy; injection hy with hy; subst hy; exact e1
    · have e1 : ¬ x.prop < p := fun q => e1 (cmpN_neg.2 q)
      refine ⟨(i + j) / 2 - i, by show _ < _; omega, rfl, i, (i + j) / 2, rfl, rfl, by omega, by omega, rfl, h1, fun k y hk hy => ?_⟩
      rcases Nat.eq_or_lt_of_le hk with hk2 | hk2
      · subst hk2
        rw [hx] at hy; injection hy with hy; subst hy; omega
      · have := inc_lt hi hk2 hx hy; omega
  · have : i = j := by omega
    subst this
    have k := k i ⟨hj, h1, h2⟩
    refine onB.dec (fun e1 => ?_) (fun e1 => ?_)
    · obtain ⟨x, hx⟩ := get_lt (l := l) (k := i) (by omega)
      refine regW r hx (c39 (x := x) (onRet.i ?_))
      unfold foundR at k
      rw [hx] at k
      simp only at k
      rw [show decide (cmpN x.prop p = 0) = decide (x.prop = p) by rw [decide_eq_decide]; exact cmpN_zero]
      exact k
    · unfold foundR at k
      rw [List.getElem?_eq_none (by omega)] at k
      exact k
theorem c32 {p : Int} (r : RegRow h a l) (hb : l.length < 1000000) (hi : Inc l) (k : ∀ i : Nat, At15 p l i → Post (.tup [.i .i64 (i : Int), .b (foundR p l i)]) h) : wpC Try.prog 32 [a, .i .i64 p] Post h := by
  refine call_sound (args := [.vv a, .ii .i64 p]) (cuts := []) ⟨r.sc, trivial, trivial⟩ ?_
  rw [vc32]
  exact c38 r hb hi fun i hi => onTup.ib (k i hi)
end
theorem Fresh.upp {g h h' : Hp} {a : AV} {sz : Nat} {css : List (List AV)} (f : Fresh g h a sz css) (le : h.le h') (lo : h'.lo = h.lo) : Fresh g h' a sz css :=
  ⟨Hp.le_trans f.le le, lo.trans f.lo, f.row.mono le, fun b o len l ex z e => by
    obtain ⟨n1, n2, cs, n3, n4⟩ := f.new b o len l ex z e
    exact ⟨n1, n2, cs, le b cs n3, n4⟩⟩
theorem Kn.Own.upp {α : Type} {d : Kn α} {g h h' : Hp} {a : AV} {l : List α} (o : d.Own g h a l) (le : h.le h') (lo : h'.lo = h.lo) : d.Own g h' a l := by
  obtain ⟨p, css, h0, h1, f, h2⟩ := o
  exact ⟨p, css, h0, h1, f.upp le lo, h2⟩
theorem All2.set {α β : Type} {R : α → β → Prop} {xs : List α} {ys : List β} (h : All2 R xs ys) {i : Nat} {x : α} {y : β} (hr : R x y) : All2 R (xs.set i x) (ys.set i y) :=
  All2.of_get (by rw [List.length_set, List.length_set, h.length]) fun k a b ha hb => by
    by_cases e : i = k
    · subst e
      rw [List.getElem?_set_self' ] at ha hb
      cases hx : xs[i]? with
      | none => rw [hx] at ha; cases ha
      | some _ =>
        cases hy : ys[i]? with
        | none => rw [hy] at hb; cases hb
        | some _ =>
          rw [hx] at ha; rw [hy] at hb
          injection ha with ha; injection hb with hb
          subst ha; subst hb; exact hr
    · rw [List.getElem?_set_ne e] at ha hb
      exact h.get2 ha hb
/-- one element written -/
theorem Kn.Own.set1 {α : Type} {d : Kn α} {g h : Hp} {a : AV} {l : List α} {sz : Nat} (o : d.Own g h a l) (hsz : d.sz = sz) (fl : d.Flat) {i : Nat} {x : α} {c : List AV} (hi : i < l.length) (hx : d.K h x c) {Post : Option AV → Hp → Prop} (k : ∀ h', d.Own g h' a (l.set i x) → Post none h') :
    onO (idxV a (i : Int) sz) fun r => wpE (.w r.1 r.2 (.lit c) none) Post h := by
  subst hsz
  obtain ⟨p, css, h0, h1, f, h2⟩ := o
  have hcl : c.length = d.sz := Kn.all_len (All2.cons hx .nil) c (by simp)
  have hsc : c.all AV.sc = true := by have := Kn.all_sc (All2.cons hx .nil); simpa using this
  obtain ⟨c0, hc0⟩ := get_lt (l := css) (k := i) (by rw [← h2.length]; exact hi)
  have hc0l := f.row.1 c0 (List.mem_of_getElem? hc0)
  refine f.set hc0 0 (new := c) (by omega) hsc fun h' f' => k h' ⟨p, _, h0, h1, f', ?_⟩
  have e : splice c0 0 c = c := by
    unfold splice
    rw [List.take_zero, List.nil_append, List.drop_eq_nil_of_le (by omega), List.append_nil]
  rw [e]
  exact All2.set h2 (fl _ _ _ _ hx)
/-! ### plain -/
noncomputable def setOk (l : List D.Reg) (x : D.Reg) : Bool := mayR none l && (mayP x.prop x.value && isS x.stamp)
noncomputable def mergeR (l b : List D.Reg) : List D.Reg := b.foldl (fun l x => putR x l) l
noncomputable def getR (p : Int) : List D.Reg → Option Int
  | [] => none
  | y :: l => if y.prop = p then some y.value else getR p l
theorem getR_none {p : Int} : ∀ {l : List D.Reg}, (∀ y ∈ l, y.prop ≠ p) → getR p l = none
  | [], _ => rfl
  | y :: l, h => by unfold getR; rw [if_neg (h y (by simp)), getR_none fun z hz => h z (by simp [hz])]
theorem getR_at {p : Int} : ∀ {l : List D.Reg} {i : Nat}, Inc l → At15 p l i → getR p l = (match l[i]? with
    | some y => if y.prop = p then some y.value else none
    | none => none)
  | [], i, _, _ => by cases i <;> rfl
  | y :: l, 0, hi, h => by
    cases hi with
    | cons h1 h2 =>
    have h3 := h.2.2 0 y (Nat.le_refl _) rfl
    show getR p (y :: l) = if y.prop = p then some y.value else none
    unfold getR
    split
    · rfl
    · exact getR_none fun z hz => by have := h1 z hz; omega
  | y :: l, i + 1, hi, h => by
    obtain ⟨h1, h2, h3⟩ := h
    have e := h2 0 y (by omega) rfl
    cases hi with
    | cons g1 g2 =>
    have ih : At15 p l i := ⟨by simp at h1; omega, fun k z hk hz => h2 (k + 1) z (by omega) (by simpa using hz), fun k z hk hz => h3 (k + 1) z (by omega) (by simpa using hz)⟩
    show getR p (y :: l) = (match l[i]? with | some y => if y.prop = p then some y.value else none | none => none)
    unfold getR
    rw [if_neg (by omega), getR_at g2 ih]
theorem mergeR_may : ∀ {b l : List D.Reg}, mayR none l = true → (∀ x ∈ b, okR x = true) → mayR none (mergeR l b) = true
  | [], l, h, _ => h
  | x :: b, l, h, hb => mergeR_may (b := b) (putR_may (hb x (by simp)) h (fun q e => by cases e)) fun y hy => hb y (by simp [hy])
theorem mergeR_len : ∀ (b l : List D.Reg), (mergeR l b).length ≤ l.length + b.length
  | [], l => by simp [mergeR]
  | x :: b, l => by
    have h1 := mergeR_len b (putR x l)
    have h2 := putR_len (x := x) l
    show (mergeR (putR x l) b).length ≤ _
    simp; omega
theorem mergeR_snoc {l b : List D.Reg} {x : D.Reg} : mergeR l (b ++ [x]) = putR x (mergeR l b) := by unfold mergeR; rw [List.foldl_append]; rfl
section
variable {g h : Hp} {a b : AV} {l m la lb : List D.Reg} {x : D.Reg} {Post : AV → Hp → Prop}
theorem c35 (o : D.kReg.Own g h a l) (hx : D.kReg.K h x (regC x)) {p : Nat} (hp : h.g p = none) (hlo : h.lo ≤ p) {i : Nat} (hi : i ≤ l.length) (hb : l.length + 1 < 1000000) (k : ∀ r h', D.kReg.Own g h' r (l.take i ++ x :: l.drop i) → Post r h') : wpC Try.prog 35 [a, .i .i64 (i : Int), .sl p 0 1 1 true 4] Post (h.put p (regC x)) :=
  Kn.Own.ins (sz := 4) rfl (fun _ _ => rfl) rfl reg_flat o hx hp hlo hi hb k
theorem c27 (r : RegRow h a l) (hi : Inc l) (hx : D.kReg.K h x (regC x)) (hb : l.length + 1 < 1000000) (k : ∀ r' h', D.kReg.Own h h' r' (putR x l) → Post r' h') : wpC Try.prog 27 [a, .agg (regC x)] Post h := by
  refine call_sound (args := [.vv a, .ag [.ii .i64 x.prop, .ii .i64 x.value, .ii .i64 x.stamp.time, .ii .i64 x.stamp.rep]]) (cuts := []) ⟨r.sc, ⟨trivial, trivial, trivial, trivial, trivial⟩, trivial⟩ ?_
  rw [vc27]
  refine fun _ => c31 r (by omega) fun a1 h1 o => onRet.r o.sc (c32 o.row (by omega) hi fun i hat => onTup.ib ?_)
  have e := putR_at hat
  have hxx : D.kReg.K h1 x (regC x) := reg_k hx
  unfold foundR
  cases hy : l[i]? with
  | none =>
    rw [hy] at e
    simp only at e
    refine onB.pos rfl fun p hp hlo => c35 o hxx hp hlo hat.1 hb fun r' h' o' => onRet.r o'.sc (k _ _ (by rw [e]; exact o'))
  | some y =>
    rw [hy] at e
    simp only at e
    by_cases e1 : y.prop = x.prop
    · rw [if_pos e1] at e
      refine onB.neg (by simp [e1]) (reg2 o.row hy (c36 (a := y.stamp) (b := x.stamp) fun h3 le lo => onRet.i (onB.dec (fun e2 => ?_) (fun e2 => ?_))))
      · rw [if_pos e2] at e
        exact (o.upp le lo).set1 rfl reg_flat (x := x) (List.getElem?_eq_some_iff.1 hy).1 (reg_k hx) fun h' o' => k _ _ (by rw [e]; exact o')
      · rw [if_neg e2] at e
        exact k _ _ (by rw [e]; exact o.upp le lo)
    · rw [if_neg e1] at e
      refine onB.pos (by simp [e1]) fun p hp hlo => c35 o hxx hp hlo hat.1 hb fun r' h' o' => onRet.r o'.sc (k _ _ (by rw [e]; exact o'))
theorem c8 (r : RegRow h a l) (hb : l.length + 1 < 1000000) (hx : D.kReg.K h x (regC x)) (k1 : setOk l x = false → Post (.tup [.ns, .i .i64 1]) h) (k2 : setOk l x = true → ∀ r' h', D.kReg.Own h h' r' (putR x l) → Post (.tup [r', .i .i64 0]) h') :
    wpC Try.prog 8 [a, .i .i64 x.prop, .i .i64 x.value, .agg [.i .i64 x.stamp.time, .i .i64 x.stamp.rep]] Post h := by
  refine call_sound (args := [.vv a, .ii .i64 x.prop, .ii .i64 x.value, .ag [.ii .i64 x.stamp.time, .ii .i64 x.stamp.rep]]) (cuts := []) ⟨r.sc, trivial, trivial, ⟨trivial, trivial, trivial⟩, trivial⟩ ?_
  rw [vc8]
  unfold setOk at k1 k2
  refine fun _ => c24 r (by omega) (onRet.b (onB.not (fun e => k1 (by rw [e]; rfl)) (fun e => c25 (onRet.b (onB.not (fun e1 => k1 (by rw [e, e1]; rfl)) (fun e1 => c26 (onRet.b (onB.not (fun e2 => k1 (by rw [e, e1, e2]; rfl)) (fun e2 => ?_)))))))))
  exact c27 r (mayR_inc e).1 hx hb fun r' h' o => onRet.r o.sc (k2 (by rw [e, e1, e2]; rfl) _ _ o)
theorem c10 (r : RegRow h a l) (hb : l.length < 1000000) (k : Post (.b (setOk l x)) h) : wpC Try.prog 10 [a, .i .i64 x.prop, .i .i64 x.value, .agg [.i .i64 x.stamp.time, .i .i64 x.stamp.rep]] Post h := by
  refine call_sound (args := [.vv a, .ii .i64 x.prop, .ii .i64 x.value, .ag [.ii .i64 x.stamp.time, .ii .i64 x.stamp.rep]]) (cuts := []) ⟨r.sc, trivial, trivial, ⟨trivial, trivial, trivial⟩, trivial⟩ ?_
  rw [vc10]
  unfold setOk at k
  refine fun _ => c19 r hb (onRet.b (onB.mk (fun e => c16 (onRet.i ?_)) (fun e => ?_)))
  · rw [checkP_ok]
    refine onB.mk (fun e1 => c28 (onRet.b ?_)) (fun e1 => ?_)
    · rw [e, e1] at k; exact k
    · rw [e, e1] at k; exact k
  · rw [e] at k; exact k
theorem c11 {n : Int} (k : Post (.i .i64 n) h) : wpC Try.prog 11 [.i .i64 n] Post h := by
  refine call_sound (args := [.ii .i64 n]) (cuts := []) ⟨trivial, trivial⟩ ?_
  rw [vc11]; exact k
theorem c13 (r : RegRow h a l) (hb : l.length < 400000) (hx : D.kReg.K h x (regC x)) (k : ∀ r' h', D.kReg.Own h h' r' (setR x false l) → Post r' h') : wpC Try.prog 13 [a, .i .i64 x.prop, .i .i64 x.value, .agg [.i .i64 x.stamp.time, .i .i64 x.stamp.rep]] Post h := by
  refine call_sound (args := [.vv a, .ii .i64 x.prop, .ii .i64 x.value, .ag [.ii .i64 x.stamp.time, .ii .i64 x.stamp.rep]]) (cuts := []) ⟨r.sc, trivial, trivial, ⟨trivial, trivial, trivial⟩, trivial⟩ ?_
  rw [vc13]
  obtain ⟨S, hS⟩ : ∃ S, S = setR x false l := ⟨_, rfl⟩
  rw [← hS] at k
  refine fun _ _ => ⟨fun m c a0 n0 h' => ∃ (j : Nat) (out : List D.Reg), n0 = j ∧ j ≤ l.length ∧ m = l.length - j ∧ out.length ≤ 2 * j ∧ D.kReg.Own h h' a0 out ∧ out ++ setR x c (l.drop j) = S, ⟨l.length, 0, [], rfl, by omega, rfl, by simp, Kn.Own.nil _ _, by rw [hS]; rfl⟩, ?_⟩
  rintro m h0 c a0 _ _ ⟨j, out, rfl, hj, rfl, ho, ow, hp⟩
  refine onO.mk r.len (onB.dec (fun e => ?_) (fun e => ?_))
  · obtain ⟨y, hy⟩ := get_lt (l := l) (k := j) (by omega)
    have r0 : RegRow h0 a l := r.mono ow.le
    obtain ⟨cy, hcy⟩ := r0.all (List.mem_of_getElem? hy)
    rw [drop_of hy] at hp
    have step : ∀ (h4 : Hp) (z : D.Reg) (c' : Bool) (a5 : AV) (out' : List D.Reg), D.kReg.Own h h4 a5 out' → out'.length ≤ 2 * (j + 1) → out' ++ setR x c' (l.drop (j + 1)) = S →
        onO (intO BinOp.add IntKind.i64 (j : Int) 1) fun n5 => ∃ p6, ltN p6 (l.length - j) ∧ ∃ (j' : Nat) (out : List D.Reg), n5 = j' ∧ j' ≤ l.length ∧ p6 = l.length - j' ∧ out.length ≤ 2 * j' ∧ D.kReg.Own h h4 a5 out ∧ out ++ setR x c' (l.drop j') = S := fun h4 z c' a5 out' o' hl' hp' =>
      onO.mk (inc64 (by omega)) ⟨_, by show l.length - (j + 1) < l.length - j; omega, j + 1, out', rfl, by omega, rfl, hl', o', hp'⟩
    unfold setR at hp
    refine reg0 r0 hy (onB.dec (fun e1 => ?_) (fun e1 => ?_))
    · rw [if_pos e1] at hp
      refine reg2 r0 hy (c29 (a := y.stamp) (b := x.stamp) (onRet.i (onB.dec (fun e2 => ?_) (fun e2 => ?_))))
      · rw [if_pos e2] at hp
        exact fun _ => ow.app1 rfl reg_flat (x := x) (reg_k hx) (by omega) fun r' h' o' => onO.mk rfl (step _ x true _ _ o' (by simp; omega) (by rw [← hp]; simp))
      · rw [if_neg e2] at hp
        exact regW r0 hy fun _ => ow.app1 rfl reg_flat (x := y) (reg_k hcy) (by omega) fun r' h' o' => onO.mk rfl (step _ x true _ _ o' (by simp; omega) (by rw [← hp]; simp))
    · rw [if_neg e1] at hp
      refine onB.not (fun e2 => ?_) (fun e2 => ?_)
      · subst e2
        refine reg0 r0 hy (onB.dec (fun e3 => ?_) (fun e3 => ?_))
        · rw [if_pos ⟨rfl, e3⟩] at hp
          exact fun _ => ow.app1 rfl reg_flat (x := x) (reg_k hx) (by omega) fun r' h' o' => onO.mk rfl (regW (r.mono o'.le) hy fun _ => o'.app1 rfl reg_flat (x := y) (reg_k hcy) (by simp; omega) fun r2 h2 o2 => onO.mk rfl (step _ x true _ _ o2 (by simp; omega) (by rw [← hp]; simp)))
        · rw [if_neg (fun q => e3 q.2)] at hp
          exact regW r0 hy fun _ => ow.app1 rfl reg_flat (x := y) (reg_k hcy) (by omega) fun r' h' o' => onO.mk rfl (step _ x false _ _ o' (by simp; omega) (by rw [← hp]; simp))
      · subst e2
        rw [if_neg (fun q => by cases q.1)] at hp
        exact regW r0 hy fun _ => ow.app1 rfl reg_flat (x := y) (reg_k hcy) (by omega) fun r' h' o' => onO.mk rfl (step _ x true _ _ o' (by simp; omega) (by rw [← hp]; simp))
  · have : j = l.length := by omega
    subst this
    rw [List.drop_length] at hp
    unfold setR at hp
    refine onB.not (fun e1 => ?_) (fun e1 => ?_)
    · rw [if_neg (by rw [e1]; simp)] at hp
      exact fun _ => ow.app1 rfl reg_flat (x := x) (reg_k hx) (by omega) fun r' h' o' => onO.mk rfl (k _ _ (by rw [← hp]; exact o'))
    · rw [if_pos e1, List.append_nil] at hp
      exact k _ _ (by rw [← hp]; exact ow)
end
theorem Fresh.rest {p H q : Hp} {a : AV} {sz : Nat} {css : List (List AV)} (f : Fresh p H a sz css) (hq : q.le p) : Raw (restH H q) a sz css := by
  refine ⟨f.row.1, ?_⟩
  have r := f.row.2
  cases a <;> first | exact r | skip
  rename_i b o len lo ex z
  obtain ⟨r1, r2, r3, r4⟩ := r
  obtain ⟨n1, n2, cs, n3, n4⟩ := f.new _ _ _ _ _ _ rfl
  refine ⟨r1, r2, r3, r4.imp id fun e => ?_⟩
  have e0 : (restH H q).g b = H.g b := by
    show (match q.g b with | some _ => none | none => H.g b) = _
    rw [le_none hq n1]
  unfold rdH at e ⊢
  rw [e0]; exact e
theorem RegOwn.rest {p H q : Hp} {a : AV} {l : List D.Reg} (o : D.kReg.Own p H a l) (hq : q.le p) : RegRow (restH H q) a l := by
  obtain ⟨p', css, h0, h1, f, h2⟩ := o
  exact ⟨css, f.rest (Hp.le_trans hq h0), h2.mono fun _ _ k => reg_flat _ _ _ _ k⟩
section
variable {g h : Hp} {a b c : AV} {l m la lb : List D.Reg} {x : D.Reg} {Post : AV → Hp → Prop}
theorem c7 {L : List D.RegDo} (ra : RegRow h a l) (rb : RegRow h b m) (rc : D.kRegDo.Row h c L) (h1 : l.length ≤ 140737488351232) (h2 : m.length ≤ 140737488351232) (h3 : L.length ≤ 140737488351232) (k1 : Post (.b true) h) (k2 : l.length ≤ 2000 → m.length ≤ 2000 → L.length ≤ 2000 → Post (.b false) h) : wpC Try.prog 7 [.agg [a, b, c]] Post h := by
  refine call_sound (args := [.ag [.vv a, .vv b, .vv c]]) (cuts := []) ⟨⟨ra.sc, rb.sc, rc.sc, trivial⟩, trivial⟩ ?_
  rw [vc7]
  refine fun _ => onO.mk ra.len (onO.mk rb.len (onO.mk (add64 (by omega) (by omega)) (onO.mk rc.len (onO.mk (add64 (by omega) (by omega)) ?_))))
  by_cases e : (2000 : Int) < (l.length : Int) + m.length + L.length
  · rw [decide_eq_true e]; exact k1
  · rw [decide_eq_false e]; exact k2 (by omega) (by omega) (by omega)
theorem c20 (ra : RegRow h a la) (rb : RegRow h b lb) (ha : mayR none la = true) (hb : mayR none lb = true) (hl : la.length + lb.length < 400000) (k : ∀ r' h', D.kReg.Own h h' r' (mergeR la lb) → Post r' h') : wpC Try.prog 20 [a, b] Post h := by
  refine call_sound (args := [.vv a, .vv b]) (cuts := []) ⟨ra.sc, rb.sc, trivial⟩ ?_
  rw [vc20]
  have hok := mayR_ok hb
  refine c9 ra (by omega) fun a1 h0 o1 => onRet.r o1.sc ⟨fun m a2 n0 h' => ∃ j : Nat, n0 = j ∧ j ≤ lb.length ∧ m = lb.length - j ∧ D.kReg.Own h h' a2 (mergeR la (lb.take j)), ⟨lb.length, 0, rfl, by omega, rfl, o1⟩, ?_⟩
  rintro m h1 a2 _ _ ⟨j, rfl, hj, rfl, ow⟩
  refine onO.mk rb.len (onB.dec (fun e => ?_) (fun e => ?_))
  · obtain ⟨y, hy⟩ := get_lt (l := lb) (k := j) (by omega)
    have r0 : RegRow h1 b lb := rb.mono ow.le
    obtain ⟨cy, hcy⟩ := r0.all (List.mem_of_getElem? hy)
    have hm := mergeR_may ha fun z hz => hok z (List.mem_of_mem_take (i := j) hz)
    have hlen := mergeR_len (lb.take j) la
    rw [List.length_take] at hlen
    refine reg0 r0 hy (reg1 r0 hy (reg2 r0 hy (c13 (x := y) ow.row (by omega) (reg_k hcy) fun r' h2 o2 => onRet.r o2.sc (onO.mk (inc64 (by omega)) ⟨_, by show lb.length - (j + 1) < lb.length - j; omega, j + 1, rfl, by omega, rfl, ?_⟩))))
    rw [take_succ' hy, mergeR_snoc, ← setR_eq (mayR_inc hm).1]
    exact o2.mono ow.le ow.lo
  · have : j = lb.length := by omega
    subst this
    rw [List.take_length] at ow
    exact k _ _ ow
theorem c17 (ra : RegRow h a la) (rb : RegRow h b lb) (hl : la.length + lb.length < 900000) (k1 : (mayR none la && mayR none lb) = false → Post (.tup [.ns, .i .i64 1]) h) (k2 : (mayR none la && mayR none lb) = true → ∀ r' h', D.kReg.Own h h' r' (mergeR la lb) → Post (.tup [r', .i .i64 0]) h') : wpC Try.prog 17 [a, b] Post h := by
  refine call_sound (args := [.vv a, .vv b]) (cuts := []) ⟨ra.sc, rb.sc, trivial⟩ ?_
  rw [vc17]
  refine c24 ra (by omega) (onRet.b (onB.not (fun e => k1 (by rw [e]; rfl)) (fun e => c24 rb (by omega) (onRet.b (onB.not (fun e1 => k1 (by rw [e, e1]; rfl)) (fun e1 => ?_))))))
  have hok := mayR_ok e1
  refine c31 ra (by omega) fun a3 h2 o3 => onRet.r o3.sc (onO.mk rb.len ⟨fun m a4 n0 h' => ∃ j : Nat, n0 = j ∧ j ≤ lb.length ∧ m = lb.length - j ∧ D.kReg.Own h h' a4 (mergeR la (lb.take j)), ⟨lb.length, 0, rfl, by omega, rfl, o3⟩, ?_⟩)
  rintro m h3 a4 _ _ ⟨j, rfl, hj, rfl, ow⟩
  refine onB.dec (fun e2 => ?_) (fun e2 => ?_)
  · obtain ⟨y, hy⟩ := get_lt (l := lb) (k := j) (by omega)
    have r0 : RegRow h3 b lb := rb.mono ow.le
    obtain ⟨cy, hcy⟩ := r0.all (List.mem_of_getElem? hy)
    have hm := mergeR_may e fun z hz => hok z (List.mem_of_mem_take (i := j) hz)
    have hlen := mergeR_len (lb.take j) la
    rw [List.length_take] at hlen
    refine regW r0 hy fun _ => c27 (x := y) ow.row (mayR_inc hm).1 (reg_k hcy) (by omega) fun r' h4 o4 => onRet.r o4.sc (onO.mk (inc64 (by omega)) ⟨_, by show lb.length - (j + 1) < lb.length - j; omega, j + 1, rfl, by omega, rfl, ?_⟩)
    rw [take_succ' hy, mergeR_snoc]
    exact o4.mono ow.le ow.lo
  · have : j = lb.length := by omega
    subst this
    rw [List.take_length] at ow
    exact k2 (by rw [e, e1]; rfl) _ _ ow
theorem c21 (r : RegRow h a l) (hb : l.length < 1000000) (k : Post (.i .i64 (if mayR none l = true then 0 else 1)) h) : wpC Try.prog 21 [a] Post h := by
  refine call_sound (args := [.vv a]) (cuts := []) ⟨r.sc, trivial⟩ ?_
  rw [vc21]
  refine c24 r hb (onRet.b (onB.not (fun e => ?_) (fun e => ?_)))
  · rw [if_neg (by rw [e]; simp)] at k; exact k
  · rw [if_pos e] at k; exact k
theorem c22 {p : Int} (r : RegRow h a l) (hb : l.length < 1000000) (k : Post (.tup [.i .i64 ((getR p l).getD 0), .b (getR p l).isSome]) h) : wpC Try.prog 22 [a, .i .i64 p] Post h := by
  refine call_sound (args := [.vv a, .ii .i64 p]) (cuts := []) ⟨r.sc, trivial, trivial⟩ ?_
  rw [vc22]
  refine ⟨fun m _ _ n1 h' => h = h' ∧ ∃ j : Nat, n1 = j ∧ j ≤ l.length ∧ m = l.length - j ∧ getR p l = getR p (l.drop j), ⟨l.length, rfl, 0, rfl, by omega, rfl, rfl⟩, ?_⟩
  rintro m _ _ _ _ ⟨rfl, j, rfl, hj, rfl, hp⟩
  refine onO.mk r.len (onB.dec (fun e => ?_) (fun e => ?_))
  · obtain ⟨y, hy⟩ := get_lt (l := l) (k := j) (by omega)
    rw [drop_of hy] at hp
    have hs : getR p (y :: l.drop (j + 1)) = if y.prop = p then some y.value else getR p (l.drop (j + 1)) := rfl
    rw [hs] at hp
    refine reg0 r hy (onB.dec (fun e1 => ?_) (fun e1 => ?_))
    · rw [if_pos e1] at hp
      rw [hp] at k
      exact reg1 r hy k
    · rw [if_neg e1] at hp
      exact onO.mk (inc64 (by omega)) ⟨_, by show l.length - (j + 1) < l.length - j; omega, rfl, j + 1, rfl, by omega, rfl, hp⟩
  · have : j = l.length := by omega
    subst this
    rw [List.drop_length] at hp
    rw [hp] at k; exact k
theorem c18 {p : Int} (r : RegRow h a l) (hb : l.length < 1000000) (k : Post (.tup [.i .i64 (if mayR none l = true then (getR p l).getD 0 else 0), .i .i64 (if mayR none l = true then (if (getR p l).isSome = true then 0 else 3) else 1)]) h) : wpC Try.prog 18 [a, .i .i64 p] Post h := by
  refine call_sound (args := [.vv a, .ii .i64 p]) (cuts := []) ⟨r.sc, trivial, trivial⟩ ?_
  rw [vc18]
  refine c24 r hb (onRet.b (onB.not (fun e => ?_) (fun e => ?_)))
  · rw [if_neg (by rw [e]; simp), if_neg (by rw [e]; simp)] at k; exact k
  · rw [if_pos e, if_pos e] at k
    have hi := (mayR_inc e).1
    refine c32 r hb hi fun i hat => onTup.ib ?_
    have hg := getR_at hi hat
    unfold foundR
    cases hy : l[i]? with
    | none =>
      rw [hy] at hg
      simp only at hg
      rw [hg] at k
      exact onB.pos rfl k
    | some y =>
      rw [hy] at hg
      simp only at hg
      by_cases e1 : y.prop = p
      · rw [if_pos e1] at hg
        rw [hg] at k
        exact onB.neg (by simp [e1]) (reg1 r hy k)
      · rw [if_neg e1] at hg
        rw [hg] at k
        exact onB.pos (by simp [e1]) k
theorem c23 {css : List (List AV)} (f : Fresh g h a 4 css) (hb : css.length < 900000) (k : ∀ h', g.le h' → h'.lo = g.lo → Post (.tup []) h') : wpC Try.prog 23 [a] Post h := by
  refine call_sound (args := [.vv a]) (cuts := []) ⟨f.row.sc, trivial⟩ ?_
  rw [vc23]
  refine ⟨fun m i h' => ∃ (k : Nat) (css' : List (List AV)), i = k ∧ k ≤ css.length ∧ m = css.length - k ∧ css'.length = css.length ∧ Fresh g h' a 4 css', ⟨_, 0, css, rfl, by omega, rfl, rfl, f⟩, ?_⟩
  rintro m h0 _ ⟨j, css', rfl, hj, rfl, hl, f'⟩
  refine onO.mk f'.row.len (onB.dec (fun e => ?_) (fun e => ?_))
  · obtain ⟨c, hc⟩ := get_lt (l := css') (k := j) (by omega)
    exact f'.set hc 0 (new := [.i .i64 (-9), .i .i64 0, .i .i64 0, .i .i64 0]) (by simp) rfl fun h2 f2 => onO.mk (inc64 (by omega)) ⟨_, by show css.length - (j + 1) < css.length - j; omega, j + 1, _, rfl, by omega, rfl, by rw [List.length_set, hl], f2⟩
  · exact fun _ => f'.app (n := 1) (css2 := [[.i .i64 0, .i .i64 0, .i .i64 0, .i .i64 0]]) (src := .lit [.i .i64 0, .i .i64 0, .i .i64 0, .i .i64 0]) (by simp [srcH]) (fun c hc => by simp at hc; subst hc; rfl) rfl rfl (by omega) fun r h2 f2 => onO.mk rfl (k _ f2.le f2.lo)
theorem spo85 (o : D.kReg.Own g h a l) (hb : l.length < 900000) : Spo 23 g h a := by
  obtain ⟨p, css, h0, h1, f, h2⟩ := o
  obtain ⟨q, q1, q2, q3, q4, q5⟩ := f.part
  exact ⟨q, q1, q2.le_right h0, q3.trans f.lo.symm, c23 q5 (by rw [← h2.length]; exact hb) fun _ _ _ => rfl⟩
theorem nsR : RegRow h .ns [] := ⟨[], ⟨fun _ h => (by cases h), rfl⟩, .nil⟩
theorem c14 (k : ∀ h', Post (.b true) h') : wpC Try.prog 14 [] Post h := by
  refine call_sound (args := []) (cuts := []) trivial ?_
  rw [vc14]
  have hx1 : okR ⟨17, 1, ⟨5, 0⟩⟩ = true := by decide
  have hx2 : okR ⟨17, 2, ⟨4, 0⟩⟩ = true := by decide
  refine c8 (l := []) (x := ⟨17, 1, ⟨5, 0⟩⟩) nsR (by simp) (okR_nums hx1) (fun e => absurd e (by decide)) fun _ r1 h1 o1 => onTup.ri o1.sc ?_
  have e1 : putR ⟨17, 1, ⟨5, 0⟩⟩ [] = [⟨17, 1, ⟨5, 0⟩⟩] := rfl
  rw [e1] at o1
  refine c8 (x := ⟨17, 2, ⟨4, 0⟩⟩) o1.row (by simp) (okR_nums hx2) (fun e => absurd e (by decide)) fun _ r2 h2 o2 => onTup.ri o2.sc ?_
  have e2 : putR ⟨17, 2, ⟨4, 0⟩⟩ [⟨17, 1, ⟨5, 0⟩⟩] = [⟨17, 1, ⟨5, 0⟩⟩] := rfl
  rw [e2] at o2
  refine c18 (p := 17) o2.row (by simp) ?_
  have e3 : mayR none [(⟨17, 1, ⟨5, 0⟩⟩ : D.Reg)] = true := by decide
  have e4 : getR 17 [(⟨17, 1, ⟨5, 0⟩⟩ : D.Reg)] = some 1 := rfl
  rw [e3, e4]
  exact onTup.ii (c11 (onRet.i (onB.pos rfl (c11 (onRet.i (onB.pos rfl (c11 (onRet.i (onB.pos rfl (k _)))))))))) 
noncomputable def regX (p : D.RegDo) : D.Reg := ⟨p.prop, p.value, p.s⟩
theorem regdo_open {p : D.RegDo} {cs : List AV} (k : D.kRegDo.K h p cs) : cs = [.i .i64 p.prop, .i .i64 p.value, .i .i64 p.s.time, .i .i64 p.s.rep] ∧ D.kReg.K h (regX p) (regC (regX p)) := by
  obtain ⟨e, i1, i2, i3, i4⟩ := D.kRegDo_open k
  exact ⟨e, _, _, rfl, in64_of i1, _, _, rfl, in64_of i2, _, _, rfl, in64_of i3, in64_of i4⟩
end
section
variable {g h : Hp} {a b c : AV} {l m la lb : List D.Reg} {x : D.Reg} {Post : AV → Hp → Prop}
theorem D.lawRegExact {x : D.RegA} {cells : List AV} (kx : D.kRegA.K h x cells) : wpC Try.prog 6 [.agg cells] (fun v _ => v = .b true) h := by
  obtain ⟨a0, a1, a2, rfl, ⟨r0, h0⟩, ⟨r1, h1⟩, ⟨r2, h2⟩⟩ := D.kRegA_open kx
  refine call_sound (args := [.ag [.vv a0, .vv a1, .vv a2]]) (cuts := [11000033, 21000057, 32999999, 39000083, 59000129, 73000154]) ⟨⟨r0.sc, r1.sc, r2.sc, trivial⟩, trivial⟩ ?_
  rw [vc6]
  refine fun _ => c7 r0 r1 r2 (by omega) (by omega) (by omega) (onRet.b (onB.pos rfl rfl)) fun b0 b1 b2 => onRet.b (onB.neg rfl ?_)
  refine c9 r0 (by omega) fun a2 g1 o1 => onRet.r o1.sc ⟨fun m c1 a3 n0 h' => h.le h' ∧ ∃ (j : Nat) (lst : List D.Reg), n0 = j ∧ j ≤ x.l.length ∧ m = x.l.length - j ∧ RegRow h' a3 lst ∧ lst.length ≤ 2000 + j, ⟨_, o1.le, 0, x.r, rfl, by omega, rfl, o1.row, by omega⟩, ?_⟩
  rintro m h2 c1 a3 _ _ ⟨le2, j, lst, rfl, hj, rfl, rl, hl⟩
  refine ⟨fun b h' => h' = h2 ∧ (b = true → j < x.l.length), onO.mk r2.len (onB.dec (fun e => ⟨rfl, fun _ => by omega⟩) (fun e => ⟨rfl, fun e => by cases e⟩)), ?_⟩
  rintro h3 c2 ⟨rfl, hc2⟩
  refine onB.mk (fun e => ?_) (fun _ => ?_)
  · have hlt := hc2 e
    obtain ⟨p, hp⟩ := get_lt (l := x.l) (k := j) hlt
    obtain ⟨bb, oo, cc, e1, e2, e3⟩ := r2.idx (i := (j : Int)) (Int.natCast_nonneg j) (by simpa using hp)
    obtain ⟨rfl, hX⟩ := regdo_open e3
    refine onO.mk e1 (onO.mk (rdH_le le2 e2) (onL.i4 fun _ => ?_))
    refine c19 rl (by omega) (onRet.b (c21 rl (by omega) (onRet.i (c11 (onRet.i ⟨fun c h' => h3 = h' ∧ c = false, ?_, ?_⟩)))))
    · cases hm : mayR none lst with
      | false => exact onB.neg (by decide) (onB.pos rfl ⟨rfl, by decide⟩)
      | true => exact onB.neg (by decide) (onB.neg rfl ⟨rfl, rfl⟩)
    rintro _ c4 ⟨rfl, rfl⟩
    refine onB.neg rfl (c18 (p := p.prop) rl (by omega) (onTup.ii ⟨fun n10 n11 h' => h3 = h' ∧ n10 = (if mayR none lst = true then (if (getR p.prop lst).isSome = true then 0 else 3) else 1) ∧ n11 = (if mayR none lst = true then (getR p.prop lst).getD 0 else 0), ?_, ?_⟩))
    · cases hm : mayR none lst with
      | false => exact onB.neg rfl ⟨rfl, by simp, by simp⟩
      | true =>
        refine onB.pos rfl (c22 (p := p.prop) rl (by omega) (onTup.ib ?_))
        cases hg : getR p.prop lst with
        | none => exact onB.neg rfl ⟨rfl, by simp, by simp⟩
        | some v => exact onB.pos rfl ⟨rfl, by simp, by simp⟩
    rintro _ n10 n11 ⟨rfl, rfl, rfl⟩
    refine ⟨fun c h' => h3 = h' ∧ c = false, c11 (onRet.i (onB.ndec (fun q => absurd rfl q) (fun _ => ⟨rfl, by simp⟩))), ?_⟩
    rintro _ c6 ⟨rfl, rfl⟩
    refine onB.neg rfl (c9 rl (by omega) fun a11 h13 o11 => onRet.r o11.sc ?_)
    have fin : ∀ (h' : Hp) (a' : AV) (lst' : List D.Reg), h3.le h' → RegRow h' a' lst' → lst'.length ≤ 2000 + (j + 1) → onO (intO .add .i64 (j : Int) 1) fun n9 => ∃ p3, ltN p3 (x.l.length - j) ∧ (h.le h' ∧ ∃ (j' : Nat) (lst : List D.Reg), n9 = j' ∧ j' ≤ x.l.length ∧ p3 = x.l.length - j' ∧ RegRow h' a' lst ∧ lst.length ≤ 2000 + j') := fun h' a' lst' le rr hl' =>
      onO.mk (inc64 (by omega)) ⟨_, by show x.l.length - (j + 1) < x.l.length - j; omega, Hp.le_trans le2 le, j + 1, lst', rfl, by omega, rfl, rr, hl'⟩
    have rl13 := rl.mono o11.le
    refine c8 (x := regX p) o11.row (by omega) (reg_k hX) (fun e => onTup.ri rfl ?_) (fun e r' h14 o14 => onTup.ri o14.sc ?_)
    · exact c12 o11.row rl13 (by omega) (onRet.b (onB.neg (by simp) (c10 (x := regX p) rl13 (by omega) (onRet.b (onB.pos (by rw [e]; rfl) (c11 (onRet.i (onB.neg rfl (fin _ _ lst o11.le rl13 (by omega))))))))))
    · have rl14 := rl13.mono o14.le
      have hinc : Inc lst := by
        unfold setOk at e
        rw [Bool.and_eq_true] at e
        exact (mayR_inc e.1).1
      have hpl := putR_len (x := regX p) lst
      refine c12 (o11.row.mono o14.le) rl14 (by omega) (onRet.b (onB.neg (by simp) (c10 (x := regX p) rl14 (by omega) (onRet.b (onB.neg (by rw [e]; rfl) (c13 (x := regX p) rl14 (by omega) (reg_k hX) fun r18 h18 o18 => onRet.r o18.sc ?_))))))
      rw [setR_eq hinc] at o18
      refine ⟨fun c h' => h18 = h' ∧ c = false, c11 (onRet.i (onB.neg rfl (c12 (o14.row.mono o18.le) o18.row (by omega) (onRet.b ⟨rfl, by simp⟩)))), ?_⟩
      rintro _ c10 ⟨rfl, rfl⟩
      refine onB.neg rfl ((spo85 o14 (by omega)).use o18.le o18.lo fun q H dj ql lr _ => onTup.z ?_)
      have lh13 : h13.le H := Hp.le_trans (le_rest (Hp.le_trans o14.le o18.le) dj) lr
      exact c12 (o11.row.mono lh13) (rl13.mono lh13) (by omega) (onRet.b (onB.neg (by simp) (fin _ _ _ (Hp.le_trans o11.le lh13) ((RegOwn.rest o18 ql).mono lr) (by omega))))
  · refine c9 rl (by omega) fun a24 h24 o24 => onRet.r o24.sc (c9 (r1.mono (Hp.le_trans le2 o24.le)) (by omega) fun a26 h25 o26 => onRet.r o26.sc ?_)
    have le25 := Hp.le_trans o24.le o26.le
    have rl25 := rl.mono le25
    have rq25 := r1.mono (Hp.le_trans le2 le25)
    refine c17 (o24.row.mono o26.le) o26.row (by omega) (fun e => onTup.ri rfl ?_) (fun e r28 h26 o28 => onTup.ri o28.sc ?_)
    · refine ⟨fun c h' => c = true, c19 rl25 (by omega) (onRet.b (onB.not (fun e1 => rfl) (fun e1 => c19 rq25 (by omega) (onRet.b ?_)))), ?_⟩
      · rw [e1, Bool.true_and] at e
        rw [e]; rfl
      rintro h29 c14 rfl
      exact onB.pos rfl (c11 (onRet.i (onB.pos rfl (c14 fun h' => onRet.b rfl))))
    · have e' := Bool.and_eq_true _ _ ▸ e
      have rl26 := rl25.mono o28.le
      have rq26 := rq25.mono o28.le
      have hml := mergeR_len x.q lst
      refine ⟨fun c h' => h26 = h' ∧ c = false, c19 rl26 (by omega) (onRet.b (onB.neg (by rw [e'.1]; rfl) (c19 rq26 (by omega) (onRet.b ⟨rfl, by rw [e'.2]; rfl⟩)))), ?_⟩
      rintro _ c14 ⟨rfl, rfl⟩
      exact onB.neg rfl (c11 (onRet.i (onB.pos rfl (c20 rl26 rq26 e'.1 e'.2 (by omega) fun r35 h33 o35 => onRet.r o35.sc (c12 (o28.row.mono o35.le) o35.row (by omega) (onRet.b (onB.pos (by simp) (c14 fun h' => onRet.b rfl))))))))
end
end Go.Proofs.YtaeellmdgkhbpaaAn
