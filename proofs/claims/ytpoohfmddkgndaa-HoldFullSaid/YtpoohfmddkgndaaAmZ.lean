/- The same evaluator, each operation prepared once: regions, code, calls; it tells what the other one tells. -/
import Derived.Test.YtpoohfmddkgndaaAmY
set_option linter.unusedVariables false
set_option linter.unusedSimpArgs false
namespace Go.Proofs.YtpoohfmddkgndaaAm
open Go

/-! ### regions in their written order -/
noncomputable def opC (P : Program) (N : Nat) (ops : Array Oper) (o : Oper) : OpC :=
  Option.rec (motive := fun _ => OpC) (unC' P N o) (fun _ => GuC.rec (motive := fun _ => OpC) (fun w => PutC.rec (motive := fun _ => OpC) (fun p => OpC.rec (motive := fun _ => OpC) (fun u => .mk fun call m H κ => w m (u call m H κ) (p none m fun m' => κ m' H)) (unC' P N o)) (putC N o.dst)) (guC ops o)) o.guard
theorem opC_eq (P : Program) (N : Nat) (ops : Array Oper) (o : Oper) (call : CallA) (m : T AV) (H : Heap) (κ : T AV → Heap → RO) : (opC P N ops o).f call m H κ = (opA P call N ops m H o).bind fun p => κ p.1 p.2 := by
  have hu := unC_ok P N o
  have hop : opA P call N ops m H o = (wantedA ops m o).bind fun c => cond c (bodyA P call N m H o) ((putA N m o.dst none).map fun m' => (m', H)) := rfl
  unfold opC
  cases hg : o.guard with
  | none =>
    rw [hop]
    have : wantedA ops m o = some true := by unfold wantedA; rw [hg]
    rw [this]
    exact hu call m H κ
  | some g =>
    have h1 := guC_eq ops o m
    cases hw : guC ops o with
    | mk w =>
      rw [hw] at h1
      have h2 := fun v m κ => putC_eq N o.dst v m κ
      cases hp : putC N o.dst with
      | mk p =>
        rw [hp] at h2
        cases hc : unC' P N o with
        | mk u =>
          rw [hc] at hu
          show w m (u call m H κ) (p none m fun m' => κ m' H) = _
          rw [show w m (u call m H κ) (p none m fun m' => κ m' H) = (wantedA ops m o).bind fun c => cond c (u call m H κ) (p none m fun m' => κ m' H) from h1 _ _, hop]
          cases wantedA ops m o with
          | none => rfl
          | some c =>
            cases c with
            | true => exact hu call m H κ
            | false =>
              show p none m (fun m' => κ m' H) = _
              rw [show p none m (fun m' => κ m' H) = (putA N m o.dst none).bind fun m' => κ m' H from h2 _ _ _]
              simp only [Option.bind_some, cond_false]
              cases putA N m o.dst none <;> rfl
noncomputable def opsC (P : Program) (N : Nat) (ops : Array Oper) (l : List Oper) : OpC :=
  List.rec (motive := fun _ => OpC) (.mk fun call m H κ => κ m H) (fun o _ ih => OpC.rec (motive := fun _ => OpC) (fun g => OpC.rec (motive := fun _ => OpC) (fun f => .mk fun call m H κ => f call m H fun m' H' => g call m' H' κ) (opC P N ops o)) ih) l
theorem opsC_eq (P : Program) (N : Nat) (ops : Array Oper) (call : CallA) : ∀ (l : List Oper) (m : T AV) (H : Heap) (κ : T AV → Heap → RO), (opsC P N ops l).f call m H κ = (opsA P call N ops l m H).bind fun p => κ p.1 p.2
  | [], m, H, κ => rfl
  | o :: l, m, H, κ => by
    have ih := opsC_eq P N ops call l
    have h1 := opC_eq P N ops o call
    show (OpC.rec (motive := fun _ => OpC) (fun g => OpC.rec (motive := fun _ => OpC) (fun f => .mk fun call m H κ => f call m H fun m' H' => g call m' H' κ) (opC P N ops o)) (opsC P N ops l) : OpC).f call m H κ = _
    cases hc : opC P N ops o with
    | mk f =>
      cases hl : opsC P N ops l with
      | mk g =>
        rw [hc] at h1; rw [hl] at ih
        show f call m H (fun m' H' => g call m' H' κ) = _
        rw [show f call m H (fun m' H' => g call m' H' κ) = (opA P call N ops m H o).bind fun p => g call p.1 p.2 κ from h1 _ _ _]
        simp only [opsA]
        cases opA P call N ops m H o with
        | none => rfl
        | some p => exact ih p.1 p.2 κ

/-! ### regions that draw their order -/
abbrev RS := List (Nat × Nat × Nat × Nat)
abbrev LS := List (Nat × Heap × Heap)
noncomputable def sameF (H H' : Heap) (b o n : Nat) : Bool := Option.rec (motive := fun _ => Bool) (Option.rec (motive := fun _ => Bool) true (fun _ => false) (getF H' b)) (fun c => Option.rec (motive := fun _ => Bool) false (fun d => eqOpt (subF c o n) (subF d o n)) (getF H' b)) (getF H b)
theorem sameF_eq (H H' : Heap) (b o n : Nat) : sameF H H' b o n = sameA H H' b o n := by
  unfold sameF sameA
  rw [getF_eq, getF_eq]
  cases H.get b with
  | none => cases H'.get b <;> rfl
  | some c =>
    cases H'.get b with
    | none => rfl
    | some d => show eqOpt (subF c o n) (subF d o n) = eqOpt (sub? c o n) (sub? d o n); rw [subF_eq, subF_eq]
noncomputable def lsF (mk b o n : Nat) (ls : LS) : Bool := List.rec (motive := fun _ => Bool) true (fun x _ ih => Prod.rec (motive := fun _ => Bool) (fun l y => Prod.rec (motive := fun _ => Bool) (fun H H' => (Bool.rec (motive := fun _ => _) false ih ((Bool.rec (motive := fun _ => _) (sameF H H' b o n) true (mk.testBit l))))) y) x) ls
noncomputable def rsF (mk : Nat) (H H' : Heap) (rs : RS) : Bool := List.rec (motive := fun _ => Bool) true (fun x _ ih => Prod.rec (motive := fun _ => Bool) (fun r y => Prod.rec (motive := fun _ => Bool) (fun b z => Prod.rec (motive := fun _ => Bool) (fun o n => (Bool.rec (motive := fun _ => _) false ih ((Bool.rec (motive := fun _ => _) (sameF H H' b o n) true (mk.testBit r))))) z) y) x) rs
theorem lsF_eq (mk b o n : Nat) : ∀ ls : LS, lsF mk b o n ls = lsOk mk b o n ls
  | [] => rfl
  | (l, H, H') :: ls => by
    show (Bool.rec (motive := fun _ => _) false (lsF mk b o n ls) ((Bool.rec (motive := fun _ => _) (sameF H H' b o n) true (mk.testBit l)))) = ((mk.testBit l || sameA H H' b o n) && lsOk mk b o n ls)
    rw [lsF_eq mk b o n ls, sameF_eq]
    cases mk.testBit l <;> cases sameA H H' b o n <;> rfl
theorem rsF_eq (mk : Nat) (H H' : Heap) : ∀ rs : RS, rsF mk H H' rs = rsOk mk H H' rs
  | [] => rfl
  | (r, b, o, n) :: rs => by
    show (Bool.rec (motive := fun _ => _) false (rsF mk H H' rs) ((Bool.rec (motive := fun _ => _) (sameF H H' b o n) true (mk.testBit r)))) = ((mk.testBit r || sameA H H' b o n) && rsOk mk H H' rs)
    rw [rsF_eq mk H H' rs, sameF_eq]
    cases mk.testBit r <;> cases sameA H H' b o n <;> rfl
structure DrC where
  f : CallA → T AV → Heap → RS → LS → (T AV → Heap → RO) → RO
abbrev DK := T AV → Heap → RS → LS → RO
noncomputable def tailD (mk i : Nat) (H : Heap) (rs : RS) (ls : LS) (k : DK) (m' : T AV) (H' : Heap) : Eff → RO
  | .q _ | .a _ _ => k m' H' rs ls
  | .r b q n _ => cond (lsOk mk b q n ls) (k m' H' ((i, b, q, n) :: rs) ls) none
  | _ => cond (rsOk mk H H' rs) (k m' H' rs ((i, H, H') :: ls)) none
noncomputable def bodyD (P : Program) (call : CallA) (N : Nat) (o : Oper) (mk i : Nat) (m : T AV) (H : Heap) (rs : RS) (ls : LS) (k : DK) : RO :=
  (aeff P (evA m) o).bind fun e => (doEff call H e).bind fun (v, H') => (putA N m o.dst v).bind fun m' => tailD mk i H rs ls k m' H' e
def Mild (P : Program) (o : Oper) : Prop := ∀ (m : T AV) (e : Eff), aeff P (evA m) o = some e → (∃ v, e = .q v) ∨ ∃ c g, e = .a c g
def Loud (P : Program) (o : Oper) : Prop := ∀ (m : T AV) (e : Eff), aeff P (evA m) o = some e → loudE e = true
theorem bodyD_mild {P : Program} {call : CallA} {N : Nat} {o : Oper} {mk i : Nat} {m : T AV} {H : Heap} {rs : RS} {ls : LS} {k : DK} (h : Mild P o) : bodyD P call N o mk i m H rs ls k = (bodyA P call N m H o).bind fun p => k p.1 p.2 rs ls := by
  unfold bodyD bodyA
  cases he : aeff P (evA m) o with
  | none => rfl
  | some e =>
    simp only [Option.bind_some]
    cases doEff call H e with
    | none => rfl
    | some p =>
      simp only [Option.bind_some]
      cases putA N m o.dst p.1 with
      | none => rfl
      | some m' => rcases h m e he with ⟨v, rfl⟩ | ⟨c, g, rfl⟩ <;> rfl
theorem bodyD_loud {P : Program} {call : CallA} {N : Nat} {o : Oper} {mk i : Nat} {m : T AV} {H : Heap} {rs : RS} {ls : LS} {k : DK} (h : Loud P o) : bodyD P call N o mk i m H rs ls k = (bodyA P call N m H o).bind fun p => cond (rsOk mk H p.2 rs) (k p.1 p.2 rs ((i, H, p.2) :: ls)) none := by
  unfold bodyD bodyA
  cases he : aeff P (evA m) o with
  | none => rfl
  | some e =>
    simp only [Option.bind_some]
    cases doEff call H e with
    | none => rfl
    | some p =>
      simp only [Option.bind_some]
      cases putA N m o.dst p.1 with
      | none => rfl
      | some m' => have := h m e he; cases e <;> first | (cases this; done) | rfl
noncomputable def tailF (mk i : Nat) (H : Heap) (rs : RS) (ls : LS) (k : DK) (m' : T AV) (H' : Heap) (e : Eff) : RO := match e with
  | .q _ | .a _ _ => k m' H' rs ls
  | .r b q n _ => (Bool.rec (motive := fun _ => _) none (k m' H' ((i, b, q, n) :: rs) ls) (lsF mk b q n ls))
  | _ => (Bool.rec (motive := fun _ => _) none (k m' H' rs ((i, H, H') :: ls)) (rsF mk H H' rs))
theorem tailF_eq (mk i : Nat) (H : Heap) (rs : RS) (ls : LS) (k : DK) (m' : T AV) (H' : Heap) (e : Eff) : tailF mk i H rs ls k m' H' e = tailD mk i H rs ls k m' H' e := by
  cases e <;> simp only [tailF, tailD, lsF_eq, rsF_eq, brc]
noncomputable def genD (P : Program) (N : Nat) (o : Oper) (mk i : Nat) (g : CallA → T AV → Heap → RS → LS → (T AV → Heap → RO) → RO) : DrC :=
  PutC.rec (motive := fun _ => DrC) (fun p => .mk fun call m H rs ls κ => (Option.rec (motive := fun _ => RO) none (fun e => (Option.rec (motive := fun _ => RO) none (fun r => Prod.rec (motive := fun _ => RO) (fun v H' => p v m fun m' => tailF mk i H rs ls (fun m' H' rs ls => g call m' H' rs ls κ) m' H' e) r) (doEffF call H e))) (aeff P (evF m) o))) (putC N o.dst)
theorem genD_eq (P : Program) (N : Nat) (o : Oper) (mk i : Nat) (g : CallA → T AV → Heap → RS → LS → (T AV → Heap → RO) → RO) (call : CallA) (m : T AV) (H : Heap) (rs : RS) (ls : LS) (κ : T AV → Heap → RO) :
    (genD P N o mk i g).f call m H rs ls κ = bodyD P call N o mk i m H rs ls fun m' H' rs ls => g call m' H' rs ls κ := by
  have hput := putC_eq N o.dst
  unfold genD bodyD
  cases hp : putC N o.dst with
  | mk p =>
    rw [hp] at hput
    show ((Option.rec (motive := fun _ => RO) none (fun e => (Option.rec (motive := fun _ => RO) none (fun r => Prod.rec (motive := fun _ => RO) (fun v H' => p v m fun m' => tailF mk i H rs ls (fun m' H' rs ls => g call m' H' rs ls κ) m' H' e) r) (doEffF call H e))) (aeff P (evF m) o))) = _
    rw [ob_eq, evF_eq]
    cases aeff P (evA m) o with
    | none => rfl
    | some e =>
      simp only [Option.bind_some]
      rw [ob_eq, doEffF_eq]
      cases doEff call H e with
      | none => rfl
      | some r =>
        obtain ⟨v, H'⟩ := r
        show p v m (fun m' => tailF mk i H rs ls (fun m' H' rs ls => g call m' H' rs ls κ) m' H' e) = _
        rw [show p v m (fun m' => tailF mk i H rs ls (fun m' H' rs ls => g call m' H' rs ls κ) m' H' e) = (putA N m o.dst v).bind fun m' => tailF mk i H rs ls (fun m' H' rs ls => g call m' H' rs ls κ) m' H' e from hput v m _]
        simp only [Option.bind_some, tailF_eq]
noncomputable def mildD (c : OpC) (g : CallA → T AV → Heap → RS → LS → (T AV → Heap → RO) → RO) : DrC :=
  OpC.rec (motive := fun _ => DrC) (fun f => .mk fun call m H rs ls κ => f call m H fun m' H' => g call m' H' rs ls κ) c
noncomputable def loudD (mk i : Nat) (c : OpC) (g : CallA → T AV → Heap → RS → LS → (T AV → Heap → RO) → RO) : DrC :=
  OpC.rec (motive := fun _ => DrC) (fun f => .mk fun call m H rs ls κ => f call m H fun m' H' => (Bool.rec (motive := fun _ => _) none (g call m' H' rs ((i, H, H') :: ls) κ) (rsF mk H H' rs))) c
noncomputable def loadD (mk i : Nat) (a : T AV → Option AV) (p : PF) (g : CallA → T AV → Heap → RS → LS → (T AV → Heap → RO) → RO) : DrC :=
  .mk fun call m H rs ls κ => (Option.rec (motive := fun _ => RO) none (fun v => toP v (fun b o => hK b H.m (fun cs => nthK cs o (fun c => p (some c) m fun m' => (Bool.rec (motive := fun _ => _) none (g call m' H ((i, b, o, 1) :: rs) ls κ) (lsF mk b o 1 ls))))) none) (a m))
noncomputable def loadsD (mk i n : Nat) (a : T AV → Option AV) (p : PF) (g : CallA → T AV → Heap → RS → LS → (T AV → Heap → RO) → RO) : DrC :=
  .mk fun call m H rs ls κ => (Option.rec (motive := fun _ => RO) none (fun v => toP v (fun b o => hK b H.m (fun cs => takeK n (dropF cs o) (fun l => p (some (.agg l)) m fun m' => (Bool.rec (motive := fun _ => _) none (g call m' H ((i, b, o, n) :: rs) ls κ) (lsF mk b o n ls))))) none) (a m))
noncomputable def withPD (w : PutC) (f : PF → DrC) : DrC := PutC.rec (motive := fun _ => DrC) f w
theorem withPD_eq (w : PutC) (f : PF → DrC) : withPD w f = f w.f := by cases w; rfl
noncomputable def withGD (w : Way AV) (f : (T AV → Option AV) → DrC) : DrC := Way.rec (motive := fun _ => DrC) f w
theorem withGD_eq (w : Way AV) (f : (T AV → Option AV) → DrC) : withGD w f = f w.f := by cases w; rfl
noncomputable def loadDM (P : Program) (N : Nat) (o : Oper) (t : TypeId) (a : Operand) (mk i : Nat) (g : CallA → T AV → Heap → RS → LS → (T AV → Heap → RO) → RO) : DrC := match isAggT P t with
  | some false => withGD (getC a) fun x => withPD (putC N o.dst) fun p => loadD mk i x p g
  | some true => match szOf P t with
    | some n => cond (Nat.beq n 0) (genD P N o mk i g) (withGD (getC a) fun x => withPD (putC N o.dst) fun p => loadsD mk i n x p g)
    | none => genD P N o mk i g
  | none => genD P N o mk i g
noncomputable def memD (P : Program) (N : Nat) (o : Oper) (mk i : Nat) (g : CallA → T AV → Heap → RS → LS → (T AV → Heap → RO) → RO) : DrC := match o.op with
  | .load t a => loadDM P N o t a mk i g
  | .store _ _ _ => loudD mk i (unC' P N o) g
  | .alloc _ | .box _ _ => mildD (unC' P N o) g
  | .call c => match c.callee with
    | .value _ => loudD mk i (unC' P N o) g
    | _ => genD P N o mk i g
  | _ => genD P N o mk i g
noncomputable def drU (P : Program) (N : Nat) (o : Oper) (mk i : Nat) (g : CallA → T AV → Heap → RS → LS → (T AV → Heap → RO) → RO) : DrC :=
  Option.rec (motive := fun _ => DrC) (memD P N o mk i g) (fun _ => mildD (unC' P N o) g) (valC P o.op)
theorem mildD_eq {P : Program} {N : Nat} {o : Oper} {mk i : Nat} {g : CallA → T AV → Heap → RS → LS → (T AV → Heap → RO) → RO} (h : Mild P o) (call : CallA) (m : T AV) (H : Heap) (rs : RS) (ls : LS) (κ : T AV → Heap → RO) :
    (mildD (unC' P N o) g).f call m H rs ls κ = bodyD P call N o mk i m H rs ls fun m' H' rs ls => g call m' H' rs ls κ := by
  rw [bodyD_mild h]
  have hu := unC_ok P N o
  unfold mildD
  cases hc : unC' P N o with
  | mk f => rw [hc] at hu; exact hu call m H _
theorem loudD_eq {P : Program} {N : Nat} {o : Oper} {mk i : Nat} {g : CallA → T AV → Heap → RS → LS → (T AV → Heap → RO) → RO} (h : Loud P o) (call : CallA) (m : T AV) (H : Heap) (rs : RS) (ls : LS) (κ : T AV → Heap → RO) :
    (loudD mk i (unC' P N o) g).f call m H rs ls κ = bodyD P call N o mk i m H rs ls fun m' H' rs ls => g call m' H' rs ls κ := by
  rw [bodyD_loud h]
  have hu := unC_ok P N o
  unfold loudD
  cases hc : unC' P N o with
  | mk f =>
    rw [hc] at hu
    show f call m H (fun m' H' => (Bool.rec (motive := fun _ => _) none (g call m' H' rs ((i, H, H') :: ls) κ) (rsF mk H H' rs))) = _
    simp only [rsF_eq, brc]
    exact hu call m H _
theorem drU_eq (P : Program) (N : Nat) (o : Oper) (mk i : Nat) (g : CallA → T AV → Heap → RS → LS → (T AV → Heap → RO) → RO) (call : CallA) (m : T AV) (H : Heap) (rs : RS) (ls : LS) (κ : T AV → Heap → RO) :
    (drU P N o mk i g).f call m H rs ls κ = bodyD P call N o mk i m H rs ls fun m' H' rs ls => g call m' H' rs ls κ := by
  unfold drU
  cases hv : valC P o.op with
  | some vc =>
    obtain ⟨q, h1, _⟩ := valC_ok hv
    refine mildD_eq (fun m e he => ?_) call m H rs ls κ
    rw [h1 m o rfl] at he
    obtain ⟨v, _, rfl⟩ := map_some' he
    exact .inl ⟨v, rfl⟩
  | none =>
    show (memD P N o mk i g).f call m H rs ls κ = _
    unfold memD
    split
    · rename_i t a hop
      unfold loadDM
      split
      · rename_i hagg
        rw [withGD_eq, withPD_eq, getC_fun]
        show ((Option.rec (motive := fun _ => RO) none (fun v => toP v (fun b q => hK b H.m (fun cs => nthK cs q (fun c => (putC N o.dst).f (some c) m fun m' => (Bool.rec (motive := fun _ => _) none (g call m' H ((i, b, q, 1) :: rs) ls κ) (lsF mk b q 1 ls))))) none) (evA m a))) = _
        rw [ob_eq]
        unfold bodyD aeff
        rw [hop]
        simp only
        cases evA m a with
        | none => rfl
        | some v =>
          cases v <;> first | rfl | skip
          rename_i b q
          simp only [hagg, Option.bind_some, doEff, rd]
          show hK b H.m (fun cs => nthK cs q (fun c => (putC N o.dst).f (some c) m fun m' => (Bool.rec (motive := fun _ => _) none (g call m' H ((i, b, q, 1) :: rs) ls κ) (lsF mk b q 1 ls)))) = _
          rw [hK_eq, show H.get b = H.m.get b from rfl]
          cases H.m.get b with
          | none => rfl
          | some cs =>
            show nthK cs q _ = _
            rw [nthK_eq, ← sub_one]
            simp only [Option.bind_some]
            cases sub? cs q 1 with
            | none => rfl
            | some l =>
              simp only [Option.bind_some]
              cases l.head? with
              | none => rfl
              | some c => simp only [Option.bind_some, putC_eq, lsF_eq, brc]; rfl
      · rename_i hagg
        split
        · rename_i n hn
          cases hz : Nat.beq n 0 with
          | true => exact genD_eq P N o mk i g call m H rs ls κ
          | false =>
            rw [cond_false, withGD_eq, withPD_eq, getC_fun]
            have hn0 : n ≠ 0 := by intro e; subst e; cases hz
            show ((Option.rec (motive := fun _ => RO) none (fun v => toP v (fun b q => hK b H.m (fun cs => takeK n (dropF cs q) (fun l => (putC N o.dst).f (some (.agg l)) m fun m' => (Bool.rec (motive := fun _ => _) none (g call m' H ((i, b, q, n) :: rs) ls κ) (lsF mk b q n ls))))) none) (evA m a))) = _
            rw [ob_eq]
            unfold bodyD aeff
            rw [hop]
            simp only
            cases evA m a with
            | none => rfl
            | some v =>
              cases v <;> first | rfl | skip
              rename_i b q
              simp only [hagg, hn, Option.map_some, Option.bind_some, doEff, rd]
              show hK b H.m (fun cs => takeK n (dropF cs q) (fun l => (putC N o.dst).f (some (.agg l)) m fun m' => (Bool.rec (motive := fun _ => _) none (g call m' H ((i, b, q, n) :: rs) ls κ) (lsF mk b q n ls)))) = _
              rw [hK_eq, show H.get b = H.m.get b from rfl]
              cases H.m.get b with
              | none => rfl
              | some cs =>
                show takeK n (dropF cs q) _ = _
                rw [subK_eq hn0]
                simp only [Option.bind_some]
                cases sub? cs q n with
                | none => rfl
                | some l => simp only [Option.bind_some, putC_eq, lsF_eq, brc]; rfl
        · exact genD_eq P N o mk i g call m H rs ls κ
      · exact genD_eq P N o mk i g call m H rs ls κ
    · rename_i t a x hop
      refine loudD_eq (fun m e he => ?_) call m H rs ls κ
      unfold aeff at he
      rw [hop] at he; simp only at he
      split at he
      · obtain ⟨_, _, he⟩ := bind_some' he
        obtain ⟨_, he⟩ := cond_some he
        injection he with he; subst he; rfl
      · cases he
    · rename_i t hop
      refine mildD_eq (fun m e he => ?_) call m H rs ls κ
      unfold aeff at he
      rw [hop] at he; simp only at he
      obtain ⟨_, _, rfl⟩ := map_some' he
      exact .inr ⟨_, _, rfl⟩
    · rename_i t x hop
      refine mildD_eq (fun m e he => ?_) call m H rs ls κ
      unfold aeff at he
      rw [hop] at he; simp only at he
      obtain ⟨_, _, he⟩ := bind_some' he
      obtain ⟨_, he⟩ := cond_some he
      injection he with he; subst he
      exact .inr ⟨_, _, rfl⟩
    · rename_i c hop
      split
      · rename_i x hcal
        refine loudD_eq (fun m e he => ?_) call m H rs ls κ
        unfold aeff at he
        rw [hop] at he; simp only at he
        obtain ⟨args, _, he'⟩ := bind_some' he
        rw [hcal] at he'
        simp only at he'
        split at he'
        · obtain ⟨_, he'⟩ := cond_some he'
          injection he' with he'; subst he'; rfl
        · cases he'
      · exact genD_eq P N o mk i g call m H rs ls κ
    · exact genD_eq P N o mk i g call m H rs ls κ
noncomputable def drO (P : Program) (N : Nat) (ops : Array Oper) (o : Oper) (mk i : Nat) (g : CallA → T AV → Heap → RS → LS → (T AV → Heap → RO) → RO) : DrC :=
  Option.rec (motive := fun _ => DrC) (drU P N o mk i g) (fun _ => GuC.rec (motive := fun _ => DrC) (fun w => PutC.rec (motive := fun _ => DrC) (fun p => DrC.rec (motive := fun _ => DrC) (fun u => .mk fun call m H rs ls κ => w m (u call m H rs ls κ) (p none m fun m' => g call m' H rs ls κ)) (drU P N o mk i g)) (putC N o.dst)) (guC ops o)) o.guard
theorem drO_eq (P : Program) (N : Nat) (ops : Array Oper) (o : Oper) (mk i : Nat) (g : CallA → T AV → Heap → RS → LS → (T AV → Heap → RO) → RO) (call : CallA) (m : T AV) (H : Heap) (rs : RS) (ls : LS) (κ : T AV → Heap → RO) :
    (drO P N ops o mk i g).f call m H rs ls κ = (wantedA ops m o).bind fun c => cond c (bodyD P call N o mk i m H rs ls fun m' H' rs ls => g call m' H' rs ls κ) ((putA N m o.dst none).bind fun m' => g call m' H rs ls κ) := by
  have hu := drU_eq P N o mk i g
  unfold drO
  cases hg : o.guard with
  | none =>
    have : wantedA ops m o = some true := by unfold wantedA; rw [hg]
    rw [this]
    exact hu call m H rs ls κ
  | some gd =>
    have h1 := guC_eq ops o m
    cases hw : guC ops o with
    | mk w =>
      rw [hw] at h1
      have h2 := fun v m κ => putC_eq N o.dst v m κ
      cases hp : putC N o.dst with
      | mk p =>
        rw [hp] at h2
        cases hc : drU P N o mk i g with
        | mk u =>
          rw [hc] at hu
          show w m (u call m H rs ls κ) (p none m fun m' => g call m' H rs ls κ) = _
          rw [show w m (u call m H rs ls κ) (p none m fun m' => g call m' H rs ls κ) = (wantedA ops m o).bind fun c => cond c (u call m H rs ls κ) (p none m fun m' => g call m' H rs ls κ) from h1 _ _]
          cases wantedA ops m o with
          | none => rfl
          | some c =>
            cases c with
            | true => exact hu call m H rs ls κ
            | false => exact h2 _ _ _
noncomputable def drC (P : Program) (N : Nat) (ops : Array Oper) (l : List Oper) : List Nat → Nat → DrC :=
  List.rec (motive := fun _ => List Nat → Nat → DrC) (fun _ _ => .mk fun call m H rs ls κ => κ m H)
    (fun o _ ih mks i => List.rec (motive := fun _ => DrC) (.mk fun call m H rs ls κ => none) (fun mk mks _ => DrC.rec (motive := fun _ => DrC) (fun g => drO P N ops o mk i g) (ih mks (Nat.succ i))) mks) l
theorem bodyD_bind {P : Program} {call : CallA} {N : Nat} {o : Oper} {mk i : Nat} {m : T AV} {H : Heap} {rs : RS} {ls : LS} {k : DK} (κ : T AV → Heap → RO) : ((bodyD P call N o mk i m H rs ls k).bind fun p => κ p.1 p.2) = bodyD P call N o mk i m H rs ls fun m' H' rs ls => (k m' H' rs ls).bind fun p => κ p.1 p.2 := by
  unfold bodyD
  cases aeff P (evA m) o with
  | none => rfl
  | some e =>
    simp only [Option.bind_some]
    cases doEff call H e with
    | none => rfl
    | some p =>
      simp only [Option.bind_some]
      cases putA N m o.dst p.1 with
      | none => rfl
      | some m' =>
        simp only [Option.bind_some]
        cases e with
        | q v => rfl
        | a c g => rfl
        | r b q n g => show (cond (lsOk mk b q n ls) _ none).bind _ = cond (lsOk mk b q n ls) _ none
                       cases lsOk mk b q n ls <;> rfl
        | w b q s v => show (cond (rsOk mk H p.2 rs) _ none).bind _ = cond (rsOk mk H p.2 rs) _ none
                       cases rsOk mk H p.2 rs <;> rfl
        | call f as => show (cond (rsOk mk H p.2 rs) _ none).bind _ = cond (rsOk mk H p.2 rs) _ none
                       cases rsOk mk H p.2 rs <;> rfl
        | app s n c z => show (cond (rsOk mk H p.2 rs) _ none).bind _ = cond (rsOk mk H p.2 rs) _ none
                         cases rsOk mk H p.2 rs <;> rfl
        | m b v => show (cond (rsOk mk H p.2 rs) _ none).bind _ = cond (rsOk mk H p.2 rs) _ none
                   cases rsOk mk H p.2 rs <;> rfl
theorem drawA_cons (P : Program) (call : CallA) (N : Nat) (ops : Array Oper) (o : Oper) (rest : List Oper) (mk : Nat) (mks : List Nat) (i : Nat) (m : T AV) (H : Heap) (rs : RS) (ls : LS) :
    drawA P call N ops (o :: rest) (mk :: mks) i m H rs ls = (wantedA ops m o).bind fun c => cond c (bodyD P call N o mk i m H rs ls fun m' H' rs ls => drawA P call N ops rest mks (i + 1) m' H' rs ls) ((putA N m o.dst none).bind fun m' => drawA P call N ops rest mks (i + 1) m' H rs ls) := by
  simp only [drawA]
  cases wantedA ops m o with
  | none => rfl
  | some c =>
    cases c with
    | false => rfl
    | true =>
      simp only [Option.bind_some, cond_true]
      unfold bodyD
      cases aeff P (evA m) o with
      | none => rfl
      | some e =>
        simp only [Option.bind_some]
        cases doEff call H e with
        | none => rfl
        | some p =>
          simp only [Option.bind_some]
          cases putA N m o.dst p.1 with
          | none => rfl
          | some m' => cases e <;> rfl
theorem drC_eq (P : Program) (N : Nat) (ops : Array Oper) (call : CallA) : ∀ (l : List Oper) (mks : List Nat) (i : Nat) (m : T AV) (H : Heap) (rs : RS) (ls : LS) (κ : T AV → Heap → RO), (drC P N ops l mks i).f call m H rs ls κ = (drawA P call N ops l mks i m H rs ls).bind fun p => κ p.1 p.2
  | [], mks, i, m, H, rs, ls, κ => by simp only [drawA]; rfl
  | o :: l, [], i, m, H, rs, ls, κ => by simp only [drawA]; rfl
  | o :: l, mk :: mks, i, m, H, rs, ls, κ => by
    have ih := drC_eq P N ops call l mks (i + 1)
    show (DrC.rec (motive := fun _ => DrC) (fun g => drO P N ops o mk i g) (drC P N ops l mks (i + 1)) : DrC).f call m H rs ls κ = _
    cases hl : drC P N ops l mks (i + 1) with
    | mk g =>
      rw [hl] at ih
      show (drO P N ops o mk i g).f call m H rs ls κ = _
      rw [drO_eq, drawA_cons]
      cases wantedA ops m o with
      | none => rfl
      | some c =>
        cases c with
        | true =>
          show bodyD P call N o mk i m H rs ls (fun m' H' rs ls => g call m' H' rs ls κ) = (bodyD P call N o mk i m H rs ls _).bind _
          rw [bodyD_bind]
          congr 1
          funext m' H' rs' ls'
          exact ih m' H' rs' ls' κ
        | false =>
          show ((putA N m o.dst none).bind fun m' => g call m' H rs ls κ) = ((putA N m o.dst none).bind _).bind _
          cases putA N m o.dst none with
          | none => rfl
          | some m' => exact ih m' H rs ls κ
end Go.Proofs.YtpoohfmddkgndaaAm
