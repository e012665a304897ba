/- The same evaluator, each operation prepared once: operations, regions. -/
import Derived.Test.YtpoohfmddkgndaaAmX
set_option linter.unusedVariables false
set_option linter.unusedSimpArgs false
namespace Go.Proofs.YtpoohfmddkgndaaAm
open Go

structure OpC where
  f : CallA → T AV → Heap → (T AV → Heap → RO) → RO
noncomputable def bodyA (P : Program) (call : CallA) (N : Nat) (m : T AV) (H : Heap) (o : Oper) : RO :=
  (aeff P (evA m) o).bind fun e => (doEff call H e).bind fun (v, H') => (putA N m o.dst v).map fun m' => (m', H')
noncomputable def outK (x : RO) (κ : T AV → Heap → RO) : RO := ob% x (fun p => Prod.rec (motive := fun _ => RO) κ p)
theorem outK_eq (x : RO) (κ : T AV → Heap → RO) : outK x κ = x.bind fun p => κ p.1 p.2 := by cases x <;> rfl
def OpOk (P : Program) (N : Nat) (o : Oper) (c : OpC) : Prop := ∀ call m H κ, c.f call m H κ = (bodyA P call N m H o).bind fun p => κ p.1 p.2

abbrev QF := T AV → (AV → RO) → RO
abbrev PF := Option AV → T AV → (T AV → RO) → RO
noncomputable def genO (P : Program) (N : Nat) (o : Oper) : OpC := .mk fun call m H κ => outK (bodyA P call N m H o) κ
noncomputable def quietO (q : QF) (p : PF) : OpC := .mk fun call m H κ => q m fun v => p (some v) m fun m' => κ m' H
noncomputable def hK (b : Nat) (t : T (List AV)) (κ : List AV → RO) : RO := Way.rec (motive := fun _ => T (List AV) → (List AV → RO) → RO) (fun g t κ => ob% (g t) κ) (way (List AV) b) t κ
noncomputable def hset (b : Nat) (cs : List AV) (t : T (List AV)) : T (List AV) := Set'.rec (motive := fun _ => List AV → T (List AV) → T (List AV)) (fun s cs t => s (some cs) t) (setW (List AV) b) cs t
theorem hK_eq (b : Nat) (t : T (List AV)) (κ : List AV → RO) : hK b t κ = (t.get b).bind κ := by
  unfold hK
  have := way_eq b t
  cases hw : way (List AV) b with
  | mk g => rw [hw] at this; rw [← this]; exact ob_eq _ _
theorem hset_eq (b : Nat) (cs : List AV) (t : T (List AV)) : hset b cs t = t.set b (some cs) := by
  unfold hset
  have := setW_eq b (some cs) t
  cases hw : setW (List AV) b with
  | mk s => rw [hw] at this; exact this
noncomputable def loadO (g : T AV → Option AV) (p : PF) : OpC :=
  .mk fun call m H κ => ob% (g m) (fun v => toP v (fun b o => hK b H.m (fun cs => nthK cs o (fun c => p (some c) m fun m' => κ m' H))) none)
noncomputable def loadsO (n : Nat) (g : T AV → Option AV) (p : PF) : OpC :=
  .mk fun call m H κ => ob% (g m) (fun v => toP v (fun b o => hK b H.m (fun cs => takeK n (dropF cs o) (fun l => p (some (.agg l)) m fun m' => κ m' H))) none)
noncomputable def storeK (p : PF) (m : T AV) (H : Heap) (κ : T AV → Heap → RO) (v : AV) (b o : Nat) : RO :=
  hK b H.m (fun cs => setK v cs o (fun cs => p none m fun m' => Heap.rec (motive := fun _ => RO) (fun nx hm => κ m' (Heap.mk nx (hset b cs hm))) H))
noncomputable def storeO (P : Program) (N : Nat) (o : Oper) (ga gx : T AV → Option AV) (p : PF) : OpC :=
  .mk fun call m H κ => ob% (ga m) (fun a => ob% (gx m) (fun v => toP a (fun b q => toC v (storeK p m H κ v b q) (fun _ => outK (bodyA P call N m H o) κ) none) none))
noncomputable def newK (p : PF) (m : T AV) (H : Heap) (κ : T AV → Heap → RO) (cs : List AV) : RO :=
  Heap.rec (motive := fun _ => RO) (fun nx hm => forceN nx fun nx => p (some (.p nx 0)) m fun m' => κ m' (Heap.mk (Nat.succ nx) (hset nx cs hm))) H
noncomputable def allocO (z : List AV) (p : PF) : OpC := .mk fun call m H κ => newK p m H κ z
noncomputable def boxO (g : T AV → Option AV) (p : PF) : OpC := .mk fun call m H κ => ob% (g m) (fun v => toC v (newK p m H κ [v]) (newK p m H κ) none)
structure ArgsC where
  f : T AV → (List AV → RO) → RO
noncomputable def argsC : List Operand → ArgsC :=
  List.rec (motive := fun _ => ArgsC) (.mk fun _ κ => κ []) (fun x _ ih => Way.rec (motive := fun _ => ArgsC) (fun g => ArgsC.rec (motive := fun _ => ArgsC) (fun h => .mk fun m κ => ob% (g m) (fun v => h m fun vs => κ (v :: vs))) ih) (getC x))
theorem argsC_eq : ∀ (l : List Operand) (m : T AV) (κ : List AV → RO), (argsC l).f m κ = (evAll (evA m) l).bind κ
  | [], m, κ => rfl
  | x :: l, m, κ => by
    have i1 := argsC_eq l
    have i2 := getC_eq x
    show (Way.rec (motive := fun _ => ArgsC) (fun g => ArgsC.rec (motive := fun _ => ArgsC) (fun h => .mk fun m κ => ob% (g m) (fun v => h m fun vs => κ (v :: vs))) (argsC l)) (getC x) : ArgsC).f m κ = _
    cases hw : getC x with
    | mk g =>
      cases ha : argsC l with
      | mk h =>
        rw [hw] at i2; rw [ha] at i1
        show (ob% (g m) (fun v => h m fun vs => κ (v :: vs))) = _
        rw [ob_eq, show g m = evA m x from i2 m]
        simp only [evAll]
        cases evA m x with
        | none => rfl
        | some v =>
          show h m (fun vs => κ (v :: vs)) = _
          rw [show h m (fun vs => κ (v :: vs)) = (evAll (evA m) l).bind fun vs => κ (v :: vs) from i1 m _]
          cases evAll (evA m) l <;> rfl
noncomputable def callO (f : FuncId) (as : T AV → (List AV → RO) → RO) (p : PF) : OpC :=
  .mk fun call m H κ => as m fun vs => ob% (call f vs H) (fun r => Prod.rec (motive := fun _ => RO) (fun v H' => cc% (Nat.ble H.next H'.next) (p (some v) m fun m' => κ m' H') none) r)

noncomputable def withP (w : PutC) (f : PF → OpC) : OpC := PutC.rec (motive := fun _ => OpC) f w
theorem withP_eq (w : PutC) (f : PF → OpC) : withP w f = f w.f := by cases w; rfl
noncomputable def withG (w : Way AV) (f : (T AV → Option AV) → OpC) : OpC := Way.rec (motive := fun _ => OpC) f w
theorem withG_eq (w : Way AV) (f : (T AV → Option AV) → OpC) : withG w f = f w.f := by cases w; rfl
noncomputable def withA (w : ArgsC) (f : (T AV → (List AV → RO) → RO) → OpC) : OpC := ArgsC.rec (motive := fun _ => OpC) f w
theorem withA_eq (w : ArgsC) (f : (T AV → (List AV → RO) → RO) → OpC) : withA w f = f w.f := by cases w; rfl
noncomputable def loadM (P : Program) (N : Nat) (o : Oper) (t : TypeId) (a : Operand) : OpC := match isAggT P t with
  | some false => withG (getC a) fun g => withP (putC N o.dst) fun p => loadO g p
  | some true => match szOf P t with
    | some n => cond (Nat.beq n 0) (genO P N o) (withG (getC a) fun g => withP (putC N o.dst) fun p => loadsO n g p)
    | none => genO P N o
  | none => genO P N o
noncomputable def storeM (P : Program) (N : Nat) (o : Oper) (t : TypeId) (a x : Operand) : OpC := match szOf P t with
  | some n => cond (Nat.beq n 1) (withG (getC a) fun ga => withG (getC x) fun gx => withP (putC N o.dst) fun p => storeO P N o ga gx p) (genO P N o)
  | none => genO P N o
noncomputable def allocM (P : Program) (N : Nat) (o : Oper) (t : TypeId) : OpC := Option.rec (motive := fun _ => OpC) (genO P N o) (fun z => withP (putC N o.dst) fun p => allocO z p) (zeroA P t)
noncomputable def callM (P : Program) (N : Nat) (o : Oper) (c : Call) : OpC := match c.callee with
  | .value (.func f) => cond (fnOk P f) (withA (argsC c.args.toList) fun as => withP (putC N o.dst) fun p => callO f as p) (genO P N o)
  | _ => genO P N o
noncomputable def memM (P : Program) (N : Nat) (o : Oper) : OpC := match o.op with
  | .load t a => loadM P N o t a
  | .store t a x => storeM P N o t a x
  | .alloc t => allocM P N o t
  | .box _ x => withG (getC x) fun g => withP (putC N o.dst) fun p => boxO g p
  | .call c => callM P N o c
  | _ => genO P N o
noncomputable def unC' (P : Program) (N : Nat) (o : Oper) : OpC := Option.rec (motive := fun _ => OpC) (memM P N o) (fun vc => ValC.rec (motive := fun _ => OpC) (fun q => withP (putC N o.dst) fun p => quietO q p) vc) (valC P o.op)

theorem genO_ok (P : Program) (N : Nat) (o : Oper) : OpOk P N o (genO P N o) := fun call m H κ => outK_eq _ _
theorem putC_fun (N : Nat) (dst : Option Tmp) (v : Option AV) (m : T AV) (κ : T AV → RO) : (putC N dst).f v m κ = (putA N m dst v).bind κ := putC_eq N dst v m κ
/-- put, and on -/
theorem put_on {N : Nat} {dst : Option Tmp} {v : Option AV} {m : T AV} {H : Heap} {κ : T AV → Heap → RO} : (putC N dst).f v m (fun m' => κ m' H) = ((putA N m dst v).map fun m' => (m', H)).bind fun p => κ p.1 p.2 := by
  rw [putC_eq]; cases putA N m dst v <;> rfl
theorem splice_set {cs : List AV} {o : Nat} {v : AV} : splice cs o [v] = splice cs o [v] := rfl
theorem unC_ok (P : Program) (N : Nat) (o : Oper) : OpOk P N o (unC' P N o) := by
  intro call m H κ
  unfold unC'
  cases hv : valC P o.op with
  | some vc =>
    obtain ⟨g, h1, h2⟩ := valC_ok hv
    cases vc with
    | mk q =>
      show (withP (putC N o.dst) fun p => quietO q p).f call m H κ = _
      rw [withP_eq]
      show q m (fun v => (putC N o.dst).f (some v) m fun m' => κ m' H) = _
      rw [show q m _ = (g m).bind _ from h2 m _]
      unfold bodyA
      rw [h1 m o rfl]
      cases g m with
      | none => rfl
      | some v => exact put_on
  | none =>
    show (memM P N o).f call m H κ = _
    unfold memM
    split
    · rename_i t a hop
      unfold loadM
      split
      · rename_i hagg
        rw [withG_eq, withP_eq, getC_fun]
        show (ob% (evA m a) (fun v => toP v (fun b q => hK b H.m (fun cs => nthK cs q (fun c => (putC N o.dst).f (some c) m fun m' => κ m' H))) none)) = _
        rw [ob_eq]
        unfold bodyA aeff
        rw [hop]
        simp only
        cases evA m a with
        | none => rfl
        | some v =>
          cases v <;> first | rfl | skip
          rename_i b q
          simp only [hagg, Option.bind_some, doEff, rd]
          show hK b H.m (fun cs => nthK cs q (fun c => (putC N o.dst).f (some c) m fun m' => κ m' H)) = _
          rw [hK_eq]
          rw [show H.get b = H.m.get b from rfl]
          cases H.m.get b with
          | none => rfl
          | some cs =>
            show nthK cs q _ = _
            rw [nthK_eq, ← sub_one]
            simp only [Option.bind_some]
            cases sub? cs q 1 with
            | none => rfl
            | some l =>
              simp only [Option.bind_some]
              cases l.head? with
              | none => rfl
              | some c => exact put_on
      · rename_i hagg
        split
        · rename_i n hn
          cases hz : Nat.beq n 0 with
          | true => exact genO_ok P N o call m H κ
          | false =>
            rw [cond_false, withG_eq, withP_eq, getC_fun]
            have hn0 : n ≠ 0 := by intro e; subst e; cases hz
            show (ob% (evA m a) (fun v => toP v (fun b q => hK b H.m (fun cs => takeK n (dropF cs q) (fun l => (putC N o.dst).f (some (.agg l)) m fun m' => κ m' H))) none)) = _
            rw [ob_eq]
            unfold bodyA aeff
            rw [hop]
            simp only
            cases evA m a with
            | none => rfl
            | some v =>
              cases v <;> first | rfl | skip
              rename_i b q
              simp only [hagg, hn, Option.map_some, Option.bind_some, doEff, rd]
              show hK b H.m (fun cs => takeK n (dropF cs q) (fun l => (putC N o.dst).f (some (.agg l)) m fun m' => κ m' H)) = _
              rw [hK_eq]
              rw [show H.get b = H.m.get b from rfl]
              cases H.m.get b with
              | none => rfl
              | some cs =>
                show takeK n (dropF cs q) _ = _
                rw [subK_eq hn0]
                simp only [Option.bind_some]
                cases sub? cs q n with
                | none => rfl
                | some l => exact put_on
        · exact genO_ok P N o call m H κ
      · exact genO_ok P N o call m H κ
    · rename_i t a x hop
      unfold storeM
      split
      · rename_i n hn
        cases hz : Nat.beq n 1 with
        | false => exact genO_ok P N o call m H κ
        | true =>
          have := beq_eq' hz; subst this
          rw [cond_true, withG_eq, withG_eq, withP_eq, getC_fun, getC_fun]
          have hgen := genO_ok P N o call m H κ
          have hgen : outK (bodyA P call N m H o) κ = _ := hgen
          show (ob% (evA m a) (fun u => ob% (evA m x) (fun v => toP u (fun b q => toC v (storeK (putC N o.dst).f m H κ v b q) (fun _ => outK (bodyA P call N m H o) κ) none) none))) = _
          rw [ob_eq]
          cases ha : evA m a with
          | none =>
            unfold bodyA aeff
            rw [hop]; simp only [ha]; rfl
          | some u =>
            show (ob% (evA m x) (fun v => toP u (fun b q => toC v (storeK (putC N o.dst).f m H κ v b q) (fun _ => outK (bodyA P call N m H o) κ) none) none)) = _
            rw [ob_eq]
            cases hx : evA m x with
            | none =>
              unfold bodyA aeff
              rw [hop]; simp only [ha, hx]
              cases u <;> rfl
            | some v =>
              show toP u (fun b q => toC v (storeK (putC N o.dst).f m H κ v b q) (fun _ => outK (bodyA P call N m H o) κ) none) none = _
              have hnp : (∀ b q, u ≠ .p b q) → (none : RO) = (bodyA P call N m H o).bind fun p => κ p.1 p.2 := by
                intro hu
                unfold bodyA aeff
                rw [hop]; simp only [ha, hx]
                cases u <;> first | rfl | skip
                exact absurd rfl (hu _ _)
              cases u <;> first | exact hnp (fun _ _ h => by cases h) | skip
              rename_i b q
              show toC v (storeK (putC N o.dst).f m H κ v b q) (fun _ => outK (bodyA P call N m H o) κ) none = _
              have fast : v.one = true → v.cells = [v] → v.sc = true → storeK (putC N o.dst).f m H κ v b q = (bodyA P call N m H o).bind fun p => κ p.1 p.2 := by
                intro h1 h2 h3
                unfold bodyA aeff
                rw [hop]; simp only [ha, hx, hn, h1, h2, Option.bind_some]
                have : ([v] : List AV).all AV.sc = true := by simp [h3]
                simp only [this]
                show _ = (((some (Eff.w b q (.lit [v]) none)).bind fun e => (doEff call H e).bind _)).bind _
                simp only [Option.bind_some, doEff, rdSrc, wr, this]
                unfold storeK
                rw [hK_eq]
                rw [show H.get b = H.m.get b from rfl]
                cases H.m.get b with
                | none => rfl
                | some cs =>
                  show setK v cs q _ = _
                  rw [setK_eq]
                  simp only [Option.bind_some, List.length_cons, List.length_nil, Nat.zero_add, Bool.and_true]
                  cases Nat.ble (q + 1) cs.length with
                  | false => rfl
                  | true =>
                    cases H with
                    | mk nx hm =>
                      simp only [cond_true, Option.map_some, Option.bind_some]
                      show (putC N o.dst).f none m (fun m' => κ m' (Heap.mk nx (hset b (splice cs q [v]) hm))) = _
                      rw [hset_eq]
                      exact put_on (H := Heap.mk nx (hm.set b (some (splice cs q [v]))))
              cases v <;> first | exact fast rfl rfl rfl | exact hgen | skip
              · unfold bodyA aeff
                rw [hop]; simp only [ha, hx, hn]; rfl
              · unfold bodyA aeff
                rw [hop]; simp only [ha, hx, hn]; rfl
      · exact genO_ok P N o call m H κ
    · rename_i t hop
      unfold allocM
      cases hz : zeroA P t with
      | none => exact genO_ok P N o call m H κ
      | some z =>
        show (withP (putC N o.dst) fun p => allocO z p).f call m H κ = _
        rw [withP_eq]
        cases H with
        | mk nx hm =>
          show forceN nx (fun nx => (putC N o.dst).f (some (.p nx 0)) m fun m' => κ m' (Heap.mk (Nat.succ nx) (hset nx z hm))) = _
          rw [forceN_eq, hset_eq]
          unfold bodyA aeff
          rw [hop]; simp only [hz, Option.map_some, Option.bind_some, doEff]
          exact put_on (H := Heap.mk (Nat.succ nx) (hm.set nx (some z)))
    · rename_i t x hop
      rw [withG_eq, withP_eq, getC_fun]
      show (ob% (evA m x) (fun v => toC v (newK (putC N o.dst).f m H κ [v]) (newK (putC N o.dst).f m H κ) none)) = _
      rw [ob_eq]
      have new : ∀ cs, newK (putC N o.dst).f m H κ cs = (((doEff call H (.a cs fun id => .p id 0)).bind fun (v, H') => (putA N m o.dst v).map fun m' => (m', H'))).bind fun p => κ p.1 p.2 := by
        intro cs
        cases H with
        | mk nx hm =>
          show forceN nx (fun nx => (putC N o.dst).f (some (.p nx 0)) m fun m' => κ m' (Heap.mk (Nat.succ nx) (hset nx cs hm))) = _
          rw [forceN_eq, hset_eq]
          exact put_on (H := Heap.mk (Nat.succ nx) (hm.set nx (some cs)))
      unfold bodyA aeff
      rw [hop]; simp only
      cases evA m x with
      | none => rfl
      | some v => cases v <;> first | rfl | exact new _
    · rename_i c hop
      unfold callM
      split
      · rename_i f hcal
        cases hf : fnOk P f with
        | false => exact genO_ok P N o call m H κ
        | true =>
          rw [cond_true, withA_eq, withP_eq]
          show (argsC c.args.toList).f m (fun vs => ob% (call f vs H) (fun r => Prod.rec (motive := fun _ => RO) (fun v H' => cc% (Nat.ble H.next H'.next) ((putC N o.dst).f (some v) m fun m' => κ m' H') none) r)) = _
          rw [argsC_eq]
          unfold bodyA aeff
          rw [hop]; simp only [hcal]
          cases evAll (evA m) c.args.toList with
          | none => rfl
          | some vs =>
            simp only [Option.bind_some, evA, hf, cond_true, List.append_nil, doEff]
            rw [ob_eq]
            cases call f vs H with
            | none => rfl
            | some r =>
              obtain ⟨v, H'⟩ := r
              simp only [Option.bind_some]
              cases Nat.ble H.next H'.next with
              | false => rfl
              | true => exact put_on
      · exact genO_ok P N o call m H κ
    · exact genO_ok P N o call m H κ
end Go.Proofs.YtpoohfmddkgndaaAm
