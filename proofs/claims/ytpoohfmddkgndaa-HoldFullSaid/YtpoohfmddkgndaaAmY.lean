/- The same evaluator, each operation prepared once: operations, regions. -/
import Derived.Test.YtpoohfmddkgndaaAmX
set_option linter.unusedVariables false
set_option linter.unusedSimpArgs false
namespace Go.Proofs.YtpoohfmddkgndaaAm
open Go

structure OpC where
  f : CallA → T AV → Heap → (T AV → Heap → RO) → RO
noncomputable def bodyA (P : Program) (call : CallA) (N : Nat) (m : T AV) (H : Heap) (o : Oper) : RO :=
  (aeff P (evA m) o).bind fun e => (doEff call H e).bind fun (v, H') => (putA N m o.dst v).map fun m' => (m', H')
noncomputable def outK (x : RO) (κ : T AV → Heap → RO) : RO := (Option.rec (motive := fun _ => RO) none (fun p => Prod.rec (motive := fun _ => RO) κ p) x)
theorem outK_eq (x : RO) (κ : T AV → Heap → RO) : outK x κ = x.bind fun p => κ p.1 p.2 := by cases x <;> rfl
def OpOk (P : Program) (N : Nat) (o : Oper) (c : OpC) : Prop := ∀ call m H κ, c.f call m H κ = (bodyA P call N m H o).bind fun p => κ p.1 p.2

abbrev QF := T AV → (AV → RO) → RO
abbrev PF := Option AV → T AV → (T AV → RO) → RO
/-! what has no way of its own -/
noncomputable def evF (m : T AV) (x : Operand) : Option AV := Way.rec (motive := fun _ => T AV → Option AV) (fun g => g) (getC x) m
theorem evF_eq (m : T AV) : evF m = evA m := by
  funext x
  have := getC_eq x m
  unfold evF
  cases hw : getC x with
  | mk g => rw [hw] at this; exact this
noncomputable def lenF (l : List AV) : Nat := List.rec (motive := fun _ => Nat) 0 (fun _ _ ih => Nat.succ ih) l
theorem lenF_eq : ∀ l : List AV, lenF l = l.length
  | [] => rfl
  | _ :: l => congrArg Nat.succ (lenF_eq l)
noncomputable def catF (a b : List AV) : List AV := List.rec (motive := fun _ => List AV) b (fun x _ ih => x :: ih) a
theorem catF_eq : ∀ a b : List AV, catF a b = a ++ b
  | [], _ => rfl
  | x :: a, b => congrArg (x :: ·) (catF_eq a b)
noncomputable def scF (l : List AV) : Bool := List.rec (motive := fun _ => Bool) true (fun x _ ih => (Bool.rec (motive := fun _ => _) false ih (AV.sc x))) l
theorem scF_eq : ∀ l : List AV, scF l = l.all AV.sc
  | [] => rfl
  | x :: l => by
    show (Bool.rec (motive := fun _ => _) false (scF l) (AV.sc x)) = (x :: l).all AV.sc
    rw [scF_eq l, List.all_cons]
    cases AV.sc x <;> rfl
noncomputable def takeO (n : Nat) : List AV → Option (List AV) :=
  Nat.rec (motive := fun _ => List AV → Option (List AV)) (fun _ => some []) (fun _ ih l => List.rec (motive := fun _ => Option (List AV)) none (fun x xs _ => Option.rec (motive := fun _ => Option (List AV)) none (fun ys => some (x :: ys)) (ih xs)) l) n
theorem takeO_eq : ∀ (n : Nat) (l : List AV), takeO n l = cond (Nat.ble n l.length) (some (l.take n)) none
  | 0, l => by rw [show Nat.ble 0 l.length = true from Nat.ble_eq_true_of_le (Nat.zero_le _)]; rfl
  | n + 1, [] => rfl
  | n + 1, x :: l => by
    show (Option.rec (motive := fun _ => Option (List AV)) none (fun ys => some (x :: ys)) (takeO n l)) = cond (Nat.ble n l.length) (some (x :: l.take n)) none
    rw [takeO_eq n l]
    cases Nat.ble n l.length <;> rfl
noncomputable def subF (cs : List AV) (o n : Nat) : Option (List AV) := Nat.rec (motive := fun _ => Option (List AV)) (sub? cs o 0) (fun n _ => takeO (Nat.succ n) (dropF cs o)) n
theorem subF_eq (cs : List AV) (o n : Nat) : subF cs o n = sub? cs o n := by
  cases n with
  | zero => rfl
  | succ n =>
    show takeO (n + 1) (dropF cs o) = _
    rw [takeO_eq, dropF_eq]
    unfold sub?
    have e : ∀ a b : Nat, Nat.ble a b = decide (a ≤ b) := fun a b => by rw [Bool.eq_iff_iff, Nat.ble_eq, decide_eq_true_eq]
    rw [e, e, List.length_drop]
    by_cases h : o + (n + 1) ≤ cs.length
    · rw [decide_eq_true h, decide_eq_true (by omega)]
    · rw [decide_eq_false h, decide_eq_false (by omega)]
noncomputable def splF (cs : List AV) (new : List AV) : Nat → List AV :=
  List.rec (motive := fun _ => Nat → List AV) (fun _ => new) (fun x xs ih o => Nat.rec (motive := fun _ => List AV) (catF new (dropF (x :: xs) (lenF new))) (fun o _ => x :: ih o) o) cs
theorem splF_eq (new : List AV) : ∀ (cs : List AV) (o : Nat), splF cs new o = splice cs o new
  | [], o => by show new = _; simp [splice]
  | x :: cs, 0 => by
    show catF new (dropF (x :: cs) (lenF new)) = _
    rw [catF_eq, dropF_eq, lenF_eq]; simp [splice]
  | x :: cs, o + 1 => by
    show x :: splF cs new o = _
    rw [splF_eq new cs o]
    simp [splice, Nat.add_right_comm]
noncomputable def getF (H : Heap) (b : Nat) : Option (List AV) := Way.rec (motive := fun _ => T (List AV) → Option (List AV)) (fun g => g) (way (List AV) b) H.m
theorem getF_eq (H : Heap) (b : Nat) : getF H b = H.get b := by
  have := way_eq b H.m
  unfold getF
  cases hw : way (List AV) b with
  | mk g => rw [hw] at this; exact this
noncomputable def setF' (b : Nat) (x : Option (List AV)) (t : T (List AV)) : T (List AV) := Set'.rec (motive := fun _ => Option (List AV) → T (List AV) → T (List AV)) (fun s => s) (setW (List AV) b) x t
theorem setF'_eq (b : Nat) (x : Option (List AV)) (t : T (List AV)) : setF' b x t = t.set b x := by
  have := setW_eq b x t
  unfold setF'
  cases hw : setW (List AV) b with
  | mk s => rw [hw] at this; exact this
noncomputable def rdF (H : Heap) (b o n : Nat) : Option (List AV) := (getF H b).bind fun cs => subF cs o n
theorem rdF_eq (H : Heap) (b o n : Nat) : rdF H b o n = rd H b o n := by
  unfold rdF rd; rw [getF_eq]; congr 1; funext cs; exact subF_eq cs o n
noncomputable def rdSrcF (H : Heap) : Src → Option (List AV)
  | .mem b o n => rdF H b o n
  | .lit l => some l
theorem rdSrcF_eq (H : Heap) (s : Src) : rdSrcF H s = rdSrc H s := by
  cases s with
  | mem b o n => exact rdF_eq H b o n
  | lit l => rfl
noncomputable def allocF (H : Heap) (cells : List AV) : Heap := Heap.rec (motive := fun _ => List AV → Heap) (fun nx hm cells => ⟨Nat.succ nx, setF' nx (some cells) hm⟩) H cells
theorem allocF_eq (H : Heap) (cells : List AV) : allocF H cells = alloc H cells := by
  cases H with
  | mk nx hm => show Heap.mk (Nat.succ nx) (setF' nx (some cells) hm) = _; rw [setF'_eq]; rfl
noncomputable def wrF (H : Heap) (b o : Nat) (new : List AV) : Option Heap := (getF H b).bind fun cs =>
  (Bool.rec (motive := fun _ => _) none (some (Heap.rec (motive := fun _ => List AV → Heap) (fun nx hm cs => ⟨nx, setF' b (some cs) hm⟩) H (splF cs new o))) ((Bool.rec (motive := fun _ => _) false (scF new) (Nat.ble (Nat.add o (lenF new)) (lenF cs)))))
theorem wrF_eq (H : Heap) (b o : Nat) (new : List AV) : wrF H b o new = wr H b o new := by
  unfold wrF wr
  rw [getF_eq]; congr 1; funext cs
  simp only [lenF_eq, scF_eq, splF_eq, brc]
  rw [show Nat.add o new.length = o + new.length from rfl]
  cases Nat.ble (o + new.length) cs.length with
  | false => rfl
  | true =>
    simp only [cond_true, Bool.true_and]
    cases new.all AV.sc with
    | false => rfl
    | true =>
      cases H with
      | mk nx hm => show some (Heap.mk nx (setF' b (some (splice cs o new)) hm)) = _; rw [setF'_eq]; rfl
noncomputable def appF (H : Heap) (s : AV) (n : Nat) (src : Src) (sz : Nat) : Option (AV × Heap) :=
  (rdSrcF H src).bind fun new => cond (Nat.beq (lenF new) (n * sz)) (match s with
  | .ns => cond (Nat.beq n 0) (some (.ns, H)) (cond (Nat.blt n 1000000) (some (.sl H.next 0 n n false sz, allocF H new)) none)
  | .sl b o len lo ex z => cond (Nat.beq z sz && Nat.blt (len + n) 1000000)
      (cond (Nat.ble (len + n) lo)
        (cond (Nat.beq n 0) (some (.sl b o len lo ex sz, H)) ((wrF H b (o + len * sz) new).map fun H' => (.sl b o (len + n) lo ex sz, H')))
        (cond ex
          ((cond (Nat.beq len 0) (some []) (rdF H b o (len * sz))).bind fun old => some (.sl H.next 0 (len + n) (len + n) false sz, allocF H (catF old new)))
          ((getF H b).bind fun cs => (cond (Nat.beq len 0) (some []) (subF cs o (len * sz))).bind fun old =>
            cond (scF new) (some (.sl H.next 0 (len + n) (len + n) false sz, allocF ⟨H.next, setF' b none H.m⟩ (catF old new))) none)))
      none
  | _ => none) none
theorem appF_eq (H : Heap) (s : AV) (n : Nat) (src : Src) (sz : Nat) : appF H s n src sz = appA H s n src sz := by
  unfold appF appA
  simp only [rdSrcF_eq, lenF_eq, allocF_eq, wrF_eq, rdF_eq, catF_eq, getF_eq, subF_eq, scF_eq, setF'_eq]
  cases s <;> rfl
noncomputable def doEffF (call : CallA) (H : Heap) (e : Eff) : Option (Option AV × Heap) := match e with
  | .q v => some (some v, H)
  | .r b o n k => (rdF H b o n).bind fun cs => (k cs).map fun v => (some v, H)
  | .a cells k => some (some (k H.next), allocF H cells)
  | .w b o src v => (rdSrcF H src).bind fun new => (wrF H b o new).map fun H' => (v, H')
  | .call f args => (call f args H).bind fun (v, H') => cond (Nat.ble H.next H'.next) (some (some v, H')) none
  | .app s n src sz => (appF H s n src sz).map fun (v, H') => (some v, H')
  | .m b v => (getF H b).map fun _ => (some v, H)
theorem doEffF_eq (call : CallA) (H : Heap) (e : Eff) : doEffF call H e = doEff call H e := by
  cases e <;> simp only [doEffF, doEff, rdF_eq, allocF_eq, rdSrcF_eq, wrF_eq, appF_eq, getF_eq]
noncomputable def genK (P : Program) (o : Oper) (p : PF) (call : CallA) (m : T AV) (H : Heap) (κ : T AV → Heap → RO) : RO :=
  (Option.rec (motive := fun _ => RO) none (fun e => (Option.rec (motive := fun _ => RO) none (fun r => Prod.rec (motive := fun _ => RO) (fun v H' => p v m fun m' => κ m' H') r) (doEffF call H e))) (aeff P (evF m) o))
noncomputable def genO (P : Program) (N : Nat) (o : Oper) : OpC := PutC.rec (motive := fun _ => OpC) (fun p => .mk (genK P o p)) (putC N o.dst)
noncomputable def quietO (q : QF) (p : PF) : OpC := .mk fun call m H κ => q m fun v => p (some v) m fun m' => κ m' H
noncomputable def hK (b : Nat) (t : T (List AV)) (κ : List AV → RO) : RO := Way.rec (motive := fun _ => T (List AV) → (List AV → RO) → RO) (fun g t κ => (Option.rec (motive := fun _ => RO) none κ (g t))) (way (List AV) b) t κ
noncomputable def hset (b : Nat) (cs : List AV) (t : T (List AV)) : T (List AV) := Set'.rec (motive := fun _ => List AV → T (List AV) → T (List AV)) (fun s cs t => s (some cs) t) (setW (List AV) b) cs t
theorem hK_eq (b : Nat) (t : T (List AV)) (κ : List AV → RO) : hK b t κ = (t.get b).bind κ := by
  unfold hK
  have := way_eq b t
  cases hw : way (List AV) b with
  | mk g => rw [hw] at this; rw [← this]; exact ob_eq _ _
theorem hset_eq (b : Nat) (cs : List AV) (t : T (List AV)) : hset b cs t = t.set b (some cs) := by
  unfold hset
  have := setW_eq b (some cs) t
  cases hw : setW (List AV) b with
  | mk s => rw [hw] at this; exact this
noncomputable def loadO (g : T AV → Option AV) (p : PF) : OpC :=
  .mk fun call m H κ => (Option.rec (motive := fun _ => RO) none (fun v => toP v (fun b o => hK b H.m (fun cs => nthK cs o (fun c => p (some c) m fun m' => κ m' H))) none) (g m))
noncomputable def loadsO (n : Nat) (g : T AV → Option AV) (p : PF) : OpC :=
  .mk fun call m H κ => (Option.rec (motive := fun _ => RO) none (fun v => toP v (fun b o => hK b H.m (fun cs => takeK n (dropF cs o) (fun l => p (some (.agg l)) m fun m' => κ m' H))) none) (g m))
noncomputable def storeK (p : PF) (m : T AV) (H : Heap) (κ : T AV → Heap → RO) (v : AV) (b o : Nat) : RO :=
  hK b H.m (fun cs => setK v cs o (fun cs => p none m fun m' => Heap.rec (motive := fun _ => RO) (fun nx hm => κ m' (Heap.mk nx (hset b cs hm))) H))
noncomputable def storeO (P : Program) (N : Nat) (o : Oper) (ga gx : T AV → Option AV) (p : PF) : OpC :=
  .mk fun call m H κ => (Option.rec (motive := fun _ => RO) none (fun a => (Option.rec (motive := fun _ => RO) none (fun v => toP a (fun b q => toC v (storeK p m H κ v b q) (fun _ => outK (bodyA P call N m H o) κ) none) none) (gx m))) (ga m))
noncomputable def newK (p : PF) (m : T AV) (H : Heap) (κ : T AV → Heap → RO) (cs : List AV) : RO :=
  Heap.rec (motive := fun _ => RO) (fun nx hm => forceN nx fun nx => p (some (.p nx 0)) m fun m' => κ m' (Heap.mk (Nat.succ nx) (hset nx cs hm))) H
noncomputable def allocO (z : List AV) (p : PF) : OpC := .mk fun call m H κ => newK p m H κ z
noncomputable def boxO (g : T AV → Option AV) (p : PF) : OpC := .mk fun call m H κ => (Option.rec (motive := fun _ => RO) none (fun v => toC v (newK p m H κ [v]) (newK p m H κ) none) (g m))
structure ArgsC where
  f : T AV → (List AV → RO) → RO
noncomputable def argsC : List Operand → ArgsC :=
  List.rec (motive := fun _ => ArgsC) (.mk fun _ κ => κ []) (fun x _ ih => Way.rec (motive := fun _ => ArgsC) (fun g => ArgsC.rec (motive := fun _ => ArgsC) (fun h => .mk fun m κ => (Option.rec (motive := fun _ => RO) none (fun v => h m fun vs => κ (v :: vs)) (g m))) ih) (getC x))
theorem argsC_eq : ∀ (l : List Operand) (m : T AV) (κ : List AV → RO), (argsC l).f m κ = (evAll (evA m) l).bind κ
  | [], m, κ => rfl
  | x :: l, m, κ => by
    have i1 := argsC_eq l
    have i2 := getC_eq x
    show (Way.rec (motive := fun _ => ArgsC) (fun g => ArgsC.rec (motive := fun _ => ArgsC) (fun h => .mk fun m κ => (Option.rec (motive := fun _ => RO) none (fun v => h m fun vs => κ (v :: vs)) (g m))) (argsC l)) (getC x) : ArgsC).f m κ = _
    cases hw : getC x with
    | mk g =>
      cases ha : argsC l with
      | mk h =>
        rw [hw] at i2; rw [ha] at i1
        show ((Option.rec (motive := fun _ => RO) none (fun v => h m fun vs => κ (v :: vs)) (g m))) = _
        rw [ob_eq, show g m = evA m x from i2 m]
        simp only [evAll]
        cases evA m x with
        | none => rfl
        | some v =>
          show h m (fun vs => κ (v :: vs)) = _
          rw [show h m (fun vs => κ (v :: vs)) = (evAll (evA m) l).bind fun vs => κ (v :: vs) from i1 m _]
          cases evAll (evA m) l <;> rfl
noncomputable def callO (f : FuncId) (as : T AV → (List AV → RO) → RO) (p : PF) : OpC :=
  .mk fun call m H κ => as m fun vs => (Option.rec (motive := fun _ => RO) none (fun r => Prod.rec (motive := fun _ => RO) (fun v H' => (Bool.rec (motive := fun _ => _) none (p (some v) m fun m' => κ m' H') (Nat.ble H.next H'.next))) r) (call f vs H))

noncomputable def withP (w : PutC) (f : PF → OpC) : OpC := PutC.rec (motive := fun _ => OpC) f w
theorem withP_eq (w : PutC) (f : PF → OpC) : withP w f = f w.f := by cases w; rfl
noncomputable def withG (w : Way AV) (f : (T AV → Option AV) → OpC) : OpC := Way.rec (motive := fun _ => OpC) f w
theorem withG_eq (w : Way AV) (f : (T AV → Option AV) → OpC) : withG w f = f w.f := by cases w; rfl
noncomputable def withA (w : ArgsC) (f : (T AV → (List AV → RO) → RO) → OpC) : OpC := ArgsC.rec (motive := fun _ => OpC) f w
theorem withA_eq (w : ArgsC) (f : (T AV → (List AV → RO) → RO) → OpC) : withA w f = f w.f := by cases w; rfl
noncomputable def loadM (P : Program) (N : Nat) (o : Oper) (t : TypeId) (a : Operand) : OpC := match isAggT P t with
  | some false => withG (getC a) fun g => withP (putC N o.dst) fun p => loadO g p
  | some true => match szOf P t with
    | some n => cond (Nat.beq n 0) (genO P N o) (withG (getC a) fun g => withP (putC N o.dst) fun p => loadsO n g p)
    | none => genO P N o
  | none => genO P N o
noncomputable def storeM (P : Program) (N : Nat) (o : Oper) (t : TypeId) (a x : Operand) : OpC := match szOf P t with
  | some n => cond (Nat.beq n 1) (withG (getC a) fun ga => withG (getC x) fun gx => withP (putC N o.dst) fun p => storeO P N o ga gx p) (genO P N o)
  | none => genO P N o
noncomputable def allocM (P : Program) (N : Nat) (o : Oper) (t : TypeId) : OpC := Option.rec (motive := fun _ => OpC) (genO P N o) (fun z => withP (putC N o.dst) fun p => allocO z p) (zeroA P t)
noncomputable def callM (P : Program) (N : Nat) (o : Oper) (c : Call) : OpC := match c.callee with
  | .value (.func f) => cond (fnOk P f) (withA (argsC c.args.toList) fun as => withP (putC N o.dst) fun p => callO f as p) (genO P N o)
  | _ => genO P N o
noncomputable def memM (P : Program) (N : Nat) (o : Oper) : OpC := match o.op with
  | .load t a => loadM P N o t a
  | .store t a x => storeM P N o t a x
  | .alloc t => allocM P N o t
  | .box _ x => withG (getC x) fun g => withP (putC N o.dst) fun p => boxO g p
  | .call c => callM P N o c
  | _ => genO P N o
noncomputable def unC' (P : Program) (N : Nat) (o : Oper) : OpC := Option.rec (motive := fun _ => OpC) (memM P N o) (fun vc => ValC.rec (motive := fun _ => OpC) (fun q => withP (putC N o.dst) fun p => quietO q p) vc) (valC P o.op)

theorem genO_ok (P : Program) (N : Nat) (o : Oper) : OpOk P N o (genO P N o) := by
  intro call m H κ
  have hput := putC_eq N o.dst
  unfold genO bodyA
  cases hp : putC N o.dst with
  | mk p =>
    rw [hp] at hput
    show ((Option.rec (motive := fun _ => RO) none (fun e => (Option.rec (motive := fun _ => RO) none (fun r => Prod.rec (motive := fun _ => RO) (fun v H' => p v m fun m' => κ m' H') r) (doEffF call H e))) (aeff P (evF m) o))) = _
    rw [ob_eq, evF_eq]
    cases aeff P (evA m) o with
    | none => rfl
    | some e =>
      simp only [Option.bind_some]
      rw [ob_eq, doEffF_eq]
      cases doEff call H e with
      | none => rfl
      | some r =>
        obtain ⟨v, H'⟩ := r
        show p v m (fun m' => κ m' H') = _
        rw [show p v m (fun m' => κ m' H') = (putA N m o.dst v).bind fun m' => κ m' H' from hput v m _]
        simp only [Option.bind_some]
        cases putA N m o.dst v <;> rfl
theorem putC_fun (N : Nat) (dst : Option Tmp) (v : Option AV) (m : T AV) (κ : T AV → RO) : (putC N dst).f v m κ = (putA N m dst v).bind κ := putC_eq N dst v m κ
/-- put, and on -/
theorem put_on {N : Nat} {dst : Option Tmp} {v : Option AV} {m : T AV} {H : Heap} {κ : T AV → Heap → RO} : (putC N dst).f v m (fun m' => κ m' H) = ((putA N m dst v).map fun m' => (m', H)).bind fun p => κ p.1 p.2 := by
  rw [putC_eq]; cases putA N m dst v <;> rfl
theorem splice_set {cs : List AV} {o : Nat} {v : AV} : splice cs o [v] = splice cs o [v] := rfl
theorem unC_ok (P : Program) (N : Nat) (o : Oper) : OpOk P N o (unC' P N o) := by
  intro call m H κ
  unfold unC'
  cases hv : valC P o.op with
  | some vc =>
    obtain ⟨g, h1, h2⟩ := valC_ok hv
    cases vc with
    | mk q =>
      show (withP (putC N o.dst) fun p => quietO q p).f call m H κ = _
      rw [withP_eq]
      show q m (fun v => (putC N o.dst).f (some v) m fun m' => κ m' H) = _
      rw [show q m _ = (g m).bind _ from h2 m _]
      unfold bodyA
      rw [h1 m o rfl]
      cases g m with
      | none => rfl
      | some v => exact put_on
  | none =>
    show (memM P N o).f call m H κ = _
    unfold memM
    split
    · rename_i t a hop
      unfold loadM
      split
      · rename_i hagg
        rw [withG_eq, withP_eq, getC_fun]
        show ((Option.rec (motive := fun _ => RO) none (fun v => toP v (fun b q => hK b H.m (fun cs => nthK cs q (fun c => (putC N o.dst).f (some c) m fun m' => κ m' H))) none) (evA m a))) = _
        rw [ob_eq]
        unfold bodyA aeff
        rw [hop]
        simp only
        cases evA m a with
        | none => rfl
        | some v =>
          cases v <;> first | rfl | skip
          rename_i b q
          simp only [hagg, Option.bind_some, doEff, rd]
          show hK b H.m (fun cs => nthK cs q (fun c => (putC N o.dst).f (some c) m fun m' => κ m' H)) = _
          rw [hK_eq]
          rw [show H.get b = H.m.get b from rfl]
          cases H.m.get b with
          | none => rfl
          | some cs =>
            show nthK cs q _ = _
            rw [nthK_eq, ← sub_one]
            simp only [Option.bind_some]
            cases sub? cs q 1 with
            | none => rfl
            | some l =>
              simp only [Option.bind_some]
              cases l.head? with
              | none => rfl
              | some c => exact put_on
      · rename_i hagg
        split
        · rename_i n hn
          cases hz : Nat.beq n 0 with
          | true => exact genO_ok P N o call m H κ
          | false =>
            rw [cond_false, withG_eq, withP_eq, getC_fun]
            have hn0 : n ≠ 0 := by intro e; subst e; cases hz
            show ((Option.rec (motive := fun _ => RO) none (fun v => toP v (fun b q => hK b H.m (fun cs => takeK n (dropF cs q) (fun l => (putC N o.dst).f (some (.agg l)) m fun m' => κ m' H))) none) (evA m a))) = _
            rw [ob_eq]
            unfold bodyA aeff
            rw [hop]
            simp only
            cases evA m a with
            | none => rfl
            | some v =>
              cases v <;> first | rfl | skip
              rename_i b q
              simp only [hagg, hn, Option.map_some, Option.bind_some, doEff, rd]
              show hK b H.m (fun cs => takeK n (dropF cs q) (fun l => (putC N o.dst).f (some (.agg l)) m fun m' => κ m' H)) = _
              rw [hK_eq]
              rw [show H.get b = H.m.get b from rfl]
              cases H.m.get b with
              | none => rfl
              | some cs =>
                show takeK n (dropF cs q) _ = _
                rw [subK_eq hn0]
                simp only [Option.bind_some]
                cases sub? cs q n with
                | none => rfl
                | some l => exact put_on
        · exact genO_ok P N o call m H κ
      · exact genO_ok P N o call m H κ
    · rename_i t a x hop
      unfold storeM
      split
      · rename_i n hn
        cases hz : Nat.beq n 1 with
        | false => exact genO_ok P N o call m H κ
        | true =>
          have := beq_eq' hz; subst this
          rw [cond_true, withG_eq, withG_eq, withP_eq, getC_fun, getC_fun]
          have hgen := outK_eq (bodyA P call N m H o) κ
          have hgen : outK (bodyA P call N m H o) κ = _ := hgen
          show ((Option.rec (motive := fun _ => RO) none (fun u => (Option.rec (motive := fun _ => RO) none (fun v => toP u (fun b q => toC v (storeK (putC N o.dst).f m H κ v b q) (fun _ => outK (bodyA P call N m H o) κ) none) none) (evA m x))) (evA m a))) = _
          rw [ob_eq]
          cases ha : evA m a with
          | none =>
            unfold bodyA aeff
            rw [hop]; simp only [ha]; rfl
          | some u =>
            show ((Option.rec (motive := fun _ => RO) none (fun v => toP u (fun b q => toC v (storeK (putC N o.dst).f m H κ v b q) (fun _ => outK (bodyA P call N m H o) κ) none) none) (evA m x))) = _
            rw [ob_eq]
            cases hx : evA m x with
            | none =>
              unfold bodyA aeff
              rw [hop]; simp only [ha, hx]
              cases u <;> rfl
            | some v =>
              show toP u (fun b q => toC v (storeK (putC N o.dst).f m H κ v b q) (fun _ => outK (bodyA P call N m H o) κ) none) none = _
              have hnp : (∀ b q, u ≠ .p b q) → (none : RO) = (bodyA P call N m H o).bind fun p => κ p.1 p.2 := by
                intro hu
                unfold bodyA aeff
                rw [hop]; simp only [ha, hx]
                cases u <;> first | rfl | skip
                exact absurd rfl (hu _ _)
              cases u <;> first | exact hnp (fun _ _ h => by cases h) | skip
              rename_i b q
              show toC v (storeK (putC N o.dst).f m H κ v b q) (fun _ => outK (bodyA P call N m H o) κ) none = _
              have fast : v.one = true → v.cells = [v] → v.sc = true → storeK (putC N o.dst).f m H κ v b q = (bodyA P call N m H o).bind fun p => κ p.1 p.2 := by
                intro h1 h2 h3
                unfold bodyA aeff
                rw [hop]; simp only [ha, hx, hn, h1, h2, Option.bind_some]
                have : ([v] : List AV).all AV.sc = true := by simp [h3]
                simp only [this]
                show _ = (((some (Eff.w b q (.lit [v]) none)).bind fun e => (doEff call H e).bind _)).bind _
                simp only [Option.bind_some, doEff, rdSrc, wr, this]
                unfold storeK
                rw [hK_eq]
                rw [show H.get b = H.m.get b from rfl]
                cases H.m.get b with
                | none => rfl
                | some cs =>
                  show setK v cs q _ = _
                  rw [setK_eq]
                  simp only [Option.bind_some, List.length_cons, List.length_nil, Nat.zero_add, Bool.and_true]
                  cases Nat.ble (q + 1) cs.length with
                  | false => rfl
                  | true =>
                    cases H with
                    | mk nx hm =>
                      simp only [cond_true, Option.map_some, Option.bind_some]
                      show (putC N o.dst).f none m (fun m' => κ m' (Heap.mk nx (hset b (splice cs q [v]) hm))) = _
                      rw [hset_eq]
                      exact put_on (H := Heap.mk nx (hm.set b (some (splice cs q [v]))))
              cases v <;> first | exact fast rfl rfl rfl | exact hgen | skip
              · unfold bodyA aeff
                rw [hop]; simp only [ha, hx, hn]; rfl
              · unfold bodyA aeff
                rw [hop]; simp only [ha, hx, hn]; rfl
      · exact genO_ok P N o call m H κ
    · rename_i t hop
      unfold allocM
      cases hz : zeroA P t with
      | none => exact genO_ok P N o call m H κ
      | some z =>
        show (withP (putC N o.dst) fun p => allocO z p).f call m H κ = _
        rw [withP_eq]
        cases H with
        | mk nx hm =>
          show forceN nx (fun nx => (putC N o.dst).f (some (.p nx 0)) m fun m' => κ m' (Heap.mk (Nat.succ nx) (hset nx z hm))) = _
          rw [forceN_eq, hset_eq]
          unfold bodyA aeff
          rw [hop]; simp only [hz, Option.map_some, Option.bind_some, doEff]
          exact put_on (H := Heap.mk (Nat.succ nx) (hm.set nx (some z)))
    · rename_i t x hop
      rw [withG_eq, withP_eq, getC_fun]
      show ((Option.rec (motive := fun _ => RO) none (fun v => toC v (newK (putC N o.dst).f m H κ [v]) (newK (putC N o.dst).f m H κ) none) (evA m x))) = _
      rw [ob_eq]
      have new : ∀ cs, newK (putC N o.dst).f m H κ cs = (((doEff call H (.a cs fun id => .p id 0)).bind fun (v, H') => (putA N m o.dst v).map fun m' => (m', H'))).bind fun p => κ p.1 p.2 := by
        intro cs
        cases H with
        | mk nx hm =>
          show forceN nx (fun nx => (putC N o.dst).f (some (.p nx 0)) m fun m' => κ m' (Heap.mk (Nat.succ nx) (hset nx cs hm))) = _
          rw [forceN_eq, hset_eq]
          exact put_on (H := Heap.mk (Nat.succ nx) (hm.set nx (some cs)))
      unfold bodyA aeff
      rw [hop]; simp only
      cases evA m x with
      | none => rfl
      | some v => cases v <;> first | rfl | exact new _
    · rename_i c hop
      unfold callM
      split
      · rename_i f hcal
        cases hf : fnOk P f with
        | false => exact genO_ok P N o call m H κ
        | true =>
          rw [cond_true, withA_eq, withP_eq]
          show (argsC c.args.toList).f m (fun vs => (Option.rec (motive := fun _ => RO) none (fun r => Prod.rec (motive := fun _ => RO) (fun v H' => (Bool.rec (motive := fun _ => _) none ((putC N o.dst).f (some v) m fun m' => κ m' H') (Nat.ble H.next H'.next))) r) (call f vs H))) = _
          rw [argsC_eq]
          unfold bodyA aeff
          rw [hop]; simp only [hcal]
          cases evAll (evA m) c.args.toList with
          | none => rfl
          | some vs =>
            simp only [Option.bind_some, evA, hf, cond_true, List.append_nil, doEff]
            rw [ob_eq]
            cases call f vs H with
            | none => rfl
            | some r =>
              obtain ⟨v, H'⟩ := r
              simp only [Option.bind_some]
              cases Nat.ble H.next H'.next with
              | false => rfl
              | true => exact put_on
      · exact genO_ok P N o call m H κ
    · exact genO_ok P N o call m H κ
end Go.Proofs.YtpoohfmddkgndaaAm
