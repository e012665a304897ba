/- Conditions under which a call comes to what is said, read off the code: values known by their shapes, boxes of one's own kept apart from the rest of memory. Definitions. -/
import Derived.Test.YthnhdgcaolgdnaaAnU
set_option linter.unusedVariables false
set_option linter.unusedSimpArgs false
namespace Go.Proofs.YthnhdgcaolgdnaaAn
open Go

/-! ### memory as it is seen -/
structure Hp where
  g : Nat → Option (List AV)
  lo : Nat
def Hp.put (h : Hp) (b : Nat) (cs : List AV) : Hp := ⟨fun k => if k = b then some cs else h.g k, h.lo⟩
structure Fits (h : Hp) (H : Heap) : Prop where
  get : ∀ b cs, h.g b = some cs → H.get b = some cs ∧ b < H.next
  lo : H.low = h.lo
  low : H.low ≤ H.next
  fresh : ∀ b, H.next ≤ b → H.get b = none
/-- what is not seen is left as it is; what is seen then was seen before, or is new -/
structure StepH (h : Hp) (H : Heap) (h' : Hp) (H' : Heap) : Prop where
  fits : Fits h' H'
  next : H.next ≤ H'.next
  keep : ∀ b, b < H.next → h.g b = none → H'.get b = H.get b
  dom : ∀ b, h'.g b ≠ none → h.g b ≠ none ∨ H.next ≤ b
  lo : h'.lo = h.lo
/-- **a call, from what is seen on, comes to a value and what is seen then of which Post holds** -/
def wpC (P : Program) (f : FuncId) (args : List AV) (Post : AV → Hp → Prop) (h : Hp) : Prop :=
  ∀ H, Fits h H → ∃ v H' h', Goes P f args H v H' ∧ StepH h H h' H' ∧ Post v h'
noncomputable def noCall : CallA := fun _ _ _ => none
/-- an operation on memory, likewise -/
def wpE (e : Eff) (Post : Option AV → Hp → Prop) (h : Hp) : Prop :=
  ∀ H, Fits h H → ∃ v H' h', doEff noCall H e = some (v, H') ∧ StepH h H h' H' ∧ Post v h'
def rdH (h : Hp) (b o n : Nat) : Option (List AV) := (h.g b).bind fun cs => sub? cs o n

/-! ### words of the conditions -/
def onO {α : Type} (x : Option α) (K : α → Prop) : Prop := match x with
  | some a => K a
  | none => False
def onB (c : Bool) (X Y : Prop) : Prop := (c = true → X) ∧ (c = false → Y)
def Both (X Y : Prop) : Prop := X ∧ Y
/-- the same twice -/
def Dup (X : Prop) : Prop := Both X X
def ltN (a b : Nat) : Prop := a < b
def onC (c : Bool) (X : Prop) : Prop := c = true ∧ X
def allN : Nat → (Nat → Prop) → Prop
  | 0, _ => True
  | n + 1, p => allN n p ∧ p n
/-- what one cell may hold -/
inductive Kd where
  | int (k : IntKind) | bool | str | ref
inductive Sh where
  | one (k : Kd)
  | agg (ks : List Kd)
def FunK : List Kd → Type → Type
  | [], R => R
  | .int _ :: ks, R => Int → FunK ks R
  | .bool :: ks, R => Bool → FunK ks R
  | .str :: ks, R => List Nat → FunK ks R
  | .ref :: ks, R => AV → FunK ks R
def FunKP : List Kd → Type
  | [] => Prop
  | .int _ :: ks => Int → FunKP ks
  | .bool :: ks => Bool → FunKP ks
  | .str :: ks => List Nat → FunKP ks
  | .ref :: ks => AV → FunKP ks
def onInt (k : IntKind) (v : AV) (K : Int → Prop) : Prop := match v with
  | .i k' n => match kEq k k' with
    | true => K n
    | false => False
  | _ => False
def onBool (v : AV) (K : Bool → Prop) : Prop := match v with
  | .b c => K c
  | _ => False
def onStr (v : AV) (K : List Nat → Prop) : Prop := match v with
  | .s l => K l
  | _ => False
def onRef (v : AV) (K : AV → Prop) : Prop := match v.sc with
  | true => K v
  | false => False
def onCons (vs : List AV) (K : AV → List AV → Prop) : Prop := match vs with
  | v :: vs => K v vs
  | [] => False
/-- these cells are of these kinds, and K holds of what they hold -/
def onL : (ks : List Kd) → List AV → FunKP ks → Prop
  | [], vs, K => match vs with
    | [] => K
    | _ => False
  | .int k :: ks, vs, K => onCons vs fun v vs => onInt k v fun n => onL ks vs (K n)
  | .bool :: ks, vs, K => onCons vs fun v vs => onBool v fun n => onL ks vs (K n)
  | .str :: ks, vs, K => onCons vs fun v vs => onStr v fun n => onL ks vs (K n)
  | .ref :: ks, vs, K => onCons vs fun v vs => onRef v fun n => onL ks vs (K n)
/-- values known by their shapes -/
inductive SV where
  | kb (c : Bool) | bb (c : Bool)
  | ki (k : IntKind) (n : Int) | ii (k : IntKind) (n : Int)
  | ss (l : List Nat)
  | lp (k id o : Nat)
  | pp (b o : Nat)
  | np | ns | nf
  | ls (k id len sz : Nat)
  | vv (a : AV)
  | ff (f : FuncId) (caps : List SV)
  | ag (cs : List SV)
  | tp (vs : List SV)
mutual
def SV.av : SV → AV
  | .kb c | .bb c => .b c
  | .ki k n | .ii k n => .i k n
  | .ss l => .s l
  | .lp _ id o => .p id o
  | .pp b o => .p b o
  | .np => .np | .ns => .ns | .nf => .nf
  | .ls _ id len sz => .sl id 0 len len true sz
  | .vv a => a
  | .ff f l => .f f (SV.avs l)
  | .ag l => .agg (SV.avs l)
  | .tp l => .tup (SV.avs l)
def SV.avs : List SV → List AV
  | [] => []
  | x :: l => x.av :: SV.avs l
end
mutual
/-- boxes meant are boxes of one's own -/
def SV.Good (ids : Nat → Nat) (nl : Nat) : SV → Prop
  | .lp k id _ | .ls k id _ _ => k < nl ∧ id = ids k
  | .vv a => a.sc = true
  | .ff _ l | .ag l | .tp l => SV.Goods ids nl l
  | _ => True
def SV.Goods (ids : Nat → Nat) (nl : Nat) : List SV → Prop
  | [] => True
  | x :: l => SV.Good ids nl x ∧ SV.Goods ids nl l
end
/-- one cell -/
def SV.one : SV → Bool
  | .ag _ | .tp _ => false
  | _ => true
def SV.cells : SV → List SV
  | .ag l => l
  | x => [x]
mutual
def SV.of : AV → SV
  | .b c => .kb c
  | .i k n => .ki k n
  | .s l => .ss l
  | .np => .np | .ns => .ns | .nf => .nf
  | .f f l => .ff f (SV.ofs l)
  | .agg l => .ag (SV.ofs l)
  | .tup l => .tp (SV.ofs l)
  | a => .vv a
def SV.ofs : List AV → List SV
  | [] => []
  | x :: l => SV.of x :: SV.ofs l
end
def lamK : (ks : List Kd) → (List SV → Prop) → FunKP ks
  | [], K => K []
  | .int k :: ks, K => fun n => lamK ks fun l => K (.ii k n :: l)
  | .bool :: ks, K => fun c => lamK ks fun l => K (.bb c :: l)
  | .str :: ks, K => fun s => lamK ks fun l => K (.ss s :: l)
  | .ref :: ks, K => fun a => lamK ks fun l => K (.vv a :: l)
def FunS : List Sh → Type
  | [] => Prop
  | .one (.int _) :: ks => Int → FunS ks
  | .one .bool :: ks => Bool → FunS ks
  | .one .str :: ks => List Nat → FunS ks
  | .one .ref :: ks => AV → FunS ks
  | .agg _ :: ks => List AV → FunS ks
def shKinds : Sh → List Kd
  | .one k => [k]
  | .agg ks => ks
/-- values of these shapes: all of their cells, one behind the other -/
def flatK : List Sh → List Kd
  | [] => []
  | s :: l => shKinds s ++ flatK l
def flatV : List Sh → List AV → Option (List AV)
  | [], [] => some []
  | .one _ :: ks, v :: vs => (flatV ks vs).map fun l => v :: l
  | .agg l :: ks, .agg cs :: vs => cond (Nat.beq cs.length l.length) ((flatV ks vs).map fun l => cs ++ l) none
  | _, _ => none
/-- the values again, out of their cells -/
def backV : List Sh → List SV → List SV
  | [], _ => []
  | .one _ :: ks, x :: xs => x :: backV ks xs
  | .one _ :: _, [] => []
  | .agg l :: ks, xs => .ag (xs.take l.length) :: backV ks (xs.drop l.length)
def onS (sh : List Sh) (vs : List AV) (K : FunKP (flatK sh)) : Prop := match flatV sh vs with
  | some l => onL (flatK sh) l K
  | none => False
/-- what a call gives -/
def onRet (sh : List Sh) (v : AV) (K : FunKP (flatK sh)) : Prop := onS sh [v] K
def onTup (sh : List Sh) (v : AV) (K : FunKP (flatK sh)) : Prop := match v with
  | .tup vs => onS sh vs K
  | _ => False

/-! ### shapes of types -/
def kindOf (P : Program) (t : TypeId) : Kd := match P.underlying t with
  | some .bool => .bool
  | some (.int k) => .int k
  | some .string => .str
  | _ => .ref
def shapeOf (P : Program) (t : TypeId) : Option Sh := match isAggT P t with
  | some true => (P.cellTypes P.depth t).map fun ts => .agg (ts.map (kindOf P))
  | some false => some (.one (kindOf P t))
  | none => none
def shapesOf (P : Program) : List TypeId → Option (List Sh)
  | [] => some []
  | t :: ts => match shapeOf P t, shapesOf P ts with
    | some s, some l => some (s :: l)
    | _, _ => none
/-- K of a value of type t -/
def retV (P : Program) (t : TypeId) (v : AV) (K : SV → Prop) : Prop := match P.underlying t with
  | some (.tuple ts) => match shapesOf P ts.toList with
    | some sh => onTup sh v (lamK (flatK sh) fun l => K (.tp (backV sh l)))
    | none => False
  | _ => match shapeOf P t with
    | some sh => onRet [sh] v (lamK (flatK [sh]) fun l => match backV [sh] l with
      | [x] => K x
      | _ => False)
    | none => False

/-! ### the state -/
structure VS where
  m : T (Nat × Option SV)
  L : T (Nat × Nat × List SV)
  nl : Nat
  st : Nat
noncomputable def VS.get (s : VS) (t : Nat) : Option SV := match s.m.get t with
  | some (_, some x) => some x
  | _ => none
noncomputable def VS.put (s : VS) (t : Nat) (x : Option SV) : VS := ⟨s.m.set t (some (s.st, x)), s.L, s.nl, Nat.succ s.st⟩
noncomputable def VS.new (s : VS) (id : Nat) (cs : List SV) : VS := ⟨s.m, s.L.set s.nl (some (s.st, id, cs)), Nat.succ s.nl, Nat.succ s.st⟩
noncomputable def VS.setL (s : VS) (k id : Nat) (cs : List SV) : VS := ⟨s.m, s.L.set k (some (s.st, id, cs)), s.nl, Nat.succ s.st⟩
noncomputable def VS.drop (s : VS) (k : Nat) : VS := ⟨s.m, s.L.set k none, s.nl, s.st⟩
noncomputable def evS (s : VS) : Operand → Option SV
  | .tmp t => s.get t
  | .const v => (conv v).map SV.of
  | .global _ => none
  | .func f => some (.ff f [])
noncomputable def evSs (s : VS) : List Operand → Option (List SV)
  | [] => some []
  | x :: l => match evS s x, evSs s l with
    | some v, some vs => some (v :: vs)
    | _, _ => none
/-- what an operation did: nothing that is asked about · read of a box of one's own, of the rest · wrote -/
inductive EK where
  | q | rl (k o n : Nat) | re (b o n : Nat) | wl (k o n : Nat) | we

/-! ### boxes that come to be seen -/
mutual
def SV.lps : SV → List Nat
  | .lp k _ _ | .ls k _ _ _ => [k]
  | .ff _ l | .ag l | .tp l => SV.lpss l
  | _ => []
def SV.lpss : List SV → List Nat
  | [] => []
  | x :: l => x.lps ++ SV.lpss l
end
noncomputable def escs (K : VS → Hp → Prop) : Nat → List Nat → VS → Hp → Prop
  | 0, _, _, _ => False
  | _ + 1, [], s, h => K s h
  | n + 1, k :: ks, s, h => match s.L.get k with
    | some (_, id, cs) => h.g id = none → h.lo ≤ id → escs K n (SV.lpss cs ++ ks) (s.drop k) (h.put id (SV.avs cs))
    | none => escs K n ks s h
noncomputable def esc (s : VS) (h : Hp) (vs : List SV) (K : VS → Hp → Prop) : Prop := escs K 1000 (SV.lpss vs) s h
end Go.Proofs.YthnhdgcaolgdnaaAn
