/- Conditions under which an operation does what is said. Definitions. -/
import Derived.Test.YthnhdgcaolgdnaaAnV
set_option linter.unusedVariables false
set_option linter.unusedSimpArgs false
namespace Go.Proofs.YthnhdgcaolgdnaaAn
open Go

/-! ### values -/
def asI : SV → Option (IntKind × Int)
  | .ki k n | .ii k n => some (k, n)
  | _ => none
def asB : SV → Option Bool
  | .kb c | .bb c => some c
  | _ => none
def srcV (sz : Nat) (a : AV) : Option (Nat × Src) := srcA sz a
def zerosV (z : List AV) (n : Nat) : List AV := zeros z n
def bytesV (l : List Nat) : List AV := ofU8 l
def natI : Int → Option Nat
  | .ofNat n => some n
  | _ => none
/-- a place in a row of n -/
def natLt (i : Int) (n : Nat) : Option Nat := match i with
  | .ofNat j => cond (Nat.blt j n) (some j) none
  | _ => none
def ptrV : AV → Option (Nat × Nat)
  | .p b o => some (b, o)
  | _ => none
def fnV : AV → Option (FuncId × List AV)
  | .f f l => some (f, l)
  | _ => none
def lenV : AV → Option Nat
  | .ns | .e _ => some 0
  | .sl _ _ len _ _ _ => some len
  | _ => none
def capV : AV → Option Nat
  | .ns | .e _ => some 0
  | .sl _ _ _ lo true _ => some lo
  | _ => none
def nilSl : AV → Option Bool
  | .ns => some true
  | .sl .. | .e _ => some false
  | _ => none
def nilP : AV → Option Bool
  | .np => some true
  | .p .. => some false
  | _ => none
def nilF : AV → Option Bool
  | .nf => some true
  | .f .. => some false
  | _ => none
/-- where the element i stands -/
def idxV (a : AV) (i : Int) (sz : Nat) : Option (Nat × Nat) := match a, i with
  | .sl b o len _ _ _, .ofNat j => cond (Nat.blt j len) (some (b, o + j * sz)) none
  | _, _ => none
def natO (d : Nat) : Option Int → Option Nat
  | none => some d
  | some i => natI i
def slStr (l : List Nat) (lo hi : Option Int) : Option (List Nat) := (natO 0 lo).bind fun a => (natO l.length hi).bind fun h =>
  cond (Nat.ble a h && Nat.ble h l.length) (some ((l.drop a).take (h - a))) none
def slV (x : AV) (lo hi mx : Option Int) (es : Nat) : Option AV := match x with
  | .ns => (natO 0 lo).bind fun a => (natO 0 hi).bind fun h => (natO 0 mx).bind fun m => cond (Nat.beq a 0 && Nat.beq h 0 && Nat.beq m 0 && (mx.isNone || hi.isSome)) (some .ns) none
  | .e z => (natO 0 lo).bind fun a => (natO 0 hi).bind fun h => (natO 0 mx).bind fun m => cond (Nat.beq a 0 && Nat.beq h 0 && Nat.beq m 0 && (mx.isNone || hi.isSome)) (some (.e z)) none
  | .sl b o len cap ex sz => (natO 0 lo).bind fun a => (natO len hi).bind fun h =>
    cond (Nat.beq es sz) (match mx with
    | some _ => cond (hi.isSome) ((natO 0 mx).bind fun m =>
        cond (Nat.ble a h && Nat.ble h m && Nat.ble m cap) (some (.sl b (cond (Nat.beq m a) o (o + a * sz)) (h - a) (m - a) true sz)) none) none
    | none => cond (Nat.ble a h && Nat.ble h cap) (some (.sl b (cond (Nat.beq cap a) o (o + a * sz)) (h - a) (cap - a) ex sz)) none) none
  | _ => none
/-- the bytes of a slice -/
def strAt (h : Hp) : AV → Option (List Nat × Nat × Nat × Nat)
  | .ns | .e _ => some ([], 0, 0, 0)
  | .sl b o len _ _ sz => cond (Nat.beq sz 1) (cond (Nat.beq len 0) (some ([], b, o, 0)) (((rdH h b o len).bind allU8).map fun l => (l, b, o, len))) none
  | _ => none
def copyV (sz : Nat) (d x : AV) : Option (Nat × Eff) := (lenA x).bind fun n => match d with
  | .ns | .e _ => some (0, .q (.i .i64 0))
  | .sl b o len _ _ z => cond (Nat.beq z sz) (cond (Nat.beq (Nat.min n len) 0) (some (0, .q (.i .i64 0))) ((srcN sz (Nat.min n len) x).map fun src => (Nat.min n len, .w b o src (some (.i .i64 (.ofNat (Nat.min n len))))))) none
  | _ => none
def clearV (zs : List AV) (x : AV) : Option Eff := match x with
  | .ns | .e _ => some (.q (.tup []))
  | .sl b o len _ _ z => cond (Nat.beq len 0) (some (.q (.tup []))) (cond (Nat.beq zs.length z && zs.all AV.sc) (some (.w b o (.lit (zerosV zs len)) (some (.tup [])))) none)
  | _ => none
def cmpI (op : BinOp) (a b : Int) : Option Bool := match op with
  | .eql => some (decide (a = b))
  | .neq => some (!decide (a = b))
  | .lss => some (decide (a < b))
  | .leq => some (decide (a ≤ b))
  | .gtr => some (decide (b < a))
  | .geq => some (decide (b ≤ a))
  | _ => none
def intO (op : BinOp) (k : IntKind) (a b : Int) : Option Int := match intA op k a b with
  | some (.i _ c) => some c
  | _ => none
def shO (op : BinOp) (k : IntKind) (a b : Int) : Option Int := match shiftA op k a b with
  | some (.i _ c) => some c
  | _ => none
def unO (op : UnOp) (k : IntKind) (n : Int) : Option Int := match unA op (.i k n) with
  | some (.i _ c) => some c
  | _ => none
def wrO (k : IntKind) (n : Int) : Option Int := some (wrapA k n)
def catO (x y : List Nat) : Option (List Nat) := cond (Nat.blt (x.length + y.length) 1000000000) (some (x ++ y)) none
def cmpS (op : BinOp) (x y : List Nat) : Option Bool := match op with
  | .eql => some (decide (x = y))
  | .neq => some (!decide (x = y))
  | .lss => some (lessL x y)
  | .leq => some (lessL x y || decide (x = y))
  | .gtr => some (!(lessL x y || decide (x = y)))
  | .geq => some (!lessL x y)
  | _ => none
def eqIs : List SV → List SV → Option Bool
  | [], [] => some true
  | x :: xs, y :: ys => match asI x, asI y with
    | some (k, a), some (k', b) => cond (kEq k k') (match xs, ys with
      | [], [] => some (decide (a = b))
      | _, _ => (eqIs xs ys).map fun c => decide (a = b) && c) none
    | _, _ => none
  | _, _ => none
def subS (cs : List SV) (o n : Nat) : Option (List SV) := cond (Nat.ble (o + n) cs.length) (some ((cs.drop o).take n)) none
def spliceS (cs : List SV) (o : Nat) (new : List SV) : List SV := cs.take o ++ (new ++ cs.drop (o + new.length))
def notTup : SV → Bool
  | .tp _ => false
  | _ => true
def allOne : List SV → Bool
  | [] => true
  | x :: l => x.one && allOne l
def fillS (place : Nat → Option (Nat × Nat)) (cells : List SV) : List (Nat × SV) → Option (List SV)
  | [] => some cells
  | (i, v) :: rest => match place i with
    | none => none
    | some (off, size) => cond (notTup v && Nat.beq v.cells.length size && Nat.ble (off + size) cells.length) (fillS place (spliceS cells off v.cells) rest) none
noncomputable def partsS (s : VS) : List (Nat × Operand) → Option (List (Nat × SV))
  | [] => some []
  | (i, x) :: rest => match evS s x, partsS s rest with
    | some v, some l => some ((i, v) :: l)
    | _, _ => none
noncomputable def bndS (s : VS) : Option Operand → Option (Option Int)
  | none => some none
  | some x => match evS s x with
    | some v => match asI v with
      | some (_, n) => some (some n)
      | none => none
    | none => none
def notS : SV → Option SV
  | .kb c => some (.kb (!c))
  | .bb c => some (.bb (!c))
  | _ => none

/-! ### operations -/
abbrev KO := EK → Option SV → VS → Hp → Prop
/-- read from memory that is not one's own -/
noncomputable def ldE (P : Program) (t : TypeId) (b o : Nat) (s : VS) (h : Hp) (K : KO) : Prop := match shapeOf P t, szOf P t with
  | some (.one k), _ => onO (rdH h b o 1) fun cs => onL [k] cs (lamK [k] fun l => match l with
    | [x] => K (.re b o 1) (some x) s h
    | _ => False)
  | some (.agg ks), some n => onO (rdH h b o n) fun cs => onL ks cs (lamK ks fun l => K (.re b o n) (some (.ag l)) s h)
  | _, _ => False
noncomputable def ldL (P : Program) (t : TypeId) (k o : Nat) (cs : List SV) (s : VS) (h : Hp) (K : KO) : Prop := match isAggT P t, szOf P t with
  | some true, some n => match subS cs o n with
    | some l => K (.rl k o n) (some (.ag l)) s h
    | none => False
  | some false, _ => match nthL cs o with
    | some x => K (.rl k o 1) (some x) s h
    | none => False
  | _, _ => False
noncomputable def vcLoad (P : Program) (t : TypeId) (a : SV) (s : VS) (h : Hp) (K : KO) : Prop := match a with
  | .lp k id o => match s.L.get k with
    | some (_, _, cs) => ldL P t k o cs s h K
    | none => ldE P t id o s h K
  | .pp b o => ldE P t b o s h K
  | .vv a => onO (ptrV a) fun p => ldE P t p.1 p.2 s h K
  | _ => False
noncomputable def stE (n b o : Nat) (x : SV) (s : VS) (h : Hp) (K : KO) : Prop :=
  match Nat.beq x.cells.length n && allOne x.cells with
  | true => esc s h [x] fun s h => wpE (.w b o (.lit (SV.avs x.cells)) none) (fun _ h' => K .we none s h') h
  | false => False
noncomputable def vcStore (P : Program) (t : TypeId) (a x : SV) (s : VS) (h : Hp) (K : KO) : Prop := match szOf P t with
  | some n => match a with
    | .lp k id o => match s.L.get k with
      | some (_, _, cs) => match (Nat.beq x.cells.length n && allOne x.cells) && Nat.ble (o + n) cs.length with
        | true => K (.wl k o n) none (s.setL k id (spliceS cs o x.cells)) h
        | false => False
      | none => stE n id o x s h K
    | .pp b o => stE n b o x s h K
    | .vv a => onO (ptrV a) fun p => stE n p.1 p.2 x s h K
    | _ => False
  | none => False
noncomputable def eqSV (P : Program) (t : TypeId) (x y : SV) (K : SV → Prop) : Prop := match P.underlying t with
  | some .bool => match asB x, asB y with
    | some c, some d => K (.bb (c == d))
    | _, _ => False
  | some (.slice _) => match x, y with
    | .ns, .ns => K (.kb true)
    | .ns, .ls .. | .ls .., .ns => K (.kb false)
    | .vv a, .ns | .ns, .vv a => onO (nilSl a) fun c => K (.bb c)
    | _, _ => False
  | some (.pointer _) => match x, y with
    | .np, .np => K (.kb true)
    | .np, .lp .. | .lp .., .np | .np, .pp .. | .pp .., .np => K (.kb false)
    | .vv a, .np | .np, .vv a => onO (nilP a) fun c => K (.bb c)
    | _, _ => False
  | some (.func ..) => match x, y with
    | .nf, .nf => K (.kb true)
    | .nf, .ff .. | .ff .., .nf => K (.kb false)
    | .vv a, .nf | .nf, .vv a => onO (nilF a) fun c => K (.bb c)
    | _, _ => False
  | some (.struct _) => match x, y with
    | .ag cs, .ag ds => match intStruct P t cs.length && Nat.beq cs.length ds.length with
      | true => match eqIs cs ds with
        | some c => K (.bb c)
        | none => False
      | false => False
    | _, _ => False
  | _ => False
noncomputable def vcBin (P : Program) (op : BinOp) (t : TypeId) (x y : SV) (K : SV → Prop) : Prop := match asI x, asI y with
  | some (k, a), some (k', b) => match op with
    | .shl | .shr => onO (shO op k a b) fun c => K (.ii k c)
    | _ => match kEq k k' with
      | true => match cmpI op a b with
        | some c => K (.bb c)
        | none => onO (intO op k a b) fun c => K (.ii k c)
      | false => False
  | _, _ => match x, y with
    | .ss a, .ss b => match op with
      | .add => onO (catO a b) fun l => K (.ss l)
      | op => match cmpS op a b with
        | some c => K (.bb c)
        | none => False
    | x, y => match op with
      | .eql => eqSV P t x y K
      | .neq => eqSV P t x y fun c => match notS c with
        | some d => K d
        | none => False
      | _ => False
noncomputable def vcUn (op : UnOp) (x : SV) (K : SV → Prop) : Prop := match op with
  | .not => match notS x with
    | some d => K d
    | none => False
  | op => match asI x with
    | some (k, n) => onO (unO op k n) fun c => K (.ii k c)
    | none => False
noncomputable def vcConvert (P : Program) (src dst : TypeId) (x : SV) (s : VS) (h : Hp) (K : KO) : Prop :=
  match P.underlying src, P.underlying dst with
  | some _, some (.int k) => match asI x with
    | some (_, n) => onO (wrO k n) fun c => K .q (some (.ii k c)) s h
    | none => False
  | some ds, some .string => match x with
    | .ss l => K .q (some (.ss l)) s h
    | x => match ds with
      | .slice e => match P.underlying e with
        | some (.int .u8) => esc s h [x] fun s h => onO (strAt h x.av) fun r => K (.re r.2.1 r.2.2.1 r.2.2.2) (some (.ss r.1)) s h
        | _ => False
      | _ => False
  | some .string, some (.slice e) => match P.underlying e, x with
    | some (.int .u8), .ss l => ∀ id, h.g id = none → h.lo ≤ id → K .q (some (.vv (.sl id 0 l.length l.length false 1))) s (h.put id (bytesV l))
    | _, _ => False
  | some (.slice _), some (.slice e) => match P.underlying e with
    | some (.int .u8) => match Nat.beq src dst with
      | true => esc s h [x] fun s h => match x.av with
        | .sl b o len lo ex sz => wpE (.m b (.sl b o len lo ex sz)) (fun _ h' => K .we (some (.vv (.sl b o len lo ex sz))) s h') h
        | _ => False
      | false => False
    | _ => False
  | _, _ => False
noncomputable def vcBuild (P : Program) (t : TypeId) (parts : List (Nat × Operand)) (s : VS) (K : SV → Prop) : Prop :=
  match zeroA P t, partsS s parts, P.underlying t with
  | some z, some ps, some (.struct fs) => match fs.toList.all fun f => (szOf P f.type).isSome with
    | true => match fillS (placesOf P fs) (SV.ofs z) ps with
      | some cs => K (.ag cs)
      | none => False
    | false => False
  | some z, some ps, some (.array _ e) => match szOf P e with
    | some sz => match fillS (fun i => some (i * sz, sz)) (SV.ofs z) ps with
      | some cs => K (.ag cs)
      | none => False
    | none => False
  | _, _, _ => False
noncomputable def vcBuildSlice (P : Program) (t : TypeId) (len : Nat) (parts : List (Nat × Operand)) (s : VS) (h : Hp) (K : KO) : Prop :=
  match elemOfSlice P t, partsS s parts with
  | some e, some ps => match szOf P e, (cond (Nat.beq len 0) (some []) (zeroA P e)) with
    | some sz, some z => match Nat.ble (len * sz) 16777216 && Nat.blt 0 sz && (Nat.beq len 0 || Nat.beq z.length sz) with
      | true => match fillS (fun i => some (i * sz, sz)) (SV.ofs (cond (Nat.beq len 0) [] (zeros z len))) ps with
        | some cs => match allOne cs with
          | true => ∀ id, K .q (some (.ls s.nl id len sz)) (s.new id cs) h
          | false => False
        | none => False
      | false => False
    | _, _ => False
  | _, _ => False
noncomputable def vcMake (P : Program) (t : TypeId) (l c : SV) (s : VS) (h : Hp) (K : KO) : Prop :=
  match elemOfSlice P t with
  | some e => match szOf P e, zeroA P e, asI l, asI c with
    | some sz, some z, some (_, l), some (_, c) => match Nat.beq z.length sz with
      | true => onO (natI l) fun n => onO (natI c) fun m => onC (Nat.ble n m && Nat.ble (m * P.bytesOf e) 1073741824 && Nat.blt m 1073741824) <|
        ∀ id, h.g id = none → h.lo ≤ id → K .q (some (.vv (.sl id 0 n m true sz))) s (h.put id (zerosV z m))
      | false => False
    | _, _, _, _ => False
  | none => False
noncomputable def vcSlice (P : Program) (t : TypeId) (x : SV) (lo hi mx : Option Int) (s : VS) (h : Hp) (K : KO) : Prop :=
  match P.underlying t, x with
  | some .string, .ss l => match mx with
    | none => onO (slStr l lo hi) fun l' => K .q (some (.ss l')) s h
    | some _ => False
  | some (.slice e), x => match szOf P e with
    | some es => esc s h [x] fun s h => onO (slV x.av lo hi mx es) fun r => K .q (some (.vv r)) s h
    | none => False
  | _, _ => False
def vcField (P : Program) (fl : Field) (cs : List SV) (K : SV → Prop) : Prop := match isAggT P fl.type, szOf P fl.type with
  | some true, some n => match subS cs fl.offset n with
    | some l => K (.ag l)
    | none => False
  | some false, _ => match nthL cs fl.offset with
    | some x => K x
    | none => False
  | _, _ => False
/-- the part of a row of n parts, sz cells each, at i: any part, if i is not known -/
def vcAt (i : SV) (n : Nat) (K : Nat → Prop) : Prop := match i with
  | .ki _ i => match natLt i n with
    | some j => K j
    | none => False
  | .ii _ i => onO (natLt i n) fun j => allN n fun k => j = k → K k
  | _ => False
noncomputable def vcIndexAddr (P : Program) (t : TypeId) (x i : SV) (s : VS) (h : Hp) (K : SV → Prop) : Prop := match P.underlying t with
  | some (.array n e) => match szOf P e with
    | some sz => match x with
      | .lp k id o => vcAt i n fun j => K (.lp k id (o + j * sz))
      | .pp b o => match asI i with
        | some (_, i) => onO (natLt i n) fun j => K (.pp b (o + j * sz))
        | none => False
      | _ => False
    | none => False
  | some (.slice e) => match szOf P e with
    | some sz => match x with
      | .ls k id len _ => vcAt i len fun j => K (.lp k id (j * sz))
      | .vv a => match asI i with
        | some (_, i) => onO (idxV a i sz) fun p => K (.pp p.1 p.2)
        | none => False
      | _ => False
    | none => False
  | _ => False
noncomputable def vcIndex (P : Program) (t : TypeId) (x i : SV) (K : SV → Prop) : Prop := match P.underlying t with
  | some .string => match x, asI i with
    | .ss l, some (_, i) => onO ((natI i).bind fun j => nthL l j) fun c => K (.ii .u8 (.ofNat c))
    | _, _ => False
  | some (.array n e) => match szOf P e, isAggT P e, x with
    | some sz, some c, .ag cs => vcAt i n fun j => match c with
      | true => match subS cs (j * sz) sz with
        | some l => K (.ag l)
        | none => False
      | false => match nthL cs (j * sz) with
        | some x => K x
        | none => False
    | _, _, _ => False
  | _ => False
noncomputable def vcAppend (P : Program) (t u : TypeId) (d x : SV) (s : VS) (h : Hp) (K : KO) : Prop :=
  match elemOfSlice P t with
  | some e => match szOf P e, zeroA P e with
    | some sz, some z => match Nat.beq z.length sz with
      | true => match P.underlying u with
        | some (.int _) => match asI x with
          | some (_, n) => onO (natI n) fun n => onC (Nat.blt n 32000000 && Nat.ble ((4 * n + 4000) * P.bytesOf e) 17179869184) <| esc s h [d] fun s h =>
            wpE (.app d.av n (.lit (zerosV z n)) sz) (fun r h' => onO r fun v => K .we (some (.vv v)) s h') h
          | none => False
        | some _ => match x with
          | .ls k id len zz => match s.L.get k with
            | some (_, _, cs) => match Nat.beq zz sz && Nat.beq cs.length (len * sz) && Nat.blt 0 sz && Nat.ble ((4 * len + 4000) * P.bytesOf e) 17179869184 with
              | true => esc s h (d :: cs) fun s h =>
                wpE (.app d.av len (.lit (SV.avs cs)) sz) (fun r h' => onO r fun v => K .we (some (.vv v)) s h') h
              | false => False
            | none => False
          | x => esc s h [d, x] fun s h => onO (srcV sz x.av) fun p => onC (Nat.ble ((4 * p.1 + 4000) * P.bytesOf e) 17179869184) <|
            wpE (.app d.av p.1 p.2 sz) (fun r h' => onO r fun v => K .we (some (.vv v)) s h') h
        | none => False
      | false => False
    | _, _ => False
  | none => False
noncomputable def vcBuiltin (P : Program) (b : Builtin) (tys : List TypeId) (args : List SV) (s : VS) (h : Hp) (K : KO) : Prop :=
  match b, tys, args with
  | .len, t :: _, x :: _ => match P.underlying t, x with
    | some .string, .ss l => K .q (some (.ii .i64 (.ofNat l.length))) s h
    | some (.slice _), .ns => K .q (some (.ki .i64 0)) s h
    | some (.slice _), .ls _ _ len _ => K .q (some (.ki .i64 (.ofNat len))) s h
    | some (.slice _), .vv a => onO (lenV a) fun n => K .q (some (.ii .i64 (.ofNat n))) s h
    | _, _ => False
  | .cap, t :: _, x :: _ => match P.underlying t, x with
    | some (.slice _), .ns => K .q (some (.ki .i64 0)) s h
    | some (.slice _), .ls _ _ len _ => K .q (some (.ki .i64 (.ofNat len))) s h
    | some (.slice _), .vv a => onO (capV a) fun n => K .q (some (.ii .i64 (.ofNat n))) s h
    | _, _ => False
  | .min, _, [x, y] => match asI x, asI y with
    | some (k, a), some (_, b) => K .q (some (.ii k (min a b))) s h
    | _, _ => False
  | .max, _, [x, y] => match asI x, asI y with
    | some (k, a), some (_, b) => K .q (some (.ii k (max a b))) s h
    | _, _ => False
  | .append, t :: u :: _, d :: x :: _ => vcAppend P t u d x s h K
  | .copy, t :: _, d :: x :: _ => match elemOfSlice P t with
    | some e => match szOf P e with
      | some sz => esc s h [d, x] fun s h => onO (copyV sz d.av x.av) fun p => wpE p.2 (fun _ h' => K .we (some (.ii .i64 (.ofNat p.1))) s h') h
      | none => False
    | none => False
  | .clear, t :: _, x :: _ => match elemOfSlice P t with
    | some e => match zeroA P e with
      | some z => esc s h [x] fun s h => onO (clearV z x.av) fun e => wpE e (fun _ h' => K .we (some (.tp [])) s h') h
      | none => False
    | none => False
  | _, _, _ => False
noncomputable def vcCallV (P : Program) (g : SV) (t : TypeId) (args : List SV) (s : VS) (h : Hp) (K : KO) : Prop := match g with
  | .ff f caps => match fnOk P f with
    | true => esc s h (args ++ caps) fun s h => wpC P f (SV.avs (args ++ caps)) (fun v h' => retV P t v fun x => K .we (some x) s h') h
    | false => False
  | .vv a => onO (fnV a) fun p => onC (fnOk P p.1) <| esc s h args fun s h => wpC P p.1 (SV.avs args ++ p.2) (fun v h' => retV P t v fun x => K .we (some x) s h') h
  | _ => False
noncomputable def vcOp (P : Program) (o : Oper) (s : VS) (h : Hp) (K : KO) : Prop := match o.op with
  | .move x | .assign x => match evS s x with
    | some v => K .q (some v) s h
    | none => False
  | .pick c a b => match evS s c with
    | some (.kb true) => match evS s a with
      | some v => K .q (some v) s h
      | none => False
    | some (.kb false) => match evS s b with
      | some v => K .q (some v) s h
      | none => False
    | some (.bb c) => match evS s a, evS s b with
      | some v, some w => onB c (K .q (some v) s h) (K .q (some w) s h)
      | _, _ => False
    | _ => False
  | .alloc e => match zeroA P e with
    | some z => ∀ id, K .q (some (.lp s.nl id 0)) (s.new id (SV.ofs z)) h
    | none => False
  | .box _ x => match evS s x with
    | some v => match notTup v && allOne v.cells with
      | true => ∀ id, K .q (some (.lp s.nl id 0)) (s.new id v.cells) h
      | false => False
    | none => False
  | .build t parts => vcBuild P t parts.toList s fun v => K .q (some v) s h
  | .buildSlice t len parts => vcBuildSlice P t len parts.toList s h K
  | .load t a => match evS s a with
    | some a => vcLoad P t a s h K
    | none => False
  | .store t a x => match evS s a, evS s x with
    | some a, some x => vcStore P t a x s h K
    | _, _ => False
  | .nilCheck x => match evS s x with
    | some (.lp k id o) => K .q (some (.lp k id o)) s h
    | some (.pp b o) => K .q (some (.pp b o)) s h
    | some (.ff f l) => K .q (some (.ff f l)) s h
    | some (.vv a) => onO (ptrV a) fun p => K .q (some (.pp p.1 p.2)) s h
    | _ => False
  | .binOp op t x y _ => match evS s x, evS s y with
    | some x, some y => vcBin P op t x y fun v => K .q (some v) s h
    | _, _ => False
  | .unOp op _ x => match evS s x with
    | some x => vcUn op x fun v => K .q (some v) s h
    | none => False
  | .convert src dst x => match evS s x with
    | some x => vcConvert P src dst x s h K
    | none => False
  | .makeFunc (.func g) first captured => match first.size == 0, evSs s captured.toList with
    | true, some l => K .q (some (.ff g l)) s h
    | _, _ => False
  | .makeSlice t l c => match evS s l, evS s c with
    | some l, some c => vcMake P t l c s h K
    | _, _ => False
  | .slice t x lo hi mx => match evS s x, bndS s lo, bndS s hi, bndS s mx with
    | some x, some lo, some hi, some mx => vcSlice P t x lo hi mx s h K
    | _, _, _, _ => False
  | .fieldAddr t x f => match P.underlying t with
    | some (.struct fs) => match fs[f]? with
      | some fl => match szOf P fl.type with
        | some n => match Nat.beq n 0, evS s x with
          | false, some (.lp k id o) => K .q (some (.lp k id (o + fl.offset))) s h
          | false, some (.pp b o) => K .q (some (.pp b (o + fl.offset))) s h
          | false, some (.vv a) => onO (ptrV a) fun p => K .q (some (.pp p.1 (p.2 + fl.offset))) s h
          | _, _ => False
        | none => False
      | none => False
    | _ => False
  | .field t x f => match P.underlying t, evS s x with
    | some (.struct fs), some (.ag cs) => match fs[f]? with
      | some fl => vcField P fl cs fun v => K .q (some v) s h
      | none => False
    | _, _ => False
  | .indexAddr t x i => match evS s x, evS s i with
    | some x, some i => vcIndexAddr P t x i s h fun v => K .q (some v) s h
    | _, _ => False
  | .index t x i => match evS s x, evS s i with
    | some x, some i => vcIndex P t x i fun v => K .q (some v) s h
    | _, _ => False
  | .extract t i => match evS s t with
    | some (.tp vs) => match nthL vs i with
      | some v => K .q (some v) s h
      | none => False
    | _ => False
  | .call c => match evSs s c.args.toList with
    | some args => match c.callee with
      | .builtin b => vcBuiltin P b c.argTypes.toList args s h K
      | .value g => match evS s g with
        | some g => vcCallV P g o.type args s h K
        | none => False
      | .invoke .. => False
    | none => False
  | _ => False
end Go.Proofs.YthnhdgcaolgdnaaAn
