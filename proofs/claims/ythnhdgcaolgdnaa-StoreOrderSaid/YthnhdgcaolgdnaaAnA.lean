/- An evaluator of the model's code without draws: temporaries and memory as maps, memory of one's own under numbers of its own. Definitions. -/
import Derived.Orders
import Derived.Laws.World
import Derived.Laws.Sem
import Derived.KernelRfl
set_option linter.unusedVariables false
set_option linter.unusedSimpArgs false
namespace Go.Proofs.YthnhdgcaolgdnaaAn
open Go

/-! ### maps -/
inductive T (α : Type) where
  | lf
  | nd (l : T α) (v : Option α) (r : T α)

section
variable {α : Type}
noncomputable def T.get (t : T α) : Nat → Option α :=
  T.rec (motive := fun _ => Nat → Option α) (fun _ => none)
    (fun _ v _ ihl ihr k => cond (Nat.beq k 0) v (cond (Nat.beq (Nat.mod k 2) 1) (ihl (Nat.div k 2)) (ihr (Nat.pred (Nat.div k 2))))) t

noncomputable def T.setF (x : Option α) (d : Nat) : T α → Nat → T α :=
  Nat.rec (motive := fun _ => T α → Nat → T α) (fun t _ => t)
    (fun _ ih t k => T.casesOn (motive := fun _ => T α) t
      (cond (Nat.beq k 0) (.nd .lf x .lf) (cond (Nat.beq (Nat.mod k 2) 1) (.nd (ih .lf (Nat.div k 2)) none .lf) (.nd .lf none (ih .lf (Nat.pred (Nat.div k 2))))))
      (fun l v r => cond (Nat.beq k 0) (.nd l x r) (cond (Nat.beq (Nat.mod k 2) 1) (.nd (ih l (Nat.div k 2)) v r) (.nd l v (ih r (Nat.pred (Nat.div k 2))))))) d
noncomputable def T.set (t : T α) (k : Nat) (x : Option α) : T α := T.setF x (Nat.succ k) t k

theorem T.get_lf (k : Nat) : (T.lf : T α).get k = none := rfl
theorem T.get_nd (l : T α) (v : Option α) (r : T α) (k : Nat) :
    (T.nd l v r).get k = if k = 0 then v else if k % 2 = 1 then l.get (k / 2) else r.get (k / 2 - 1) := by
  show cond (Nat.beq k 0) v (cond (Nat.beq (Nat.mod k 2) 1) (l.get (Nat.div k 2)) (r.get (Nat.pred (Nat.div k 2)))) = _
  have e1 : Nat.beq k 0 = decide (k = 0) := by cases k <;> rfl
  have e2 : Nat.beq (Nat.mod k 2) 1 = decide (k % 2 = 1) := by
    rw [Bool.eq_iff_iff]; simp only [Nat.beq_eq, decide_eq_true_eq]; exact Iff.rfl
  rw [e1, e2]
  by_cases h : k = 0
  · simp [h]
  · by_cases h2 : k % 2 = 1
    · simp [h, h2]; rfl
    · simp [h, h2]; rfl

theorem T.get_setF (x : Option α) : ∀ (d : Nat) (t : T α) (k k' : Nat), k < d → (T.setF x d t k).get k' = if k' = k then x else t.get k' := by
  intro d
  induction d with
  | zero => intro t k k' h; omega
  | succ d ih =>
    intro t k k' hk
    have e1 : Nat.beq k 0 = decide (k = 0) := by cases k <;> rfl
    have e2 : Nat.beq (Nat.mod k 2) 1 = decide (k % 2 = 1) := by
      rw [Bool.eq_iff_iff]; simp only [Nat.beq_eq, decide_eq_true_eq]; exact Iff.rfl
    have d2 : Nat.div k 2 = k / 2 := rfl
    have p2 : Nat.pred (k / 2) = k / 2 - 1 := rfl
    cases t with
    | lf =>
      show (cond (Nat.beq k 0) (T.nd .lf x .lf) (cond (Nat.beq (Nat.mod k 2) 1) (.nd (T.setF x d .lf (Nat.div k 2)) none .lf) (.nd .lf none (T.setF x d .lf (Nat.pred (Nat.div k 2)))))).get k' = _
      rw [e1, e2, d2, p2]
      by_cases h : k = 0
      · subst h
        simp only [decide_true, cond_true, T.get_nd, T.get_lf]
        by_cases h' : k' = 0 <;> simp [h']
      · by_cases h2 : k % 2 = 1
        · simp only [h, h2, decide_true, decide_false, cond_true, cond_false, T.get_nd, T.get_lf]
          by_cases h' : k' = 0
          · subst h'; rw [if_pos rfl, if_neg (by omega)]
          · by_cases h2' : k' % 2 = 1
            · simp only [h', h2', if_true, if_false]
              rw [ih .lf (k / 2) (k' / 2) (by omega), T.get_lf]
              by_cases e : k' = k
              · subst e; simp
              · rw [if_neg (by omega), if_neg e]
            · simp only [h', h2', if_false]; rw [if_neg (by omega)]
        · simp only [h, h2, decide_false, cond_false, T.get_nd, T.get_lf]
          by_cases h' : k' = 0
          · subst h'; rw [if_pos rfl, if_neg (by omega)]
          · by_cases h2' : k' % 2 = 1
            · simp only [h', h2', if_true, if_false]; rw [if_neg (by omega)]
            · simp only [h', h2', if_false]
              rw [ih .lf (k / 2 - 1) (k' / 2 - 1) (by omega), T.get_lf]
              by_cases e : k' = k
              · subst e; simp
              · rw [if_neg (by omega), if_neg e]
    | nd l v r =>
      show (cond (Nat.beq k 0) (T.nd l x r) (cond (Nat.beq (Nat.mod k 2) 1) (.nd (T.setF x d l (Nat.div k 2)) v r) (.nd l v (T.setF x d r (Nat.pred (Nat.div k 2)))))).get k' = _
      rw [e1, e2, d2, p2]
      by_cases h : k = 0
      · subst h
        simp only [decide_true, cond_true, T.get_nd]
        by_cases h' : k' = 0 <;> simp [h']
      · by_cases h2 : k % 2 = 1
        · simp only [h, h2, decide_true, decide_false, cond_true, cond_false, T.get_nd]
          by_cases h' : k' = 0
          · subst h'; rw [if_pos rfl, if_neg (by omega), if_pos rfl]
          · by_cases h2' : k' % 2 = 1
            · simp only [h', h2', if_true, if_false]
              rw [ih l (k / 2) (k' / 2) (by omega)]
              by_cases e : k' = k
              · subst e; simp
              · rw [if_neg (by omega), if_neg e]
            · simp only [h', h2', if_false]; rw [if_neg (by omega)]
        · simp only [h, h2, decide_false, cond_false, T.get_nd]
          by_cases h' : k' = 0
          · subst h'; rw [if_pos rfl, if_neg (by omega), if_pos rfl]
          · by_cases h2' : k' % 2 = 1
            · simp only [h', h2', if_true, if_false]; rw [if_neg (by omega)]
            · simp only [h', h2', if_false]
              rw [ih r (k / 2 - 1) (k' / 2 - 1) (by omega)]
              by_cases e : k' = k
              · subst e; simp
              · rw [if_neg (by omega), if_neg e]

theorem T.get_set (t : T α) (k k' : Nat) (x : Option α) : (t.set k x).get k' = if k' = k then x else t.get k' :=
  T.get_setF x _ t k k' (Nat.lt_succ_self k)
theorem T.get_set_same (t : T α) (k : Nat) (x : Option α) : (t.set k x).get k = x := by rw [T.get_set, if_pos rfl]
theorem T.get_set_ne (t : T α) {k k' : Nat} (x : Option α) (h : k' ≠ k) : (t.set k x).get k' = t.get k' := by rw [T.get_set, if_neg h]
end

/-! ### values -/
/-- b: bool · i: whole number · s: string · p: address, np: nil · sl: block, offset, length, what the capacity is at least, whether it is just that, cells an element; ns: nil; e: one without room, wherever it points · f: function, what it holds; nf: nil · agg: struct or array · tup: results · x: a value that is only handed on. -/
inductive AV where
  | b (x : Bool)
  | i (k : IntKind) (n : Int)
  | s (l : List Nat)
  | p (b o : Nat)
  | np
  | sl (b o len lo : Nat) (ex : Bool) (sz : Nat)
  | ns
  | e (a : Addr)
  | f (f : FuncId) (caps : List AV)
  | nf
  | agg (cs : List AV)
  | tup (vs : List AV)
  | x (v : Value)

/-- block: its cells; those below low are only read -/
structure Heap where
  next : Nat
  m : T (List AV)
  low : Nat
noncomputable def Heap.get (H : Heap) (b : Nat) : Option (List AV) := H.m.get b

def bytesL (s : ByteArray) : List Nat := s.data.toList.map UInt8.toNat

def convS : Value → Option AV
  | .bool b => some (.b b)
  | .int k n => some (.i k n)
  | .string s => some (.s (bytesL s))
  | .pointer none => some .np
  | .slice none 0 0 => some .ns
  | .nilFunc => some .nf
  | _ => none
def convL : List Value → Option (List AV)
  | [] => some []
  | v :: vs => match convS v, convL vs with
    | some c, some cs => some (c :: cs)
    | _, _ => none
def conv : Value → Option AV
  | .agg cs => match convL cs.toList with
    | some l => some (.agg l)
    | none => none
  | v => convS v

def AV.cells : AV → List AV
  | .agg cs => cs
  | v => [v]
def AV.isSl : AV → Bool
  | .sl .. | .ns | .e _ => true
  | _ => false
/-- what one cell holds -/
def AV.sc : AV → Bool
  | .agg _ | .tup _ | .x _ => false
  | _ => true
/-- no row of results, nothing unknown -/
def AV.one : AV → Bool
  | .tup _ | .x _ => false
  | _ => true

/-! ### whole numbers -/
def kEq (a b : IntKind) : Bool := match a, b with
  | .i8, .i8 | .i16, .i16 | .i32, .i32 | .i64, .i64 | .u8, .u8 | .u16, .u16 | .u32, .u32 | .u64, .u64 => true
  | _, _ => false
/-- 2 ^ bits, and half of it for a kind with a sign -/
def kMod : IntKind → Nat
  | .i8 | .u8 => 256
  | .i16 | .u16 => 65536
  | .i32 | .u32 => 4294967296
  | .i64 | .u64 => 18446744073709551616
def kTop : IntKind → Nat
  | .i8 => 128 | .u8 => 256
  | .i16 => 32768 | .u16 => 65536
  | .i32 => 2147483648 | .u32 => 4294967296
  | .i64 => 9223372036854775808 | .u64 => 18446744073709551616
def kLow : IntKind → Nat
  | .i8 => 128 | .i16 => 32768 | .i32 => 2147483648 | .i64 => 9223372036854775808
  | _ => 0
def inKind (k : IntKind) (n : Int) : Bool := match n with
  | .ofNat m => Nat.blt m (kTop k)
  | .negSucc m => Nat.blt m (kLow k)
/-- what is left of n by the kind's modulus, from 0 on -/
def posMod (M : Nat) (n : Int) : Nat := match n with
  | .ofNat m => Nat.mod m M
  | .negSucc m => Nat.sub (Nat.pred M) (Nat.mod m M)
def wrapA (k : IntKind) (n : Int) : Int :=
  cond (inKind k n) n (cond (Nat.blt (posMod (kMod k) n) (kTop k)) (.ofNat (posMod (kMod k) n)) (Int.sub (.ofNat (posMod (kMod k) n)) (.ofNat (kMod k))))
def leI (a b : Int) : Bool := match a, b with
  | .ofNat m, .ofNat n => cond (Nat.beq m 0) true (Nat.ble m n)
  | .ofNat _, .negSucc _ => false
  | .negSucc _, .ofNat _ => true
  | .negSucc m, .negSucc n => Nat.ble n m
def eqI (a b : Int) : Bool := match a, b with
  | .ofNat m, .ofNat n => Nat.beq m n
  | .negSucc m, .negSucc n => Nat.beq m n
  | _, _ => false
def kBits : IntKind → Nat
  | .i8 | .u8 => 8 | .i16 | .u16 => 16 | .i32 | .u32 => 32 | .i64 | .u64 => 64
def intA (op : BinOp) (k : IntKind) (a b : Int) : Option AV := match op with
  | .add => some (.i k (wrapA k (Int.add a b)))
  | .sub => some (.i k (wrapA k (Int.sub a b)))
  | .mul => some (.i k (wrapA k (Int.mul a b)))
  | .quo => cond (eqI b 0) none (some (.i k (wrapA k (Int.tdiv a b))))
  | .rem => cond (eqI b 0) none (some (.i k (Int.tmod a b)))
  | .eql => some (.b (eqI a b))
  | .neq => some (.b (!eqI a b))
  | .lss => some (.b (!leI b a))
  | .leq => some (.b (leI a b))
  | .gtr => some (.b (!leI a b))
  | .geq => some (.b (leI b a))
  | .and | .or | .xor | .andNot => match a, b with
    | .ofNat m, .ofNat n => cond (Nat.blt m (kMod k) && Nat.blt n (kMod k)) (match op with
      | .and => some (.i k (wrapA k (.ofNat (Nat.land m n))))
      | .or => some (.i k (wrapA k (.ofNat (Nat.lor m n))))
      | .xor => some (.i k (wrapA k (.ofNat (Nat.xor m n))))
      | _ => none) none
    | _, _ => none
  | _ => none
def shiftA (op : BinOp) (k : IntKind) (a b : Int) : Option AV := match b with
  | .negSucc _ => none
  | .ofNat n => match op with
    | .shl => some (.i k (wrapA k (Int.mul a (.ofNat (Nat.pow 2 (cond (Nat.ble n (kBits k)) n (kBits k)))))))
    | .shr => some (.i k (Int.fdiv a (.ofNat (Nat.pow 2 (cond (Nat.ble n (kBits k)) n (kBits k))))))
    | _ => none
def eqL : List Nat → List Nat → Bool
  | [], [] => true
  | a :: x, b :: y => cond (Nat.beq a b) (eqL x y) false
  | _, _ => false
def lessL : List Nat → List Nat → Bool
  | _, [] => false
  | [], _ :: _ => true
  | a :: x, b :: y => cond (Nat.blt a b) true (cond (Nat.beq a b) (lessL x y) false)
def strA (op : BinOp) (x y : List Nat) : Option AV := match op with
  | .add => cond (Nat.blt (x.length + y.length) 1000000000) (some (.s (x ++ y))) none
  | .eql => some (.b (eqL x y))
  | .neq => some (.b (!eqL x y))
  | .lss => some (.b (lessL x y))
  | .leq => some (.b (lessL x y || eqL x y))
  | .gtr => some (.b (!(lessL x y || eqL x y)))
  | .geq => some (.b (!lessL x y))
  | _ => none
/-- all whole numbers, of the same kinds -/
def eqInts : List AV → List AV → Option Bool
  | [], [] => some true
  | .i k a :: x, .i k' b :: y => cond (kEq k k') (cond (eqI a b) (eqInts x y) (some false)) none
  | _, _ => none
def szOf (P : Program) (t : TypeId) : Option Nat := (P.info? t).map (·.size)
/-- the fields are whole numbers, one behind the other -/
def intFields (P : Program) : Nat → List Field → Bool
  | _, [] => true
  | n, f :: fs => (match P.underlying f.type with | some (.int _) => true | _ => false) && Nat.beq f.offset n && (f.name != "_") && intFields P (n + 1) fs
/-- .. or structs of such -/
def intFields2 (P : Program) : Nat → List Field → Bool
  | _, [] => true
  | n, f :: fs => Nat.beq f.offset n && (f.name != "_") && (match P.underlying f.type with
    | some (.int _) => intFields2 P (n + 1) fs
    | some (.struct gs) => intFields P 0 gs.toList && !P.stoodInHeld f.type && (match szOf P f.type with | some z => Nat.beq z gs.size | none => false) && intFields2 P (n + gs.size) fs
    | _ => false)
/-- how many numbers -/
def leaves (P : Program) : List Field → Nat
  | [] => 0
  | f :: fs => match P.underlying f.type with
    | some (.struct gs) => gs.size + leaves P fs
    | _ => 1 + leaves P fs
def intStruct (P : Program) (t : TypeId) (n : Nat) : Bool := match P.underlying t with
  | some (.struct fs) => intFields2 P 0 fs.toList && Nat.beq (leaves P fs.toList) n && !P.stoodInHeld t && !P.eqGuardType P.depth t
  | _ => false
/-- x == y where it is known -/
def eqA (P : Program) (t : TypeId) (x y : AV) : Option Bool := match x, y with
  | .b a, .b c => match P.underlying t with | some .bool => some (a == c) | _ => none
  | .np, .np => match P.underlying t with | some (.pointer _) => some true | _ => none
  | .np, .p _ _ | .p _ _, .np => match P.underlying t with | some (.pointer _) => some false | _ => none
  | .ns, .ns => match P.underlying t with | some (.slice _) => some true | _ => none
  | .ns, .sl .. | .sl .., .ns | .ns, .e _ | .e _, .ns => match P.underlying t with | some (.slice _) => some false | _ => none
  | .nf, .nf => match P.underlying t with | some (.func ..) => some true | _ => none
  | .nf, .f .. | .f .., .nf => match P.underlying t with | some (.func ..) => some false | _ => none
  | .agg cs, .agg ds => cond (intStruct P t cs.length && Nat.beq cs.length ds.length) (eqInts cs ds) none
  | _, _ => none
def binA (P : Program) (op : BinOp) (t : TypeId) (x y : AV) : Option AV := match x, y with
  | .i k a, .i k' b => match op with
    | .shl | .shr => shiftA op k a b
    | _ => cond (kEq k k') (intA op k a b) none
  | .s a, .s b => strA op a b
  | x, y => match op with
    | .eql => (eqA P t x y).map .b
    | .neq => (eqA P t x y).map fun c => .b (!c)
    | _ => none
def unA (op : UnOp) (x : AV) : Option AV := match op, x with
  | .not, .b c => some (.b (!c))
  | .neg, .i k n => some (.i k (wrapA k (Int.neg n)))
  | .xor, .i k (.ofNat n) => cond (Nat.beq (kLow k) 0 && Nat.blt n (kMod k)) (some (.i k (wrapA k (.ofNat (Nat.xor (Nat.pred (kMod k)) n))))) none
  | _, _ => none

/-! ### types -/
def zeroA (P : Program) (t : TypeId) : Option (List AV) := match P.info? t with
  | some i => match i.zero with
    | some v => (conv v).map AV.cells
    | none => none
  | none => none
def elemOfSlice (P : Program) (t : TypeId) : Option TypeId := match P.underlying t with
  | some (.slice e) => some e
  | _ => none
def isAggT (P : Program) (t : TypeId) : Option Bool := match P.underlying t with
  | some (.struct _) | some (.array _ _) => some true
  | some _ => some false
  | none => none
def zeros (z : List AV) : Nat → List AV
  | 0 => []
  | n + 1 => z ++ zeros z n

/-! ### what an operation does -/
/-- where cells come from -/
inductive Src where
  | mem (b o n : Nat)
  | lit (l : List AV)
inductive Eff where
  | q (v : AV)
  | r (b o n : Nat) (k : List AV → Option AV)
  | a (cells : List AV) (k : Nat → AV)
  | w (b o : Nat) (src : Src) (v : Option AV)
  | call (f : FuncId) (args : List AV)
  | app (s : AV) (n : Nat) (src : Src) (sz : Nat)
  | m (b : Nat) (v : AV)

def nthL {α : Type} : List α → Nat → Option α
  | [], _ => none
  | x :: _, 0 => some x
  | _ :: xs, n + 1 => nthL xs n
/-- n cells from o on -/
def sub? (cs : List AV) (o n : Nat) : Option (List AV) :=
  cond (Nat.ble (o + n) cs.length) (some ((cs.drop o).take n)) none
def splice (cs : List AV) (o : Nat) (new : List AV) : List AV := cs.take o ++ (new ++ cs.drop (o + new.length))

def fillA (place : Nat → Option (Nat × Nat)) (cells : List AV) : List (Nat × AV) → Option (List AV)
  | [] => some cells
  | (i, v) :: rest => match place i with
    | none => none
    | some (off, size) => cond (v.one && Nat.beq v.cells.length size && Nat.ble (off + size) cells.length) (fillA place (splice cells off v.cells) rest) none
def placesOf (P : Program) (fs : Array Field) (i : Nat) : Option (Nat × Nat) := match fs[i]? with
  | some f => (szOf P f.type).map fun n => (f.offset, n)
  | none => none
def evParts (ev : Operand → Option AV) : List (Nat × Operand) → Option (List (Nat × AV))
  | [] => some []
  | (i, x) :: rest => match ev x, evParts ev rest with
    | some v, some l => some ((i, v) :: l)
    | _, _ => none
def evAll (ev : Operand → Option AV) : List Operand → Option (List AV)
  | [] => some []
  | x :: rest => match ev x, evAll ev rest with
    | some v, some l => some (v :: l)
    | _, _ => none
/-- a number from 0 on -/
def natOf : AV → Option Nat
  | .i _ (.ofNat n) => some n
  | _ => none
def allU8 : List AV → Option (List Nat)
  | [] => some []
  | .i .u8 (.ofNat n) :: l => cond (Nat.blt n 256) ((allU8 l).map fun r => n :: r) none
  | _ => none
def ofU8 : List Nat → List AV
  | [] => []
  | n :: l => .i .u8 (.ofNat n) :: ofU8 l
/-- a bound of a slicing: what was said, or else d -/
def bound (ev : Operand → Option AV) (d : Nat) : Option Operand → Option Nat
  | none => some d
  | some x => (ev x).bind natOf
def sliceA (P : Program) (ev : Operand → Option AV) (t : TypeId) (x : AV) (lo hi mx : Option Operand) : Option AV :=
  match P.underlying t, x with
  | some .string, .s l => match mx with
    | some _ => none
    | none => (bound ev 0 lo).bind fun a => (bound ev l.length hi).bind fun h =>
      cond (Nat.ble a h && Nat.ble h l.length) (some (.s ((l.drop a).take (h - a)))) none
  | some (.slice e), .ns => (bound ev 0 lo).bind fun a => (bound ev 0 hi).bind fun h => (bound ev 0 mx).bind fun m =>
      cond (Nat.beq a 0 && Nat.beq h 0 && Nat.beq m 0 && (mx.isNone || hi.isSome) && (szOf P e).isSome) (some .ns) none
  | some (.slice e), .e z => (bound ev 0 lo).bind fun a => (bound ev 0 hi).bind fun h => (bound ev 0 mx).bind fun m =>
      cond (Nat.beq a 0 && Nat.beq h 0 && Nat.beq m 0 && (mx.isNone || hi.isSome) && (szOf P e).isSome) (some (.e z)) none
  | some (.slice e), .sl b o len cap ex sz => (bound ev 0 lo).bind fun a => (bound ev len hi).bind fun h => (szOf P e).bind fun es =>
    cond (Nat.beq es sz) (match mx with
    | some _ => cond (hi.isSome) ((bound ev 0 mx).bind fun m =>
        cond (Nat.ble a h && Nat.ble h m && Nat.ble m cap) (some (.sl b (cond (Nat.beq m a) o (o + a * sz)) (h - a) (m - a) true sz)) none) none
    | none => cond (Nat.ble a h && Nat.ble h cap) (some (.sl b (cond (Nat.beq cap a) o (o + a * sz)) (h - a) (cap - a) ex sz)) none) none
  | _, _ => none
def convertA (P : Program) (src dst : TypeId) (x : AV) : Option Eff :=
  match P.underlying src, P.underlying dst, x with
  | some _, some (.int k), .i _ n => some (.q (.i k (wrapA k n)))
  | some _, some .string, .s l => some (.q (.s l))
  | some .string, some (.slice e), .s l => match P.underlying e with
    | some (.int .u8) => some (.a (ofU8 l) fun id => .sl id 0 l.length l.length false 1)
    | _ => none
  | some (.slice e), some .string, .ns => match P.underlying e with
    | some (.int .u8) => some (.q (.s []))
    | _ => none
  | some (.slice e), some .string, .e _ => match P.underlying e with
    | some (.int .u8) => some (.q (.s []))
    | _ => none
  | some (.slice e), some .string, .sl b o len _ _ sz => match P.underlying e with
    | some (.int .u8) => cond (Nat.beq sz 1) (cond (Nat.beq len 0) (some (.q (.s []))) (some (.r b o len fun cs => (allU8 cs).map .s))) none
    | _ => none
  | some (.slice _), some (.slice e), .sl b o len lo ex sz => match P.underlying e with
    | some (.int .u8) => cond (Nat.beq src dst) (some (.m b (.sl b o len lo ex sz))) none
    | _ => none
  | _, _, _ => none
/-- how many, and the cells, of what is appended or copied -/
def srcA (sz : Nat) : AV → Option (Nat × Src)
  | .ns | .e _ => some (0, .lit [])
  | .sl b o len _ _ z => cond (Nat.beq z sz) (some (len, cond (Nat.beq len 0) (.lit []) (.mem b o (len * sz)))) none
  | .s l => cond (Nat.beq sz 1) (some (l.length, .lit (ofU8 l))) none
  | _ => none
def srcN (sz : Nat) (n : Nat) : AV → Option Src
  | .ns => some (.lit [])
  | .sl b o _ _ _ z => cond (Nat.beq z sz) (some (.mem b o (n * sz))) none
  | .s l => cond (Nat.beq sz 1) (some (.lit (ofU8 (l.take n)))) none
  | _ => none
def lenA : AV → Option Nat
  | .ns | .e _ => some 0
  | .sl _ _ len _ _ _ => some len
  | .s l => some l.length
  | _ => none
def minA (x y : AV) : Option AV := match x, y with
  | .i k a, .i _ b => some (.i k (cond (leI a b) a b))
  | _, _ => none
def maxA (x y : AV) : Option AV := match x, y with
  | .i k a, .i _ b => some (.i k (cond (leI b a) a b))
  | _, _ => none
def builtinA (P : Program) (b : Builtin) (tys : Array TypeId) (args : List AV) : Option Eff :=
  match b, tys.toList, args with
  | .len, t :: _, x :: _ => match P.underlying t, x with
    | some .string, .s l => some (.q (.i .i64 (.ofNat l.length)))
    | some (.slice _), .ns | some (.slice _), .e _ => some (.q (.i .i64 0))
    | some (.slice _), .sl _ _ len _ _ _ => some (.q (.i .i64 (.ofNat len)))
    | some (.slice _), .x (.slice _ len _) => some (.q (.i .i64 (.ofNat len)))
    | _, _ => none
  | .cap, t :: _, x :: _ => match P.underlying t, x with
    | some (.slice _), .ns | some (.slice _), .e _ => some (.q (.i .i64 0))
    | some (.slice _), .sl _ _ _ lo true _ => some (.q (.i .i64 (.ofNat lo)))
    | _, _ => none
  | .min, _, [x, y] => (minA x y).map .q
  | .max, _, [x, y] => (maxA x y).map .q
  | .append, t :: rest, s :: x :: _ => (elemOfSlice P t).bind fun e => (szOf P e).bind fun sz =>
    match rest with
    | u :: _ => match P.underlying u with
      | some (.int _) => (natOf x).bind fun n => (zeroA P e).bind fun z => cond (s.isSl && Nat.beq z.length sz && Nat.blt n 32000000 && Nat.ble ((4 * n + 4000) * P.bytesOf e) 17179869184) (some (.app s n (.lit (zeros z n)) sz)) none
      | some _ => (srcA sz x).bind fun ns => (zeroA P e).bind fun z => cond (s.isSl && Nat.beq z.length sz && Nat.ble ((4 * ns.1 + 4000) * P.bytesOf e) 17179869184) (some (.app s ns.1 ns.2 sz)) none
      | none => none
    | [] => none
  | .copy, t :: _, d :: x :: _ => (elemOfSlice P t).bind fun e => (szOf P e).bind fun sz => (lenA x).bind fun n => match d with
    | .ns | .e _ => some (.q (.i .i64 0))
    | .sl b o len _ _ z => cond (Nat.beq z sz) (cond (Nat.beq (Nat.min n len) 0) (some (.q (.i .i64 0))) ((srcN sz (Nat.min n len) x).map fun src => .w b o src (some (.i .i64 (.ofNat (Nat.min n len)))))) none
    | _ => none
  | .clear, t :: _, x :: _ => (elemOfSlice P t).bind fun e => match x with
    | .ns | .e _ => some (.q (.tup []))
    | .sl b o len _ _ z => cond (Nat.beq len 0) (some (.q (.tup []))) ((zeroA P e).bind fun zs => cond (Nat.beq zs.length z && zs.all AV.sc) (some (.w b o (.lit (zeros zs len)) (some (.tup [])))) none)
    | _ => none
  | _, _, _ => none
def indexA (P : Program) (t : TypeId) (x ix : AV) : Option AV := match P.underlying t, x, natOf ix with
  | some (.array n e), .p b o, some i => (szOf P e).bind fun sz => cond (Nat.blt i n) (some (.p b (o + i * sz))) none
  | some (.slice e), .sl b o len _ _ _, some i => (szOf P e).bind fun sz => cond (Nat.blt i len) (some (.p b (o + i * sz))) none
  | _, _, _ => none
/-- a part of a struct or an array -/
def partA (P : Program) (t : TypeId) (cs : List AV) (off : Nat) : Option AV := match isAggT P t with
  | some true => (szOf P t).bind fun n => (sub? cs off n).map .agg
  | some false => nthL cs off
  | none => none
def indexV (P : Program) (t : TypeId) (x ix : AV) : Option AV := match P.underlying t, x, natOf ix with
  | some .string, .s l, some i => (nthL l i).map fun c => .i .u8 (.ofNat c)
  | some (.array n e), .agg cs, some i => (szOf P e).bind fun sz => cond (Nat.blt i n) (partA P e cs (i * sz)) none
  | _, _, _ => none
def fnOk (P : Program) (f : FuncId) : Bool := match P.funcs[f]? with
  | some fn => fn.body.isSome && (fn.name != "runtime.NumGoroutine")
  | none => false

def aeff (P : Program) (ev : Operand → Option AV) (o : Oper) : Option Eff :=
  match o.op with
  | .move x | .assign x => (ev x).map .q
  | .pick c a b => match ev c with
    | some (.b true) => (ev a).map .q
    | some (.b false) => (ev b).map .q
    | _ => none
  | .alloc e => (zeroA P e).map fun z => .a z fun id => .p id 0
  | .box _ x => (ev x).bind fun v => cond v.one (some (.a v.cells fun id => .p id 0)) none
  | .build t parts => (zeroA P t).bind fun z => (evParts ev parts.toList).bind fun ps => match P.underlying t with
    | some (.struct fs) => cond (fs.toList.all fun f => (szOf P f.type).isSome) ((fillA (placesOf P fs) z ps).map fun cs => .q (.agg cs)) none
    | some (.array _ e) => (szOf P e).bind fun sz => (fillA (fun i => some (i * sz, sz)) z ps).map fun cs => .q (.agg cs)
    | _ => none
  | .buildSlice t len parts => (elemOfSlice P t).bind fun e => (szOf P e).bind fun sz => (evParts ev parts.toList).bind fun ps =>
    cond (Nat.ble (len * sz) 16777216) ((cond (Nat.beq (len * sz) 0) (some []) (zeroA P e)).bind fun z =>
      cond (Nat.beq (len * sz) 0 || Nat.beq z.length sz) ((fillA (fun i => some (i * sz, sz)) (cond (Nat.beq (len * sz) 0) [] (zeros z len)) ps).map fun cs => .a cs fun id => .sl id 0 len len true sz) none) none
  | .load t a => match ev a with
    | some (.p b o) => match isAggT P t with
      | some true => (szOf P t).map fun n => .r b o n fun cs => some (.agg cs)
      | some false => some (.r b o 1 fun cs => cs.head?)
      | none => none
    | _ => none
  | .store t a x => match ev a, ev x with
    | some (.p b o), some v => (szOf P t).bind fun n => cond (v.one && Nat.beq v.cells.length n && v.cells.all AV.sc) (some (.w b o (.lit v.cells) none)) none
    | _, _ => none
  | .nilCheck x => match ev x with
    | some (.p b o) => some (.q (.p b o))
    | some (.f g cs) => some (.q (.f g cs))
    | _ => none
  | .binOp op t x y _ => match ev x, ev y with
    | some a, some b => (binA P op t a b).map .q
    | _, _ => none
  | .unOp op _ x => (ev x).bind fun v => (unA op v).map .q
  | .convert src dst x => (ev x).bind fun v => convertA P src dst v
  | .makeFunc (.func g) first captured => cond (first.size == 0) ((evAll ev captured.toList).map fun cs => .q (.f g cs)) none
  | .makeSlice t l c => (elemOfSlice P t).bind fun e => (szOf P e).bind fun sz => (ev l).bind fun lv => (ev c).bind fun cv => (natOf lv).bind fun n => (natOf cv).bind fun m =>
    (zeroA P e).bind fun z => cond (Nat.ble n m && Nat.ble (m * P.bytesOf e) 1073741824 && Nat.blt m 1073741824 && Nat.beq z.length sz) (some (.a (zeros z m) fun id => .sl id 0 n m true sz)) none
  | .slice t x lo hi mx => (ev x).bind fun v => (sliceA P ev t v lo hi mx).map .q
  | .fieldAddr s x f => match P.underlying s, ev x with
    | some (.struct fs), some (.p b o) => match fs[f]? with
      | some fl => (szOf P fl.type).bind fun n => cond (Nat.beq n 0) none (some (.q (.p b (o + fl.offset))))
      | none => none
    | _, _ => none
  | .field t x f => match P.underlying t, ev x with
    | some (.struct fs), some (.agg cs) => match fs[f]? with
      | some fl => (partA P fl.type cs fl.offset).map .q
      | none => none
    | _, _ => none
  | .indexAddr t x ix => match ev x, ev ix with
    | some a, some b => (indexA P t a b).map .q
    | _, _ => none
  | .index t x ix => match ev x, ev ix with
    | some a, some b => (indexV P t a b).map .q
    | _, _ => none
  | .extract t ix => match ev t with
    | some (.tup vs) => (nthL vs ix).map .q
    | _ => none
  | .call c => (evAll ev c.args.toList).bind fun args => match c.callee with
    | .builtin b => builtinA P b c.argTypes args
    | .value g => match ev g with
      | some (.f f caps) => cond (fnOk P f) (some (.call f (args ++ caps))) none
      | _ => none
    | .invoke .. => none
  | _ => none

/-! ### memory -/
noncomputable def rd (H : Heap) (b o n : Nat) : Option (List AV) := (H.get b).bind fun cs => sub? cs o n
noncomputable def rdSrc (H : Heap) : Src → Option (List AV)
  | .mem b o n => rd H b o n
  | .lit l => some l
noncomputable def alloc (H : Heap) (cells : List AV) : Heap := ⟨Nat.succ H.next, H.m.set H.next (some cells), H.low⟩
noncomputable def wr (H : Heap) (b o : Nat) (new : List AV) : Option Heap := (H.get b).bind fun cs =>
  cond (Nat.ble H.low b && (Nat.ble (o + new.length) cs.length && new.all AV.sc)) (some ⟨H.next, H.m.set b (some (splice cs o new)), H.low⟩) none
/-- append: behind s, whose elements have sz cells, n elements -/
noncomputable def appA (H : Heap) (s : AV) (n : Nat) (src : Src) (sz : Nat) : Option (AV × Heap) :=
  (rdSrc H src).bind fun new => cond (Nat.beq new.length (n * sz)) (match s with
  | .ns => cond (Nat.beq n 0) (some (.ns, H)) (cond (Nat.blt n 32000000) (some (.sl H.next 0 n n false sz, alloc H new)) none)
  | .e z => cond (Nat.beq n 0) (some (.e z, H)) (cond (Nat.blt n 32000000) (some (.sl H.next 0 n n false sz, alloc H new)) none)
  | .sl b o len lo ex z => cond (Nat.beq z sz && Nat.blt (len + n) 32000000)
      (cond (Nat.ble (len + n) lo)
        (cond (Nat.beq n 0) (some (.sl b o len lo ex sz, H)) ((wr H b (o + len * sz) new).map fun H' => (.sl b o (len + n) lo ex sz, H')))
        (cond ex
          ((cond (Nat.beq len 0) (some []) (rd H b o (len * sz))).bind fun old => some (.sl H.next 0 (len + n) (len + n) false sz, alloc H (old ++ new)))
          ((H.get b).bind fun cs => (cond (Nat.beq len 0) (some []) (sub? cs o (len * sz))).bind fun old =>
            cond (Nat.ble H.low b && new.all AV.sc) (some (.sl H.next 0 (len + n) (len + n) false sz, alloc ⟨H.next, H.m.set b none, H.low⟩ (old ++ new))) none)))
      none
  | _ => none) none
abbrev CallA := FuncId → List AV → Heap → Option (AV × Heap)
noncomputable def doEff (call : CallA) (H : Heap) : Eff → Option (Option AV × Heap)
  | .q v => some (some v, H)
  | .r b o n k => (rd H b o n).bind fun cs => (k cs).map fun v => (some v, H)
  | .a cells k => some (some (k H.next), alloc H cells)
  | .w b o src v => (rdSrc H src).bind fun new => (wr H b o new).map fun H' => (v, H')
  | .call f args => (call f args H).bind fun (v, H') => cond (Nat.ble H.next H'.next) (some (some v, H')) none
  | .app s n src sz => (appA H s n src sz).map fun (v, H') => (some v, H')
  | .m b v => cond (Nat.ble H.low b) ((H.get b).map fun _ => (some v, H)) none

/-! ### regions -/
noncomputable def evA (m : T AV) : Operand → Option AV
  | .tmp t => m.get t
  | .const v => conv v
  | .global _ => none
  | .func f => some (.f f [])
noncomputable def putA (N : Nat) (m : T AV) (dst : Option Tmp) (v : Option AV) : Option (T AV) := match dst with
  | none => some m
  | some d => cond (Nat.blt d N) (some (m.set d v)) none
noncomputable def wantedA (ops : Array Oper) (m : T AV) (o : Oper) : Option Bool := match o.guard with
  | none => some true
  | some (j, want) => match (ops[j]?).bind (·.dst) with
    | none => none
    | some d => match m.get d with
      | some (.b c) => some (c == want)
      | some (.x _) => none
      | _ => some false
noncomputable def opA (P : Program) (call : CallA) (N : Nat) (ops : Array Oper) (m : T AV) (H : Heap) (o : Oper) : Option (T AV × Heap) :=
  (wantedA ops m o).bind fun c => cond c
    ((aeff P (evA m) o).bind fun e => (doEff call H e).bind fun (v, H') => (putA N m o.dst v).map fun m' => (m', H'))
    ((putA N m o.dst none).map fun m' => (m', H))
noncomputable def opsA (P : Program) (call : CallA) (N : Nat) (ops : Array Oper) : List Oper → T AV → Heap → Option (T AV × Heap)
  | [], m, H => some (m, H)
  | o :: rest, m, H => (opA P call N ops m H o).bind fun (m', H') => opsA P call N ops rest m' H'

/-! ### regions that draw their order -/
def loud (o : Oper) : Bool := match o.op with
  | .store .. => true
  | .convert s d _ => Nat.beq s d
  | .call c => match c.callee with
    | .builtin .len | .builtin .cap | .builtin .min | .builtin .max => false
    | _ => true
  | _ => false
def makes (o : Oper) : Bool := match o.op with
  | .alloc _ | .box .. | .buildSlice .. | .makeSlice .. | .convert .. => true
  | _ => false
def maskOf (acc : List Nat) : List Edge → Nat
  | [] => 0
  | e :: es => cond (Region.binds .any e) (Nat.lor (Nat.lor (Nat.pow 2 e.on) (acc.getD e.on 0)) (maskOf acc es)) (maskOf acc es)
def edgesOk (n : Nat) : List Edge → Bool
  | [] => true
  | e :: es => cond (Region.binds .any e) (Nat.blt e.on n) true && edgesOk n es
def pairOk (ops : Array Oper) (x y : Oper) (m i : Nat) : Bool :=
  (x.apart ops y && !(loud x && loud y) && !(makes x && loud y)) || m.testBit i
def pairsOk (ops : Array Oper) (y : Oper) (m : Nat) : Nat → List Oper → Bool
  | _, [] => true
  | i, x :: xs => pairOk ops x y m i && pairsOk ops y m (i + 1) xs
/-- the masks, if all is well -/
def drawMs (ops : Array Oper) : List Oper → List Oper → List Nat → Option (List Nat)
  | _, [], acc => some acc
  | prev, o :: rest, acc => cond (edgesOk acc.length o.after.toList && pairsOk ops o (maskOf acc o.after.toList) 0 prev && (match o.op with | .select .. => false | _ => true))
      (drawMs ops (prev ++ [o]) rest (acc ++ [maskOf acc o.after.toList])) none
open Classical in
/-- what is read there is the same -/
noncomputable def sameA (H H' : Heap) (b o n : Nat) : Bool := decide (rd H b o n = rd H' b o n)
noncomputable def lsOk (m b o n : Nat) : List (Nat × Heap × Heap) → Bool
  | [] => true
  | (l, H, H') :: ls => (m.testBit l || sameA H H' b o n) && lsOk m b o n ls
noncomputable def rsOk (m : Nat) (H H' : Heap) : List (Nat × Nat × Nat × Nat) → Bool
  | [] => true
  | (r, b, o, n) :: rs => (m.testBit r || sameA H H' b o n) && rsOk m H H' rs
noncomputable def drawA (P : Program) (call : CallA) (N : Nat) (ops : Array Oper) : List Oper → List Nat → Nat → T AV → Heap → List (Nat × Nat × Nat × Nat) → List (Nat × Heap × Heap) → Option (T AV × Heap)
  | [], _, _, m, H, _, _ => some (m, H)
  | _ :: _, [], _, _, _, _, _ => none
  | o :: rest, mk :: mks, i, m, H, rs, ls => (wantedA ops m o).bind fun c => cond c
      ((aeff P (evA m) o).bind fun e => (doEff call H e).bind fun (v, H') => (putA N m o.dst v).bind fun m' => match e with
        | .q _ | .a _ _ => drawA P call N ops rest mks (i + 1) m' H' rs ls
        | .r b q n _ => cond (lsOk mk b q n ls) (drawA P call N ops rest mks (i + 1) m' H' ((i, b, q, n) :: rs) ls) none
        | _ => cond (rsOk mk H H' rs) (drawA P call N ops rest mks (i + 1) m' H' rs ((i, H, H') :: ls)) none)
      ((putA N m o.dst none).bind fun m' => drawA P call N ops rest mks (i + 1) m' H rs ls)
/-- one operation later: what stands at i comes to stand at j -/
def mvP (i j k : Nat) : Nat := cond (Nat.blt k i) k (cond (Nat.blt k j) (Nat.succ k) (cond (Nat.beq k j) i k))
def mvS (i j x : Nat) : Nat := cond (Nat.blt x i) x (cond (Nat.beq x i) j (cond (Nat.ble x j) (Nat.pred x) x))
def mvO (i j : Nat) (o : Oper) : Oper := { o with after := (o.after.toList.map fun e => { e with on := mvS i j e.on }).toArray }
def mvOps (ops : Array Oper) (i j : Nat) : Array Oper := match ops[i]? with
  | some o => ((List.range ops.size).map fun k => mvO i j (ops.getD (mvP i j k) o)).toArray
  | none => ops
def noGuards : List Oper → Bool
  | [] => true
  | o :: l => match o.guard with
    | none => noGuards l
    | some _ => false
def tryMv (ops : Array Oper) : List (Nat × Nat) → Option (Array Oper × List Nat)
  | [] => none
  | (i, j) :: l => match cond (Nat.blt i j && Nat.blt j ops.size) (drawMs (mvOps ops i j) [] (mvOps ops i j).toList []) none with
    | some ms => some (mvOps ops i j, ms)
    | none => tryMv ops l
def pairsAt (j : Nat) : Nat → List (Nat × Nat)
  | 0 => []
  | i + 1 => (i, j) :: pairsAt j i
def pairsTo : Nat → List (Nat × Nat)
  | 0 => []
  | j + 1 => pairsTo j ++ pairsAt j j
/-- the order in which a region is run: the written one, or with one operation later -/
def lateMs (ops : Array Oper) : Option (Array Oper × List Nat) := match drawMs ops [] ops.toList [] with
  | some ms => some (ops, ms)
  | none => cond (noGuards ops.toList) (tryMv ops (pairsTo ops.size)) none
noncomputable def regionA (P : Program) (call : CallA) (N : Nat) (m : T AV) (H : Heap) (ops : Array Oper) (draw : Bool) : Option (T AV × Heap) :=
  cond draw ((lateMs ops).bind fun (ops', ms) => drawA P call N ops' ops'.toList ms 0 m H [] []) (opsA P call N ops ops.toList m H)

/-! ### code, calls -/
noncomputable def initA : List AV → Nat → T AV → T AV
  | [], _, m => m
  | v :: vs, i, m => initA vs (i + 1) (m.set i (some v))
noncomputable def resV (P : Program) (m : T AV) (H : Heap) : ResultVar → Option AV
  | .tmp t => m.get t
  | .cell a t => match m.get a with
    | some (.p b o) => match isAggT P t with
      | some true => (szOf P t).bind fun n => (rd H b o n).map .agg
      | some false => (rd H b o 1).bind fun cs => cs.head?
      | none => none
    | _ => none
noncomputable def resL (P : Program) (m : T AV) (H : Heap) : List ResultVar → Option (List AV)
  | [] => some []
  | r :: rs => match resV P m H r, resL P m H rs with
    | some v, some vs => some (v :: vs)
    | _, _ => none
def tupled : List AV → AV
  | [v] => v
  | vs => .tup vs
abbrev RunA := Nat → T AV → List Item → Heap → Option (T AV × Heap)
noncomputable def callA (P : Program) (rec : RunA) : CallA := fun f args H => match P.funcs[f]? with
  | some fn => match fn.body with
    | some c => cond (Nat.ble args.length fn.ntmps) ((rec fn.ntmps (initA args 0 .lf) [.code c] H).bind fun (m, H') => (resL P m H' fn.results.toList).map fun vs => (tupled vs, H')) none
    | none => none
  | none => none
noncomputable def stepA (P : Program) (rec : RunA) : RunA := fun N m todo H => match todo with
  | [] => some (m, H)
  | .code c :: k => match c with
    | .skip | .label _ => rec N m k H
    | .ret => some (m, H)
    | .seq x y => rec N m (.code x :: .code y :: k) H
    | .cond c x y => match evA m c with
      | some (.b true) => rec N m (.code x :: k) H
      | some (.b false) => rec N m (.code y :: k) H
      | _ => none
    | .block id x => rec N m (.code x :: .inBlock id :: k) H
    | .loop x => rec N m (.code x :: .inLoop x :: k) H
    | .scope x => rec N m (.code x :: .inScope x :: k) H
    | .exit id => (exitTo id k).bind fun k' => rec N m k' H
    | .goto l => (gotoIn l k).bind fun k' => rec N m k' H
    | .region _ ops d => (regionA P (callA P rec) N m H ops d).bind fun (m', H') => rec N m' k H'
    | _ => none
  | .inBlock _ :: k | .inScope _ :: k => rec N m k H
  | .inLoop x :: k => rec N m (.code x :: .inLoop x :: k) H
  | _ => none
noncomputable def runA (P : Program) (n : Nat) : RunA := Nat.rec (motive := fun _ => RunA) (fun _ _ _ _ => none) (fun _ ih => stepA P ih) n

end Go.Proofs.YthnhdgcaolgdnaaAn
