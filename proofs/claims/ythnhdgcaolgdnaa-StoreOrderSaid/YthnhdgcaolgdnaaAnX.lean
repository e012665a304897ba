/- Conditions under which code does what is said. Definitions. -/
import Derived.Test.YthnhdgcaolgdnaaAnW
set_option linter.unusedVariables false
set_option linter.unusedSimpArgs false
namespace Go.Proofs.YthnhdgcaolgdnaaAn
open Go

/-! ### regions -/
noncomputable def vcGuard (ops : Array Oper) (o : Oper) (s : VS) (run skip : VS → Prop) : Prop := match o.guard with
  | none => run s
  | some (j, want) => match (ops[j]?).bind (·.dst) with
    | none => False
    | some d => match s.m.get d with
      | some (_, none) => skip s
      | some (_, some (.kb c)) => match c == want with
        | true => run s
        | false => skip s
      | some (_, some (.bb c)) => onB c (match want with
          | true => run (s.put d (some (.kb true)))
          | false => skip (s.put d (some (.kb true)))) (match want with
          | true => skip (s.put d (some (.kb false)))
          | false => run (s.put d (some (.kb false))))
      | _ => False
noncomputable def vcPut (N : Nat) (dst : Option Tmp) (v : Option SV) (s : VS) (K : VS → Prop) : Prop := match dst with
  | none => K s
  | some d => match Nat.blt d N with
    | true => K (s.put d v)
    | false => False
noncomputable def vcOps (P : Program) (N : Nat) (ops : Array Oper) : List Oper → VS → Hp → (VS → Hp → Prop) → Prop
  | [], s, h, K => K s h
  | o :: rest, s, h, K => vcGuard ops o s (fun s => vcOp P o s h fun _ v s h => vcPut N o.dst v s fun s => vcOps P N ops rest s h K) (fun s => vcPut N o.dst none s fun s => vcOps P N ops rest s h K)
/-- 0: they don't meet · 1: they may · 2: as long as what is read is the same -/
noncomputable def pairK (L : T (Nat × Nat × List SV)) (r l : EK) : Nat := match r, l with
  | .rl k o n, .wl k' o' n' => cond (Nat.beq k k') (cond (Nat.ble (o + n) o' || Nat.ble (o' + n') o) 0 1) 0
  | .rl k _ _, .we => match L.get k with
    | some _ => 0
    | none => 1
  | .re .., .wl k' _ _ => match L.get k' with
    | some _ => 0
    | none => 1
  | .re .., .we => 2
  | _, _ => 1
def sameH (h h' : Hp) (b o n : Nat) : Prop := onO (rdH h b o n) fun x => rdH h' b o n = some x
def sameK (r : EK) (h h' : Hp) : Prop := match r with
  | .re b o n => sameH h h' b o n
  | _ => False
abbrev RSV := List (Nat × EK)
abbrev LSV := List (Nat × EK × Hp × Hp)
noncomputable def chkR (mk : Nat) (r : EK) (L : T (Nat × Nat × List SV)) : LSV → Prop → Prop
  | [], X => X
  | (i, l, h, h') :: ls, X => match mk.testBit i with
    | true => chkR mk r L ls X
    | false => match pairK L r l with
      | 0 => chkR mk r L ls X
      | 1 => False
      | _ => sameK r h h' ∧ chkR mk r L ls X
noncomputable def chkL (mk : Nat) (l : EK) (L : T (Nat × Nat × List SV)) (h h' : Hp) : RSV → Prop → Prop
  | [], X => X
  | (i, r) :: rs, X => match mk.testBit i with
    | true => chkL mk l L h h' rs X
    | false => match pairK L r l with
      | 0 => chkL mk l L h h' rs X
      | 1 => False
      | _ => sameK r h h' ∧ chkL mk l L h h' rs X
noncomputable def vcDraw (P : Program) (N : Nat) (ops : Array Oper) : List Oper → List Nat → Nat → VS → Hp → RSV → LSV → (VS → Hp → Prop) → Prop
  | [], _, _, s, h, _, _, K => K s h
  | _ :: _, [], _, _, _, _, _, _ => False
  | o :: rest, mk :: mks, i, s, h, rs, ls, K => vcGuard ops o s
    (fun s => vcOp P o s h fun ek v s' h' => vcPut N o.dst v s' fun s' => match ek with
      | .q => vcDraw P N ops rest mks (i + 1) s' h' rs ls K
      | .rl .. | .re .. => chkR mk ek s'.L ls (vcDraw P N ops rest mks (i + 1) s' h' ((i, ek) :: rs) ls K)
      | _ => chkL mk ek s'.L h h' rs (vcDraw P N ops rest mks (i + 1) s' h' rs ((i, ek, h, h') :: ls) K))
    (fun s => vcPut N o.dst none s fun s => vcDraw P N ops rest mks (i + 1) s h rs ls K)
noncomputable def vcRegion (P : Program) (N : Nat) (ops : Array Oper) (d : Bool) (s : VS) (h : Hp) (K : VS → Hp → Prop) : Prop := match d with
  | false => vcOps P N ops ops.toList s h K
  | true => match lateMs ops with
    | some (ops', ms) => vcDraw P N ops' ops'.toList ms 0 s h [] [] K
    | none => False

/-! ### what a loop may change -/
def asg : Code → List Nat
  | .region _ ops _ => ops.toList.filterMap (·.dst)
  | .seq a b => asg a ++ asg b
  | .cond _ a b => asg a ++ asg b
  | .block _ b | .loop b | .scope b => asg b
  | _ => []
def baseOf (ops : List Oper) : Nat → Operand → Option Nat
  | 0, _ => none
  | n + 1, .tmp t => match ops.find? fun o => match o.dst with
      | some d => Nat.beq d t
      | none => false with
    | some o => match o.op with
      | .fieldAddr _ y _ | .indexAddr _ y _ | .nilCheck y | .move y => baseOf ops n y
      | _ => none
    | none => some t
  | _, _ => none
def stb : Code → List Nat
  | .region _ ops _ => ops.toList.filterMap fun o => match o.op with
    | .store _ a _ => baseOf ops.toList 100 a
    | _ => none
  | .seq a b => stb a ++ stb b
  | .cond _ a b => stb a ++ stb b
  | .block _ b | .loop b | .scope b => stb b
  | _ => []
/-- what calls are handed -/
def clb : Code → List Nat
  | .region _ ops _ => ops.toList.flatMap fun o => match o.op with
    | .call c => match c.callee with
      | .value g => (g :: c.args.toList).filterMap (baseOf ops.toList 100)
      | _ => []
    | _ => []
  | .seq a b => clb a ++ clb b
  | .cond _ a b => clb a ++ clb b
  | .block _ b | .loop b | .scope b => clb b
  | _ => []
def isIn (n : Nat) : List Nat → Bool
  | [] => false
  | x :: l => cond (Nat.beq n x) true (isIn n l)
def once : List Nat → List Nat
  | [] => []
  | x :: l => cond (isIn x l) (once l) (x :: once l)
def codesOf : List Item → List Code
  | .code c :: k => c :: codesOf k
  | _ => []
def kdS : SV → Option Kd
  | .kb _ | .bb _ => some .bool
  | .ki k _ | .ii k _ => some (.int k)
  | .ss _ => some .str
  | .ag _ | .tp _ => none
  | _ => some .ref
def kdsS : List SV → Option (List Kd)
  | [] => some []
  | x :: l => match kdS x, kdsS l with
    | some k, some ks => some (k :: ks)
    | _, _ => none
def shS : SV → Option Sh
  | .ag l => (kdsS l).map .agg
  | x => (kdS x).map .one
noncomputable def knownS (s : VS) : List Nat → List SV
  | [] => []
  | t :: l => match s.get t with
    | some x => x :: knownS s l
    | none => knownS s l
/-- the temporaries that change, and that are known ahead of the loop -/
noncomputable def hvT (s : VS) : List Nat → List (Nat × Sh)
  | [] => []
  | t :: l => match s.get t with
    | some x => match shS x with
      | some sh => (t, sh) :: hvT s l
      | none => hvT s l
    | none => hvT s l
noncomputable def hvL (s : VS) : List Nat → List Nat
  | [] => []
  | t :: l => match s.get t with
    | some (.lp k _ _) | some (.ls k _ _ _) => k :: hvL s l
    | _ => hvL s l
noncomputable def hvK (s : VS) : List Nat → List (Nat × List Kd)
  | [] => []
  | k :: l => match s.L.get k with
    | some (_, _, cs) => match kdsS cs with
      | some ks => (k, ks) :: hvK s l
      | none => hvK s l
    | none => hvK s l
def kindsT : List (Nat × Sh) → List Kd
  | [] => []
  | (_, sh) :: l => shKinds sh ++ kindsT l
def kindsL : List (Nat × List Kd) → List Kd
  | [] => []
  | (_, ks) :: l => ks ++ kindsL l
noncomputable def valsT (s : VS) : List (Nat × Sh) → Option (List SV)
  | [] => some []
  | (t, .one _) :: l => match s.get t, valsT s l with
    | some x, some xs => some (x :: xs)
    | _, _ => none
  | (t, .agg ks) :: l => match s.get t, valsT s l with
    | some (.ag cs), some xs => cond (Nat.beq cs.length ks.length) (some (cs ++ xs)) none
    | _, _ => none
noncomputable def valsL (s : VS) : List (Nat × List Kd) → Option (List SV)
  | [] => some []
  | (k, ks) :: l => match s.L.get k, valsL s l with
    | some (_, _, cs), some xs => cond (Nat.beq cs.length ks.length) (some (cs ++ xs)) none
    | _, _ => none
/-- the state with other values there -/
noncomputable def putT (s : VS) : List (Nat × Sh) → List SV → VS
  | [], _ => s
  | (t, .one _) :: l, x :: xs => putT (s.put t (some x)) l xs
  | (t, .agg ks) :: l, xs => putT (s.put t (some (.ag (xs.take ks.length)))) l (xs.drop ks.length)
  | _, _ => s
noncomputable def putL (s : VS) : List (Nat × List Kd) → List SV → VS
  | [], _ => s
  | (k, ks) :: l, xs => match s.L.get k with
    | some (_, id, _) => putL (s.setL k id (xs.take ks.length)) l (xs.drop ks.length)
    | none => putL s l (xs.drop ks.length)
/-- what is known and does not change -/
noncomputable def keepT (m : T (Nat × Option SV)) (as : List Nat) : Nat → T (Nat × Option SV)
  | 0 => .lf
  | t + 1 => match m.get t with
    | some x => cond (isIn t as) (keepT m as t) ((keepT m as t).set t (some x))
    | none => keepT m as t
noncomputable def unS (N : Nat) (s : VS) (as : List Nat) : VS := ⟨keepT s.m as N, s.L, s.nl, s.st⟩
noncomputable def headOf (N : Nat) (s : VS) (as : List Nat) (hv : List (Nat × Sh)) (hl : List (Nat × List Kd)) (vs : List SV) : VS := putL (putT (unS N s as) hv vs) hl (vs.drop (kindsT hv).length)
def FunKH : List Kd → Type
  | [] => Hp → Prop
  | .int _ :: ks => Int → FunKH ks
  | .bool :: ks => Bool → FunKH ks
  | .str :: ks => List Nat → FunKH ks
  | .ref :: ks => AV → FunKH ks
def apH : (ks : List Kd) → FunKH ks → List SV → Hp → Prop
  | [], I, [], h => I h
  | .int k :: ks, I, x :: xs, h => match asI x with
    | some (k', n) => match kEq k k' with
      | true => apH ks (I n) xs h
      | false => False
    | none => False
  | .bool :: ks, I, x :: xs, h => match asB x with
    | some c => apH ks (I c) xs h
    | none => False
  | .str :: ks, I, x :: xs, h => match x with
    | .ss l => apH ks (I l) xs h
    | _ => False
  | .ref :: ks, I, x :: xs, h => match x.one with
    | true => apH ks (I x.av) xs h
    | false => False
  | _, _, _, _ => False
def allH : (ks : List Kd) → (List SV → Prop) → Prop
  | [], K => K []
  | .int k :: ks, K => ∀ n : Int, allH ks fun l => K (.ii k n :: l)
  | .bool :: ks, K => ∀ c : Bool, allH ks fun l => K (.bb c :: l)
  | .str :: ks, K => ∀ s : List Nat, allH ks fun l => K (.ss s :: l)
  | .ref :: ks, K => ∀ a : AV, a.sc = true → allH ks fun l => K (.vv a :: l)
/-- nothing else has changed -/
noncomputable def keptT (s0 s : VS) (hv : List Nat) : Nat → Bool
  | 0 => true
  | t + 1 => keptT s0 s hv t && (match s0.m.get t with
    | none => true
    | some _ => isIn t hv || (match s.m.get t with
      | some (st, _) => Nat.blt st s0.st
      | none => false))
noncomputable def keptL (s0 s : VS) (hv : List Nat) : Nat → Bool
  | 0 => true
  | k + 1 => keptL s0 s hv k && (match s0.L.get k with
    | none => true
    | some _ => isIn k hv || (match s.L.get k with
      | some (st, _, _) => Nat.blt st s0.st
      | none => false))

/-! ### a state, spelt out -/
mutual
def frc : SV → (SV → Prop) → Prop
  | .kb c, K => K (.kb c)
  | .bb c, K => K (.bb c)
  | .ki k n, K => K (.ki k n)
  | .ii k n, K => K (.ii k n)
  | .ss l, K => K (.ss l)
  | .lp k id o, K => K (.lp k id o)
  | .pp b o, K => K (.pp b o)
  | .np, K => K .np
  | .ns, K => K .ns
  | .nf, K => K .nf
  | .ls k id len sz, K => K (.ls k id len sz)
  | .vv a, K => K (.vv a)
  | .ff f l, K => frcs l fun l => K (.ff f l)
  | .ag l, K => frcs l fun l => K (.ag l)
  | .tp l, K => frcs l fun l => K (.tp l)
def frcs : List SV → (List SV → Prop) → Prop
  | [], K => K []
  | x :: l, K => frc x fun x => frcs l fun l => K (x :: l)
end
def frcT : T (Nat × Option SV) → (T (Nat × Option SV) → Prop) → Prop
  | .lf, K => K .lf
  | .nd l v r, K => frcT l fun l => frcT r fun r => match v with
    | some (st, some x) => frc x fun x => K (.nd l (some (st, some x)) r)
    | some (st, none) => K (.nd l (some (st, none)) r)
    | none => K (.nd l none r)
def frcL : T (Nat × Nat × List SV) → (T (Nat × Nat × List SV) → Prop) → Prop
  | .lf, K => K .lf
  | .nd l v r, K => frcL l fun l => frcL r fun r => match v with
    | some (st, id, cs) => frcs cs fun cs => K (.nd l (some (st, id, cs)) r)
    | none => K (.nd l none r)
def frcS (s : VS) (K : VS → Prop) : Prop := frcT s.m fun m => frcL s.L fun L => K ⟨m, L, s.nl, s.st⟩
mutual
theorem frc_eq : ∀ (x : SV) (K : SV → Prop), frc x K = K x
  | .kb c, K | .bb c, K | .ki k n, K | .ii k n, K | .ss l, K | .lp k id o, K | .pp b o, K | .np, K | .ns, K | .nf, K | .ls k id len sz, K | .vv a, K => by simp only [frc]
  | .ff f l, K => by simp only [frc]; exact frcs_eq l _
  | .ag l, K => by simp only [frc]; exact frcs_eq l _
  | .tp l, K => by simp only [frc]; exact frcs_eq l _
theorem frcs_eq : ∀ (l : List SV) (K : List SV → Prop), frcs l K = K l
  | [], K => by simp only [frcs]
  | x :: l, K => by
    simp only [frcs]
    rw [frc_eq x]; exact frcs_eq l _
end
theorem frcT_eq : ∀ (t : T (Nat × Option SV)) (K : T (Nat × Option SV) → Prop), frcT t K = K t
  | .lf, K => rfl
  | .nd l v r, K => by
    simp only [frcT]
    rw [frcT_eq l, frcT_eq r]
    split
    · exact frc_eq _ _
    · rfl
    · rfl
theorem frcL_eq : ∀ (t : T (Nat × Nat × List SV)) (K : T (Nat × Nat × List SV) → Prop), frcL t K = K t
  | .lf, K => rfl
  | .nd l v r, K => by
    simp only [frcL]
    rw [frcL_eq l, frcL_eq r]
    split
    · exact frcs_eq _ _
    · rfl
theorem frcS_eq (s : VS) (K : VS → Prop) : frcS s K = K s := by
  unfold frcS
  rw [frcT_eq, frcL_eq]

/-! ### code -/
/-- a loop · a label · where ways come together -/
inductive HKey where
  | lp | lb (l : Nat) | jn
structure Hd where
  key : HKey
  len : Nat
  run : VS → Hp → Prop
def keyEq : HKey → HKey → Bool
  | .lp, .lp | .jn, .jn => true
  | .lb a, .lb b => Nat.beq a b
  | _, _ => false
def findH (key : HKey) (len : Nat) : List Hd → Option (VS → Hp → Prop)
  | [] => none
  | d :: E => cond (keyEq key d.key && Nat.beq len d.len) (some d.run) (findH key len E)
def keepH (len : Nat) : List Hd → List Hd
  | [] => []
  | d :: E => cond (Nat.ble d.len len) (d :: keepH len E) (keepH len E)
def itemsLen : List Item → Nat
  | [] => 0
  | _ :: k => Nat.succ (itemsLen k)
/-- a loop's head: an invariant of what changes in it, with how many rounds are left at most -/
noncomputable def vcBack (N : Nat) (hv : List (Nat × Sh)) (hl : List (Nat × List Kd)) (s0 : VS) (ok : List SV → Hp → Prop) (s : VS) (h : Hp) : Prop := match valsT s hv, valsL s hl with
  | some xs, some ys => esc s h (xs ++ ys) fun s h => match keptT s0 s (hv.map (·.1)) N && keptL s0 s (hl.map (·.1)) s0.nl with
    | true => match valsL s hl with
      | some ys => ok (xs ++ ys) h
      | none => False
    | false => False
  | _, _ => False
noncomputable def vcHead (N : Nat) (as : List Nat) (hv : List (Nat × Sh)) (hl : List (Nat × List Kd)) (xs ys : List SV) (s : VS) (h : Hp) (go : VS → Hp → (VS → Hp → Prop) → Prop) : Prop :=
  ∃ Inv : Nat → FunKH (kindsT hv ++ kindsL hl), (∃ n, apH (kindsT hv ++ kindsL hl) (Inv n) (xs ++ ys) h) ∧
    ∀ n h', allH (kindsT hv ++ kindsL hl) fun vs => apH (kindsT hv ++ kindsL hl) (Inv n) vs h' →
      frcS (headOf N s as hv hl vs) fun sH => go sH h' (vcBack N hv hl sH fun zs h' => ∃ n', ltN n' n ∧ apH (kindsT hv ++ kindsL hl) (Inv n') zs h')
noncomputable def vcCut (N : Nat) (body : List Code) (s : VS) (h : Hp) (go : VS → Hp → (VS → Hp → Prop) → Prop) : Prop :=
  esc s h (knownS s (once (body.flatMap clb))) fun s h => match valsT s (hvT s (once (body.flatMap asg))), valsL s (hvK s (once (hvL s (body.flatMap stb)))) with
    | some xs, some ys => esc s h (xs ++ ys) fun s h => match valsL s (hvK s (once (hvL s (body.flatMap stb)))) with
      | some ys => vcHead N (once (body.flatMap asg)) (hvT s (once (body.flatMap asg))) (hvK s (once (hvL s (body.flatMap stb)))) xs ys s h go
      | none => False
    | _, _ => False
/-- where ways come together: what is known there of what has changed -/
noncomputable def vcJoin (N : Nat) (as : List Nat) (hv : List (Nat × Sh)) (hl : List (Nat × List Kd)) (s : VS) (goX : (VS → Hp → Prop) → Prop) (goK : VS → Hp → Prop) : Prop :=
  ∃ J : FunKH (kindsT hv ++ kindsL hl), goX (vcBack N hv hl s fun zs h' => apH (kindsT hv ++ kindsL hl) J zs h') ∧
    ∀ h', allH (kindsT hv ++ kindsL hl) fun vs => apH (kindsT hv ++ kindsL hl) J vs h' → frcS (headOf N s as hv hl vs) fun sH => goK sH h'
def opsOf : Code → List Oper
  | .region _ ops _ => ops.toList
  | .seq a b => opsOf a ++ opsOf b
  | .cond _ a b => opsOf a ++ opsOf b
  | .block _ b | .loop b | .scope b => opsOf b
  | _ => []
def tyOf (t : Nat) : List Oper → Option TypeId
  | [] => none
  | o :: l => match o.dst with
    | some d => cond (Nat.beq d t) (some o.type) (tyOf t l)
    | none => tyOf t l
/-- temporaries that are asked for there, and that were not known ahead -/
noncomputable def hvE (P : Program) (s : VS) (ops : List Oper) (as : List Nat) : List Nat → List (Nat × Sh)
  | [] => []
  | t :: l => cond (isIn t as) (match s.get t with
    | some _ => hvE P s ops as l
    | none => match tyOf t ops with
      | some ty => match shapeOf P ty with
        | some sh => (t, sh) :: hvE P s ops as l
        | none => hvE P s ops as l
      | none => hvE P s ops as l) (hvE P s ops as l)
noncomputable def vcJoinCut (P : Program) (N : Nat) (ex : List Nat) (x : Code) (s : VS) (h : Hp) (goX : VS → Hp → (VS → Hp → Prop) → Prop) (goK : VS → Hp → Prop) : Prop :=
  esc s h (knownS s (once (clb x))) fun s h => vcJoin N (once (asg x)) (hvT s (once (asg x)) ++ hvE P s (opsOf x) (once (asg x)) (once ex)) (hvK s (once (hvL s (stb x)))) s (goX s h) goK
def regOf : Code → Option Nat
  | .region id _ _ => some id
  | .seq a _ => regOf a
  | _ => none
def keyC : Code → Option Nat
  | .region id _ _ => some (2 * id)
  | .cond _ a b => match regOf a with
    | some id => some (2 * id + 1)
    | none => (regOf b).map fun id => 2 * id + 1
  | _ => none
/-- the temporaries asked for where the ways through a part come together: in 'cuts' as numbers from 1000000 on -/
def joinsK (key : Nat) : List Nat → Option (List Nat)
  | [] => none
  | n :: l => cond (Nat.beq (Nat.div n 1000000) (key + 1)) (match joinsK key l with
    | some ts => some (Nat.mod n 1000000 :: ts)
    | none => some [Nat.mod n 1000000]) (joinsK key l)
def joins (cuts : List Nat) (x : Code) : Option (List Nat) := match keyC x with
  | some key => joinsK key cuts
  | none => none
noncomputable def vcCond (rec : List Item → VS → Hp → Prop) (c : Operand) (x y : Code) (k : List Item) (s : VS) (h : Hp) : Prop := match evS s c with
  | some (.kb true) => rec (.code x :: k) s h
  | some (.kb false) => rec (.code y :: k) s h
  | some (.bb c) => onB c (rec (.code x :: k) s h) (rec (.code y :: k) s h)
  | _ => False
noncomputable def vcStep (P : Program) (N : Nat) (cuts : List Nat) (K : VS → Hp → Prop) (rec : List Hd → List Item → VS → Hp → Prop) (E : List Hd) (todo : List Item) (s : VS) (h : Hp) : Prop := match findH .jn (itemsLen todo) E with
  | some g => g s h
  | none => match todo with
    | [] => K s h
    | .code c :: k => match c with
      | .skip => rec E k s h
      | .label l => match isIn l cuts, gotoIn l k with
        | true, some T => vcCut N (codesOf T) s h fun s h back => Both (rec (⟨.lb l, Nat.pred (itemsLen T), back⟩ :: E) k s h) (rec (⟨.lb l, Nat.pred (itemsLen T), back⟩ :: keepH (Nat.pred (itemsLen T)) E) T s h)
        | _, _ => rec E k s h
      | .ret => K s h
      | .seq x y => match joins cuts x with
        | some ex => vcJoinCut P N ex x s h (fun s h back => rec (⟨.jn, Nat.succ (itemsLen k), back⟩ :: E) (.code x :: .code y :: k) s h) (fun s h => rec E (.code y :: k) s h)
        | none => rec E (.code x :: .code y :: k) s h
      | .cond c x y => match joins cuts (.cond c x y) with
        | some ex => vcJoinCut P N ex (.cond c x y) s h (fun s h back => vcCond (rec (⟨.jn, itemsLen k, back⟩ :: E)) c x y k s h) (fun s h => rec E k s h)
        | none => vcCond (rec E) c x y k s h
      | .block id x => rec E (.code x :: .inBlock id :: k) s h
      | .loop x => match isIn 999999 cuts with
        | true => escs (fun s h => vcCut N [x] s h fun s h back => rec (⟨.lp, Nat.succ (itemsLen k), back⟩ :: E) (.code x :: .inLoop x :: k) s h) 1000 (List.range s.nl) s h
        | false => vcCut N [x] s h fun s h back => rec (⟨.lp, Nat.succ (itemsLen k), back⟩ :: E) (.code x :: .inLoop x :: k) s h
      | .scope x => rec E (.code x :: .inScope x :: k) s h
      | .exit id => match exitTo id k with
        | some k' => rec (keepH (itemsLen k') E) k' s h
        | none => False
      | .goto l => match gotoIn l k with
        | some T => match findH (.lb l) (Nat.pred (itemsLen T)) E with
          | some g => g s h
          | none => rec (keepH (Nat.pred (itemsLen T)) E) T s h
        | none => False
      | .region _ ops d => vcRegion P N ops d s h fun s h => frcS s fun s => rec E k s h
      | _ => False
    | .inBlock _ :: k | .inScope _ :: k => rec (keepH (itemsLen k) E) k s h
    | .inLoop x :: k => match findH .lp (Nat.succ (itemsLen k)) E with
      | some g => g s h
      | none => False
    | _ => False
noncomputable def vcRun (P : Program) (N : Nat) (cuts : List Nat) (K : VS → Hp → Prop) (n : Nat) : List Hd → List Item → VS → Hp → Prop :=
  Nat.rec (motive := fun _ => List Hd → List Item → VS → Hp → Prop) (fun _ _ _ _ => False) (fun _ rec => vcStep P N cuts K rec) n
/-! ### calls -/
noncomputable def initS : List SV → Nat → VS → VS
  | [], _, s => s
  | v :: vs, i, s => initS vs (i + 1) (s.put i (some v))
noncomputable def resS (P : Program) (s : VS) (h : Hp) (r : ResultVar) (K : SV → Prop) : Prop := match r with
  | .tmp t => match s.get t with
    | some v => K v
    | none => False
  | .cell a t => match s.get a with
    | some a => vcLoad P t a s h fun _ v _ _ => match v with
      | some v => K v
      | none => False
    | none => False
noncomputable def resSs (P : Program) (s : VS) (h : Hp) : List ResultVar → (List SV → Prop) → Prop
  | [], K => K []
  | r :: rs, K => resS P s h r fun v => resSs P s h rs fun vs => K (v :: vs)
noncomputable def vcCall (P : Program) (cuts : List Nat) (f : FuncId) (args : List SV) (h : Hp) (Post : AV → Hp → Prop) : Prop := match P.funcs[f]? with
  | some fn => match fn.body with
    | some c => match Nat.ble args.length fn.ntmps with
      | true => vcRun P fn.ntmps cuts (fun s h => resSs P s h fn.results.toList fun vs => esc s h vs fun s h => Post (tupled (SV.avs vs)) h) 10000 [] [.code c] (initS args 0 ⟨.lf, .lf, 0, 0⟩) h
      | false => False
    | none => False
  | none => False
end Go.Proofs.YthnhdgcaolgdnaaAn
