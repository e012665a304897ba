/- The same evaluator, each operation prepared once: values that ask nothing of memory. -/
import Derived.Test.YtpoohfmddkgndaaAmV
set_option linter.unusedVariables false
set_option linter.unusedSimpArgs false
namespace Go.Proofs.YtpoohfmddkgndaaAm
open Go

macro "ob% " x:term:max κ:term:max : term => `(Option.rec (motive := fun _ => RO) none $κ $x)
noncomputable def forceN (n : Nat) (κ : Nat → RO) : RO := Nat.rec (motive := fun _ => (Nat → RO) → RO) (fun κ => κ 0) (fun k _ κ => κ (Nat.succ k)) n κ
theorem forceN_eq (n : Nat) (κ : Nat → RO) : forceN n κ = κ n := by cases n <;> rfl

/-! ### operands, results -/
noncomputable def getC (x : Operand) : Way AV := match x with
  | .tmp t => way AV t
  | .const v => Option.rec (motive := fun _ => Way AV) (.mk fun _ => none) (fun a => .mk fun _ => some a) (conv v)
  | .global _ => .mk fun _ => none
  | .func f => .mk fun _ => some (.f f [])
theorem getC_eq (x : Operand) (m : T AV) : (getC x).f m = evA m x := by
  cases x with
  | tmp t => exact way_eq t m
  | const v => show (Option.rec (motive := fun _ => Way AV) (.mk fun _ => none) (fun a => .mk fun _ => some a) (conv v) : Way AV).f m = conv v
               cases conv v <;> rfl
  | global g => rfl
  | func f => rfl
structure PutC where
  f : Option AV → T AV → (T AV → RO) → RO
noncomputable def putC (N : Nat) (dst : Option Tmp) : PutC := match dst with
  | none => .mk fun _ m κ => κ m
  | some d => cond (Nat.blt d N) (Set'.rec (motive := fun _ => PutC) (fun s => .mk fun v m κ => κ (s v m)) (setW AV d)) (.mk fun _ _ _ => none)
theorem putC_eq (N : Nat) (dst : Option Tmp) (v : Option AV) (m : T AV) (κ : T AV → RO) : (putC N dst).f v m κ = (putA N m dst v).bind κ := by
  cases dst with
  | none => rfl
  | some d =>
    unfold putC putA
    simp only
    cases Nat.blt d N with
    | false => rfl
    | true =>
      simp only [cond_true]
      have := setW_eq d v m
      cases hs : setW AV d with
      | mk s => rw [hs] at this; show κ (s v m) = _; rw [show s v m = m.set d v from this]; rfl
structure GuC where
  f : T AV → RO → RO → RO
noncomputable def toG (want : Bool) (v : AV) : RO → RO → RO := @AV.rec (fun _ => RO → RO → RO) (fun _ => PUnit)
  (fun c => cc% (c == want) (fun x _ => x) (fun _ y => y)) (fun _ _ _ y => y) (fun _ _ y => y) (fun _ _ _ y => y) (fun _ y => y) (fun _ _ _ _ _ _ _ y => y) (fun _ y => y) (fun _ _ _ _ y => y) (fun _ y => y) (fun _ _ _ y => y) (fun _ _ _ y => y) (fun _ _ _ => none) ⟨⟩ (fun _ _ _ _ => ⟨⟩) v
noncomputable def guC (ops : Array Oper) (o : Oper) : GuC := match o.guard with
  | none => .mk fun _ x _ => x
  | some (j, want) => match (ops[j]?).bind (·.dst) with
    | none => .mk fun _ _ _ => none
    | some d => Way.rec (motive := fun _ => GuC) (fun g => .mk fun m x y => Option.rec (motive := fun _ => RO) y (fun v => toG want v x y) (g m)) (way AV d)
theorem guC_eq (ops : Array Oper) (o : Oper) (m : T AV) (x y : RO) : (guC ops o).f m x y = (wantedA ops m o).bind fun c => cond c x y := by
  unfold guC wantedA
  cases o.guard with
  | none => rfl
  | some jw =>
    obtain ⟨j, want⟩ := jw
    simp only
    cases (ops[j]?).bind (·.dst) with
    | none => rfl
    | some d =>
      simp only
      have := way_eq d m
      cases hw : way AV d with
      | mk g =>
        rw [hw] at this
        have this : g m = m.get d := this
        show Option.rec (motive := fun _ => RO) y (fun v => toG want v x y) (g m) = _
        rw [this]
        cases m.get d with
        | none => rfl
        | some v =>
          cases v <;> first | rfl | skip
          rename_i c
          show (cc% (c == want) (fun x _ => x) (fun _ y => y) : RO → RO → RO) x y = cond (c == want) x y
          cases (c == want) <;> rfl

/-! ### two whole numbers -/
structure BinC where
  f : AV → AV → (AV → RO) → RO
noncomputable def binS (P : Program) (op : BinOp) (t : TypeId) (a b : AV) (κ : AV → RO) : RO := ob% (binA P op t a b) κ
noncomputable def addK (P : Program) (t : TypeId) (a b : AV) (κ : AV → RO) (k k' : IntKind) (x y : Nat) : RO :=
  cc% (cc% (kEq k k') (Nat.blt (Nat.add x y) (kTop k)) false) (forceN (Nat.add x y) fun z => κ (.i k (.ofNat z))) (binS P .add t a b κ)
noncomputable def subK (P : Program) (t : TypeId) (a b : AV) (κ : AV → RO) (k k' : IntKind) (x y : Nat) : RO :=
  cc% (cc% (kEq k k') (cc% (Nat.ble y x) (Nat.blt x (kTop k)) false) false) (forceN (Nat.sub x y) fun z => κ (.i k (.ofNat z))) (binS P .sub t a b κ)
noncomputable def eqlK (P : Program) (t : TypeId) (a b : AV) (κ : AV → RO) (k k' : IntKind) (x y : Nat) : RO := cc% (kEq k k') (κ (.b (Nat.beq x y))) none
noncomputable def neqK (P : Program) (t : TypeId) (a b : AV) (κ : AV → RO) (k k' : IntKind) (x y : Nat) : RO := cc% (kEq k k') (κ (.b (not (Nat.beq x y)))) none
noncomputable def lssK (P : Program) (t : TypeId) (a b : AV) (κ : AV → RO) (k k' : IntKind) (x y : Nat) : RO := cc% (kEq k k') (κ (.b (Nat.blt x y))) none
noncomputable def leqK (P : Program) (t : TypeId) (a b : AV) (κ : AV → RO) (k k' : IntKind) (x y : Nat) : RO := cc% (kEq k k') (κ (.b (Nat.ble x y))) none
noncomputable def gtrK (P : Program) (t : TypeId) (a b : AV) (κ : AV → RO) (k k' : IntKind) (x y : Nat) : RO := cc% (kEq k k') (κ (.b (Nat.blt y x))) none
noncomputable def geqK (P : Program) (t : TypeId) (a b : AV) (κ : AV → RO) (k k' : IntKind) (x y : Nat) : RO := cc% (kEq k k') (κ (.b (Nat.ble y x))) none
noncomputable def twoN (F : AV → AV → (AV → RO) → IntKind → IntKind → Nat → Nat → RO) (S : AV → AV → (AV → RO) → RO) (a b : AV) (κ : AV → RO) : RO :=
  toN a (fun k x => toN b (fun k' y => F a b κ k k' x y) (S a b κ)) (S a b κ)
noncomputable def binC (P : Program) (op : BinOp) (t : TypeId) : BinC := match op with
  | .add => .mk (twoN (addK P t) (binS P .add t))
  | .sub => .mk (twoN (subK P t) (binS P .sub t))
  | .eql => .mk (twoN (eqlK P t) (binS P .eql t))
  | .neq => .mk (twoN (neqK P t) (binS P .neq t))
  | .lss => .mk (twoN (lssK P t) (binS P .lss t))
  | .leq => .mk (twoN (leqK P t) (binS P .leq t))
  | .gtr => .mk (twoN (gtrK P t) (binS P .gtr t))
  | .geq => .mk (twoN (geqK P t) (binS P .geq t))
  | op => .mk (binS P op t)
theorem twoN_eq {P : Program} {op : BinOp} {t : TypeId} {F : AV → AV → (AV → RO) → IntKind → IntKind → Nat → Nat → RO} (h : ∀ k k' x y κ, F (.i k (.ofNat x)) (.i k' (.ofNat y)) κ k k' x y = (binA P op t (.i k (.ofNat x)) (.i k' (.ofNat y))).bind κ) (a b : AV) (κ : AV → RO) :
    twoN F (binS P op t) a b κ = (binA P op t a b).bind κ := by
  have hs : ∀ a b, binS P op t a b κ = (binA P op t a b).bind κ := fun a b => ob_eq _ _
  unfold twoN
  cases a <;> first | exact hs _ _ | skip
  rename_i k n
  cases n with
  | negSucc n => exact hs _ _
  | ofNat x =>
    show toN b _ _ = _
    cases b <;> first | exact hs _ _ | skip
    rename_i k' n
    cases n with
    | negSucc n => exact hs _ _
    | ofNat y => exact h k k' x y κ
theorem leI_nat (x y : Nat) : leI (.ofNat x) (.ofNat y) = Nat.ble x y := by
  show cond (Nat.beq x 0) true (Nat.ble x y) = _
  cases x with
  | zero => exact (Nat.ble_eq_true_of_le (Nat.zero_le _)).symm
  | succ x => rfl
theorem not_ble (x y : Nat) : (!Nat.ble x y) = Nat.blt y x := by
  rw [Bool.eq_iff_iff, Bool.not_eq_true', ← Bool.not_eq_true, Nat.ble_eq, Nat.blt_eq]; omega
theorem wrapA_nat {k : IntKind} {z : Nat} (h : Nat.blt z (kTop k) = true) : wrapA k (.ofNat z) = .ofNat z := by
  unfold wrapA
  rw [show inKind k (.ofNat z) = Nat.blt z (kTop k) from rfl, h]; rfl
theorem binC_eq (P : Program) (op : BinOp) (t : TypeId) (a b : AV) (κ : AV → RO) : (binC P op t).f a b κ = (binA P op t a b).bind κ := by
  cases op <;> first | exact ob_eq _ _ | refine twoN_eq (fun k k' x y κ => ?_) a b κ
  · show cc% (cc% (kEq k k') (Nat.blt (Nat.add x y) (kTop k)) false) (forceN (Nat.add x y) fun z => κ (.i k (.ofNat z))) (binS P .add t _ _ κ) = _
    cases hk : kEq k k' with
    | false => exact ob_eq _ _
    | true =>
      cases hb : Nat.blt (Nat.add x y) (kTop k) with
      | false => exact ob_eq _ _
      | true =>
        show forceN (Nat.add x y) _ = _
        rw [forceN_eq]
        show _ = (cond (kEq k k') (some (AV.i k (wrapA k (.ofNat (x + y))))) none).bind κ
        rw [hk, show x + y = Nat.add x y from rfl, wrapA_nat hb]; rfl
  · show cc% (cc% (kEq k k') (cc% (Nat.ble y x) (Nat.blt x (kTop k)) false) false) (forceN (Nat.sub x y) fun z => κ (.i k (.ofNat z))) (binS P .sub t _ _ κ) = _
    cases hk : kEq k k' with
    | false => exact ob_eq _ _
    | true =>
      cases hy : Nat.ble y x with
      | false => exact ob_eq _ _
      | true =>
        cases hb : Nat.blt x (kTop k) with
        | false => exact ob_eq _ _
        | true =>
          show forceN (Nat.sub x y) _ = _
          rw [forceN_eq]
          have hle := ble_le hy
          have e : Int.sub (.ofNat x) (.ofNat y) = .ofNat (x - y) := by
            show ((x : Int) - (y : Int)) = ((x - y : Nat) : Int)
            omega
          have hb' : Nat.blt (x - y) (kTop k) = true := by
            rw [Nat.blt_eq] at hb ⊢; omega
          show _ = (cond (kEq k k') (some (AV.i k (wrapA k (Int.sub (.ofNat x) (.ofNat y))))) none).bind κ
          rw [hk, e, wrapA_nat hb']; rfl
  · show cc% (kEq k k') (κ (.b (Nat.beq x y))) none = (cond (kEq k k') (some (AV.b (Nat.beq x y))) none).bind κ
    cases kEq k k' <;> rfl
  · show cc% (kEq k k') (κ (.b (not (Nat.beq x y)))) none = (cond (kEq k k') (some (AV.b (!(Nat.beq x y)))) none).bind κ
    cases kEq k k' <;> rfl
  · show cc% (kEq k k') (κ (.b (Nat.blt x y))) none = (cond (kEq k k') (some (AV.b (!(leI (.ofNat y) (.ofNat x))))) none).bind κ
    rw [leI_nat, not_ble]
    cases kEq k k' <;> rfl
  · show cc% (kEq k k') (κ (.b (Nat.ble x y))) none = (cond (kEq k k') (some (AV.b (leI (.ofNat x) (.ofNat y)))) none).bind κ
    rw [leI_nat]
    cases kEq k k' <;> rfl
  · show cc% (kEq k k') (κ (.b (Nat.blt y x))) none = (cond (kEq k k') (some (AV.b (!(leI (.ofNat x) (.ofNat y))))) none).bind κ
    rw [leI_nat, not_ble]
    cases kEq k k' <;> rfl
  · show cc% (kEq k k') (κ (.b (Nat.ble y x))) none = (cond (kEq k k') (some (AV.b (leI (.ofNat y) (.ofNat x)))) none).bind κ
    rw [leI_nat]
    cases kEq k k' <;> rfl
end Go.Proofs.YtpoohfmddkgndaaAm
