/- The same evaluator, each operation prepared once: values that ask nothing of memory. -/
import Derived.Test.YtpoohfmddkgndaaAmV
set_option linter.unusedVariables false
set_option linter.unusedSimpArgs false
namespace Go.Proofs.YtpoohfmddkgndaaAm
open Go

noncomputable def forceN (n : Nat) (κ : Nat → RO) : RO := Nat.rec (motive := fun _ => (Nat → RO) → RO) (fun κ => κ 0) (fun k _ κ => κ (Nat.succ k)) n κ
theorem forceN_eq (n : Nat) (κ : Nat → RO) : forceN n κ = κ n := by cases n <;> rfl

/-! ### operands, results -/
noncomputable def getC (x : Operand) : Way AV := match x with
  | .tmp t => way AV t
  | .const v => Option.rec (motive := fun _ => Way AV) (.mk fun _ => none) (fun a => .mk fun _ => some a) (conv v)
  | .global _ => .mk fun _ => none
  | .func f => .mk fun _ => some (.f f [])
theorem getC_eq (x : Operand) (m : T AV) : (getC x).f m = evA m x := by
  cases x with
  | tmp t => exact way_eq t m
  | const v => show (Option.rec (motive := fun _ => Way AV) (.mk fun _ => none) (fun a => .mk fun _ => some a) (conv v) : Way AV).f m = conv v
               cases conv v <;> rfl
  | global g => rfl
  | func f => rfl
structure PutC where
  f : Option AV → T AV → (T AV → RO) → RO
noncomputable def putC (N : Nat) (dst : Option Tmp) : PutC := match dst with
  | none => .mk fun _ m κ => κ m
  | some d => cond (Nat.blt d N) (Set'.rec (motive := fun _ => PutC) (fun s => .mk fun v m κ => κ (s v m)) (setW AV d)) (.mk fun _ _ _ => none)
theorem putC_eq (N : Nat) (dst : Option Tmp) (v : Option AV) (m : T AV) (κ : T AV → RO) : (putC N dst).f v m κ = (putA N m dst v).bind κ := by
  cases dst with
  | none => rfl
  | some d =>
    unfold putC putA
    simp only
    cases Nat.blt d N with
    | false => rfl
    | true =>
      simp only [cond_true]
      have := setW_eq d v m
      cases hs : setW AV d with
      | mk s => rw [hs] at this; show κ (s v m) = _; rw [show s v m = m.set d v from this]; rfl
structure GuC where
  f : T AV → RO → RO → RO
noncomputable def toG (want : Bool) (v : AV) : RO → RO → RO := @AV.rec (fun _ => RO → RO → RO) (fun _ => PUnit)
  (fun c => (Bool.rec (motive := fun _ => _) (fun _ y => y) (fun x _ => x) (c == want))) (fun _ _ _ y => y) (fun _ _ y => y) (fun _ _ _ y => y) (fun _ y => y) (fun _ _ _ _ _ _ _ y => y) (fun _ y => y) (fun _ _ _ _ y => y) (fun _ y => y) (fun _ _ _ y => y) (fun _ _ _ y => y) (fun _ _ _ => none) ⟨⟩ (fun _ _ _ _ => ⟨⟩) v
noncomputable def guC (ops : Array Oper) (o : Oper) : GuC := match o.guard with
  | none => .mk fun _ x _ => x
  | some (j, want) => match (ops[j]?).bind (·.dst) with
    | none => .mk fun _ _ _ => none
    | some d => Way.rec (motive := fun _ => GuC) (fun g => .mk fun m x y => Option.rec (motive := fun _ => RO) y (fun v => toG want v x y) (g m)) (way AV d)
theorem guC_eq (ops : Array Oper) (o : Oper) (m : T AV) (x y : RO) : (guC ops o).f m x y = (wantedA ops m o).bind fun c => cond c x y := by
  unfold guC wantedA
  cases o.guard with
  | none => rfl
  | some jw =>
    obtain ⟨j, want⟩ := jw
    simp only
    cases (ops[j]?).bind (·.dst) with
    | none => rfl
    | some d =>
      simp only
      have := way_eq d m
      cases hw : way AV d with
      | mk g =>
        rw [hw] at this
        have this : g m = m.get d := this
        show Option.rec (motive := fun _ => RO) y (fun v => toG want v x y) (g m) = _
        rw [this]
        cases m.get d with
        | none => rfl
        | some v =>
          cases v <;> first | rfl | skip
          rename_i c
          show ((Bool.rec (motive := fun _ => _) (fun _ y => y) (fun x _ => x) (c == want)) : RO → RO → RO) x y = cond (c == want) x y
          cases (c == want) <;> rfl

/-! ### two whole numbers -/
structure BinC where
  f : AV → AV → (AV → RO) → RO
noncomputable def binS (P : Program) (op : BinOp) (t : TypeId) (a b : AV) (κ : AV → RO) : RO := (Option.rec (motive := fun _ => RO) none κ (binA P op t a b))
noncomputable def addK (P : Program) (t : TypeId) (a b : AV) (κ : AV → RO) (k k' : IntKind) (x y : Nat) : RO :=
  (Bool.rec (motive := fun _ => _) (binS P .add t a b κ) (forceN (Nat.add x y) fun z => κ (.i k (.ofNat z))) ((Bool.rec (motive := fun _ => _) false (Nat.blt (Nat.add x y) (kTop k)) (kEq k k'))))
noncomputable def subK (P : Program) (t : TypeId) (a b : AV) (κ : AV → RO) (k k' : IntKind) (x y : Nat) : RO :=
  (Bool.rec (motive := fun _ => _) (binS P .sub t a b κ) (forceN (Nat.sub x y) fun z => κ (.i k (.ofNat z))) ((Bool.rec (motive := fun _ => _) false ((Bool.rec (motive := fun _ => _) false (Nat.blt x (kTop k)) (Nat.ble y x))) (kEq k k'))))
noncomputable def eqlK (P : Program) (t : TypeId) (a b : AV) (κ : AV → RO) (k k' : IntKind) (x y : Nat) : RO := (Bool.rec (motive := fun _ => _) none (κ (.b (Nat.beq x y))) (kEq k k'))
noncomputable def neqK (P : Program) (t : TypeId) (a b : AV) (κ : AV → RO) (k k' : IntKind) (x y : Nat) : RO := (Bool.rec (motive := fun _ => _) none (κ (.b (not (Nat.beq x y)))) (kEq k k'))
noncomputable def lssK (P : Program) (t : TypeId) (a b : AV) (κ : AV → RO) (k k' : IntKind) (x y : Nat) : RO := (Bool.rec (motive := fun _ => _) none (κ (.b (Nat.blt x y))) (kEq k k'))
noncomputable def leqK (P : Program) (t : TypeId) (a b : AV) (κ : AV → RO) (k k' : IntKind) (x y : Nat) : RO := (Bool.rec (motive := fun _ => _) none (κ (.b (Nat.ble x y))) (kEq k k'))
noncomputable def gtrK (P : Program) (t : TypeId) (a b : AV) (κ : AV → RO) (k k' : IntKind) (x y : Nat) : RO := (Bool.rec (motive := fun _ => _) none (κ (.b (Nat.blt y x))) (kEq k k'))
noncomputable def geqK (P : Program) (t : TypeId) (a b : AV) (κ : AV → RO) (k k' : IntKind) (x y : Nat) : RO := (Bool.rec (motive := fun _ => _) none (κ (.b (Nat.ble y x))) (kEq k k'))
/-- bits: both within the kind, and what comes out too -/
noncomputable def bitK (P : Program) (t : TypeId) (op : BinOp) (g : Nat → Nat → Nat) (a b : AV) (κ : AV → RO) (k k' : IntKind) (x y : Nat) : RO :=
  (Bool.rec (motive := fun _ => _) (binS P op t a b κ) (forceN (g x y) fun z => κ (.i k (.ofNat z))) ((Bool.rec (motive := fun _ => _) false ((Bool.rec (motive := fun _ => _) false ((Bool.rec (motive := fun _ => _) false (Nat.blt (g x y) (kTop k)) (Nat.blt y (kMod k)))) (Nat.blt x (kMod k)))) (kEq k k'))))
noncomputable def shrK (P : Program) (t : TypeId) (a b : AV) (κ : AV → RO) (k k' : IntKind) (x y : Nat) : RO :=
  forceN (Nat.div x (Nat.pow 2 ((Bool.rec (motive := fun _ => _) (kBits k) y (Nat.ble y (kBits k)))))) fun z => κ (.i k (.ofNat z))
noncomputable def shlK (P : Program) (t : TypeId) (a b : AV) (κ : AV → RO) (k k' : IntKind) (x y : Nat) : RO :=
  (Bool.rec (motive := fun _ => _) (binS P .shl t a b κ) (forceN (Nat.mul x (Nat.pow 2 y)) fun z => κ (.i k (.ofNat z))) ((Bool.rec (motive := fun _ => _) false (Nat.blt (Nat.mul x (Nat.pow 2 y)) (kTop k)) (Nat.ble y (kBits k)))))
noncomputable def twoN (F : AV → AV → (AV → RO) → IntKind → IntKind → Nat → Nat → RO) (S : AV → AV → (AV → RO) → RO) (a b : AV) (κ : AV → RO) : RO :=
  toN a (fun k x => toN b (fun k' y => F a b κ k k' x y) (S a b κ)) (S a b κ)
noncomputable def binC (P : Program) (op : BinOp) (t : TypeId) : BinC := match op with
  | .add => .mk (twoN (addK P t) (binS P .add t))
  | .sub => .mk (twoN (subK P t) (binS P .sub t))
  | .eql => .mk (twoN (eqlK P t) (binS P .eql t))
  | .neq => .mk (twoN (neqK P t) (binS P .neq t))
  | .lss => .mk (twoN (lssK P t) (binS P .lss t))
  | .leq => .mk (twoN (leqK P t) (binS P .leq t))
  | .gtr => .mk (twoN (gtrK P t) (binS P .gtr t))
  | .geq => .mk (twoN (geqK P t) (binS P .geq t))
  | .and => .mk (twoN (bitK P t .and Nat.land) (binS P .and t))
  | .or => .mk (twoN (bitK P t .or Nat.lor) (binS P .or t))
  | .xor => .mk (twoN (bitK P t .xor Nat.xor) (binS P .xor t))
  | .shr => .mk (twoN (shrK P t) (binS P .shr t))
  | .shl => .mk (twoN (shlK P t) (binS P .shl t))
  | op => .mk (binS P op t)
theorem twoN_eq {P : Program} {op : BinOp} {t : TypeId} {F : AV → AV → (AV → RO) → IntKind → IntKind → Nat → Nat → RO} (h : ∀ k k' x y κ, F (.i k (.ofNat x)) (.i k' (.ofNat y)) κ k k' x y = (binA P op t (.i k (.ofNat x)) (.i k' (.ofNat y))).bind κ) (a b : AV) (κ : AV → RO) :
    twoN F (binS P op t) a b κ = (binA P op t a b).bind κ := by
  have hs : ∀ a b, binS P op t a b κ = (binA P op t a b).bind κ := fun a b => ob_eq _ _
  unfold twoN
  cases a <;> first | exact hs _ _ | skip
  rename_i k n
  cases n with
  | negSucc n => exact hs _ _
  | ofNat x =>
    show toN b _ _ = _
    cases b <;> first | exact hs _ _ | skip
    rename_i k' n
    cases n with
    | negSucc n => exact hs _ _
    | ofNat y => exact h k k' x y κ
theorem leI_nat (x y : Nat) : leI (.ofNat x) (.ofNat y) = Nat.ble x y := by
  show cond (Nat.beq x 0) true (Nat.ble x y) = _
  cases x with
  | zero => exact (Nat.ble_eq_true_of_le (Nat.zero_le _)).symm
  | succ x => rfl
theorem not_ble (x y : Nat) : (!Nat.ble x y) = Nat.blt y x := by
  rw [Bool.eq_iff_iff, Bool.not_eq_true', ← Bool.not_eq_true, Nat.ble_eq, Nat.blt_eq]; omega
theorem wrapA_nat {k : IntKind} {z : Nat} (h : Nat.blt z (kTop k) = true) : wrapA k (.ofNat z) = .ofNat z := by
  unfold wrapA
  rw [show inKind k (.ofNat z) = Nat.blt z (kTop k) from rfl, h]; rfl
theorem bitK_eq {P : Program} {op : BinOp} {g : Nat → Nat → Nat} {t : TypeId} (h : ∀ k k' x y, kEq k k' = true → Nat.blt x (kMod k) = true → Nat.blt y (kMod k) = true → binA P op t (.i k (.ofNat x)) (.i k' (.ofNat y)) = some (.i k (wrapA k (.ofNat (g x y))))) (k k' : IntKind) (x y : Nat) (κ : AV → RO) :
    bitK P t op g (.i k (.ofNat x)) (.i k' (.ofNat y)) κ k k' x y = (binA P op t (.i k (.ofNat x)) (.i k' (.ofNat y))).bind κ := by
  unfold bitK
  cases h1 : kEq k k' with
  | false => exact ob_eq _ _
  | true =>
    cases h2 : Nat.blt x (kMod k) with
    | false => exact ob_eq _ _
    | true =>
      cases h3 : Nat.blt y (kMod k) with
      | false => exact ob_eq _ _
      | true =>
        cases h4 : Nat.blt (g x y) (kTop k) with
        | false => exact ob_eq _ _
        | true =>
          show forceN (g x y) _ = _
          rw [forceN_eq, h k k' x y h1 h2 h3, wrapA_nat h4]; rfl
theorem binC_eq (P : Program) (op : BinOp) (t : TypeId) (a b : AV) (κ : AV → RO) : (binC P op t).f a b κ = (binA P op t a b).bind κ := by
  cases op <;> first | exact ob_eq _ _ | refine twoN_eq (fun k k' x y κ => ?_) a b κ
  · show (Bool.rec (motive := fun _ => _) (binS P .add t _ _ κ) (forceN (Nat.add x y) fun z => κ (.i k (.ofNat z))) ((Bool.rec (motive := fun _ => _) false (Nat.blt (Nat.add x y) (kTop k)) (kEq k k')))) = _
    cases hk : kEq k k' with
    | false => exact ob_eq _ _
    | true =>
      cases hb : Nat.blt (Nat.add x y) (kTop k) with
      | false => exact ob_eq _ _
      | true =>
        show forceN (Nat.add x y) _ = _
        rw [forceN_eq]
        show _ = (cond (kEq k k') (some (AV.i k (wrapA k (.ofNat (x + y))))) none).bind κ
        rw [hk, show x + y = Nat.add x y from rfl, wrapA_nat hb]; rfl
  · show (Bool.rec (motive := fun _ => _) (binS P .sub t _ _ κ) (forceN (Nat.sub x y) fun z => κ (.i k (.ofNat z))) ((Bool.rec (motive := fun _ => _) false ((Bool.rec (motive := fun _ => _) false (Nat.blt x (kTop k)) (Nat.ble y x))) (kEq k k')))) = _
    cases hk : kEq k k' with
    | false => exact ob_eq _ _
    | true =>
      cases hy : Nat.ble y x with
      | false => exact ob_eq _ _
      | true =>
        cases hb : Nat.blt x (kTop k) with
        | false => exact ob_eq _ _
        | true =>
          show forceN (Nat.sub x y) _ = _
          rw [forceN_eq]
          have hle := ble_le hy
          have e : Int.sub (.ofNat x) (.ofNat y) = .ofNat (x - y) := by
            show ((x : Int) - (y : Int)) = ((x - y : Nat) : Int)
            omega
          have hb' : Nat.blt (x - y) (kTop k) = true := by
            rw [Nat.blt_eq] at hb ⊢; omega
          show _ = (cond (kEq k k') (some (AV.i k (wrapA k (Int.sub (.ofNat x) (.ofNat y))))) none).bind κ
          rw [hk, e, wrapA_nat hb']; rfl
  · exact bitK_eq (fun k k' x y h1 h2 h3 => by simp only [binA, intA, h1, h2, h3, cond_true, Bool.and_self]) k k' x y κ
  · exact bitK_eq (fun k k' x y h1 h2 h3 => by simp only [binA, intA, h1, h2, h3, cond_true, Bool.and_self]) k k' x y κ
  · exact bitK_eq (fun k k' x y h1 h2 h3 => by simp only [binA, intA, h1, h2, h3, cond_true, Bool.and_self]) k k' x y κ
  · show (Bool.rec (motive := fun _ => _) (binS P .shl t (.i k (.ofNat x)) (.i k' (.ofNat y)) κ) (forceN (Nat.mul x (Nat.pow 2 y)) fun z => κ (.i k (.ofNat z))) ((Bool.rec (motive := fun _ => _) false (Nat.blt (Nat.mul x (Nat.pow 2 y)) (kTop k)) (Nat.ble y (kBits k))))) = _
    cases h1 : Nat.ble y (kBits k) with
    | false => exact ob_eq (binA P .shl t (.i k (.ofNat x)) (.i k' (.ofNat y))) κ
    | true =>
      cases h2 : Nat.blt (Nat.mul x (Nat.pow 2 y)) (kTop k) with
      | false => exact ob_eq (binA P .shl t (.i k (.ofNat x)) (.i k' (.ofNat y))) κ
      | true =>
        show forceN (Nat.mul x (Nat.pow 2 y)) _ = _
        rw [forceN_eq]
        show _ = (some (AV.i k (wrapA k (Int.mul (.ofNat x) (.ofNat (Nat.pow 2 (cond (Nat.ble y (kBits k)) y (kBits k)))))))).bind κ
        rw [h1, cond_true, show Int.mul (.ofNat x) (.ofNat (Nat.pow 2 y)) = .ofNat (Nat.mul x (Nat.pow 2 y)) from rfl, wrapA_nat h2]; rfl
  · show forceN _ _ = (some (AV.i k (Int.fdiv (.ofNat x) (.ofNat (Nat.pow 2 (cond (Nat.ble y (kBits k)) y (kBits k))))))).bind κ
    rw [forceN_eq, brc]
    generalize Nat.pow 2 (cond (Nat.ble y (kBits k)) y (kBits k)) = p
    have : Int.fdiv (.ofNat x) (.ofNat p) = .ofNat (Nat.div x p) := by
      show Int.fdiv (x : Int) (p : Int) = ((x / p : Nat) : Int)
      rw [Int.fdiv_eq_ediv_of_nonneg _ (Int.natCast_nonneg p), Int.natCast_ediv]
    rw [this]; rfl
  · show (Bool.rec (motive := fun _ => _) none (κ (.b (Nat.beq x y))) (kEq k k')) = (cond (kEq k k') (some (AV.b (Nat.beq x y))) none).bind κ
    cases kEq k k' <;> rfl
  · show (Bool.rec (motive := fun _ => _) none (κ (.b (not (Nat.beq x y)))) (kEq k k')) = (cond (kEq k k') (some (AV.b (!(Nat.beq x y)))) none).bind κ
    cases kEq k k' <;> rfl
  · show (Bool.rec (motive := fun _ => _) none (κ (.b (Nat.blt x y))) (kEq k k')) = (cond (kEq k k') (some (AV.b (!(leI (.ofNat y) (.ofNat x))))) none).bind κ
    rw [leI_nat, not_ble]
    cases kEq k k' <;> rfl
  · show (Bool.rec (motive := fun _ => _) none (κ (.b (Nat.ble x y))) (kEq k k')) = (cond (kEq k k') (some (AV.b (leI (.ofNat x) (.ofNat y)))) none).bind κ
    rw [leI_nat]
    cases kEq k k' <;> rfl
  · show (Bool.rec (motive := fun _ => _) none (κ (.b (Nat.blt y x))) (kEq k k')) = (cond (kEq k k') (some (AV.b (!(leI (.ofNat x) (.ofNat y))))) none).bind κ
    rw [leI_nat, not_ble]
    cases kEq k k' <;> rfl
  · show (Bool.rec (motive := fun _ => _) none (κ (.b (Nat.ble y x))) (kEq k k')) = (cond (kEq k k') (some (AV.b (leI (.ofNat y) (.ofNat x)))) none).bind κ
    rw [leI_nat]
    cases kEq k k' <;> rfl
end Go.Proofs.YtpoohfmddkgndaaAm
