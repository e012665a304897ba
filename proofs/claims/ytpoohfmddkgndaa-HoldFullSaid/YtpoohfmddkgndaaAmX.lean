/- The same evaluator, each operation prepared once: operations that ask nothing of memory. -/
import Derived.Test.YtpoohfmddkgndaaAmW
set_option linter.unusedVariables false
set_option linter.unusedSimpArgs false
namespace Go.Proofs.YtpoohfmddkgndaaAm
open Go

structure ValC where
  f : T AV → (AV → RO) → RO
def ValOk (P : Program) (op : Op) (c : ValC) : Prop := ∃ g : T AV → Option AV, (∀ (m : T AV) (o : Oper), o.op = op → aeff P (evA m) o = (g m).map .q) ∧ ∀ m κ, c.f m κ = (g m).bind κ

noncomputable def nilK (κ : AV → RO) : AV → RO
  | .f g cs => κ (.f g cs)
  | _ => none
noncomputable def convS2 (k : IntKind) (v : AV) (κ : AV → RO) : RO := match v with
  | .i _ n => κ (.i k (wrapA k n))
  | _ => none
noncomputable def moveC (g : T AV → Option AV) : ValC := .mk fun m κ => (Option.rec (motive := fun _ => RO) none κ (g m))
noncomputable def pickC (gc ga gb : T AV → Option AV) : ValC := .mk fun m κ => (Option.rec (motive := fun _ => RO) none (fun v => toB v ((Option.rec (motive := fun _ => RO) none κ (ga m))) ((Option.rec (motive := fun _ => RO) none κ (gb m))) none) (gc m))
noncomputable def nilC (g : T AV → Option AV) : ValC := .mk fun m κ => (Option.rec (motive := fun _ => RO) none (fun v => toP v (fun b o => κ (.p b o)) (nilK κ v)) (g m))
noncomputable def twoC (f : AV → AV → (AV → RO) → RO) (gx gy : T AV → Option AV) : ValC := .mk fun m κ => (Option.rec (motive := fun _ => RO) none (fun a => (Option.rec (motive := fun _ => RO) none (fun b => f a b κ) (gy m))) (gx m))
noncomputable def notC (g : T AV → Option AV) : ValC := .mk fun m κ => (Option.rec (motive := fun _ => RO) none (fun v => toB v (κ (.b false)) (κ (.b true)) none) (g m))
noncomputable def unC (op : UnOp) (g : T AV → Option AV) : ValC := .mk fun m κ => (Option.rec (motive := fun _ => RO) none (fun v => (Option.rec (motive := fun _ => RO) none κ (unA op v))) (g m))
noncomputable def conC (k : IntKind) (g : T AV → Option AV) : ValC := .mk fun m κ => (Option.rec (motive := fun _ => RO) none (fun v => toN v (fun _ n => (Bool.rec (motive := fun _ => _) (convS2 k v κ) (κ (.i k (.ofNat n))) (Nat.blt n (kTop k)))) (convS2 k v κ)) (g m))
noncomputable def fieldAddrC (off : Nat) (g : T AV → Option AV) : ValC := .mk fun m κ => (Option.rec (motive := fun _ => RO) none (fun v => toP v (fun b o => forceN (Nat.add o off) fun z => κ (.p b z)) none) (g m))
noncomputable def indexSlC (sz : Nat) (gx gy : T AV → Option AV) : ValC := .mk fun m κ => (Option.rec (motive := fun _ => RO) none (fun a => (Option.rec (motive := fun _ => RO) none (fun c => toSl a (fun b o n => toN c (fun _ i => (Bool.rec (motive := fun _ => _) none (forceN (Nat.add o (Nat.mul i sz)) fun z => κ (.p b z)) (Nat.blt i n))) none) none) (gy m))) (gx m))
noncomputable def lenC (g : T AV → Option AV) : ValC := .mk fun m κ => (Option.rec (motive := fun _ => RO) none (fun v => toSl v (fun _ _ n => κ (.i .i64 (.ofNat n))) (match v with | .ns => κ (.i .i64 0) | .x (.slice _ n _) => κ (.i .i64 (.ofNat n)) | _ => none)) (g m))
noncomputable def extractC (ix : Nat) (g : T AV → Option AV) : ValC := .mk fun m κ => (Option.rec (motive := fun _ => RO) none (fun v => toTup v (fun l => nthK l ix κ) none) (g m))
noncomputable def fieldC (off : Nat) (g : T AV → Option AV) : ValC := .mk fun m κ => (Option.rec (motive := fun _ => RO) none (fun v => toAgg v (fun l => nthK l off κ) none) (g m))
noncomputable def fieldsC (off n : Nat) (g : T AV → Option AV) : ValC := .mk fun m κ => (Option.rec (motive := fun _ => RO) none (fun v => toAgg v (fun l => takeK n (dropF l off) fun l => κ (.agg l)) none) (g m))
noncomputable def sliceC (P : Program) (t : TypeId) (lo hi mx : Option Operand) (g : T AV → Option AV) : ValC := .mk fun m κ => (Option.rec (motive := fun _ => RO) none (fun v => (Option.rec (motive := fun _ => RO) none κ (sliceA P (evA m) t v lo hi mx))) (g m))
noncomputable def withW (w : Way AV) (f : (T AV → Option AV) → Option ValC) : Option ValC := Way.rec (motive := fun _ => Option ValC) f w
theorem withW_eq (w : Way AV) (f : (T AV → Option AV) → Option ValC) : withW w f = f w.f := by cases w; rfl

noncomputable def fieldAddrV (P : Program) (s : TypeId) (f : Nat) (x : Operand) : Option ValC := match P.underlying s with
  | some (.struct fs) => match fs[f]? with
    | some fl => match szOf P fl.type with
      | some n => cond (Nat.beq n 0) none (withW (getC x) fun g => some (fieldAddrC fl.offset g))
      | none => none
    | none => none
  | _ => none
noncomputable def fieldV (P : Program) (s : TypeId) (f : Nat) (x : Operand) : Option ValC := match P.underlying s with
  | some (.struct fs) => match fs[f]? with
    | some fl => match isAggT P fl.type with
      | some true => match szOf P fl.type with
        | some n => cond (Nat.beq n 0) none (withW (getC x) fun g => some (fieldsC fl.offset n g))
        | none => none
      | some false => withW (getC x) fun g => some (fieldC fl.offset g)
      | none => none
    | none => none
  | _ => none
noncomputable def indexAddrV (P : Program) (t : TypeId) (x ix : Operand) : Option ValC := match P.underlying t with
  | some (.slice e) => match szOf P e with
    | some sz => withW (getC x) fun gx => withW (getC ix) fun gy => some (indexSlC sz gx gy)
    | none => none
  | _ => none
noncomputable def convertV (P : Program) (s d : TypeId) (x : Operand) : Option ValC := match P.underlying s, P.underlying d with
  | some _, some (.int k) => withW (getC x) fun g => some (conC k g)
  | _, _ => none
noncomputable def unV (op : UnOp) (x : Operand) : Option ValC := match op with
  | .not => withW (getC x) fun g => some (notC g)
  | op => withW (getC x) fun g => some (unC op g)
noncomputable def lenV (P : Program) (tys : List TypeId) (args : List Operand) : Option ValC := match tys, args with
  | t :: _, [x] => match P.underlying t with
    | some (.slice _) => withW (getC x) fun g => some (lenC g)
    | _ => none
  | _, _ => none
noncomputable def callV (P : Program) (c : Call) : Option ValC := match c.callee with
  | .builtin .len => lenV P c.argTypes.toList c.args.toList
  | _ => none
noncomputable def valC (P : Program) (op : Op) : Option ValC := match op with
  | .move x | .assign x => withW (getC x) fun g => some (moveC g)
  | .pick c a b => withW (getC c) fun gc => withW (getC a) fun ga => withW (getC b) fun gb => some (pickC gc ga gb)
  | .nilCheck x => withW (getC x) fun g => some (nilC g)
  | .binOp op t x y _ => withW (getC x) fun gx => withW (getC y) fun gy => BinC.rec (motive := fun _ => Option ValC) (fun f => some (twoC f gx gy)) (binC P op t)
  | .unOp op _ x => unV op x
  | .convert s d x => convertV P s d x
  | .fieldAddr s x f => fieldAddrV P s f x
  | .field s x f => fieldV P s f x
  | .indexAddr t x ix => indexAddrV P t x ix
  | .extract t ix => withW (getC t) fun g => some (extractC ix g)
  | .slice t x lo hi mx => withW (getC x) fun g => some (sliceC P t lo hi mx g)
  | .call c => callV P c
  | _ => none

theorem getC_fun (x : Operand) : (getC x).f = fun m => evA m x := funext (getC_eq x)
theorem valC_ok {P : Program} {op : Op} {c : ValC} (h : valC P op = some c) : ValOk P op c := by
  cases op
  case move x =>
    rw [show valC P (.move x) = withW (getC x) fun g => some (moveC g) from rfl, withW_eq, getC_fun] at h
    injection h with h; subst h
    exact ⟨fun m => evA m x, fun m o ho => by unfold aeff; rw [ho], fun m κ => ob_eq _ _⟩
  case assign x =>
    rw [show valC P (.assign x) = withW (getC x) fun g => some (moveC g) from rfl, withW_eq, getC_fun] at h
    injection h with h; subst h
    exact ⟨fun m => evA m x, fun m o ho => by unfold aeff; rw [ho], fun m κ => ob_eq _ _⟩
  case pick a b d =>
    rw [show valC P (.pick a b d) = withW (getC a) fun gc => withW (getC b) fun ga => withW (getC d) fun gb => some (pickC gc ga gb) from rfl, withW_eq, withW_eq, withW_eq, getC_fun, getC_fun, getC_fun] at h
    injection h with h; subst h
    refine ⟨fun m => match evA m a with | some (.b true) => evA m b | some (.b false) => evA m d | _ => none, fun m o ho => ?_, fun m κ => ?_⟩
    · unfold aeff; rw [ho]
      simp only
      split <;> simp_all
    · show ((Option.rec (motive := fun _ => RO) none (fun v => toB v ((Option.rec (motive := fun _ => RO) none κ (evA m b))) ((Option.rec (motive := fun _ => RO) none κ (evA m d))) none) (evA m a))) = _
      rw [ob_eq, ob_eq, ob_eq]; try dsimp only
      cases evA m a with
      | none => rfl
      | some v =>
        cases v <;> first | rfl | skip
        rename_i x
        cases x <;> rfl
  case nilCheck x =>
    rw [show valC P (.nilCheck x) = withW (getC x) fun g => some (nilC g) from rfl, withW_eq, getC_fun] at h
    injection h with h; subst h
    refine ⟨fun m => match evA m x with | some (.p b o) => some (.p b o) | some (.f g cs) => some (.f g cs) | _ => none, fun m o ho => ?_, fun m κ => ?_⟩
    · unfold aeff; rw [ho]
      simp only
      split <;> simp_all
    · show ((Option.rec (motive := fun _ => RO) none (fun v => toP v (fun b o => κ (.p b o)) (nilK κ v)) (evA m x))) = _
      rw [ob_eq]; try dsimp only
      cases evA m x with
      | none => rfl
      | some v => cases v <;> rfl
  case binOp bop t x y yt =>
    rw [show valC P (.binOp bop t x y yt) = withW (getC x) fun gx => withW (getC y) fun gy => BinC.rec (motive := fun _ => Option ValC) (fun f => some (twoC f gx gy)) (binC P bop t) from rfl, withW_eq, withW_eq, getC_fun, getC_fun] at h
    have hb := binC_eq P bop t
    cases hc : binC P bop t with
    | mk f =>
      rw [hc] at h hb
      injection h with h; subst h
      refine ⟨fun m => match evA m x, evA m y with | some a, some b => binA P bop t a b | _, _ => none, fun m o ho => ?_, fun m κ => ?_⟩
      · unfold aeff; rw [ho]
        simp only
        cases evA m x with
        | none => rfl
        | some a => cases evA m y <;> rfl
      · show ((Option.rec (motive := fun _ => RO) none (fun a => (Option.rec (motive := fun _ => RO) none (fun b => f a b κ) (evA m y))) (evA m x))) = _
        rw [ob_eq]; try dsimp only
        cases evA m x with
        | none => rfl
        | some a =>
          show ((Option.rec (motive := fun _ => RO) none (fun b => f a b κ) (evA m y))) = _
          rw [ob_eq]; try dsimp only
          cases evA m y with
          | none => rfl
          | some b => exact hb a b κ
  case unOp uop t x =>
    rw [show valC P (.unOp uop t x) = unV uop x from rfl] at h
    have key : ∀ (c' : ValC), (∀ m κ, c'.f m κ = ((evA m x).bind fun v => unA uop v).bind κ) → ValOk P (.unOp uop t x) c' := by
      intro c' hc'
      refine ⟨fun m => (evA m x).bind fun v => unA uop v, fun m o ho => ?_, hc'⟩
      unfold aeff; rw [ho]
      simp only
      cases evA m x <;> rfl
    have slow : (withW (getC x) fun g => some (unC uop g)) = some c → ValOk P (.unOp uop t x) c := by
      intro h
      rw [withW_eq, getC_fun] at h
      injection h with h; subst h
      refine key _ fun m κ => ?_
      show ((Option.rec (motive := fun _ => RO) none (fun v => (Option.rec (motive := fun _ => RO) none κ (unA uop v))) (evA m x))) = _
      rw [ob_eq]; try dsimp only
      cases evA m x with
      | none => rfl
      | some v => exact ob_eq _ _
    cases uop <;> first | exact slow h | skip
    rw [show unV .not x = withW (getC x) fun g => some (notC g) from rfl, withW_eq, getC_fun] at h
    injection h with h; subst h
    refine key _ fun m κ => ?_
    show ((Option.rec (motive := fun _ => RO) none (fun v => toB v (κ (.b false)) (κ (.b true)) none) (evA m x))) = _
    rw [ob_eq]; try dsimp only
    cases evA m x with
    | none => rfl
    | some v =>
      cases v <;> first | rfl | skip
      rename_i b
      cases b <;> rfl
  case convert s d x =>
    rw [show valC P (.convert s d x) = convertV P s d x from rfl] at h
    unfold convertV at h
    split at h
    · rename_i k h1 h2
      rw [withW_eq, getC_fun] at h
      injection h with h; subst h
      refine ⟨fun m => (evA m x).bind fun v => match v with | .i _ n => some (.i k (wrapA k n)) | _ => none, fun m o ho => ?_, fun m κ => ?_⟩
      · unfold aeff; rw [ho]
        simp only
        cases evA m x with
        | none => rfl
        | some v =>
          simp only [Option.bind_some, convertA, h1, h2]
          cases v <;> simp
      · show ((Option.rec (motive := fun _ => RO) none (fun v => toN v (fun _ n => (Bool.rec (motive := fun _ => _) (convS2 k v κ) (κ (.i k (.ofNat n))) (Nat.blt n (kTop k)))) (convS2 k v κ)) (evA m x))) = _
        rw [ob_eq]; try dsimp only
        cases evA m x with
        | none => rfl
        | some v =>
          cases v <;> first | rfl | skip
          rename_i k' n
          cases n with
          | negSucc n => rfl
          | ofNat n =>
            show (Bool.rec (motive := fun _ => _) (κ (.i k (wrapA k (.ofNat n)))) (κ (.i k (.ofNat n))) (Nat.blt n (kTop k))) = κ (.i k (wrapA k (.ofNat n)))
            cases hb : Nat.blt n (kTop k) with
            | false => rfl
            | true => rw [wrapA_nat hb]
    · cases h
  case fieldAddr s x f =>
    rw [show valC P (.fieldAddr s x f) = fieldAddrV P s f x from rfl] at h
    unfold fieldAddrV at h
    split at h
    · rename_i fs h1
      split at h
      · rename_i fl h2
        split at h
        · rename_i n h3
          cases hz : Nat.beq n 0 with
          | true => rw [hz] at h; cases h
          | false =>
            rw [hz, cond_false, withW_eq, getC_fun] at h
            injection h with h; subst h
            refine ⟨fun m => (evA m x).bind fun v => match v with | .p b o => some (.p b (o + fl.offset)) | _ => none, fun m o ho => ?_, fun m κ => ?_⟩
            · unfold aeff; rw [ho]
              simp only [h1]
              cases evA m x with
              | none => rfl
              | some v =>
                cases v <;> first | rfl | skip
                simp [h2, h3, hz]
            · show ((Option.rec (motive := fun _ => RO) none (fun v => toP v (fun b o => forceN (Nat.add o fl.offset) fun z => κ (.p b z)) none) (evA m x))) = _
              rw [ob_eq]; try dsimp only
              cases evA m x with
              | none => rfl
              | some v =>
                cases v <;> first | rfl | skip
                exact forceN_eq _ _
        · cases h
      · cases h
    · cases h
  case field s x f =>
    rw [show valC P (.field s x f) = fieldV P s f x from rfl] at h
    unfold fieldV at h
    split at h
    · rename_i fs h1
      split at h
      · rename_i fl h2
        split at h
        · rename_i h3
          split at h
          · rename_i n h4
            cases hz : Nat.beq n 0 with
            | true => rw [hz] at h; cases h
            | false =>
              rw [hz, cond_false, withW_eq, getC_fun] at h
              injection h with h; subst h
              have hn : n ≠ 0 := by
                intro e; subst e; cases hz
              refine ⟨fun m => (evA m x).bind fun v => match v with | .agg cs => (sub? cs fl.offset n).map .agg | _ => none, fun m o ho => ?_, fun m κ => ?_⟩
              · unfold aeff; rw [ho]
                simp only [h1]
                cases evA m x with
                | none => rfl
                | some v =>
                  cases v <;> first | rfl | skip
                  simp only [h2, partA, h3, h4, Option.bind_some]
              · show ((Option.rec (motive := fun _ => RO) none (fun v => toAgg v (fun l => takeK n (dropF l fl.offset) fun l => κ (.agg l)) none) (evA m x))) = _
                rw [ob_eq]; try dsimp only
                cases evA m x with
                | none => rfl
                | some v =>
                  cases v <;> first | rfl | skip
                  rename_i cs
                  show takeK n (dropF cs fl.offset) (fun l => κ (.agg l)) = ((sub? cs fl.offset n).map .agg).bind κ
                  rw [subK_eq hn]
                  cases sub? cs fl.offset n <;> rfl
          · cases h
        · rename_i h3
          rw [withW_eq, getC_fun] at h
          injection h with h; subst h
          refine ⟨fun m => (evA m x).bind fun v => match v with | .agg cs => nthL cs fl.offset | _ => none, fun m o ho => ?_, fun m κ => ?_⟩
          · unfold aeff; rw [ho]
            simp only [h1]
            cases evA m x with
            | none => rfl
            | some v =>
              cases v <;> first | rfl | skip
              simp only [h2, partA, h3, Option.bind_some]
          · show ((Option.rec (motive := fun _ => RO) none (fun v => toAgg v (fun l => nthK l fl.offset κ) none) (evA m x))) = _
            rw [ob_eq]; try dsimp only
            cases evA m x with
            | none => rfl
            | some v =>
              cases v <;> first | rfl | skip
              exact nthK_eq _ _ _
        · cases h
      · cases h
    · cases h
  case indexAddr t x ix =>
    rw [show valC P (.indexAddr t x ix) = indexAddrV P t x ix from rfl] at h
    unfold indexAddrV at h
    split at h
    · rename_i e h1
      split at h
      · rename_i sz h2
        rw [withW_eq, withW_eq, getC_fun, getC_fun] at h
        injection h with h; subst h
        refine ⟨fun m => match evA m x, evA m ix with | some a, some b => indexA P t a b | _, _ => none, fun m o ho => ?_, fun m κ => ?_⟩
        · unfold aeff; rw [ho]
          simp only
          cases evA m x with
          | none => rfl
          | some a => cases evA m ix <;> rfl
        · show ((Option.rec (motive := fun _ => RO) none (fun a => (Option.rec (motive := fun _ => RO) none (fun c => toSl a (fun b o n => toN c (fun _ i => (Bool.rec (motive := fun _ => _) none (forceN (Nat.add o (Nat.mul i sz)) fun z => κ (.p b z)) (Nat.blt i n))) none) none) (evA m ix))) (evA m x))) = _
          rw [ob_eq]; try dsimp only
          cases evA m x with
          | none => rfl
          | some a =>
            show ((Option.rec (motive := fun _ => RO) none _ (evA m ix))) = _
            rw [ob_eq]; try dsimp only
            cases evA m ix with
            | none => rfl
            | some c =>
              show _ = (indexA P t a c).bind κ
              unfold indexA
              rw [h1]
              cases a <;> first | (cases c <;> rfl) | skip
              rename_i b q n lo ex z
              show toN c _ none = _
              cases c <;> first | rfl | skip
              rename_i k i
              cases i with
              | negSucc i => rfl
              | ofNat i =>
                simp only [natOf, h2, Option.bind_some]
                show (Bool.rec (motive := fun _ => _) none (forceN (Nat.add q (Nat.mul i sz)) fun z => κ (.p b z)) (Nat.blt i n)) = (cond (Nat.blt i n) (some (AV.p b (q + i * sz))) none).bind κ
                cases Nat.blt i n with
                | false => rfl
                | true => exact forceN_eq _ _
      · cases h
    · cases h
  case extract t ix =>
    rw [show valC P (.extract t ix) = withW (getC t) fun g => some (extractC ix g) from rfl, withW_eq, getC_fun] at h
    injection h with h; subst h
    refine ⟨fun m => match evA m t with | some (.tup vs) => nthL vs ix | _ => none, fun m o ho => ?_, fun m κ => ?_⟩
    · unfold aeff; rw [ho]
      simp only
      split <;> simp_all
    · show ((Option.rec (motive := fun _ => RO) none (fun v => toTup v (fun l => nthK l ix κ) none) (evA m t))) = _
      rw [ob_eq]; try dsimp only
      cases evA m t with
      | none => rfl
      | some v =>
        cases v <;> first | rfl | skip
        exact nthK_eq _ _ _
  case slice t x lo hi mx =>
    rw [show valC P (.slice t x lo hi mx) = withW (getC x) fun g => some (sliceC P t lo hi mx g) from rfl, withW_eq, getC_fun] at h
    injection h with h; subst h
    refine ⟨fun m => (evA m x).bind fun v => sliceA P (evA m) t v lo hi mx, fun m o ho => ?_, fun m κ => ?_⟩
    · unfold aeff; rw [ho]
      simp only
      cases evA m x <;> rfl
    · show ((Option.rec (motive := fun _ => RO) none (fun v => (Option.rec (motive := fun _ => RO) none κ (sliceA P (evA m) t v lo hi mx))) (evA m x))) = _
      rw [ob_eq]; try dsimp only
      cases evA m x with
      | none => rfl
      | some v => exact ob_eq _ _
  case call cc =>
    rw [show valC P (.call cc) = callV P cc from rfl] at h
    unfold callV at h
    split at h
    · rename_i hcal
      unfold lenV at h
      split at h
      · rename_i t ts x hty hargs
        split at h
        · rename_i e h1
          rw [withW_eq, getC_fun] at h
          injection h with h; subst h
          refine ⟨fun m => (evA m x).bind fun v => match v with | .ns => some (.i .i64 0) | .sl _ _ n _ _ _ => some (.i .i64 (.ofNat n)) | .x (.slice _ n _) => some (.i .i64 (.ofNat n)) | _ => none, fun m o ho => ?_, fun m κ => ?_⟩
          · unfold aeff; rw [ho]
            simp only [hcal, hargs, evAll]
            cases evA m x with
            | none => rfl
            | some v =>
              simp only [Option.bind_some, builtinA, hty, h1]
              cases v <;> first | rfl | skip
              rename_i u
              cases u <;> rfl
          · show ((Option.rec (motive := fun _ => RO) none _ (evA m x))) = _
            rw [ob_eq]; try dsimp only
            cases evA m x with
            | none => rfl
            | some v =>
              cases v <;> first | rfl | skip
              rename_i u
              cases u <;> rfl
        · cases h
      · cases h
    · cases h
  all_goals (cases h; done)
end Go.Proofs.YtpoohfmddkgndaaAm
