/- The same evaluator, each operation prepared once: code, calls; it tells what the other one tells. -/
import Derived.Test.YtpoohfmddkgndaaAmZ
set_option linter.unusedVariables false
set_option linter.unusedSimpArgs false
namespace Go.Proofs.YtpoohfmddkgndaaAm
open Go

/-! ### calls -/
abbrev RC := Option (AV × Heap)
structure FnC where
  f : RunA → List AV → Heap → RC
structure ResC where
  f : T AV → Heap → Option (List AV)
noncomputable def resS (P : Program) (r : ResultVar) (h : T AV → Heap → Option (List AV)) : ResC := match r with
  | .tmp t => Way.rec (motive := fun _ => ResC) (fun g => .mk fun m H => Option.rec (motive := fun _ => Option (List AV)) none (fun v => Option.rec (motive := fun _ => Option (List AV)) none (fun vs => some (v :: vs)) (h m H)) (g m)) (way AV t)
  | r => .mk fun m H => Option.rec (motive := fun _ => Option (List AV)) none (fun v => Option.rec (motive := fun _ => Option (List AV)) none (fun vs => some (v :: vs)) (h m H)) (resV P m H r)
noncomputable def resC (P : Program) (l : List ResultVar) : ResC :=
  List.rec (motive := fun _ => ResC) (.mk fun _ _ => some []) (fun r _ ih => ResC.rec (motive := fun _ => ResC) (fun h => resS P r h) ih) l
theorem resC_eq (P : Program) (m : T AV) (H : Heap) : ∀ l : List ResultVar, (resC P l).f m H = resL P m H l
  | [] => rfl
  | r :: l => by
    have ih := resC_eq P m H l
    show (ResC.rec (motive := fun _ => ResC) (fun h => resS P r h) (resC P l) : ResC).f m H = _
    cases hl : resC P l with
    | mk h =>
      rw [hl] at ih
      have ih : h m H = resL P m H l := ih
      have fin : ∀ x : Option AV, (Option.rec (motive := fun _ => Option (List AV)) none (fun v => Option.rec (motive := fun _ => Option (List AV)) none (fun vs => some (v :: vs)) (h m H)) x : Option (List AV)) = match x, resL P m H l with | some v, some vs => some (v :: vs) | _, _ => none := by
        intro x
        rw [ih]
        cases x with
        | none => rfl
        | some v => cases resL P m H l <;> rfl
      cases r with
      | tmp t =>
        have hw := way_eq t m
        unfold resS
        simp only
        cases hg : way AV t with
        | mk g =>
          rw [hg] at hw
          have hw : g m = m.get t := hw
          exact (fin (g m)).trans (by rw [hw]; rfl)
      | cell a t => exact fin (resV P m H (.cell a t))
noncomputable def initF (vs : List AV) : Nat → T AV → T AV :=
  List.rec (motive := fun _ => Nat → T AV → T AV) (fun _ m => m) (fun v _ ih i m => ih (Nat.succ i) (Set'.rec (motive := fun _ => AV → T AV → T AV) (fun s v m => s (some v) m) (setW AV i) v m)) vs
theorem initF_eq : ∀ (vs : List AV) (i : Nat) (m : T AV), initF vs i m = initA vs i m
  | [], _, _ => rfl
  | v :: vs, i, m => by
    show initF vs (i + 1) (Set'.rec (motive := fun _ => AV → T AV → T AV) (fun s v m => s (some v) m) (setW AV i) v m) = initA vs (i + 1) (m.set i (some v))
    rw [initF_eq vs]
    congr 1
    have := setW_eq i (some v) m
    cases hs : setW AV i with
    | mk s => rw [hs] at this; exact this
noncomputable def fnC (P : Program) (f : FuncId) : FnC := match P.funcs[f]? with
  | some fn => match fn.body with
    | some c => ResC.rec (motive := fun _ => FnC) (fun res => .mk fun rec args H => (Bool.rec (motive := fun _ => _) none (Option.rec (motive := fun _ => RC) none (fun p => Prod.rec (motive := fun _ => RC) (fun m H' => Option.rec (motive := fun _ => RC) none (fun vs => some (tupled vs, H')) (res m H')) p) (rec fn.ntmps (initF args 0 .lf) [.code c] H)) (Nat.ble (lenF args) fn.ntmps))) (resC P fn.results.toList)
    | none => .mk fun _ _ _ => none
  | none => .mk fun _ _ _ => none
noncomputable def callF (P : Program) (rec : RunA) : CallA := fun f args H => FnC.rec (motive := fun _ => RunA → List AV → Heap → RC) (fun g => g) (fnC P f) rec args H
theorem callF_eq (P : Program) (rec : RunA) : callF P rec = callA P rec := by
  funext f args H
  unfold callF callA fnC
  cases P.funcs[f]? with
  | none => rfl
  | some fn =>
    simp only
    cases hb : fn.body with
    | none => rfl
    | some c =>
      simp only
      have hr := fun m H => resC_eq P m H fn.results.toList
      cases hc : resC P fn.results.toList with
      | mk res =>
        rw [hc] at hr
        show (Bool.rec (motive := fun _ => _) none (Option.rec (motive := fun _ => RC) none (fun p => Prod.rec (motive := fun _ => RC) (fun m H' => Option.rec (motive := fun _ => RC) none (fun vs => some (tupled vs, H')) (res m H')) p) (rec fn.ntmps (initF args 0 .lf) [.code c] H)) (Nat.ble (lenF args) fn.ntmps)) = _
        rw [lenF_eq, initF_eq]
        cases Nat.ble args.length fn.ntmps with
        | false => rfl
        | true =>
          simp only [cond_true]
          cases rec fn.ntmps (initA args 0 .lf) [.code c] H with
          | none => rfl
          | some p =>
            show (Option.rec (motive := fun _ => RC) none (fun vs => some (tupled vs, p.2)) (res p.1 p.2) : RC) = (resL P p.1 p.2 fn.results.toList).map fun vs => (tupled vs, p.2)
            rw [show res p.1 p.2 = resL P p.1 p.2 fn.results.toList from hr p.1 p.2]
            cases resL P p.1 p.2 fn.results.toList <;> rfl

/-! ### code -/
noncomputable def itB (it : Item) : Nat → RO → RO → RO := @Item.rec (fun _ => Nat → RO → RO → RO) (fun _ _ _ y => y) (fun id' id x y => (Bool.rec (motive := fun _ => _) y x (Nat.beq id' id))) (fun _ _ _ y => y) (fun _ _ _ y => y) (fun _ _ _ _ y => y) (fun _ _ _ y => y) (fun _ _ _ y => y) (fun _ _ y => y) (fun _ _ _ _ _ _ y => y) (fun _ _ _ _ y => y) it
noncomputable def exitK (id : Nat) (k : List Item) : (List Item → RO) → RO :=
  List.rec (motive := fun _ => (List Item → RO) → RO) (fun _ => none) (fun it k ih κ => itB it id (κ k) (ih κ)) k
theorem exitK_eq (id : Nat) (κ : List Item → RO) : ∀ k : List Item, exitK id k κ = (exitTo id k).bind κ
  | [] => rfl
  | it :: k => by
    have ih := exitK_eq id κ k
    cases it with
    | inBlock id' =>
      show (Bool.rec (motive := fun _ => _) (exitK id k κ) (κ k) (Nat.beq id' id)) = _
      have e : (id' == id) = Nat.beq id' id := by rw [Bool.eq_iff_iff]; simp
      simp only [exitTo, e]
      cases Nat.beq id' id with
      | true => rfl
      | false => exact ih
    | _ => exact ih
structure CodeC where
  f : RunA → T AV → List Item → Heap → RO
noncomputable def regionC (P : Program) (N : Nat) (ops : Array Oper) (d : Bool) : CodeC := cond d
  (Option.rec (motive := fun _ => CodeC) (.mk fun _ _ _ _ => none) (fun ms => DrC.rec (motive := fun _ => CodeC) (fun g => .mk fun rec m k H => g (callF P rec) m H [] [] fun m' H' => rec N m' k H') (drC P N ops ops.toList ms 0)) (drawMs ops [] ops.toList []))
  (OpC.rec (motive := fun _ => CodeC) (fun g => .mk fun rec m k H => g (callF P rec) m H fun m' H' => rec N m' k H') (opsC P N ops ops.toList))
noncomputable def codeC (P : Program) (N : Nat) (c : Code) : CodeC := match c with
  | .skip | .label _ => .mk fun rec m k H => rec N m k H
  | .ret => .mk fun _ m _ H => some (m, H)
  | .seq x y => .mk fun rec m k H => rec N m (.code x :: .code y :: k) H
  | .cond c x y => Way.rec (motive := fun _ => CodeC) (fun g => .mk fun rec m k H => (Option.rec (motive := fun _ => RO) none (fun v => toB v (rec N m (.code x :: k) H) (rec N m (.code y :: k) H) none) (g m))) (getC c)
  | .block id x => .mk fun rec m k H => rec N m (.code x :: .inBlock id :: k) H
  | .loop x => .mk fun rec m k H => rec N m (.code x :: .inLoop x :: k) H
  | .scope x => .mk fun rec m k H => rec N m (.code x :: .inScope x :: k) H
  | .exit id => .mk fun rec m k H => exitK id k fun k' => rec N m k' H
  | .goto l => .mk fun rec m k H => (Option.rec (motive := fun _ => RO) none (fun k' => rec N m k' H) (gotoIn l k))
  | .region _ ops d => regionC P N ops d
  | _ => .mk fun _ _ _ _ => none
noncomputable def itemF (P : Program) (it : Item) : RunA → Nat → T AV → List Item → Heap → RO :=
  @Item.rec (fun _ => RunA → Nat → T AV → List Item → Heap → RO) (fun c rec N m k H => CodeC.rec (motive := fun _ => RunA → T AV → List Item → Heap → RO) (fun f => f) (codeC P N c) rec m k H)
    (fun _ rec N m k H => rec N m k H) (fun x rec N m k H => rec N m (.code x :: .inLoop x :: k) H) (fun _ rec N m k H => rec N m k H)
    (fun _ _ _ _ _ _ _ => none) (fun _ _ _ _ _ _ => none) (fun _ _ _ _ _ _ => none) (fun _ _ _ _ _ => none) (fun _ _ _ _ _ _ _ _ _ => none) (fun _ _ _ _ _ _ _ => none) it
noncomputable def stepF (P : Program) (rec : RunA) : RunA := fun N m todo H =>
  List.rec (motive := fun _ => RunA → Nat → T AV → Heap → RO) (fun _ _ m H => some (m, H)) (fun it k _ rec N m H => itemF P it rec N m k H) todo rec N m H
noncomputable def runF (P : Program) (n : Nat) : RunA := Nat.rec (motive := fun _ => RunA) (fun _ _ _ _ => none) (fun _ ih => stepF P ih) n
theorem regionC_eq (P : Program) (N : Nat) (ops : Array Oper) (d : Bool) (rec : RunA) (m : T AV) (k : List Item) (H : Heap) : (regionC P N ops d).f rec m k H = (regionA P (callA P rec) N m H ops d).bind fun (m', H') => rec N m' k H' := by
  unfold regionC regionA
  cases d with
  | false =>
    have h := opsC_eq P N ops (callA P rec) ops.toList m H fun m' H' => rec N m' k H'
    simp only [cond_false]
    cases hg : opsC P N ops ops.toList with
    | mk g =>
      rw [hg] at h
      show g (callF P rec) m H (fun m' H' => rec N m' k H') = _
      rw [callF_eq]; exact h
  | true =>
    simp only [cond_true]
    cases drawMs ops [] ops.toList [] with
    | none => rfl
    | some ms =>
      have h := drC_eq P N ops (callA P rec) ops.toList ms 0 m H [] [] fun m' H' => rec N m' k H'
      rw [← callF_eq] at h ⊢
      exact h
theorem stepF_eq (P : Program) (rec : RunA) : stepF P rec = stepA P rec := by
  funext N m todo H
  cases todo with
  | nil => rfl
  | cons it k =>
    cases it with
    | code c =>
      show CodeC.rec (motive := fun _ => RunA → T AV → List Item → Heap → RO) (fun f => f) (codeC P N c) rec m k H = stepA P rec N m (.code c :: k) H
      have hp : ∀ (cc : CodeC), CodeC.rec (motive := fun _ => RunA → T AV → List Item → Heap → RO) (fun f => f) cc rec m k H = cc.f rec m k H := fun cc => by cases cc; rfl
      rw [hp]
      cases c with
      | region id ops d => exact regionC_eq P N ops d rec m k H
      | cond c x y =>
        have hg := getC_eq c m
        unfold codeC
        simp only
        cases hw : getC c with
        | mk g =>
          rw [hw] at hg
          show ((Option.rec (motive := fun _ => RO) none (fun v => toB v (rec N m (.code x :: k) H) (rec N m (.code y :: k) H) none) (g m))) = _
          rw [ob_eq, show g m = evA m c from hg]
          simp only [stepA]
          cases evA m c with
          | none => rfl
          | some v =>
            cases v <;> first | rfl | skip
            rename_i b
            cases b <;> rfl
      | exit id => exact exitK_eq id _ k
      | goto l => exact ob_eq _ _
      | _ => rfl
    | _ => rfl
theorem runF_eq (P : Program) : ∀ n, runF P n = runA P n
  | 0 => rfl
  | n + 1 => by
    show stepF P (runF P n) = stepA P (runA P n)
    rw [runF_eq P n, stepF_eq]
theorem says_fast {P : Program} {f : FuncId} {n : Nat} {args : List AV} (h : isT (callF P (runF P n) f args ⟨0, .lf⟩) = true) : SaysTrue P f n args := ⟨by rw [callF_eq, runF_eq] at h; exact h⟩
end Go.Proofs.YtpoohfmddkgndaaAm
