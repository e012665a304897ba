/- The same evaluator, each operation prepared once: for the kernel's sake. Ways to a cell of a map; values taken apart. -/
import Derived.Test.YtpoohfmddkgndaaAmU
set_option linter.unusedVariables false
set_option linter.unusedSimpArgs false
namespace Go.Proofs.YtpoohfmddkgndaaAm
open Go

abbrev RO := Option (T AV × Heap)
theorem brc {α : Sort _} (c : Bool) (x y : α) : (Bool.rec (motive := fun _ => α) y x c) = cond c x y := by cases c <;> rfl
theorem ob_eq {α : Type} (x : Option α) (κ : α → RO) : Option.rec (motive := fun _ => RO) none κ x = x.bind κ := by cases x <;> rfl

/-! ### ways -/
structure Way (α : Type) where
  f : T α → Option α
noncomputable def wayF (α : Type) (d : Nat) : Nat → Way α :=
  Nat.rec (motive := fun _ => Nat → Way α) (fun _ => .mk fun _ => none)
    (fun _ ih k => (Bool.rec (motive := fun _ => _) ((Bool.rec (motive := fun _ => _) (Way.rec (motive := fun _ => Way α) (fun g => .mk fun t => T.rec (motive := fun _ => Option α) none (fun _ _ r _ _ => g r) t) (ih (Nat.pred (Nat.div k 2)))) (Way.rec (motive := fun _ => Way α) (fun g => .mk fun t => T.rec (motive := fun _ => Option α) none (fun l _ _ _ _ => g l) t) (ih (Nat.div k 2))) (Nat.beq (Nat.mod k 2) 1))) (.mk fun t => T.rec (motive := fun _ => Option α) none (fun _ v _ _ _ => v) t) (Nat.beq k 0))) d
noncomputable def way (α : Type) (k : Nat) : Way α := wayF α (Nat.succ k) k
theorem wayF_eq {α : Type} : ∀ (d k : Nat) (t : T α), k < d → (wayF α d k).f t = t.get k
  | 0, k, t, h => by omega
  | d + 1, k, t, h => by
    have e1 : Nat.beq k 0 = decide (k = 0) := by cases k <;> rfl
    have e2 : Nat.beq (Nat.mod k 2) 1 = decide (k % 2 = 1) := by
      rw [Bool.eq_iff_iff]; simp only [Nat.beq_eq, decide_eq_true_eq]; exact Iff.rfl
    show ((Bool.rec (motive := fun _ => _) ((Bool.rec (motive := fun _ => _) (Way.rec (motive := fun _ => Way α) (fun g => .mk fun t => T.rec (motive := fun _ => Option α) none (fun _ _ r _ _ => g r) t) (wayF α d (Nat.pred (Nat.div k 2)))) (Way.rec (motive := fun _ => Way α) (fun g => .mk fun t => T.rec (motive := fun _ => Option α) none (fun l _ _ _ _ => g l) t) (wayF α d (Nat.div k 2))) (Nat.beq (Nat.mod k 2) 1))) (Way.mk fun t => T.rec (motive := fun _ => Option α) none (fun _ v _ _ _ => v) t) (Nat.beq k 0))).f t = _
    rw [e1, e2]
    have ih := wayF_eq (α := α) d
    by_cases h0 : k = 0
    · subst h0
      cases t <;> rfl
    · have hd : Nat.div k 2 < d := by show k / 2 < d; omega
      have hp : Nat.pred (Nat.div k 2) < d := by show k / 2 - 1 < d; omega
      by_cases h2 : k % 2 = 1
      · simp only [h0, h2, decide_true, decide_false, cond_true, cond_false]
        have i1 := fun t => ih (Nat.div k 2) t hd
        cases hw : wayF α d (Nat.div k 2) with
        | mk g =>
          rw [hw] at i1
          cases t with
          | lf => exact (T.get_lf k).symm
          | nd l v r => rw [T.get_nd, if_neg h0, if_pos h2]; exact i1 l
      · simp only [h0, h2, decide_false, cond_false]
        have i1 := fun t => ih (Nat.pred (Nat.div k 2)) t hp
        cases hw : wayF α d (Nat.pred (Nat.div k 2)) with
        | mk g =>
          rw [hw] at i1
          cases t with
          | lf => exact (T.get_lf k).symm
          | nd l v r => rw [T.get_nd, if_neg h0, if_neg h2]; exact i1 r
theorem way_eq {α : Type} (k : Nat) (t : T α) : (way α k).f t = t.get k := wayF_eq _ _ _ (Nat.lt_succ_self k)
structure Set' (α : Type) where
  f : Option α → T α → T α
noncomputable def setWF (α : Type) (d : Nat) : Nat → Set' α :=
  Nat.rec (motive := fun _ => Nat → Set' α) (fun _ => .mk fun _ t => t)
    (fun _ ih k => (Bool.rec (motive := fun _ => _) ((Bool.rec (motive := fun _ => _) (Set'.rec (motive := fun _ => Set' α) (fun g => .mk fun x t => T.rec (motive := fun _ => Option α → T α) (fun x => .nd .lf none (g x .lf)) (fun l v r _ _ x => .nd l v (g x r)) t x) (ih (Nat.pred (Nat.div k 2)))) (Set'.rec (motive := fun _ => Set' α) (fun g => .mk fun x t => T.rec (motive := fun _ => Option α → T α) (fun x => .nd (g x .lf) none .lf) (fun l v r _ _ x => .nd (g x l) v r) t x) (ih (Nat.div k 2))) (Nat.beq (Nat.mod k 2) 1))) (.mk fun x t => T.rec (motive := fun _ => Option α → T α) (fun x => .nd .lf x .lf) (fun l _ r _ _ x => .nd l x r) t x) (Nat.beq k 0))) d
noncomputable def setW (α : Type) (k : Nat) : Set' α := setWF α (Nat.succ k) k
theorem setWF_eq {α : Type} : ∀ (d k : Nat) (x : Option α) (t : T α), (setWF α d k).f x t = T.setF x d t k
  | 0, k, x, t => rfl
  | d + 1, k, x, t => by
    show ((Bool.rec (motive := fun _ => _) ((Bool.rec (motive := fun _ => _) (Set'.rec (motive := fun _ => Set' α) (fun g => .mk fun x t => T.rec (motive := fun _ => Option α → T α) (fun x => .nd .lf none (g x .lf)) (fun l v r _ _ x => .nd l v (g x r)) t x) (setWF α d (Nat.pred (Nat.div k 2)))) (Set'.rec (motive := fun _ => Set' α) (fun g => .mk fun x t => T.rec (motive := fun _ => Option α → T α) (fun x => .nd (g x .lf) none .lf) (fun l v r _ _ x => .nd (g x l) v r) t x) (setWF α d (Nat.div k 2))) (Nat.beq (Nat.mod k 2) 1))) (Set'.mk fun x t => T.rec (motive := fun _ => Option α → T α) (fun x => .nd .lf x .lf) (fun l _ r _ _ x => .nd l x r) t x) (Nat.beq k 0))).f x t
      = T.casesOn (motive := fun _ => T α) t
      (cond (Nat.beq k 0) (.nd .lf x .lf) (cond (Nat.beq (Nat.mod k 2) 1) (.nd (T.setF x d .lf (Nat.div k 2)) none .lf) (.nd .lf none (T.setF x d .lf (Nat.pred (Nat.div k 2))))))
      (fun l v r => cond (Nat.beq k 0) (.nd l x r) (cond (Nat.beq (Nat.mod k 2) 1) (.nd (T.setF x d l (Nat.div k 2)) v r) (.nd l v (T.setF x d r (Nat.pred (Nat.div k 2))))))
    have ih := setWF_eq (α := α) d
    cases Nat.beq k 0 with
    | true => cases t <;> rfl
    | false =>
      cases Nat.beq (Nat.mod k 2) 1 with
      | true =>
        simp only [cond_true, cond_false]
        have i1 := fun x t => ih (Nat.div k 2) x t
        cases hw : setWF α d (Nat.div k 2) with
        | mk g =>
          rw [hw] at i1
          have i1 : ∀ x t, g x t = T.setF x d t (Nat.div k 2) := i1
          cases t with
          | lf => show T.nd (g x .lf) none .lf = _; rw [i1]
          | nd l v r => show T.nd (g x l) v r = _; rw [i1]
      | false =>
        simp only [cond_false]
        have i1 := fun x t => ih (Nat.pred (Nat.div k 2)) x t
        cases hw : setWF α d (Nat.pred (Nat.div k 2)) with
        | mk g =>
          rw [hw] at i1
          have i1 : ∀ x t, g x t = T.setF x d t (Nat.pred (Nat.div k 2)) := i1
          cases t with
          | lf => show T.nd .lf none (g x .lf) = _; rw [i1]
          | nd l v r => show T.nd l v (g x r) = _; rw [i1]
theorem setW_eq {α : Type} (k : Nat) (x : Option α) (t : T α) : (setW α k).f x t = t.set k x := setWF_eq _ _ _ _

/-! ### values taken apart: what is not closed comes behind the value -/
noncomputable def toP (v : AV) : (Nat → Nat → RO) → RO → RO := @AV.rec (fun _ => (Nat → Nat → RO) → RO → RO) (fun _ => PUnit)
  (fun _ _ d => d) (fun _ _ _ d => d) (fun _ _ d => d) (fun b o κ _ => κ b o) (fun _ d => d) (fun _ _ _ _ _ _ _ d => d) (fun _ d => d) (fun _ _ _ _ d => d) (fun _ d => d) (fun _ _ _ d => d) (fun _ _ _ d => d) (fun _ _ d => d) ⟨⟩ (fun _ _ _ _ => ⟨⟩) v
noncomputable def toB (v : AV) : RO → RO → RO → RO := @AV.rec (fun _ => RO → RO → RO → RO) (fun _ => PUnit)
  (fun c x y _ => (Bool.rec (motive := fun _ => _) y x c)) (fun _ _ _ _ d => d) (fun _ _ _ d => d) (fun _ _ _ _ d => d) (fun _ _ d => d) (fun _ _ _ _ _ _ _ _ d => d) (fun _ _ d => d) (fun _ _ _ _ _ d => d) (fun _ _ d => d) (fun _ _ _ _ d => d) (fun _ _ _ _ d => d) (fun _ _ _ d => d) ⟨⟩ (fun _ _ _ _ => ⟨⟩) v
noncomputable def toN (v : AV) : (IntKind → Nat → RO) → RO → RO := @AV.rec (fun _ => (IntKind → Nat → RO) → RO → RO) (fun _ => PUnit)
  (fun _ _ d => d) (fun k n => Int.rec (motive := fun _ => (IntKind → Nat → RO) → RO → RO) (fun n κ _ => κ k n) (fun _ _ d => d) n) (fun _ _ d => d) (fun _ _ _ d => d) (fun _ d => d) (fun _ _ _ _ _ _ _ d => d) (fun _ d => d) (fun _ _ _ _ d => d) (fun _ d => d) (fun _ _ _ d => d) (fun _ _ _ d => d) (fun _ _ d => d) ⟨⟩ (fun _ _ _ _ => ⟨⟩) v
noncomputable def toSl (v : AV) : (Nat → Nat → Nat → RO) → RO → RO := @AV.rec (fun _ => (Nat → Nat → Nat → RO) → RO → RO) (fun _ => PUnit)
  (fun _ _ d => d) (fun _ _ _ d => d) (fun _ _ d => d) (fun _ _ _ d => d) (fun _ d => d) (fun b o n _ _ _ κ _ => κ b o n) (fun _ d => d) (fun _ _ _ _ d => d) (fun _ d => d) (fun _ _ _ d => d) (fun _ _ _ d => d) (fun _ _ d => d) ⟨⟩ (fun _ _ _ _ => ⟨⟩) v
noncomputable def toAgg (v : AV) : (List AV → RO) → RO → RO := @AV.rec (fun _ => (List AV → RO) → RO → RO) (fun _ => PUnit)
  (fun _ _ d => d) (fun _ _ _ d => d) (fun _ _ d => d) (fun _ _ _ d => d) (fun _ d => d) (fun _ _ _ _ _ _ _ d => d) (fun _ d => d) (fun _ _ _ _ d => d) (fun _ d => d) (fun l _ κ _ => κ l) (fun _ _ _ d => d) (fun _ _ d => d) ⟨⟩ (fun _ _ _ _ => ⟨⟩) v
noncomputable def toTup (v : AV) : (List AV → RO) → RO → RO := @AV.rec (fun _ => (List AV → RO) → RO → RO) (fun _ => PUnit)
  (fun _ _ d => d) (fun _ _ _ d => d) (fun _ _ d => d) (fun _ _ _ d => d) (fun _ d => d) (fun _ _ _ _ _ _ _ d => d) (fun _ d => d) (fun _ _ _ _ d => d) (fun _ d => d) (fun _ _ _ d => d) (fun l _ κ _ => κ l) (fun _ _ d => d) ⟨⟩ (fun _ _ _ _ => ⟨⟩) v
/-- one cell: fast; a struct: its cells; else: slow -/
noncomputable def toC (v : AV) : RO → (List AV → RO) → RO → RO := @AV.rec (fun _ => RO → (List AV → RO) → RO → RO) (fun _ => PUnit)
  (fun _ x _ _ => x) (fun _ _ x _ _ => x) (fun _ x _ _ => x) (fun _ _ x _ _ => x) (fun x _ _ => x) (fun _ _ _ _ _ _ x _ _ => x) (fun x _ _ => x) (fun _ _ _ x _ _ => x) (fun x _ _ => x) (fun l _ _ κ _ => κ l) (fun _ _ _ _ d => d) (fun _ _ _ d => d) ⟨⟩ (fun _ _ _ _ => ⟨⟩) v
/-- the cell o of a row -/
noncomputable def nthK (cs : List AV) : Nat → (AV → RO) → RO :=
  List.rec (motive := fun _ => Nat → (AV → RO) → RO) (fun _ _ => none) (fun x _ ih o => Nat.rec (motive := fun _ => (AV → RO) → RO) (fun κ => κ x) (fun o _ => ih o) o) cs
theorem nthK_eq : ∀ (cs : List AV) (o : Nat) (κ : AV → RO), nthK cs o κ = (nthL cs o).bind κ
  | [], o, κ => by cases o <;> rfl
  | x :: cs, 0, κ => rfl
  | x :: cs, o + 1, κ => nthK_eq cs o κ
theorem nthL_get : ∀ (cs : List AV) (o : Nat), nthL cs o = cs[o]?
  | [], o => by cases o <;> rfl
  | x :: cs, 0 => rfl
  | x :: cs, o + 1 => by simpa [nthL] using nthL_get cs o
theorem sub_one (cs : List AV) (o : Nat) : (sub? cs o 1).bind (fun l => l.head?) = nthL cs o := by
  rw [nthL_get]
  unfold sub?
  have e : Nat.ble (o + 1) cs.length = decide (o + 1 ≤ cs.length) := by rw [Bool.eq_iff_iff, Nat.ble_eq, decide_eq_true_eq]
  rw [e]
  by_cases h : o + 1 ≤ cs.length
  · rw [decide_eq_true h]
    show ((cs.drop o).take 1).head? = _
    rw [List.head?_take, if_neg (by omega), List.head?_drop]
  · rw [decide_eq_false h]
    show none = _
    rw [List.getElem?_eq_none (by omega)]
/-- n cells from o on -/
noncomputable def takeK (n : Nat) : List AV → (List AV → RO) → RO :=
  Nat.rec (motive := fun _ => List AV → (List AV → RO) → RO) (fun _ κ => κ []) (fun _ ih l => List.rec (motive := fun _ => (List AV → RO) → RO) (fun _ => none) (fun x xs _ κ => ih xs fun ys => κ (x :: ys)) l) n
noncomputable def dropF (cs : List AV) : Nat → List AV :=
  List.rec (motive := fun _ => Nat → List AV) (fun _ => []) (fun x xs ih o => Nat.rec (motive := fun _ => List AV) (x :: xs) (fun o _ => ih o) o) cs
theorem dropF_eq : ∀ (cs : List AV) (o : Nat), dropF cs o = cs.drop o
  | [], o => by simp [dropF]
  | x :: cs, 0 => rfl
  | x :: cs, o + 1 => dropF_eq cs o
theorem takeK_eq : ∀ (n : Nat) (l : List AV) (κ : List AV → RO), takeK n l κ = cond (Nat.ble n l.length) (κ (l.take n)) none
  | 0, l, κ => by
    rw [show Nat.ble 0 l.length = true from Nat.ble_eq_true_of_le (Nat.zero_le _)]; rfl
  | n + 1, [], κ => rfl
  | n + 1, x :: l, κ => by
    show takeK n l (fun ys => κ (x :: ys)) = _
    rw [takeK_eq n l]; rfl
theorem subK_eq {n : Nat} (hn : n ≠ 0) (cs : List AV) (o : Nat) (κ : List AV → RO) : takeK n (dropF cs o) κ = (sub? cs o n).bind κ := by
  rw [takeK_eq, dropF_eq]
  unfold sub?
  have e : ∀ a b : Nat, Nat.ble a b = decide (a ≤ b) := fun a b => by rw [Bool.eq_iff_iff, Nat.ble_eq, decide_eq_true_eq]
  rw [e, e, List.length_drop]
  by_cases h : o + n ≤ cs.length
  · rw [decide_eq_true h, decide_eq_true (by omega)]; rfl
  · rw [decide_eq_false h, decide_eq_false (by omega)]; rfl
/-- one cell written -/
noncomputable def setK (v : AV) (cs : List AV) : Nat → (List AV → RO) → RO :=
  List.rec (motive := fun _ => Nat → (List AV → RO) → RO) (fun _ _ => none) (fun x xs ih o => Nat.rec (motive := fun _ => (List AV → RO) → RO) (fun κ => κ (v :: xs)) (fun o _ κ => ih o fun ys => κ (x :: ys)) o) cs
theorem setK_eq (v : AV) : ∀ (cs : List AV) (o : Nat) (κ : List AV → RO), setK v cs o κ = cond (Nat.ble (o + 1) cs.length) (κ (splice cs o [v])) none
  | [], o, κ => by cases o <;> rfl
  | x :: cs, 0, κ => by
    show κ (v :: cs) = κ (splice (x :: cs) 0 [v])
    simp [splice]
  | x :: cs, o + 1, κ => by
    show setK v cs o (fun ys => κ (x :: ys)) = _
    rw [setK_eq v cs o]
    show _ = cond (Nat.ble (o + 1) cs.length) (κ (splice (x :: cs) (o + 1) [v])) none
    have : splice (x :: cs) (o + 1) [v] = x :: splice cs o [v] := by simp [splice, Nat.add_comm, Nat.add_left_comm, Nat.add_assoc]
    rw [this]
end Go.Proofs.YtpoohfmddkgndaaAm
