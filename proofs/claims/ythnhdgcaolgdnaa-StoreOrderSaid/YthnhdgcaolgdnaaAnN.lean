/- Regions that draw their order: what the evaluator's own order shows. -/
import Derived.Test.YthnhdgcaolgdnaaAnM
set_option linter.unusedVariables false
set_option linter.unusedSimpArgs false
namespace Go.Proofs.YthnhdgcaolgdnaaAn
open Go

/-! ### an operation looks at its operands alone -/
section
variable {P : Program} {ev ev' : Operand → Option AV}
theorem evAll_congr : ∀ {l : List Operand}, (∀ x ∈ l, ev x = ev' x) → evAll ev l = evAll ev' l
  | [], _ => rfl
  | x :: l, h => by simp only [evAll, h x (by simp), evAll_congr (l := l) fun y hy => h y (by simp [hy])]
theorem evParts_congr : ∀ {l : List (Nat × Operand)}, (∀ x ∈ l, ev x.2 = ev' x.2) → evParts ev l = evParts ev' l
  | [], _ => rfl
  | (i, x) :: l, h => by
    have h1 := h (i, x) (by simp)
    simp only at h1
    simp only [evParts, h1, evParts_congr (l := l) fun y hy => h y (by simp [hy])]
theorem bound_congr {d : Nat} {o : Option Operand} (h : ∀ x, o = some x → ev x = ev' x) : bound ev d o = bound ev' d o := by
  cases o with
  | none => rfl
  | some x => simp only [bound, h x rfl]
theorem sliceA_congr {t : TypeId} {x : AV} {lo hi mx : Option Operand} (h1 : ∀ x, lo = some x → ev x = ev' x) (h2 : ∀ x, hi = some x → ev x = ev' x) (h3 : ∀ x, mx = some x → ev x = ev' x) :
    sliceA P ev t x lo hi mx = sliceA P ev' t x lo hi mx := by
  unfold sliceA
  simp only [bound_congr (ev := ev) (ev' := ev') h1, bound_congr (ev := ev) (ev' := ev') h2, bound_congr (ev := ev) (ev' := ev') h3]
theorem aeff_congr {o : Oper} (h : ∀ x ∈ o.op.operands, ev x = ev' x) : aeff P ev o = aeff P ev' o := by
  obtain ⟨dst, op, type, pos, after, guard⟩ := o
  cases op <;> simp only [Op.operands] at h <;> simp only [aeff]
  case move x => rw [h x (by simp)]
  case assign x => rw [h x (by simp)]
  case pick c a b => rw [h c (by simp), h a (by simp), h b (by simp)]
  case box t x => rw [h x (by simp)]
  case build t ps =>
    rw [evParts_congr (ev := ev) (ev' := ev') (l := ps.toList) fun x hx => h x.2 (by simp only [List.mem_toArray, List.mem_map]; exact ⟨x, hx, rfl⟩)]
  case buildSlice t n ps =>
    rw [evParts_congr (ev := ev) (ev' := ev') (l := ps.toList) fun x hx => h x.2 (by simp only [List.mem_toArray, List.mem_map]; exact ⟨x, hx, rfl⟩)]
  case load t a => rw [h a (by simp)]
  case store t a x => rw [h a (by simp), h x (by simp)]
  case nilCheck x => rw [h x (by simp)]
  case binOp op t x y yt => rw [h x (by simp), h y (by simp)]
  case unOp op t x => rw [h x (by simp)]
  case convert s d x => rw [h x (by simp)]
  case makeFunc fn first captured =>
    cases fn <;> simp only
    rw [evAll_congr (ev := ev) (ev' := ev') (l := captured.toList) fun x hx => h x (by simp [Array.mem_toList_iff.1 hx])]
  case makeSlice t l c => rw [h l (by simp), h c (by simp)]
  case slice t x lo hi mx =>
    rw [h x (by simp)]
    have : ∀ v, sliceA P ev t v lo hi mx = sliceA P ev' t v lo hi mx := fun v => sliceA_congr (fun y hy => h y (by simp [hy])) (fun y hy => h y (by simp [hy])) (fun y hy => h y (by simp [hy]))
    simp only [this]
  case fieldAddr s x f => rw [h x (by simp)]
  case field t x f => rw [h x (by simp)]
  case indexAddr t x i => rw [h x (by simp), h i (by simp)]
  case index t x i => rw [h x (by simp), h i (by simp)]
  case extract t i => rw [h t (by simp)]
  case call c =>
    obtain ⟨callee, cargs, cty⟩ := c
    have hargs := evAll_congr (ev := ev) (ev' := ev') (l := cargs.toList) fun x hx => h x (by simp [Call.operands, Array.mem_toList_iff.1 hx])
    rw [hargs]
    cases callee with
    | value g => simp only [h g (by simp [Call.operands])]
    | builtin b => rfl
    | invoke r n => rfl
/-- what is not loud makes or reads, or neither -/
theorem quiet_eff {o : Oper} {e : Eff} (hl : loud o = false) (h : aeff P ev o = some e) : (∃ v, e = .q v) ∨ (∃ b q n k, e = .r b q n k) ∨ (∃ c k, e = .a c k ∧ makes o = true) := by
  obtain ⟨dst, op, type, pos, after, guard⟩ := o
  cases op <;> simp only [aeff] at h <;> simp only [loud] at hl
  case move x => obtain ⟨v, _, rfl⟩ := map_some' h; exact .inl ⟨_, rfl⟩
  case assign x => obtain ⟨v, _, rfl⟩ := map_some' h; exact .inl ⟨_, rfl⟩
  case pick c a b =>
    split at h
    · obtain ⟨v, _, rfl⟩ := map_some' h; exact .inl ⟨_, rfl⟩
    · obtain ⟨v, _, rfl⟩ := map_some' h; exact .inl ⟨_, rfl⟩
    · cases h
  case alloc t => obtain ⟨v, _, rfl⟩ := map_some' h; exact .inr (.inr ⟨_, _, rfl, rfl⟩)
  case box t x =>
    obtain ⟨v, _, h⟩ := bind_some' h
    obtain ⟨_, h⟩ := cond_some h
    injection h with h; subst h; exact .inr (.inr ⟨_, _, rfl, rfl⟩)
  case build t ps =>
    obtain ⟨z, _, h⟩ := bind_some' h
    obtain ⟨ps, _, h⟩ := bind_some' h
    split at h
    · obtain ⟨_, h⟩ := cond_some h
      obtain ⟨v, _, rfl⟩ := map_some' h; exact .inl ⟨_, rfl⟩
    · obtain ⟨_, _, h⟩ := bind_some' h
      obtain ⟨v, _, rfl⟩ := map_some' h; exact .inl ⟨_, rfl⟩
    · cases h
  case buildSlice t n ps =>
    obtain ⟨_, _, h⟩ := bind_some' h
    obtain ⟨_, _, h⟩ := bind_some' h
    obtain ⟨_, _, h⟩ := bind_some' h
    obtain ⟨_, h⟩ := cond_some h
    obtain ⟨_, _, h⟩ := bind_some' h
    obtain ⟨_, h⟩ := cond_some h
    obtain ⟨v, _, rfl⟩ := map_some' h; exact .inr (.inr ⟨_, _, rfl, rfl⟩)
  case load t a =>
    split at h
    · split at h
      · obtain ⟨v, _, rfl⟩ := map_some' h; exact .inr (.inl ⟨_, _, _, _, rfl⟩)
      · injection h with h; subst h; exact .inr (.inl ⟨_, _, _, _, rfl⟩)
      · cases h
    · cases h
  case store t a x => cases hl
  case nilCheck x =>
    split at h
    · injection h with h; subst h; exact .inl ⟨_, rfl⟩
    · injection h with h; subst h; exact .inl ⟨_, rfl⟩
    · cases h
  case binOp op t x y yt =>
    split at h
    · obtain ⟨v, _, rfl⟩ := map_some' h; exact .inl ⟨_, rfl⟩
    · cases h
  case unOp op t x =>
    obtain ⟨_, _, h⟩ := bind_some' h
    obtain ⟨v, _, rfl⟩ := map_some' h; exact .inl ⟨_, rfl⟩
  case convert s d x =>
    obtain ⟨v, _, h⟩ := bind_some' h
    unfold convertA at h
    split at h
    · injection h with h; subst h; exact .inl ⟨_, rfl⟩
    · injection h with h; subst h; exact .inl ⟨_, rfl⟩
    · split at h
      · injection h with h; subst h; exact .inr (.inr ⟨_, _, rfl, rfl⟩)
      · cases h
    · split at h
      · injection h with h; subst h; exact .inl ⟨_, rfl⟩
      · cases h
    · split at h
      · injection h with h; subst h; exact .inl ⟨_, rfl⟩
      · cases h
    · split at h
      · obtain ⟨_, h⟩ := cond_some h
        generalize Nat.beq _ 0 = cb at h
        cases cb <;> simp only [cond_true, cond_false] at h <;> (injection h with h; subst h) <;> first | exact .inl ⟨_, rfl⟩ | exact .inr (.inl ⟨_, _, _, _, rfl⟩)
      · cases h
    · split at h
      · obtain ⟨hc, _⟩ := cond_some h
        rw [show Nat.beq s d = false from hl] at hc; cases hc
      · cases h
    · cases h
  case makeFunc fn first captured =>
    cases fn <;> simp only at h <;> first | (cases h; done) | skip
    obtain ⟨_, h⟩ := cond_some h
    obtain ⟨v, _, rfl⟩ := map_some' h; exact .inl ⟨_, rfl⟩
  case makeSlice t l c =>
    obtain ⟨_, _, h⟩ := bind_some' h
    obtain ⟨_, _, h⟩ := bind_some' h
    obtain ⟨_, _, h⟩ := bind_some' h
    obtain ⟨_, _, h⟩ := bind_some' h
    obtain ⟨_, _, h⟩ := bind_some' h
    obtain ⟨_, _, h⟩ := bind_some' h
    obtain ⟨_, _, h⟩ := bind_some' h
    obtain ⟨_, h⟩ := cond_some h
    injection h with h; subst h; exact .inr (.inr ⟨_, _, rfl, rfl⟩)
  case slice t x lo hi mx =>
    obtain ⟨_, _, h⟩ := bind_some' h
    obtain ⟨v, _, rfl⟩ := map_some' h; exact .inl ⟨_, rfl⟩
  case fieldAddr s x f =>
    split at h
    · split at h
      · obtain ⟨n, _, h⟩ := bind_some' h
        cases hz : Nat.beq n 0 with
        | true => rw [hz] at h; cases h
        | false => rw [hz, cond_false] at h; injection h with h; subst h; exact .inl ⟨_, rfl⟩
      · cases h
    · cases h
  case field t x f =>
    split at h
    · split at h
      · obtain ⟨v, _, rfl⟩ := map_some' h; exact .inl ⟨_, rfl⟩
      · cases h
    · cases h
  case indexAddr t x i =>
    split at h
    · obtain ⟨v, _, rfl⟩ := map_some' h; exact .inl ⟨_, rfl⟩
    · cases h
  case index t x i =>
    split at h
    · obtain ⟨v, _, rfl⟩ := map_some' h; exact .inl ⟨_, rfl⟩
    · cases h
  case extract t i =>
    split at h
    · obtain ⟨v, _, rfl⟩ := map_some' h; exact .inl ⟨_, rfl⟩
    · cases h
  case call c =>
    obtain ⟨callee, cargs, cty⟩ := c
    obtain ⟨args, _, h'⟩ := bind_some' h
    clear h
    cases callee with
    | value g => cases hl
    | invoke r n => cases hl
    | builtin b =>
      simp only at h'
      unfold builtinA at h'
      split at h' <;> first | (cases hl; done) | skip
      · split at h' <;> first | (cases h'; done) | (injection h' with h'; subst h'; exact .inl ⟨_, rfl⟩)
      · split at h' <;> first | (cases h'; done) | (injection h' with h'; subst h'; exact .inl ⟨_, rfl⟩)
      · obtain ⟨v, _, rfl⟩ := map_some' h'; exact .inl ⟨_, rfl⟩
      · obtain ⟨v, _, rfl⟩ := map_some' h'; exact .inl ⟨_, rfl⟩
      · cases h'
  all_goals (cases h; done)
end
end Go.Proofs.YthnhdgcaolgdnaaAn
