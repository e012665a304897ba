/- Slicing, indexing, conversions, new memory. -/
import Derived.Test.YthnhdgcaolgdnaaAnD
set_option linter.unusedVariables false
set_option linter.unusedSimpArgs false
namespace Go.Proofs.YthnhdgcaolgdnaaAn
open Go

section
variable {P : Program} {j : Inj} {ev : Operand → Option AV} {ρ : Operand → Value}
theorem bound_run (hev : ∀ x v, ev x = some v → VR j v (ρ x)) {d n : Nat} {o : Option Operand} (h : bound ev d o = some n) : (o = none ∧ n = d) ∨ ∃ k, o.map ρ = some (.int k n) := by
  cases o with
  | none => simp only [bound, Option.some.injEq] at h; exact .inl ⟨rfl, h.symm⟩
  | some x =>
    simp only [bound] at h
    cases hx : ev x with
    | none => simp [hx] at h
    | some v =>
      simp only [hx, Option.bind_some] at h
      obtain ⟨k, rfl⟩ := natOf_some h
      have := hev x _ hx
      generalize hr : ρ x = u at this
      cases this
      exact .inr ⟨k, by simp [hr]⟩
theorem bounds_run (w : World) (s : Bool) {len cap a h m : Nat} {lo hi mx : Option Value}
    (hm : (mx = none ∧ m = cap) ∨ ∃ k, mx = some (.int k m) ∧ m ≤ cap) (hh : (hi = none ∧ h = len ∧ mx = none) ∨ ∃ k, hi = some (.int k h) ∧ h ≤ m) (hl : (lo = none ∧ a = 0) ∨ ∃ k, lo = some (.int k a) ∧ a ≤ h) :
    (Instr.sliceBounds s len cap lo hi mx).run P w = .ok (a, h, m) w := by
  unfold Instr.sliceBounds
  rcases hl with ⟨rfl, rfl⟩ | ⟨kl, rfl, hla⟩
  · rcases hm with ⟨rfl, rfl⟩ | ⟨km, rfl, hmc⟩
    · rcases hh with ⟨rfl, rfl, _⟩ | ⟨kh, rfl, hhm⟩
      · rfl
      · simp only [Sem.run_bind, Sem.run_pure, Result.andThen_ok, sliceBound_ok w _ rfl hhm]
    · rcases hh with ⟨rfl, rfl, h0⟩ | ⟨kh, rfl, hhm⟩
      · cases h0
      · simp only [Sem.run_bind, Sem.run_pure, Result.andThen_ok, sliceBound_ok w _ rfl hmc, sliceBound_ok w _ rfl hhm]
  · rcases hm with ⟨rfl, rfl⟩ | ⟨km, rfl, hmc⟩
    · rcases hh with ⟨rfl, rfl, _⟩ | ⟨kh, rfl, hhm⟩
      · simp only [Sem.run_bind, Sem.run_pure, Result.andThen_ok, sliceBound_ok w _ rfl hla]
      · simp only [Sem.run_bind, Sem.run_pure, Result.andThen_ok, sliceBound_ok w _ rfl hhm, sliceBound_ok w _ rfl hla]
    · rcases hh with ⟨rfl, rfl, h0⟩ | ⟨kh, rfl, hhm⟩
      · cases h0
      · simp only [Sem.run_bind, Sem.run_pure, Result.andThen_ok, sliceBound_ok w _ rfl hmc, sliceBound_ok w _ rfl hhm, sliceBound_ok w _ rfl hla]
theorem cond_some {α : Type} {c : Bool} {x : Option α} {y : α} (h : cond c x none = some y) : c = true ∧ x = some y := by
  cases c with
  | false => cases h
  | true => exact ⟨rfl, h⟩
theorem bind_some' {α β : Type} {x : Option α} {f : α → Option β} {y : β} (h : x.bind f = some y) : ∃ a, x = some a ∧ f a = some y := Option.bind_eq_some_iff.mp h
theorem map_some' {α β : Type} {x : Option α} {f : α → β} {y : β} (h : x.map f = some y) : ∃ a, x = some a ∧ f a = y := Option.map_eq_some_iff.mp h
theorem ble_le {a b : Nat} (h : Nat.ble a b = true) : a ≤ b := by simpa [Nat.ble_eq] using h
theorem beq_eq' {a b : Nat} (h : Nat.beq a b = true) : a = b := Nat.eq_of_beq_eq_true h
theorem add_none (rb o n : Nat) : (⟨rb, o, none⟩ : Addr).add n = ⟨rb, o + n, none⟩ := by unfold Addr.add; split <;> simp_all
theorem cond_beq {a b x y : Nat} : cond (Nat.beq a b) x y = if a = b then x else y := by
  by_cases h : a = b
  · subst h; simp
  · have : Nat.beq a b = false := by cases hb : Nat.beq a b with
      | false => rfl
      | true => exact absurd (beq_eq' hb) h
    rw [this, cond_false, if_neg h]

theorem sliceA_run (hev : ∀ x v, ev x = some v → VR j v (ρ x)) {t : TypeId} {x r : AV} {v : Value} {lo hi mx : Option Operand} (h : sliceA P ev t x lo hi mx = some r) (hx : VR j x v) :
    Yields1 P j (Instr.sliceAt t v (lo.map ρ) (hi.map ρ) (mx.map ρ)) r := by
  unfold sliceA at h
  split at h
  · rename_i l hu
    split at h
    · cases h
    · obtain ⟨a, ha, h⟩ := bind_some' h
      obtain ⟨e, he, h⟩ := bind_some' h
      obtain ⟨hc, h⟩ := cond_some h
      injection h with h; subst h
      simp only [Bool.and_eq_true] at hc
      have h1 := ble_le hc.1
      have h2 := ble_le hc.2
      cases hx with
      | s s =>
      rw [bytesL_len] at h2
      refine ⟨.string (s.extract a e), .s' (bytesL_extract s a e).symm, fun w => ?_⟩
      have hb := bounds_run (P := P) w false (len := s.size) (cap := s.size) (a := a) (h := e) (m := s.size) (lo := lo.map ρ) (hi := hi.map ρ) (mx := none) (.inl ⟨rfl, rfl⟩)
        (by rcases bound_run hev he with ⟨rfl, rfl⟩ | ⟨k, hk⟩
            · exact .inl ⟨rfl, bytesL_len s, rfl⟩
            · exact .inr ⟨k, hk, h2⟩)
        (by rcases bound_run hev ha with ⟨rfl, rfl⟩ | ⟨k, hk⟩
            · exact .inl ⟨rfl, rfl⟩
            · exact .inr ⟨k, hk, h1⟩)
      simp only [Instr.sliceAt, Sem.run_bind, run_underlying' w hu, Result.andThen_ok, Instr.slice, Option.map_none, Option.isSome_none, Bool.false_eq_true, if_false, hb, Sem.run_pure]
  · rename_i e hu
    obtain ⟨a, ha, h⟩ := bind_some' h
    obtain ⟨h', hh, h⟩ := bind_some' h
    obtain ⟨m, hm, h⟩ := bind_some' h
    obtain ⟨hc, h⟩ := cond_some h
    injection h with h; subst h
    simp only [Bool.and_eq_true] at hc
    obtain ⟨⟨⟨⟨c1, c2⟩, c3⟩, c4⟩, c5⟩ := hc
    have := beq_eq' c1; subst this
    have := beq_eq' c2; subst this
    have := beq_eq' c3; subst this
    obtain ⟨es, hes⟩ := Option.isSome_iff_exists.1 c5
    cases hx
    refine ⟨.slice none 0 0, .ns, fun w => ?_⟩
    have hb := bounds_run (P := P) w true (len := 0) (cap := 0) (a := 0) (h := 0) (m := 0) (lo := lo.map ρ) (hi := hi.map ρ) (mx := mx.map ρ)
      (by rcases bound_run hev hm with ⟨rfl, _⟩ | ⟨k, hk⟩
          · exact .inl ⟨rfl, rfl⟩
          · exact .inr ⟨k, hk, Nat.le_refl _⟩)
      (by rcases bound_run hev hh with ⟨rfl, _⟩ | ⟨k, hk⟩
          · refine .inl ⟨rfl, rfl, ?_⟩
            cases mx with
            | none => rfl
            | some _ => simp at c4
          · exact .inr ⟨k, hk, Nat.le_refl _⟩)
      (by rcases bound_run hev ha with ⟨rfl, _⟩ | ⟨k, hk⟩
          · exact .inl ⟨rfl, rfl⟩
          · exact .inr ⟨k, hk, Nat.le_refl _⟩)
    simp only [Instr.sliceAt, Sem.run_bind, run_underlying' w hu, Result.andThen_ok, Instr.slice, hb, run_sizeOf' w hes, Sem.run_pure, if_true]
  · rename_i e z hu
    obtain ⟨a, ha, h⟩ := bind_some' h
    obtain ⟨h', hh, h⟩ := bind_some' h
    obtain ⟨m, hm, h⟩ := bind_some' h
    obtain ⟨hc, h⟩ := cond_some h
    injection h with h; subst h
    simp only [Bool.and_eq_true] at hc
    obtain ⟨⟨⟨⟨c1, c2⟩, c3⟩, c4⟩, c5⟩ := hc
    have := beq_eq' c1; subst this
    have := beq_eq' c2; subst this
    have := beq_eq' c3; subst this
    obtain ⟨es, hes⟩ := Option.isSome_iff_exists.1 c5
    cases hx
    refine ⟨.slice (some z) 0 0, .e z, fun w => ?_⟩
    have hb := bounds_run (P := P) w true (len := 0) (cap := 0) (a := 0) (h := 0) (m := 0) (lo := lo.map ρ) (hi := hi.map ρ) (mx := mx.map ρ)
      (by rcases bound_run hev hm with ⟨rfl, _⟩ | ⟨k, hk⟩
          · exact .inl ⟨rfl, rfl⟩
          · exact .inr ⟨k, hk, Nat.le_refl _⟩)
      (by rcases bound_run hev hh with ⟨rfl, _⟩ | ⟨k, hk⟩
          · refine .inl ⟨rfl, rfl, ?_⟩
            cases mx with
            | none => rfl
            | some _ => simp at c4
          · exact .inr ⟨k, hk, Nat.le_refl _⟩)
      (by rcases bound_run hev ha with ⟨rfl, _⟩ | ⟨k, hk⟩
          · exact .inl ⟨rfl, rfl⟩
          · exact .inr ⟨k, hk, Nat.le_refl _⟩)
    simp only [Instr.sliceAt, Sem.run_bind, run_underlying' w hu, Result.andThen_ok, Instr.slice, hb, run_sizeOf' w hes, Sem.run_pure, if_true]
  · rename_i e b o len cap ex sz hu
    obtain ⟨a, ha, h⟩ := bind_some' h
    obtain ⟨h', hh, h⟩ := bind_some' h
    obtain ⟨es, hes, h⟩ := bind_some' h
    obtain ⟨hc0, h⟩ := cond_some h
    have := beq_eq' hc0; subst this
    cases hx with
    | @sl _ _ _ _ _ _ rb d n oo rcap hj ho hl hc hex hb =>
    have hlo : (lo.map ρ = none ∧ a = 0) ∨ ∃ k, lo.map ρ = some (.int k a) := by
      rcases bound_run hev ha with ⟨rfl, rfl⟩ | ⟨k, hk⟩
      · exact .inl ⟨rfl, rfl⟩
      · exact .inr ⟨k, hk⟩
    have hhi : (hi.map ρ = none ∧ h' = len) ∨ ∃ k, hi.map ρ = some (.int k h') := by
      rcases bound_run hev hh with ⟨rfl, rfl⟩ | ⟨k, hk⟩
      · exact .inl ⟨rfl, rfl⟩
      · exact .inr ⟨k, hk⟩
    cases mx with
    | some mo =>
      obtain ⟨hhs, h⟩ := cond_some h
      obtain ⟨m, hm, h⟩ := bind_some' h
      obtain ⟨hc1, h⟩ := cond_some h
      injection h with h; subst h
      simp only [Bool.and_eq_true] at hc1
      have g1 := ble_le hc1.1.1
      have g2 := ble_le hc1.1.2
      have g3 := ble_le hc1.2
      refine ⟨.slice (some (if m = a then ⟨rb, oo, none⟩ else ⟨rb, oo + a * es, none⟩)) (h' - a) (m - a), ?_, fun w => ?_⟩
      · rw [cond_beq]
        by_cases e1 : m = a
        · subst e1
          rw [if_pos rfl, if_pos rfl]
          refine .sl hj (fun hp => by omega) (by omega) (Nat.le_refl _) (fun _ => rfl) ?_
          have : (m - m) * es = 0 := by simp
          omega
        · rw [if_neg e1, if_neg e1]
          refine .sl hj (fun hp => ?_) (by omega) (Nat.le_refl _) (fun _ => rfl) ?_
          · rw [ho (by omega)]; omega
          · have : a * es + (m - a) * es = m * es := by rw [← Nat.add_mul]; congr 1; omega
            have : m * es ≤ rcap * es := Nat.mul_le_mul_right _ (by omega)
            omega
      · have hbd := bounds_run (P := P) w true (len := len) (cap := rcap) (a := a) (h := h') (m := m) (lo := lo.map ρ) (hi := hi.map ρ) (mx := some (ρ mo))
          (by rcases bound_run hev hm with ⟨h0, _⟩ | ⟨k, hk⟩
              · cases h0
              · exact .inr ⟨k, hk, by omega⟩)
          (by rcases hhi with ⟨h0, _⟩ | ⟨k, hk⟩
              · cases hi with
                | none => cases hhs
                | some _ => cases h0
              · exact .inr ⟨k, hk, g2⟩)
          (by rcases hlo with h0 | ⟨k, hk⟩
              · exact .inl h0
              · exact .inr ⟨k, hk, g1⟩)
        simp only [Instr.sliceAt, Sem.run_bind, run_underlying' w hu, Result.andThen_ok, Instr.slice, hbd, run_sizeOf' w hes, Sem.run_pure, Option.map_some, add_none]
        split <;> rfl
    | none =>
      obtain ⟨hc1, h⟩ := cond_some h
      injection h with h; subst h
      simp only [Bool.and_eq_true] at hc1
      have g1 := ble_le hc1.1
      have g2 := ble_le hc1.2
      refine ⟨.slice (some (if rcap = a then ⟨rb, oo, none⟩ else ⟨rb, oo + a * es, none⟩)) (h' - a) (rcap - a), ?_, fun w => ?_⟩
      · rw [cond_beq]
        by_cases e1 : rcap = a
        · subst e1
          rw [if_pos rfl]
          have e2 : cap = rcap := by omega
          subst e2
          rw [if_pos rfl]
          refine .sl hj (fun hp => by omega) (by omega) (by omega) (fun _ => rfl) ?_
          have : (cap - cap) * es = 0 := by simp
          omega
        · rw [if_neg e1]
          have hbb : a * es + (rcap - a) * es = rcap * es := by rw [← Nat.add_mul]; congr 1; omega
          by_cases e2 : cap = a
          · rw [if_pos e2]
            exact .sl hj (fun hp => by omega) (by omega) (by omega) (fun he => by have := hex he; omega) (by omega)
          · rw [if_neg e2]
            exact .sl hj (fun hp => by rw [ho (by omega)]; omega) (by omega) (by omega) (fun he => by have := hex he; omega) (by omega)
      · have hbd := bounds_run (P := P) w true (len := len) (cap := rcap) (a := a) (h := h') (m := rcap) (lo := lo.map ρ) (hi := hi.map ρ) (mx := none) (.inl ⟨rfl, rfl⟩)
          (by rcases hhi with ⟨h0, e0⟩ | ⟨k, hk⟩
              · exact .inl ⟨h0, e0, rfl⟩
              · exact .inr ⟨k, hk, by omega⟩)
          (by rcases hlo with h0 | ⟨k, hk⟩
              · exact .inl h0
              · exact .inr ⟨k, hk, g1⟩)
        simp only [Instr.sliceAt, Sem.run_bind, run_underlying' w hu, Result.andThen_ok, Instr.slice, Option.map_none, hbd, run_sizeOf' w hes, Sem.run_pure, Option.map_some, add_none]
        split <;> rfl
  · cases h

end
end Go.Proofs.YthnhdgcaolgdnaaAn
