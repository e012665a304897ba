/- The builtin functions, and all operations. -/
import Derived.Test.YthnhdgcaolgdnaaAnG
set_option linter.unusedVariables false
set_option linter.unusedSimpArgs false
namespace Go.Proofs.YthnhdgcaolgdnaaAn
open Go

section
variable {P : Program} {j : Inj} {ev : Operand → Option AV} {ρ : Operand → Value}
theorem elemOfSlice_some {t e : TypeId} (h : elemOfSlice P t = some e) : P.underlying t = some (.slice e) := by
  unfold elemOfSlice at h
  split at h
  · rename_i hu; injection h with h; subst h; exact hu
  · cases h
theorem bytesOf_info {e : TypeId} {i : TypeInfo} (h : P.info? e = some i) : P.bytesOf e = i.bytes := by simp [Program.bytesOf, h]
/-- where appended cells come from, run -/
theorem firstCells_slice (w : World) {sz n : Nat} {a : Addr} {len cap : Nat} {new : List Value} (hl : new.length = n * sz) (hs : a.spot = none) (h : At w a.block a.off new) :
    (Builtin.firstCells sz n (.slice (some a) len cap)).run P w = .ok new.toArray w := by
  obtain ⟨ab, ao, asp⟩ := a
  simp only at hs h
  subst hs
  have := run_loadCells_list (P := P) w ⟨ab, ao, none⟩ new (fun i v hv => by rw [add_none]; exact h i v hv)
  rw [hl] at this
  exact this
theorem run_lenOf_slice (w : World) (a : Option Addr) (n c : Nat) : (Builtin.lenOf (.slice a n c)).run P w = .ok n w := rfl
theorem run_lenOf_string (w : World) (s : ByteArray) : (Builtin.lenOf (.string s)).run P w = .ok s.size w := rfl

theorem append_not_zeros {t u e : TypeId} {du : TypeDesc} {rest : List TypeId} {sz n : Nat} {ty : TypeId} {base : Option Addr} {slen scap : Nat} {xv : Value} {more : List Value}
    (ht : P.underlying t = some (.slice e)) (hs : szOf P e = some sz) (hu : P.underlying u = some du) (hnz : ∀ ku, du ≠ .int ku) {z0 : List AV} (hz0 : zeroA P e = some z0) (hz0l : z0.length = sz)
    (hbound : (4 * n + 4000) * P.bytesOf e ≤ 17179869184) (hlen : ∀ w, (Builtin.lenOf xv).run P w = .ok n w) (w : World) (new : List Value)
    (happ : ∀ w', (∀ a, w'.cell? a = w.cell? a) → (Builtin.firstCells sz n xv).run P w' = .ok new.toArray w') :
    Appends P (do pure (Next.value (← Builtin.append_ (t :: u :: rest).toArray ty (Value.slice base slen scap :: xv :: more).toArray))) base slen scap n sz w new := by
  obtain ⟨i, hi, hsz⟩ := szOf_some hs
  obtain ⟨i', z, hi', hz, hzv⟩ := zeroA_some (j := fun _ => none) hz0
  rw [hi] at hi'; injection hi' with hi'; subst hi'
  refine append_core (t := t) (u := u) (du := du) hs hi (bytesOf_info hi).symm hbound ⟨z, hz, by have := hzv.length; simpa [hz0l] using this.symm⟩ w new xv (Builtin.firstCells sz n xv) (happ w fun _ => rfl) (fun dr => happ _ fun _ => rfl) false ?_
  have h0 : (t :: u :: rest).toArray[0]? = some t := rfl
  have h1 : (t :: u :: rest).toArray[1]? = some u := rfl
  have g0 : (Value.slice base slen scap :: xv :: more).toArray[0]? = some (Value.slice base slen scap) := rfl
  have g1 : (Value.slice base slen scap :: xv :: more).toArray[1]? = some xv := rfl
  unfold Builtin.append_
  simp only [h0, h1, g0, g1, Sem.run_bind, run_underlying' w ht, run_sizeOf' w hs, run_underlying' w hu, Result.andThen_ok, Sem.run_pure]
  cases du <;> first | exact absurd rfl (hnz _) | skip
  all_goals
    simp only [Bool.false_eq_true, if_false, Bool.not_false, if_true]
    rw [Sem.run_bind, hlen, Result.andThen_ok]
    rfl
theorem append_zeros {t u e : TypeId} {ku kx : IntKind} {rest : List TypeId} {sz n : Nat} {ty : TypeId} {base : Option Addr} {slen scap : Nat} {more : List Value}
    (ht : P.underlying t = some (.slice e)) (hs : szOf P e = some sz) (hu : P.underlying u = some (.int ku)) {z0 : List AV} (hz0 : zeroA P e = some z0) (hz0l : z0.length = sz)
    (hbound : (4 * n + 4000) * P.bytesOf e ≤ 17179869184) (hn : n < 32000000) (w : World) :
    ∃ new, VRs j (zeros z0 n) new ∧ ∀ w, Appends P (do pure (Next.value (← Builtin.append_ (t :: u :: rest).toArray ty (Value.slice base slen scap :: .int kx (n : Int) :: more).toArray))) base slen scap n sz w new := by
  obtain ⟨i, hi, hsz⟩ := szOf_some hs
  obtain ⟨i', z, hi', hz, hzv⟩ := zeroA_some (j := j) hz0
  rw [hi] at hi'; injection hi' with hi'; subst hi'
  have hzs : z.cells.size = sz := by have := hzv.length; simpa [hz0l] using this.symm
  refine ⟨(Builtin.zeroCells z.cells n).toList, zeroCells_VRs hzv hz0l n, fun w => ?_⟩
  have happ : ∀ w', (if n * sz = 0 then pure #[] else do pure (Builtin.zeroCells (← zeroValue e).cells n) : Sem (Array Value)).run P w' = .ok (Builtin.zeroCells z.cells n).toList.toArray w' := by
    intro w'
    by_cases h0 : n * sz = 0
    · rw [if_pos h0]
      have : Builtin.zeroCells z.cells n = #[] := by rw [zeroCells_eq, hzs, h0]; simp
      rw [this]; rfl
    · rw [if_neg h0]
      simp [run_zeroValue' _ hi hz]
  refine append_core (t := t) (u := u) (du := .int ku) hs hi (bytesOf_info hi).symm hbound ⟨z, hz, hzs⟩ w _ (.int kx (n : Int)) (if n * sz = 0 then pure #[] else do pure (Builtin.zeroCells (← zeroValue e).cells n)) (happ w) (fun dr => happ _) true ?_
  have h0 : (t :: u :: rest).toArray[0]? = some t := rfl
  have h1 : (t :: u :: rest).toArray[1]? = some u := rfl
  have g0 : (Value.slice base slen scap :: Value.int kx (n : Int) :: more).toArray[0]? = some (Value.slice base slen scap) := rfl
  have g1 : (Value.slice base slen scap :: Value.int kx (n : Int) :: more).toArray[1]? = some (Value.int kx (n : Int)) := rfl
  have hw : IntKind.i64.wrap (n : Int) = n := by
    rw [← wrapA_eq]
    have : inKind .i64 (n : Int) = true := by
      show Nat.blt n 9223372036854775808 = true
      rw [Nat.blt_eq]; omega
    unfold wrapA; rw [this]; rfl
  have hneg : ¬ ((n : Int) < 0) := by omega
  have hb : ¬ ((n : Int) * (i.bytes : Int) > 2 ^ 48) := by
    have h2 := bytes_bound (c := n) hbound (by omega)
    rw [bytesOf_info hi] at h2
    have h3 : (n : Int) * (i.bytes : Int) = ((n * i.bytes : Nat) : Int) := by push_cast; rfl
    have h4 : (2 ^ 48 : Int) = 281474976710656 := rfl
    have h5 : (2 ^ 48 : Nat) = 281474976710656 := rfl
    rw [h3, h4]
    omega
  unfold Builtin.append_
  simp only [h0, h1, g0, g1, Sem.run_bind, run_underlying' w ht, run_sizeOf' w hs, run_underlying' w hu, Result.andThen_ok, Sem.run_pure, if_true, asInt, asIntOf, hw, if_neg hneg, run_typeInfo' w hi, if_neg hb, Int.toNat_natCast, Bool.not_true, Bool.false_eq_true, if_false]
  rfl
end
end Go.Proofs.YthnhdgcaolgdnaaAn
