/- New memory, append, copy. -/
import Derived.Test.YthnhdgcaolgdnaaAnF
set_option linter.unusedVariables false
set_option linter.unusedSimpArgs false
namespace Go.Proofs.YthnhdgcaolgdnaaAn
open Go

section
variable {P : Program} {j : Inj} {ev : Operand → Option AV} {ρ : Operand → Value}
theorem zeros_len (z : List AV) : ∀ n, (zeros z n).length = n * z.length
  | 0 => by simp [zeros]
  | n + 1 => by simp [zeros, zeros_len z n, Nat.add_mul, Nat.add_comm]
theorem zeros_get (z : List AV) : ∀ (n i : Nat), i < n * z.length → (zeros z n)[i]? = z[i % z.length]?
  | 0, i, h => by simp at h
  | n + 1, i, h => by
    simp only [zeros]
    by_cases hi : i < z.length
    · rw [List.getElem?_append_left hi, Nat.mod_eq_of_lt hi]
    · rw [List.getElem?_append_right (by omega), zeros_get z n (i - z.length) (by rw [Nat.add_mul] at h; omega)]
      congr 1
      exact (Nat.mod_eq_sub_mod (by omega)).symm
theorem pat_VRs {z : List AV} {vs : Array Value} (hz : VRs j z vs.toList) {sz : Nat} (hl : z.length = sz) (n : Nat) :
    VRs j (zeros z n) ((Array.range (n * sz)).map fun i => vs[i % vs.size]!).toList := by
  have hlen := hz.length
  have hvs : vs.size = sz := by rw [← hl, hlen]; simp
  refine All2.of_get (by rw [zeros_len, hl]; simp) fun i a b ha hb => ?_
  have hi : i < n * z.length := by
    rcases Nat.lt_or_ge i (n * z.length) with h | h
    · exact h
    · rw [List.getElem?_eq_none (by rw [zeros_len]; exact h)] at ha; cases ha
  rw [zeros_get z n i hi] at ha
  have hi2 : i < n * sz := by rw [← hl]; exact hi
  have hb' : vs[i % vs.size]! = b := by simpa [hi2] using hb
  have hpos : 0 < sz := by
    rcases Nat.eq_zero_or_pos sz with h | h
    · subst h; simp at hi2
    · exact h
  have hm : i % z.length < vs.toList.length := by rw [hl]; simp; rw [hvs]; exact Nat.mod_lt _ hpos
  obtain ⟨b', h1, h2⟩ := hz.get ha
  have : b' = b := by
    rw [← hb', hvs, ← hl]
    rw [List.getElem?_eq_getElem hm] at h1
    injection h1 with h1
    rw [← h1]
    have hm' : i % z.length < vs.size := by simpa using hm
    rw [getElem!_pos vs _ hm']
    simp
  subst this
  exact h2
theorem zeroCells_eq (vs : Array Value) (n : Nat) : Builtin.zeroCells vs n = (Array.range (n * vs.size)).map fun i => vs[i % vs.size]! := rfl
theorem zeroCells_VRs {z : List AV} {vs : Array Value} (hz : VRs j z vs.toList) {sz : Nat} (hl : z.length = sz) (n : Nat) : VRs j (zeros z n) (Builtin.zeroCells vs n).toList := by
  have hvs : vs.size = sz := by have := hz.length; rw [← hl, this]; simp
  rw [zeroCells_eq, hvs]
  have := pat_VRs hz hl n
  rwa [hvs] at this
theorem zeroCells_size (vs : Array Value) (n : Nat) : (Builtin.zeroCells vs n).toList.length = n * vs.size := by simp [zeroCells_eq]

/-! append -/
theorem growBy_le (need : Nat) : ∀ (r c : Nat), Builtin.growBy need r c ≤ Nat.max c (2 * need + 192)
  | 0, c => Nat.le_max_left _ _
  | r + 1, c => by
    simp only [Builtin.growBy]
    split
    · exact Nat.le_max_left _ _
    · have := growBy_le need r (c + (c + 768) / 4)
      have h2 : c + (c + 768) / 4 ≤ 2 * need + 192 := by omega
      have h3 : Nat.max (c + (c + 768) / 4) (2 * need + 192) = 2 * need + 192 := Nat.max_eq_right h2
      rw [h3] at this
      exact Nat.le_trans this (Nat.le_max_right _ _)
theorem nextslicecap_le {need old : Nat} (h : old < need) : Builtin.nextslicecap need old ≤ 2 * need + 192 := by
  unfold Builtin.nextslicecap
  split
  · omega
  · split
    · omega
    · have := growBy_le need 4 old
      have h3 : Nat.max old (2 * need + 192) = 2 * need + 192 := Nat.max_eq_right (by omega)
      rw [h3] at this; exact this
theorem bytes_bound {n b c : Nat} (h : (4 * n + 4000) * b ≤ 17179869184) (hc : c ≤ 64000192) : c * b ≤ 2 ^ 48 := by
  have h1 : 4000 * b ≤ 17179869184 := Nat.le_trans (Nat.mul_le_mul_right _ (by omega)) h
  have h2 : b ≤ 4294968 := by omega
  have h3 : c * b ≤ 64000192 * 4294968 := Nat.mul_le_mul hc h2
  exact Nat.le_trans h3 (by decide)
/-- the model's append, once it is known what is appended -/
theorem append_core {t u e : TypeId} {du : TypeDesc} {sz n bytes : Nat} {s : Sem Value} (hs : szOf P e = some sz) {i : TypeInfo} (hi : P.info? e = some i) (hb : i.bytes = bytes) (hbound : (4 * n + 4000) * bytes ≤ 17179869184)
    (hz : ∃ z, i.zero = some z ∧ z.cells.size = sz) {base : Option Addr} {slen scap : Nat} (w : World) (new : List Value) (xv : Value) (appended : Sem (Array Value)) (happ : appended.run P w = .ok new.toArray w) (happ2 : ∀ dr, appended.run P { w with drawn := w.drawn + dr } = .ok new.toArray { w with drawn := w.drawn + dr }) (zeros : Bool)
    (hrun : s.run P w = (if slen + n ≤ scap then (do
        let new ← appended
        if let some a := base then storeCells (a.add (slen * sz)) new.toList
        pure (Value.slice base (slen + n) scap) : Sem Value) else (do
        if ((slen + n : Nat) : Int) > IntKind.i64.max ∧ (zeros ∨ (← typeInfo e).bytes = 0) then runtimePanic (.error "growslice: len out of range")
        if Builtin.nextslicecap (slen + n) scap * (← typeInfo e).bytes > 2 ^ 48 then (if zeros then runtimePanic (.error "growslice: len out of range") else do
          if !(← Builtin.mayShare sz slen n base xv) then mark .noRoom
          unsupported (.resourceLimit "append: a slice or a string whose bytes no memory bears"))
        let newCap ← choose (.appendCap (slen + n) scap e)
        askRoom (newCap * (← typeInfo e).bytes)
        let old ← Builtin.firstCells sz slen (.slice base slen scap)
        let new ← appended
        let rest := Builtin.zeroCells (← zeroValue e).cells (newCap - (slen + n))
        pure (.slice (some (← newRow e (old ++ new ++ rest))) (slen + n) newCap))).run P w) :
    Appends P (do pure (Next.value (← s))) base slen scap n sz w new := by
  intro hlen hsmall
  refine ⟨fun hle hw hbn => ?_, fun hlt old hol hob hoat => ?_⟩
  · rw [run_v, hrun, if_pos hle]
    simp only [Sem.run_bind, happ, Result.andThen_ok]
    cases base with
    | none => simp
    | some a =>
      by_cases hnil : new = []
      · subst hnil
        simp only [Sem.run_bind, happ, Result.andThen_ok, Sem.run_pure]
        rfl
      obtain ⟨hsp, h1, h2, h3⟩ := hw a rfl hnil
      obtain ⟨ab, ao, asp⟩ := a
      simp only at hsp h1 h2 h3
      subst hsp
      have := run_storeCells_cells (P := P) ab (ao + slen * sz) new 0 w (by simpa using h1) (by simpa using h2) h3
      simp only [add_none, Sem.run_bind, Result.andThen_ok, Sem.run_pure]
      simp only [Nat.add_zero] at this
      simp [this]
  · obtain ⟨z, hz1, hz2⟩ := hz
    have hnle : ¬ (slen + n ≤ scap) := by omega
    have hcapb : ¬ (Builtin.nextslicecap (slen + n) scap * i.bytes > 2 ^ 48) := by
      have h1 := nextslicecap_le hlt
      have := bytes_bound (c := Builtin.nextslicecap (slen + n) scap) hbound (by omega)
      rw [hb]; omega
    have hmax : ¬ (((slen + n : Nat) : Int) > IntKind.i64.max) := by
      have : IntKind.i64.max = 9223372036854775807 := rfl
      rw [this]; omega
    have hq : (Question.appendCap (slen + n) scap e).forced = false := rfl
    generalize hcap : (Question.appendCap (slen + n) scap e).cut (w.tape w.drawn (.appendCap (slen + n) scap e)) = cap
    have hge : slen + n ≤ cap := by rw [← hcap]; simp only [Question.cut]; omega
    have hold : ∀ w', (∀ b, w'.cell? b = w.cell? b) → (Builtin.firstCells sz slen (.slice base slen scap)).run P w' = .ok old.toArray w' := by
      intro w' hcell
      cases base with
      | none => rw [hob rfl]; rfl
      | some a =>
        by_cases hnil : old = []
        · subst hnil
          have h0 := run_loadCells_list (P := P) w' a [] (fun i v hv => by simp at hv)
          simp only [List.length_nil] at h0 hol
          show (loadCells a (slen * sz)).run P w' = _
          rw [← hol]; exact h0
        obtain ⟨hsp, hat⟩ := hoat a rfl hnil
        obtain ⟨ab, ao, asp⟩ := a
        simp only at hsp hat
        subst hsp
        have := run_loadCells_list (P := P) w' ⟨ab, ao, none⟩ old (fun i v hv => by rw [add_none, hcell]; exact hat i v hv)
        rw [hol] at this
        exact this
    refine ⟨cap, e, (Builtin.zeroCells z.cells (cap - (slen + n))).toList, 1, hge, by rw [zeroCells_size, hz2], ?_⟩
    rw [run_v, hrun, if_neg hnle]
    have hinfo : ∀ w', (typeInfo e).run P w' = .ok i w' := fun w' => run_typeInfo' w' hi
    have h1 : (Builtin.firstCells sz slen (.slice base slen scap)).run P w.drew = .ok old.toArray w.drew := hold w.drew (fun _ => rfl)
    have h2 : appended.run P w.drew = .ok new.toArray w.drew := happ2 1
    simp only [Sem.run_bind, hinfo, Result.andThen_ok, hmax, false_and, if_false, Sem.run_pure, hcapb, run_choose, hq, Bool.false_eq_true, hcap, run_askRoom,
      run_zeroValue' _ hi hz1, newRow, run_newObj]
    simp [h1, h2]
    simp only [World.alloc, World.drew]
    simp
    congr 2
    apply Array.ext'
    simp
end
end Go.Proofs.YthnhdgcaolgdnaaAn
