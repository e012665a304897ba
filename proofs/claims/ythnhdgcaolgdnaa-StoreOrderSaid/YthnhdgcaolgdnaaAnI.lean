/- The builtin functions. -/
import Derived.Test.YthnhdgcaolgdnaaAnH
set_option linter.unusedVariables false
set_option linter.unusedSimpArgs false
namespace Go.Proofs.YthnhdgcaolgdnaaAn
open Go

section
variable {P : Program} {j : Inj}
theorem firstCells_e (w : World) (sz : Nat) (z : Addr) (len cap : Nat) : (Builtin.firstCells sz 0 (.slice (some z) len cap)).run P w = .ok #[] w := by
  have := run_loadCells_list (P := P) w z [] (fun i v hv => by simp at hv)
  simp only [List.length_nil] at this
  show (loadCells z (0 * sz)).run P w = _
  rw [Nat.zero_mul]; exact this
theorem srcA_run {sz n : Nat} {src : Src} {x : AV} {v : Value} (h : srcA sz x = some (n, src)) (hx : VR j x v) :
    (∀ w, (Builtin.lenOf v).run P w = .ok n w) ∧ ∀ F : World → List Value → Prop,
      (∀ w new, (∀ w', (∀ a, w'.cell? a = w.cell? a) → (Builtin.firstCells sz n v).run P w' = .ok new.toArray w') → F w new) → SrcDoes j src F := by
  unfold srcA at h
  split at h
  · injection h with h; injection h with h1 h2; subst h1; subst h2
    cases hx
    exact ⟨fun w => rfl, fun F hF => ⟨[], .nil, fun w => hF w [] fun w' _ => rfl⟩⟩
  · injection h with h; injection h with h1 h2; subst h1; subst h2
    cases hx
    exact ⟨fun w => rfl, fun F hF => ⟨[], .nil, fun w => hF w [] fun w' _ => firstCells_e w' sz _ _ _⟩⟩
  · rename_i b o len lo ex z
    obtain ⟨hc, h⟩ := cond_some h
    injection h with h; injection h with h1 h2; subst h1
    have := beq_eq' hc; subst this
    cases hx with
    | @sl _ _ _ _ _ _ rb d m oo cap hj ho hl hcp hex hb =>
    refine ⟨fun w => rfl, fun F hF => ?_⟩
    cases hz : Nat.beq len 0 with
    | true =>
      rw [hz, cond_true] at h2
      subst h2
      have := beq_eq' hz; subst this
      exact ⟨[], .nil, fun w => hF w [] fun w' _ => firstCells_slice w' (by simp) rfl (fun i v hv => by simp at hv)⟩
    | false =>
      rw [hz, cond_false] at h2
      subst h2
      have hpos : 0 < len := by
        rcases Nat.eq_zero_or_pos len with h | h
        · subst h; cases hz
        · exact h
      have hoo := ho (by omega)
      subst hoo
      exact ⟨rb, d, m, hj, fun w new hnl hat => hF w new fun w' hw' => firstCells_slice w' hnl rfl (fun i v hv => by rw [hw']; exact hat i v hv)⟩
  · rename_i l
    obtain ⟨hc, h⟩ := cond_some h
    injection h with h; injection h with h1 h2; subst h1; subst h2
    cases hx with
    | s s =>
    rw [bytesL_len]
    refine ⟨fun w => rfl, fun F hF => ⟨(s.data.map fun b : UInt8 => Value.int .u8 b.toNat).toList, ofU8_bytes s, fun w => hF w _ fun w' _ => ?_⟩⟩
    simp only [Builtin.firstCells, Sem.run_pure]
    congr 2
    have : s.extract 0 s.size = s := by simp
    rw [this]
  · cases h
theorem srcN_run {sz n : Nat} {src : Src} {x : AV} {v : Value} {len : Nat} (h : srcN sz n x = some src) (hl : lenA x = some len) (hn : n ≤ len) (hn0 : 0 < n) (hx : VR j x v) : ∀ F : World → List Value → Prop,
      (∀ w new, new.length = n * sz → (Builtin.firstCells sz n v).run P w = .ok new.toArray w → F w new) → SrcDoes j src F := by
  unfold srcN at h
  split at h
  · simp only [lenA, Option.some.injEq] at hl; omega
  · rename_i b o len' lo ex z
    obtain ⟨hc, h⟩ := cond_some h
    injection h with h; subst h
    have := beq_eq' hc; subst this
    simp only [lenA, Option.some.injEq] at hl
    subst hl
    cases hx with
    | @sl _ _ _ _ _ _ rb d m oo cap hj ho hl hcp hex hb =>
    have hoo := ho (by omega)
    subst hoo
    exact fun F hF => ⟨rb, d, m, hj, fun w new hnl hat => hF w new hnl (firstCells_slice w hnl rfl hat)⟩
  · rename_i l
    obtain ⟨hc, h⟩ := cond_some h
    injection h with h; subst h
    have := beq_eq' hc; subst this
    cases hx with
    | s s =>
    simp only [lenA, Option.some.injEq, bytesL_len] at hl
    subst hl
    have hv : VRs j (ofU8 ((bytesL s).take n)) ((s.extract 0 n).data.map fun b : UInt8 => Value.int .u8 b.toNat).toList := by
      have := ofU8_bytes (j := j) (s.extract 0 n)
      rw [bytesL_extract] at this
      simpa using this
    refine fun F hF => ⟨_, hv, fun w => hF w _ ?_ ?_⟩
    · have := hv.length
      rw [← this, ofU8_len]
      simp [bytesL_len]; omega
    · simp only [Builtin.firstCells, Sem.run_pure]
  · cases h
theorem lenA_run {x : AV} {v : Value} {n : Nat} (h : lenA x = some n) (hx : VR j x v) (w : World) : (Builtin.lenOf v).run P w = .ok n w := by
  unfold lenA at h
  split at h
  · injection h with h; subst h; cases hx; rfl
  · injection h with h; subst h; cases hx; rfl
  · injection h with h; subst h; cases hx; rfl
  · injection h with h; subst h
    cases hx with
    | s s => rw [bytesL_len]; rfl
  · cases h
theorem firstCells0 {x : AV} {v : Value} {n : Nat} (h : lenA x = some n) (hx : VR j x v) (sz : Nat) (w : World) : (Builtin.firstCells sz 0 v).run P w = .ok #[] w := by
  unfold lenA at h
  split at h
  · cases hx; rfl
  · cases hx; exact firstCells_e w sz _ _ _
  · cases hx with
    | sl => exact firstCells_slice (new := []) w (by simp) rfl (fun i v hv => by simp at hv)
  · cases hx with
    | s s =>
      simp only [Builtin.firstCells, Sem.run_pure]
      congr 1
      apply Array.ext'
      simp
  · cases h
theorem Does.q2 {s : Sem Value} {v : AV} {v' : Value} (h : VR j v v') (hs : ∀ w, s.run P w = .ok v' w) : Does P j (do pure (Next.value (← s))) (.q v) :=
  .q1 ⟨v', h, hs⟩ (run_v _)
theorem list_get0 {α : Type} (a : α) (l : List α) : (a :: l).toArray[0]? = some a := rfl
theorem list_get1 {α : Type} (a b : α) (l : List α) : (a :: b :: l).toArray[1]? = some b := rfl
theorem setCells_nil (w : World) (b o : Nat) : w.setCells b o [] = w := rfl
theorem builtinA_run {b : Builtin} {tys : Array TypeId} {ty : TypeId} {consts : Array Bool} {args : List AV} {vs : List Value} {e : Eff} (h : builtinA P b tys args = some e) (hv : VRs j args vs) :
    Does P j (builtin b tys ty consts vs.toArray) e := by
  obtain ⟨tl⟩ := tys
  unfold builtinA at h
  simp only at h
  split at h
  · rename_i t ts x xs
    cases hv with
    | @cons _ v _ vs' hx _ =>
    split at h
    · rename_i l hu
      injection h with h; subst h
      cases hx with
      | s s =>
      rw [bytesL_len]
      exact .q2 (.i' .i64 rfl) fun w => by simp only [Builtin.len_, list_get0, Sem.run_bind, run_underlying' w hu, Result.andThen_ok, Sem.run_pure]; rfl
    · rename_i el hu
      injection h with h; subst h
      cases hx
      exact .q2 (.i' .i64 rfl) fun w => by simp only [Builtin.len_, list_get0, Sem.run_bind, run_underlying' w hu, Result.andThen_ok, Sem.run_pure]; rfl
    · rename_i el z hu
      injection h with h; subst h
      cases hx
      exact .q2 (.i' .i64 rfl) fun w => by simp only [Builtin.len_, list_get0, Sem.run_bind, run_underlying' w hu, Result.andThen_ok, Sem.run_pure]; rfl
    · rename_i el b o len lo ex sz hu
      injection h with h; subst h
      cases hx
      exact .q2 (.i' .i64 rfl) fun w => by simp only [Builtin.len_, list_get0, Sem.run_bind, run_underlying' w hu, Result.andThen_ok, Sem.run_pure]; rfl
    · rename_i el ad len cp hu
      injection h with h; subst h
      cases hx
      exact .q2 (.i' .i64 rfl) fun w => by simp only [Builtin.len_, list_get0, Sem.run_bind, run_underlying' w hu, Result.andThen_ok, Sem.run_pure]; rfl
    · cases h
  · rename_i t ts x xs
    cases hv with
    | @cons _ v _ vs' hx _ =>
    split at h
    · rename_i el hu
      injection h with h; subst h
      cases hx
      exact .q2 (.i' .i64 rfl) fun w => by simp only [Builtin.cap_, list_get0, Sem.run_bind, run_underlying' w hu, Result.andThen_ok, Sem.run_pure]; rfl
    · rename_i el z hu
      injection h with h; subst h
      cases hx
      exact .q2 (.i' .i64 rfl) fun w => by simp only [Builtin.cap_, list_get0, Sem.run_bind, run_underlying' w hu, Result.andThen_ok, Sem.run_pure]; rfl
    · rename_i el b o len lo sz hu
      injection h with h; subst h
      cases hx with
      | @sl _ _ _ _ _ _ rb d m oo cap hj ho hl hcp hex hb =>
      have := hex rfl; subst this
      exact .q2 (.i' .i64 rfl) fun w => by simp only [Builtin.cap_, list_get0, Sem.run_bind, run_underlying' w hu, Result.andThen_ok, Sem.run_pure]; rfl
    · cases h
  · rename_i x y
    obtain ⟨r, hr, rfl⟩ := map_some' h
    unfold minA at hr
    split at hr
    · rename_i k a k' c
      injection hr with hr; subst hr
      cases hv with
      | cons hx t1 =>
      cases t1 with
      | cons hy t2 =>
      cases t2
      cases hx; cases hy
      refine .q2 (v' := .int k (if c < a then c else a)) (.i' k ?_) fun w => ?_
      · rw [leI_eq]
        by_cases hle : a ≤ c
        · rw [decide_eq_true hle, cond_true, if_neg (by omega)]
        · rw [decide_eq_false hle, cond_false, if_pos (by omega)]
      · rfl
    · cases hr
  · rename_i x y
    obtain ⟨r, hr, rfl⟩ := map_some' h
    unfold maxA at hr
    split at hr
    · rename_i k a k' c
      injection hr with hr; subst hr
      cases hv with
      | cons hx t1 =>
      cases t1 with
      | cons hy t2 =>
      cases t2
      cases hx; cases hy
      refine .q2 (v' := .int k (if c > a then c else a)) (.i' k ?_) fun w => ?_
      · rw [leI_eq]
        by_cases hle : c ≤ a
        · rw [decide_eq_true hle, cond_true, if_neg (by omega)]
        · rw [decide_eq_false hle, cond_false, if_pos (by omega)]
      · rfl
    · cases hr
  · rename_i t rest s x xs
    obtain ⟨e', he, h⟩ := bind_some' h
    obtain ⟨sz, hs, h⟩ := bind_some' h
    have hu := elemOfSlice_some he
    cases hv with
    | @cons _ sv _ vs' hsv tv =>
    cases tv with
    | @cons _ xv _ vs'' hxv _ =>
    cases rest with
    | nil => cases h
    | cons u rest =>
    simp only at h
    have hslice : s.isSl = true → ∃ base slen scap, sv = .slice base slen scap := by
      intro hs0
      cases hsv <;> first | exact ⟨_, _, _, rfl⟩ | cases hs0
    cases hdu : P.underlying u with
    | none => rw [hdu] at h; cases h
    | some du =>
    rw [hdu] at h
    by_cases hint : ∃ ku, du = .int ku
    · obtain ⟨ku, rfl⟩ := hint
      simp only at h
      obtain ⟨n, hn, h⟩ := bind_some' h
      obtain ⟨z, hz, h⟩ := bind_some' h
      obtain ⟨hc, h⟩ := cond_some h
      injection h with h; subst h
      simp only [Bool.and_eq_true] at hc
      obtain ⟨⟨⟨c0, c1⟩, c2⟩, c3⟩ := hc
      obtain ⟨base, slen, scap, rfl⟩ := hslice c0
      obtain ⟨kx, rfl⟩ := natOf_some hn
      cases hxv
      obtain ⟨new, h1, h2⟩ := append_zeros (j := j) (base := base) (slen := slen) (scap := scap) (ty := ty) (rest := rest) (kx := kx) (more := vs'') hu hs hdu hz (beq_eq' c1) (ble_le c3) (blt_lt c2) default
      exact ⟨base, slen, scap, hsv, new, h1, h2⟩
    · have h' : (srcA sz x).bind (fun ns => (zeroA P e').bind fun z => cond (s.isSl && Nat.beq z.length sz && Nat.ble ((4 * ns.1 + 4000) * P.bytesOf e') 17179869184) (some (.app s ns.1 ns.2 sz)) none) = some e := by
        cases du <;> first | exact h | exact absurd ⟨_, rfl⟩ hint
      obtain ⟨⟨n, src⟩, hsrc, h'⟩ := bind_some' h'
      obtain ⟨z, hz, h'⟩ := bind_some' h'
      obtain ⟨hc, h'⟩ := cond_some h'
      injection h' with h'; subst h'
      simp only [Bool.and_eq_true] at hc
      obtain ⟨⟨c0, c1⟩, c3⟩ := hc
      obtain ⟨base, slen, scap, rfl⟩ := hslice c0
      obtain ⟨hl, hF⟩ := srcA_run (P := P) hsrc hxv
      exact ⟨base, slen, scap, hsv, hF _ fun w new happ => append_not_zeros hu hs hdu (fun ku e => hint ⟨ku, e⟩) hz (beq_eq' c1) (ble_le c3) hl w new happ⟩
  · rename_i t ts d x xs
    obtain ⟨e', he, h⟩ := bind_some' h
    obtain ⟨sz, hs, h⟩ := bind_some' h
    obtain ⟨n, hn, h⟩ := bind_some' h
    have hu := elemOfSlice_some he
    cases hv with
    | @cons _ dv _ vs' hdv tv =>
    cases tv with
    | @cons _ xv _ vs'' hxv _ =>
    have hlen := fun w => lenA_run (P := P) hn hxv w
    split at h
    · injection h with h; subst h
      cases hdv
      refine .q2 (.i' .i64 rfl) fun w => ?_
      have hfc := firstCells0 (P := P) hn hxv sz w
      have hm : Nat.min n 0 = 0 := Nat.min_eq_right (Nat.zero_le _)
      simp only [Builtin.copy_, list_get0, list_get1, Sem.run_bind, run_underlying' w hu, Result.andThen_ok, hlen, hm, run_sizeOf' w hs, hfc]
      rfl
    · injection h with h; subst h
      cases hdv
      refine .q2 (.i' .i64 rfl) fun w => ?_
      have hfc := firstCells0 (P := P) hn hxv sz w
      have hm : Nat.min n 0 = 0 := Nat.min_eq_right (Nat.zero_le _)
      simp only [Builtin.copy_, list_get0, list_get1, Sem.run_bind, run_underlying' w hu, Result.andThen_ok, hlen, hm, run_sizeOf' w hs, hfc]
      rfl
    · rename_i b o len lo ex z _ _ _
      obtain ⟨hc, h⟩ := cond_some h
      have := beq_eq' hc; subst this
      cases hdv with
      | @sl _ _ _ _ _ _ rb dd m oo cap hj ho hl hcp hex hb =>
      cases hz : Nat.beq (Nat.min n len) 0 with
      | true =>
        rw [hz, cond_true] at h
        injection h with h; subst h
        have hz0 := beq_eq' hz
        refine .q2 (.i' .i64 rfl) fun w => ?_
        have hfc := firstCells0 (P := P) hn hxv z w
        simp only [Builtin.copy_, list_get0, list_get1, Sem.run_bind, run_underlying' w hu, Result.andThen_ok, hlen, run_sizeOf' w hs]
        rw [hz0, hfc]
        rfl
      | false =>
        rw [hz, cond_false] at h
        obtain ⟨src, hsrc, rfl⟩ := map_some' h
        have hpos : 0 < Nat.min n len := by
          rcases Nat.eq_zero_or_pos (Nat.min n len) with h | h
          · rw [h] at hz; cases hz
          · exact h
        have hml : Nat.min n len ≤ len := Nat.min_le_right _ _
        have hoo := ho (by omega)
        subst hoo
        refine ⟨rb, dd, m, hj, srcN_run (P := P) hsrc hn (Nat.min_le_left _ _) hpos hxv _ fun w new hnl hfc hw => ⟨.value (.int .i64 (Int.ofNat (Nat.min n len))), ⟨_, rfl, .i' .i64 rfl⟩, ?_⟩⟩
        have hst := run_storeCells_cells (P := P) rb (o + dd) new 0 w (by simpa using hw.1) (by simpa using hw.2.1) hw.2.2
        rw [Nat.add_zero] at hst
        show (do pure (Next.value (← Builtin.copy_ _ _ _)) : Sem Next).run P w = _
        rw [run_v]
        simp only [Builtin.copy_, list_get0, list_get1, Sem.run_bind, run_underlying' w hu, Result.andThen_ok, hlen, run_sizeOf' w hs, hfc, hst]
        rfl
    · cases h
  · rename_i t ts x xs
    obtain ⟨e', he, h⟩ := bind_some' h
    have hu := elemOfSlice_some he
    cases hv with
    | @cons _ v _ vs' hx _ =>
    split at h
    · injection h with h; subst h
      cases hx
      exact .q2 (VR.tup' .nil) fun w => by simp only [Builtin.clear_, list_get0, Sem.run_bind, run_underlying' w hu, Result.andThen_ok]; rfl
    · injection h with h; subst h
      cases hx
      exact .q2 (VR.tup' .nil) fun w => by simp only [Builtin.clear_, list_get0, Sem.run_bind, run_underlying' w hu, Result.andThen_ok]; rfl
    · rename_i b o len lo ex z _
      cases hx with
      | @sl _ _ _ _ _ _ rb dd m oo cap hj ho hl hcp hex hb =>
      cases hz : Nat.beq len 0 with
      | true =>
        rw [hz, cond_true] at h
        injection h with h; subst h
        have := beq_eq' hz; subst this
        exact .q2 (VR.tup' .nil) fun w => by simp only [Builtin.clear_, list_get0, Sem.run_bind, run_underlying' w hu, Result.andThen_ok]; rfl
      | false =>
        rw [hz, cond_false] at h
        obtain ⟨zs, hzs, h⟩ := bind_some' h
        obtain ⟨hc, h⟩ := cond_some h
        injection h with h; subst h
        simp only [Bool.and_eq_true] at hc
        have hzl := beq_eq' hc.1
        obtain ⟨i, zv, hi, hzv, hzr⟩ := zeroA_some (j := j) hzs
        obtain ⟨len', rfl⟩ : ∃ k, len = k + 1 := ⟨len - 1, by
          rcases Nat.eq_zero_or_pos len with h | h
          · subst h; cases hz
          · omega⟩
        have hoo := ho (by omega)
        subst hoo
        refine ⟨rb, dd, m, hj, (Builtin.zeroCells zv.cells (len' + 1)).toList, zeroCells_VRs hzr rfl _, fun w hw => ⟨.value (.tuple #[]), ⟨_, rfl, VR.tup' .nil⟩, ?_⟩⟩
        have hst := run_storeCells_cells (P := P) rb (o + dd) (Builtin.zeroCells zv.cells (len' + 1)).toList 0 w (by simpa using hw.1) (by simpa using hw.2.1) hw.2.2
        rw [Nat.add_zero] at hst
        show (do pure (Next.value (← Builtin.clear_ _ _ _)) : Sem Next).run P w = _
        rw [run_v]
        simp only [Builtin.clear_, list_get0, Sem.run_bind, run_underlying' w hu, Result.andThen_ok, run_zeroValue' _ hi hzv, hst]
        rfl
    · cases h
  · cases h
end
end Go.Proofs.YthnhdgcaolgdnaaAn
