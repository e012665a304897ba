/- The operations, one by one. -/
import Derived.Test.YthnhdgcaolgdnaaAnE
set_option linter.unusedVariables false
set_option linter.unusedSimpArgs false
namespace Go.Proofs.YthnhdgcaolgdnaaAn
open Go

section
variable {P : Program} {j : Inj} {ev : Operand → Option AV} {ρ : Operand → Value}

theorem ofU8_VRs (s : List UInt8) : VRs j (ofU8 (s.map UInt8.toNat)) (s.map fun b : UInt8 => Value.int .u8 b.toNat) := by
  induction s with
  | nil => exact .nil
  | cons b s ih => exact .cons (.i' .u8 rfl) ih
theorem ofU8_bytes (s : ByteArray) : VRs j (ofU8 (bytesL s)) (s.data.map fun b : UInt8 => Value.int .u8 b.toNat).toList := by
  have := ofU8_VRs (j := j) s.data.toList
  simpa [bytesL] using this
theorem ofU8_len : ∀ l : List Nat, (ofU8 l).length = l.length
  | [] => rfl
  | _ :: l => by simp [ofU8, ofU8_len l]
theorem allU8_some : ∀ {cs : List AV} {l : List Nat} {vs : List Value}, allU8 cs = some l → VRs j cs vs → (∀ n ∈ l, n < 256) ∧ vs = l.map fun n : Nat => Value.int .u8 (n : Int)
  | [], l, vs, h, hv => by
    simp only [allU8, Option.some.injEq] at h; subst h; cases hv; exact ⟨(fun n hn => by cases hn), rfl⟩
  | c :: cs, l, vs, h, hv => by
    unfold allU8 at h
    split at h
    · rename_i e; cases e
    · rename_i n cs' e
      injection e with e1 e2
      subst e1; subst e2
      obtain ⟨hc, h⟩ := cond_some h
      obtain ⟨r, hr, e⟩ := map_some' h
      subst e
      cases hv with
      | cons h1 t1 =>
      cases h1
      obtain ⟨g1, g2⟩ := allU8_some hr t1
      subst g2
      refine ⟨fun m hm => ?_, rfl⟩
      cases hm with
      | head => exact blt_lt hc
      | tail _ hm => exact g1 m hm
    · cases h
theorem foldl_push (l : List Nat) (hl : ∀ n ∈ l, n < 256) : ∀ s : ByteArray, bytesL ((l.map fun n : Nat => (n : Int)).foldl (fun r n => r.push (UInt8.ofNat n.toNat)) s) = bytesL s ++ l := by
  induction l with
  | nil => intro s; simp
  | cons n l ih =>
    intro s
    simp only [List.map_cons, List.foldl_cons]
    rw [ih (fun m hm => hl m (List.mem_cons_of_mem _ hm))]
    have h1 : bytesL (s.push (UInt8.ofNat ((n : Int).toNat))) = bytesL s ++ [n] := by
      have : n % 256 = n := Nat.mod_eq_of_lt (hl n (by simp))
      simp [bytesL, ByteArray.push, this]
    rw [h1]; simp
theorem Does.q1 {s : Sem Value} {v : AV} (h : Yields1 P j s v) {s' : Sem Next} (hs : ∀ w, s'.run P w = (s.run P w).andThen fun a w' => .ok (.value a) w') : Does P j s' (.q v) := by
  obtain ⟨v', h1, h2⟩ := h
  exact ⟨v', h1, fun w => by rw [hs, h2]; rfl⟩
theorem run_v (s : Sem Value) (w : World) : (do pure (Next.value (← s)) : Sem Next).run P w = (s.run P w).andThen fun a w' => .ok (.value a) w' := by
  simp
theorem convertA_run {src dst : TypeId} {x : AV} {v : Value} {e : Eff} (h : convertA P src dst x = some e) (hx : VR j x v) : Does P j (do pure (Next.value (← convert src dst v))) e := by
  unfold convertA at h
  split at h
  · rename_i d k k' n hs hd
    injection h with h; subst h
    cases hx
    exact .q1 ⟨.int k (k.wrap n), .i' k (wrapA_eq k n), fun w => by simp [convert, run_underlying' w hs, run_underlying' w hd, Conv.intToInt]⟩ (run_v _)
  · rename_i d l hs hd
    injection h with h; subst h
    cases hx with
    | s s => exact .q1 ⟨.string s, .s s, fun w => by simp [convert, run_underlying' w hs, run_underlying' w hd]⟩ (run_v _)
  · rename_i e' l hs hd
    split at h
    · rename_i he
      injection h with h; subst h
      cases hx with
      | s s =>
      intro w
      have hq : (Question.appendCap s.size 0 e').forced = false := rfl
      generalize hcap : (Question.appendCap s.size 0 e').cut (w.tape w.drawn (.appendCap s.size 0 e')) = cap
      have hge : s.size ≤ cap := by rw [← hcap]; simp only [Question.cut]; omega
      refine ⟨(s.data.map fun b : UInt8 => Value.int .u8 b.toNat) ++ Array.replicate (cap - s.size) (Value.int .u8 0), e', cap, cap + 1, .slice (some ⟨w.heap.size, 0, none⟩) s.size cap, 1, ?_, ?_, ?_, ?_⟩
      · have hsz : ((s.data.map fun b : UInt8 => Value.int .u8 b.toNat) ++ Array.replicate (cap - s.size) (Value.int .u8 0)).size = cap := by
          simp only [Array.size_append, Array.size_map, Array.size_replicate]
          have : s.data.size = s.size := rfl
          omega
        simp only [convert, Sem.run_bind, run_underlying' w hs, run_underlying' w hd, run_underlying' w he, Result.andThen_ok, Conv.stringToBytes, run_choose, hq, hcap, Bool.false_eq_true, if_false]
        simp only [newRow, Sem.run_bind, run_newObj, Result.andThen_ok, Sem.run_pure, markStringish, run_shape, World.shape?]
        have hp : ∀ X : Obj, (w.heap.push X)[w.heap.size]? = some X := fun X => by simp
        simp only [hp, run_freeze, World.freeze, hsz, Result.andThen_ok]
        rw [if_neg (by omega)]
        congr 1
        simp only [World.mk.injEq, and_true, true_and]
        apply Array.ext_getElem?
        intro i
        simp only [Array.getElem?_modify, Array.getElem?_push]
        by_cases hi : w.heap.size = i
        · subst hi; simp
        · have hi' : ¬ i = w.heap.size := fun e => hi e.symm
          simp [hi, hi']
      · right
        have hsz : ((s.data.map fun b : UInt8 => Value.int .u8 b.toNat) ++ Array.replicate (cap - s.size) (Value.int .u8 0)).size = cap := by
          simp only [Array.size_append, Array.size_map, Array.size_replicate]
          have : s.data.size = s.size := rfl
          omega
        rw [hsz]
        exact Nat.le_refl _
      · exact ⟨_, (Array.replicate (cap - s.size) (Value.int .u8 0)).toList, by simp, ofU8_bytes s⟩
      · intro j' id hle hid
        have hsz : ((s.data.map fun b : UInt8 => Value.int .u8 b.toNat) ++ Array.replicate (cap - s.size) (Value.int .u8 0)).size = cap := by
          simp only [Array.size_append, Array.size_map, Array.size_replicate]
          have : s.data.size = s.size := rfl
          omega
        rw [hsz] at hid
        rw [bytesL_len]
        exact .sl hid (fun _ => rfl) (Nat.le_refl _) hge (fun h => by cases h) (by omega)
    · cases h
  · rename_i e' hs hd
    split at h
    · rename_i he
      injection h with h; subst h
      cases hx
      exact .q1 ⟨.string .empty, .s' rfl, fun w => by simp [convert, run_underlying' w hs, run_underlying' w hd, run_underlying' w he, Conv.bytesToString]⟩ (run_v _)
    · cases h
  · rename_i e' z hs hd
    split at h
    · rename_i he
      injection h with h; subst h
      cases hx
      refine .q1 ⟨.string .empty, .s' rfl, fun w => ?_⟩ (run_v _)
      rw [run_convert_bytes_string w src dst e' _ _ _ hs he hd]
      have hl0 := run_loadCells_list (P := P) w z [] (fun j v h => by simp at h)
      have := run_bytesToString w z 0 0 [] (by simpa using hl0)
      simpa using this
    · cases h
  · rename_i e' b o len lo ex sz hs hd
    split at h
    · rename_i he
      have h' := cond_some h
      clear h
      obtain ⟨hc, h⟩ := h'
      have := beq_eq' hc; subst this
      cases hx with
      | @sl _ _ _ _ _ _ rb d n oo cap hj ho hl hcp hex hb =>
      have hrun : ∀ w, (convert src dst (.slice (some ⟨rb, oo, none⟩) len cap)).run P w = (Conv.bytesToString (.slice (some ⟨rb, oo, none⟩) len cap)).run P w :=
        fun w => run_convert_bytes_string w src dst e' _ _ _ hs he hd
      cases hz : Nat.beq len 0 with
      | true =>
        have := beq_eq' hz; subst this
        simp only [hz, cond_true, Option.some.injEq] at h
        subst h
        refine .q1 ⟨.string .empty, .s' rfl, fun w => ?_⟩ (run_v _)
        rw [hrun w]
        have hl0 := run_loadCells_list (P := P) w ⟨rb, oo, none⟩ [] (fun j v h => by simp at h)
        have := run_bytesToString w ⟨rb, oo, none⟩ 0 cap [] (by simpa using hl0)
        simpa using this
      | false =>
        simp only [hz, cond_false, Option.some.injEq] at h
        subst h
        have hpos : 0 < len := by
          rcases Nat.eq_zero_or_pos len with h | h
          · subst h; cases hz
          · exact h
        refine ⟨rb, d, n, hj, fun w vs hvl hat j' cs v hcs hk => ?_⟩
        obtain ⟨l, hl1, rfl⟩ := map_some' hk
        obtain ⟨g1, g2⟩ := allU8_some hl1 hcs
        have hoo := ho (by omega)
        subst hoo
        have hload := run_loadCells_list (P := P) w ⟨rb, o + d, none⟩ vs (fun i v hv => by rw [add_none]; exact hat i v hv)
        rw [hvl] at hload
        refine ⟨.string ((l.map fun n : Nat => (n : Int)).foldl (fun r n => r.push (UInt8.ofNat n.toNat)) ByteArray.empty), .s' ?_, ?_⟩
        · rw [foldl_push l g1]; rfl
        · rw [run_v, hrun w, run_bytesToString w ⟨rb, o + d, none⟩ len cap (l.map fun n : Nat => (n : Int)) (by rw [hload, g2]; simp [Function.comp_def])]
          rfl
    · cases h
  · rename_i e0 e' b o len lo ex sz hs hd
    split at h
    · rename_i he
      have h' := cond_some h
      clear h
      obtain ⟨hc, h⟩ := h'
      have := beq_eq' hc; subst this
      rw [hs] at hd; injection hd with hd; injection hd with hd; subst hd
      injection h with h; subst h
      cases hx with
      | @sl _ _ _ _ _ _ rb d n oo cap hj ho hl hcp hex hb =>
      refine ⟨rb, d, n, _, hj, .sl hj ho hl hcp hex hb, fun w rc ty fz hw => ?_⟩
      rw [run_v]
      have hsh : w.shape? rb = some (ty, rc.size) := by simp only [World.shape?, hw]
      simp only [convert, Sem.run_bind, run_underlying' w hs, run_underlying' w he, Result.andThen_ok, beq_self_eq_true, markStringish, run_shape, hsh, run_freeze, Sem.run_pure]
    · cases h
  · cases h

theorem indexA_run {t : TypeId} {x ix r : AV} {v u : Value} (h : indexA P t x ix = some r) (hx : VR j x v) (hi : VR j ix u) : Yields1 P j (Instr.indexAt t v u) r := by
  unfold indexA at h
  split at h
  · rename_i n e b o i hu hn
    obtain ⟨sz, hs, h⟩ := bind_some' h
    obtain ⟨hc, h⟩ := cond_some h
    injection h with h; subst h
    have hlt := blt_lt hc
    cases hx with
    | @p _ rb d m _ hj =>
    obtain ⟨k, rfl⟩ := natOf_some hn
    cases hi
    refine ⟨.pointer (some ⟨rb, o + i * sz + d, none⟩), .p hj, fun w => ?_⟩
    have hb : (0 : Int) ≤ (i : Int) ∧ (i : Int) < (n : Int) := ⟨by omega, by omega⟩
    simp only [Instr.indexAt, asIntOf, Sem.run_bind, Sem.run_pure, Result.andThen_ok, run_underlying' w hu, Instr.sureAddr, if_pos hb, run_sizeOf' w hs, add_none, Int.toNat_natCast]
    rw [show o + d + i * sz = o + i * sz + d by omega]
  · rename_i e b o len lo ex z i hu hn
    obtain ⟨sz, hs, h⟩ := bind_some' h
    obtain ⟨hc, h⟩ := cond_some h
    injection h with h; subst h
    have hlt := blt_lt hc
    cases hx with
    | @sl _ _ _ _ _ _ rb d m oo cap hj ho hl hcp hex hb =>
    obtain ⟨k, rfl⟩ := natOf_some hn
    cases hi
    have hoo := ho (by omega)
    subst hoo
    refine ⟨.pointer (some ⟨rb, o + i * sz + d, none⟩), .p hj, fun w => ?_⟩
    have hb : (0 : Int) ≤ (i : Int) ∧ (i : Int) < (len : Int) := ⟨by omega, by omega⟩
    simp only [Instr.indexAt, asIntOf, Sem.run_bind, Sem.run_pure, Result.andThen_ok, run_underlying' w hu, if_pos hb, run_sizeOf' w hs, add_none, Int.toNat_natCast]
    rw [show o + d + i * sz = o + i * sz + d by omega]
  · cases h
theorem indexV_run {t : TypeId} {x ix r : AV} {v u : Value} (h : indexV P t x ix = some r) (hx : VR j x v) (hi : VR j ix u) : Yields1 P j (Instr.index t v u) r := by
  unfold indexV at h
  split at h
  · rename_i l i hu hn
    obtain ⟨c, hc, rfl⟩ := map_some' h
    rw [nthL_eq] at hc
    obtain ⟨k, rfl⟩ := natOf_some hn
    cases hi
    cases hx with
    | s s =>
    have hlt : i < s.data.toList.length := by
      rcases Nat.lt_or_ge i s.data.toList.length with h | h
      · exact h
      · rw [List.getElem?_eq_none (by simpa [bytesL] using h)] at hc; cases hc
    have hc' : s.data.toList[i].toNat = c := by
      simp only [bytesL, List.getElem?_map, List.getElem?_eq_getElem hlt, Option.map_some, Option.some.injEq] at hc
      exact hc
    refine ⟨.int .u8 c, .i' .u8 rfl, fun w => ?_⟩
    have h0 : (0 : Int) ≤ (i : Int) := by omega
    have hget : s[i]? = some (s.data.toList[i]) := by
      have hsz : i < s.size := by simpa using hlt
      rw [getElem?_pos s i hsz]; rfl
    simp only [Instr.index, asIntOf, Sem.run_bind, Sem.run_pure, Result.andThen_ok, run_underlying' w hu, if_pos h0, Int.toNat_natCast, hget]
    rw [hc']
  · rename_i n e cs i hu hn
    obtain ⟨sz, hs, h⟩ := bind_some' h
    obtain ⟨hc, h⟩ := cond_some h
    have hlt := blt_lt hc
    obtain ⟨k, rfl⟩ := natOf_some hn
    cases hi
    obtain ⟨vs, rfl, hvs⟩ := hx.agg_inv
    have hb : (0 : Int) ≤ (i : Int) ∧ (i : Int) < (n : Int) := ⟨by omega, by omega⟩
    obtain ⟨v', h1, h2⟩ := run_part' h hvs
    refine ⟨v', h1, fun w => ?_⟩
    simp only [Instr.index, asIntOf, Sem.run_bind, Sem.run_pure, Result.andThen_ok, run_underlying' w hu, if_pos hb, run_sizeOf' w hs, Int.toNat_natCast, h2 w]
  · cases h
end
end Go.Proofs.YthnhdgcaolgdnaaAn
