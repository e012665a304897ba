/- The conditions are sound: code and calls. -/
import Derived.Test.YthnhdgcaolgdnaaAnZg
set_option linter.unusedVariables false
set_option linter.unusedSimpArgs false
namespace Go.Proofs.YthnhdgcaolgdnaaAn
open Go
abbrev RchT := (Nat → Nat) → VS → Hp → Heap → T AV → Prop
section
variable {ids ids' : Nat → Nat} {s s' : VS} {h h' : Hp} {m : T AV} {H H' : Heap}
theorem get_congr (e : s'.m = s.m) : s'.get = s.get := by funext t; unfold VS.get; rw [e]
theorem valsT_congr (e : s'.m = s.m) : ∀ hv, valsT s' hv = valsT s hv
  | [] => rfl
  | (t, .one k) :: l => by simp only [valsT, get_congr e, valsT_congr e l]
  | (t, .agg ks) :: l => by simp only [valsT, get_congr e, valsT_congr e l]
theorem hvT_congr (e : s'.m = s.m) : ∀ as, hvT s' as = hvT s as
  | [] => rfl
  | t :: l => by simp only [hvT, get_congr e, hvT_congr e l]
theorem hvT_in : ∀ {as : List Nat} {t : Nat}, isIn t ((hvT s as).map (·.1)) = true → isIn t as = true
  | [], t, h => by cases h
  | a :: l, t, h => by
    unfold isIn
    cases hb : Nat.beq t a with
    | true => rfl
    | false =>
      rw [cond_false]
      simp only [hvT] at h
      split at h
      · split at h
        · simp only [List.map_cons, isIn, hb, cond_false] at h; exact hvT_in h
        · exact hvT_in h
      · exact hvT_in h
theorem goods_append {l l' : List SV} {nl : Nat} (a : SV.Goods ids nl l) (b : SV.Goods ids nl l') : SV.Goods ids nl (l ++ l') := goods_iff.2 fun x hx => (List.mem_append.1 hx).elim (goods_iff.1 a x) (goods_iff.1 b x)
/-- **A loop's head.** -/
theorem vcHead_sound {Rch : RchT} (hRch : ∀ {ids ids' s s' h H m}, TrH s h H s' h H → Rch ids' s' h H m → Rch ids s h H m) (hTr : ∀ {ids s h H s' h' m}, RelV ids s h m H → Tr ids s h H ids s' h' H → Rch ids s' h' H m → Rch ids s h H m)
    {N : Nat} {as : List Nat} {hv : List (Nat × Sh)} {hl : List (Nat × List Kd)} {xs ys : List SV} {go : VS → Hp → (VS → Hp → Prop) → Prop} (Rb : RelV ids s h m H)
    (hva : ∀ t, isIn t (hv.map (·.1)) = true → isIn t as = true) (hx : valsT s hv = some xs) (hy : valsL s hl = some ys)
    (hgo : ∀ {vs ids1 h1 m1 H1} {back : VS → Hp → Prop}, RelV ids1 (headOf N s as hv hl vs) h1 m1 H1 → Bk ids s ids1 (headOf N s as hv hl vs) →
      (∀ {ids2 s2 h2 m2 H2}, Bk ids1 (headOf N s as hv hl vs) ids2 s2 → RelV ids2 s2 h2 m2 H2 → back s2 h2 → Rch ids2 s2 h2 H2 m2) → go (headOf N s as hv hl vs) h1 back → Rch ids1 (headOf N s as hv hl vs) h1 H1 m1)
    (hk : vcHead N as hv hl xs ys s h go) : Rch ids s h H m := by
  obtain ⟨Inv, ⟨n0, hinit⟩, hround⟩ := hk
  -- a head's state, whatever n
  have main : ∀ n, ∀ {vs ids1 h1 m1 H1}, Typed (kindsT hv ++ kindsL hl) vs → RelV ids1 (headOf N s as hv hl vs) h1 m1 H1 → Bk ids s ids1 (headOf N s as hv hl vs) → apH (kindsT hv ++ kindsL hl) (Inv n) vs h1 → Rch ids1 (headOf N s as hv hl vs) h1 H1 m1 := by
    intro n
    induction n using Nat.strongRecOn with
    | ind n ih =>
      intro vs ids1 h1 m1 H1 hty R1 B1 hI
      have hrd := hty _ (hround n h1) hI
      rw [frcS_eq] at hrd
      refine hgo R1 B1 ?_ hrd
      intro ids2 s2 h2 m2 H2 B2 R2 hb
      unfold vcBack at hb
      split at hb
      · rename_i xs2 ys2 e1 e2
        obtain ⟨s3, h3, R3, T3, em, enl, est, _, hb⟩ := esc_sound hb R2
        refine hTr R2 T3 ?_
        split at hb
        · rename_i hkept
          rw [Bool.and_eq_true] at hkept
          obtain ⟨kt, kl⟩ := hkept
          split at hb
          · rename_i ys3 e3
            obtain ⟨n', hlt, hI'⟩ := hb
            have hlt : n' < n := hlt
            have e1' : valsT s3 hv = some xs2 := by rw [valsT_congr em]; exact e1
            have gx := (valsT_VT R3 (vs := xs2) (rest := []) e1' rfl (valsT_len e1)).2
            have gy := (valsL_VL R3 (vs := ys3) e3 rfl).2
            obtain ⟨vs', a1, a2, a3, a4, a5, a6⟩ := apH_typed hI' (goods_append gx gy)
            have hlx := valsT_len e1
            have hvl : vs'.length = xs2.length + ys3.length := by have := congrArg List.length a1; simpa [avs_length] using this
            have t1 : SV.avs (vs'.take xs2.length) = SV.avs xs2 := by rw [avs_take, a1, avs_append, List.take_append_of_le_length (by rw [avs_length]; omega), List.take_of_length_le (by rw [avs_length]; omega)]
            have t2 : SV.avs (vs'.drop xs2.length) = SV.avs ys3 := by rw [avs_drop, a1, avs_append, List.drop_append_of_le_length (by rw [avs_length]; omega), List.drop_of_length_le (by rw [avs_length]; omega), List.nil_append]
            have hVT := (valsT_VT R3 (vs := vs'.take xs2.length) (rest := vs'.drop xs2.length) e1' t1 hlx).1
            rw [List.take_append_drop] at hVT
            have hVL := (valsL_VL R3 (vs := vs'.drop xs2.length) e3 t2).1
            rw [hlx] at hVL
            have B3 : Bk ids1 (headOf N s as hv hl vs) ids2 s3 := B2.trans T3.bk
            have hnl : (headOf N s as hv hl vs).nl = s.nl := by
              unfold headOf
              rw [putL_m.2.1, putT_L.2.1]; rfl
            obtain ⟨R4, B4, T4⟩ := head_rel (N := N) (as := as) (hv := hv) (hl := hl) (vs := vs') Rb R3 (by rw [← hnl]; exact B3.nl) (fun k hk => (B3.ids k (by rw [hnl]; exact hk)).trans (B1.ids k hk))
              (fun t x ht hta hsb hin => by
                have hhead : (headOf N s as hv hl vs).m.get t = some x := by
                  unfold headOf
                  rw [putL_m.1, putT_ne hin]
                  show (keepT s.m as N).get t = some x
                  rw [keepT_get, if_pos ⟨ht, hta⟩]; exact hsb
                obtain ⟨st, o, q1, q2⟩ := keptT_spec kt t ht x hhead hin
                have := B3.mt t st o q1 q2
                rw [hhead] at this
                rw [q1]; exact this.symm)
              (fun k x hin hsb => by
                have hhead : (headOf N s as hv hl vs).L.get k = some x := by
                  unfold headOf
                  rw [putL_ne hin, putT_L.1]; exact hsb
                obtain ⟨st0, id0, cs0⟩ := x
                have hlt' : k < s.nl := (Rb.loc k st0 id0 cs0 hsb).1.1
                obtain ⟨st, id, cs, q1, q2⟩ := keptL_spec kl k (by rw [hnl]; exact hlt') _ hhead hin
                have := B3.ml k st id cs q1 q2
                rw [hhead] at this
                rw [q1]; exact this.symm)
              hva hVT hVL a6 a4
            exact hRch T4 (ih n' hlt a2 R4 B4 a3)
          · exact hb.elim
        · exact hb.elim
      · exact hb.elim
  have gx := (valsT_VT Rb (vs := xs) (rest := []) hx rfl (valsT_len hx)).2
  have gy := (valsL_VL Rb (vs := ys) hy rfl).2
  obtain ⟨vs', a1, a2, a3, a4, a5, a6⟩ := apH_typed hinit (goods_append gx gy)
  have hlx := valsT_len hx
  have t1 : SV.avs (vs'.take xs.length) = SV.avs xs := by
    have hvl : vs'.length = xs.length + ys.length := by have := congrArg List.length a1; simpa [avs_length] using this
    rw [avs_take, a1, avs_append, List.take_append_of_le_length (by rw [avs_length]; omega), List.take_of_length_le (by rw [avs_length]; omega)]
  have t2 : SV.avs (vs'.drop xs.length) = SV.avs ys := by
    rw [avs_drop, a1, avs_append, List.drop_append_of_le_length (by rw [avs_length]; omega), List.drop_of_length_le (by rw [avs_length]; omega), List.nil_append]
  have hVT := (valsT_VT Rb (vs := vs'.take xs.length) (rest := vs'.drop xs.length) hx t1 hlx).1
  rw [List.take_append_drop] at hVT
  have hVL := (valsL_VL Rb (vs := vs'.drop xs.length) hy t2).1
  rw [hlx] at hVL
  obtain ⟨R4, B4, T4⟩ := head_rel (N := N) (as := as) (hv := hv) (hl := hl) (vs := vs') Rb Rb (Nat.le_refl _) (fun _ _ => rfl) (fun t x _ _ hsb _ => hsb) (fun k x _ hsb => hsb) hva hVT hVL a6 a4
  exact hRch T4 (main n0 a2 R4 B4 a3)
theorem vcCut_sound {Rch : RchT} (hRch : ∀ {ids ids' s s' h H m}, TrH s h H s' h H → Rch ids' s' h H m → Rch ids s h H m) (hTr : ∀ {ids s h H s' h' m}, RelV ids s h m H → Tr ids s h H ids s' h' H → Rch ids s' h' H m → Rch ids s h H m)
    {N : Nat} {body : List Code} {go : VS → Hp → (VS → Hp → Prop) → Prop} (R : RelV ids s h m H)
    (hgo : ∀ {ids1 s1 h1 m1 H1} {back : VS → Hp → Prop}, RelV ids1 s1 h1 m1 H1 → Bk ids s ids1 s1 →
      (∀ {ids2 s2 h2 m2 H2}, Bk ids1 s1 ids2 s2 → RelV ids2 s2 h2 m2 H2 → back s2 h2 → Rch ids2 s2 h2 H2 m2) → go s1 h1 back → Rch ids1 s1 h1 H1 m1)
    (hk : vcCut N body s h go) : Rch ids s h H m := by
  unfold vcCut at hk
  obtain ⟨s1, h1, R1, T1, _, _, _, _, hk⟩ := esc_sound hk R
  refine hTr R T1 ?_
  split at hk
  · rename_i xs ys0 hx hy0
    obtain ⟨s2, h2, R2, T2, em, _, _, _, hk⟩ := esc_sound hk R1
    refine hTr R1 T2 ?_
    split at hk
    · rename_i ys hy
      refine vcHead_sound hRch hTr R2 (fun t ht => hvT_in ht) (by rw [hvT_congr em, valsT_congr em]; exact hx) hy (fun R3 B3 hb hg => hgo R3 ((T1.trans T2).bk.trans B3) hb hg) hk
    · exact hk.elim
  · exact hk.elim
theorem hvE_in {P : Program} {ops : List Oper} {as : List Nat} : ∀ {ex : List Nat} {t : Nat}, isIn t ((hvE P s ops as ex).map (·.1)) = true → isIn t as = true
  | [], t, h => by cases h
  | a :: l, t, h => by
    unfold hvE at h
    cases hi : isIn a as with
    | false => rw [hi, cond_false] at h; exact hvE_in h
    | true =>
      rw [hi, cond_true] at h
      split at h
      · exact hvE_in h
      · split at h
        · split at h
          · simp only [List.map_cons, isIn] at h
            cases hb : Nat.beq t a with
            | true => rw [beq_eq' hb]; exact hi
            | false => rw [hb, cond_false] at h; exact hvE_in h
          · exact hvE_in h
        · exact hvE_in h
theorem isIn_append {t : Nat} : ∀ {a b : List Nat}, isIn t (a ++ b) = (isIn t a || isIn t b)
  | [], b => rfl
  | x :: a, b => by
    simp only [List.cons_append, isIn, isIn_append (a := a)]
    cases Nat.beq t x <;> rfl
/-- **Where ways come together.** -/
theorem vcJoin_sound {Rch RchK : RchT} (hTr : ∀ {ids s h H s' h' m}, RelV ids s h m H → Tr ids s h H ids s' h' H → Rch ids s' h' H m → Rch ids s h H m) (hRchK : ∀ {ids ids' s s' h H m}, TrH s h H s' h H → RchK ids' s' h H m → RchK ids s h H m)
    (hTrK : ∀ {ids s h H s' h' m}, RelV ids s h m H → Tr ids s h H ids s' h' H → RchK ids s' h' H m → RchK ids s h H m)
    {P : Program} {N : Nat} {ex : List Nat} {x : Code} {goX : VS → Hp → (VS → Hp → Prop) → Prop} {goK : VS → Hp → Prop} (R : RelV ids s h m H)
    (hgx : ∀ {ids1 s1 h1 m1 H1} {back : VS → Hp → Prop}, RelV ids1 s1 h1 m1 H1 → Bk ids s ids1 s1 → (∀ {ids2 s2 h2 m2 H2}, Bk ids1 s1 ids2 s2 → RelV ids2 s2 h2 m2 H2 → back s2 h2 → RchK ids2 s2 h2 H2 m2) → goX s1 h1 back → Rch ids1 s1 h1 H1 m1)
    (hgk : ∀ {ids1 s1 h1 m1 H1}, RelV ids1 s1 h1 m1 H1 → Bk ids s ids1 s1 → goK s1 h1 → RchK ids1 s1 h1 H1 m1)
    (hk : vcJoinCut P N ex x s h goX goK) : Rch ids s h H m := by
  unfold vcJoinCut at hk
  obtain ⟨s1, h1, R1, T1, em1, _, _, _, J, hx, hK⟩ := esc_sound hk R
  refine hTr R T1 ?_
  clear hk
  have hva : ∀ t, isIn t ((hvT s1 (once (asg x)) ++ hvE P s1 (opsOf x) (once (asg x)) (once ex)).map (·.1)) = true → isIn t (once (asg x)) = true := fun t ht => by
    rw [List.map_append, isIn_append, Bool.or_eq_true] at ht
    rcases ht with ht | ht
    · exact hvT_in ht
    · exact hvE_in ht
  generalize hvT s1 (once (asg x)) ++ hvE P s1 (opsOf x) (once (asg x)) (once ex) = hv at J hx hK hva
  generalize hvK s1 (once (hvL s1 (stb x))) = hl at J hx hK
  generalize once (asg x) = as at hK hva
  refine hgx R1 T1.bk ?_ hx
  intro ids2 s2 h2 m2 H2 B2 R2 hb
  unfold vcBack at hb
  split at hb
  · rename_i xs2 ys2 e1 e2
    obtain ⟨s3, h3, R3, T3, em, enl, est, _, hb⟩ := esc_sound hb R2
    refine hTrK R2 T3 ?_
    split at hb
    · rename_i hkept
      rw [Bool.and_eq_true] at hkept
      obtain ⟨kt, kl⟩ := hkept
      split at hb
      · rename_i ys3 e3
        have e1' : valsT s3 hv = some xs2 := by rw [valsT_congr em]; exact e1
        have gx := (valsT_VT R3 (vs := xs2) (rest := []) e1' rfl (valsT_len e1)).2
        have gy := (valsL_VL R3 (vs := ys3) e3 rfl).2
        obtain ⟨vs', a1, a2, a3, a4, a5, a6⟩ := apH_typed hb (goods_append gx gy)
        have hlx := valsT_len e1
        have hvl : vs'.length = xs2.length + ys3.length := by have := congrArg List.length a1; simpa [avs_length] using this
        have t1 : SV.avs (vs'.take xs2.length) = SV.avs xs2 := by rw [avs_take, a1, avs_append, List.take_append_of_le_length (by rw [avs_length]; omega), List.take_of_length_le (by rw [avs_length]; omega)]
        have t2 : SV.avs (vs'.drop xs2.length) = SV.avs ys3 := by rw [avs_drop, a1, avs_append, List.drop_append_of_le_length (by rw [avs_length]; omega), List.drop_of_length_le (by rw [avs_length]; omega), List.nil_append]
        have hVT := (valsT_VT R3 (vs := vs'.take xs2.length) (rest := vs'.drop xs2.length) e1' t1 hlx).1
        rw [List.take_append_drop] at hVT
        have hVL := (valsL_VL R3 (vs := vs'.drop xs2.length) e3 t2).1
        rw [hlx] at hVL
        have B3 : Bk ids s1 ids2 s3 := B2.trans T3.bk
        obtain ⟨R4, B4, T4⟩ := head_rel (N := N) (as := as) (hv := hv) (hl := hl) (vs := vs') R1 R3 B3.nl (fun k hk => B3.ids k hk)
          (fun t x ht hta hsb hin => by
            obtain ⟨st, o, q1, q2⟩ := keptT_spec kt t ht x hsb hin
            have := B3.mt t st o q1 q2
            rw [hsb] at this
            rw [q1]; exact this.symm)
          (fun k x hin hsb => by
            obtain ⟨st0, id0, cs0⟩ := x
            have hlt' : k < s1.nl := (R1.loc k st0 id0 cs0 hsb).1.1
            obtain ⟨st, id, cs, q1, q2⟩ := keptL_spec kl k hlt' _ hsb hin
            have := B3.ml k st id cs q1 q2
            rw [hsb] at this
            rw [q1]; exact this.symm)
          hva hVT hVL a6 a4
        have hk3 := a2 _ (hK h3) a3
        rw [frcS_eq] at hk3
        exact hRchK T4 (hgk R4 (T1.bk.trans B4) hk3)
      · exact hb.elim
    · exact hb.elim
  · exact hb.elim
end
/-! ### code -/
section
variable {P : Program} {N : Nat} {cuts : List Nat} {K : VS → Hp → Prop}
def Reach (P : Program) (N : Nat) (K : VS → Hp → Prop) (todo : List Item) : RchT := fun ids s h H m =>
  ∃ n m' H' ids' s' h', (∀ n', n ≤ n' → runA P n' N m todo H = some (m', H')) ∧ RelV ids' s' h' m' H' ∧ TrH s h H s' h' H' ∧ K s' h'
theorem Reach.pre {todo : List Item} {ids ids' : Nat → Nat} {s s' : VS} {h h' : Hp} {H : Heap} {m : T AV} (t : TrH s h H s' h' H) (r : Reach P N K todo ids' s' h' H m) : Reach P N K todo ids s h H m := by
  obtain ⟨n, m', H', i', s2, h2, a1, a2, a3, a4⟩ := r
  exact ⟨n, m', H', i', s2, h2, a1, a2, t.trans a3, a4⟩
theorem Reach.step {todo todo' : List Item} {ids : Nat → Nat} {s : VS} {h : Hp} {H : Heap} {m : T AV} (e : ∀ rec : RunA, stepA P rec N m todo H = rec N m todo' H) (r : Reach P N K todo' ids s h H m) : Reach P N K todo ids s h H m := by
  obtain ⟨n, m', H', i', s2, h2, a1, a2, a3, a4⟩ := r
  refine ⟨n + 1, m', H', i', s2, h2, fun n' hn => ?_, a2, a3, a4⟩
  obtain ⟨k, rfl⟩ : ∃ k, n' = k + 1 := ⟨n' - 1, by omega⟩
  show stepA P (runA P k) N m todo H = _
  rw [e]; exact a1 k (by omega)
theorem Reach.done {todo : List Item} {ids : Nat → Nat} {s : VS} {h : Hp} {H : Heap} {m : T AV} (R : RelV ids s h m H) (e : ∀ rec : RunA, stepA P rec N m todo H = some (m, H)) (k : K s h) : Reach P N K todo ids s h H m := by
  refine ⟨1, m, H, ids, s, h, fun n' hn => ?_, R, TrH.refl _ _ _, k⟩
  obtain ⟨k, rfl⟩ : ∃ k, n' = k + 1 := ⟨n' - 1, by omega⟩
  exact e _
def Suf (a b : List Item) : Prop := ∃ pre, b = pre ++ a
theorem Suf.refl (a : List Item) : Suf a a := ⟨[], rfl⟩
theorem Suf.cons {a b : List Item} (x : Item) (h : Suf a b) : Suf a (x :: b) := by obtain ⟨p, rfl⟩ := h; exact ⟨x :: p, rfl⟩
theorem itemsLen_eq : ∀ l : List Item, itemsLen l = l.length
  | [] => rfl
  | _ :: l => by simp [itemsLen, itemsLen_eq l]
theorem Suf.tail {a b : List Item} {x : Item} (h : Suf a (x :: b)) (hx : ∀ l, a ≠ x :: l) : Suf a b := by
  obtain ⟨p, hp⟩ := h
  cases p with
  | nil => exact absurd hp.symm (hx b)
  | cons y p => simp only [List.cons_append] at hp; injection hp with _ hp; exact ⟨p, hp⟩
theorem Suf.len {a b : List Item} (h : Suf a b) : a.length ≤ b.length := by obtain ⟨p, rfl⟩ := h; simp
theorem Suf.eq {a b : List Item} (h : Suf a b) (hl : a.length = b.length) : a = b := by
  obtain ⟨p, rfl⟩ := h
  have : p = [] := List.length_eq_zero_iff.1 (by rw [List.length_append] at hl; omega)
  rw [this]; rfl
theorem Suf.both {a b c : List Item} (h1 : Suf a c) (h2 : Suf b c) (hl : a.length ≤ b.length) : Suf a b := by
  obtain ⟨p, rfl⟩ := h1
  obtain ⟨q, hq⟩ := h2
  have h1 : a <:+ p ++ a := ⟨p, rfl⟩
  have h2 : b <:+ p ++ a := ⟨q, hq.symm⟩
  obtain ⟨t, ht⟩ := List.suffix_of_suffix_length_le h1 h2 hl
  exact ⟨t, ht.symm⟩
theorem exitTo_suf : ∀ {k k' : List Item} {id : Nat}, exitTo id k = some k' → Suf k' k
  | .inBlock id' :: k, k', id, h => by
    unfold exitTo at h
    split at h
    · injection h with h; subst h; exact (Suf.refl _).cons _
    · exact (exitTo_suf h).cons _
  | .code _ :: k, k', id, h => (exitTo_suf (k := k) h).cons _
  | .inLoop _ :: k, k', id, h => (exitTo_suf (k := k) h).cons _
  | .inScope _ :: k, k', id, h => (exitTo_suf (k := k) h).cons _
  | .inRegion _ _ :: k, k', id, h => (exitTo_suf (k := k) h).cons _
  | .inRangeFunc _ :: k, k', id, h => (exitTo_suf (k := k) h).cons _
  | .endRangeFunc _ :: k, k', id, h => (exitTo_suf (k := k) h).cons _
  | .beginRound :: k, k', id, h => (exitTo_suf (k := k) h).cons _
  | .call .. :: k, k', id, h => (exitTo_suf (k := k) h).cons _
  | .extern .. :: k, k', id, h => (exitTo_suf (k := k) h).cons _
theorem gotoIn_suf : ∀ {k T : List Item} {l : Nat}, gotoIn l k = some T → ∃ rest body k', T = .code rest :: .inScope body :: k' ∧ Suf (.inScope body :: k') k ∧ gotoIn l (.inScope body :: k') = some T
  | .inScope body :: k, T, l, h => by
    have h0 := h
    unfold gotoIn at h
    split at h
    · rename_i rest hr
      injection h with h; subst h
      exact ⟨rest, body, k, rfl, Suf.refl _, h0⟩
    · obtain ⟨rest, b, k', a1, a2, a3⟩ := gotoIn_suf h
      exact ⟨rest, b, k', a1, a2.cons _, a3⟩
  | .code _ :: k, T, l, h => let ⟨r, b, k', a1, a2, a3⟩ := gotoIn_suf (k := k) h; ⟨r, b, k', a1, a2.cons _, a3⟩
  | .inLoop _ :: k, T, l, h => let ⟨r, b, k', a1, a2, a3⟩ := gotoIn_suf (k := k) h; ⟨r, b, k', a1, a2.cons _, a3⟩
  | .inBlock _ :: k, T, l, h => let ⟨r, b, k', a1, a2, a3⟩ := gotoIn_suf (k := k) h; ⟨r, b, k', a1, a2.cons _, a3⟩
  | .inRegion _ _ :: k, T, l, h => let ⟨r, b, k', a1, a2, a3⟩ := gotoIn_suf (k := k) h; ⟨r, b, k', a1, a2.cons _, a3⟩
  | .inRangeFunc _ :: k, T, l, h => let ⟨r, b, k', a1, a2, a3⟩ := gotoIn_suf (k := k) h; ⟨r, b, k', a1, a2.cons _, a3⟩
  | .endRangeFunc _ :: k, T, l, h => let ⟨r, b, k', a1, a2, a3⟩ := gotoIn_suf (k := k) h; ⟨r, b, k', a1, a2.cons _, a3⟩
  | .beginRound :: k, T, l, h => let ⟨r, b, k', a1, a2, a3⟩ := gotoIn_suf (k := k) h; ⟨r, b, k', a1, a2.cons _, a3⟩
  | .call .. :: k, T, l, h => let ⟨r, b, k', a1, a2, a3⟩ := gotoIn_suf (k := k) h; ⟨r, b, k', a1, a2.cons _, a3⟩
  | .extern .. :: k, T, l, h => let ⟨r, b, k', a1, a2, a3⟩ := gotoIn_suf (k := k) h; ⟨r, b, k', a1, a2.cons _, a3⟩
/-- a head that may be come back to -/
def HdOk (P : Program) (N : Nat) (K : VS → Hp → Prop) (todo : List Item) (ids : Nat → Nat) (s : VS) (d : Hd) : Prop :=
  ∃ (Kh : List Item) (id0 : Nat → Nat) (s0 : VS), d.len = Kh.length ∧ (d.key ≠ .jn → ∀ c l, Kh ≠ .code c :: l) ∧ Suf Kh todo ∧ Bk id0 s0 ids s ∧
    ∀ {ids2 s2 h2 m2 H2}, Bk id0 s0 ids2 s2 → RelV ids2 s2 h2 m2 H2 → d.run s2 h2 → match d.key with
      | .lp => Reach P N K Kh ids2 s2 h2 H2 m2
      | .jn => Reach P N K Kh ids2 s2 h2 H2 m2
      | .lb l => ∀ T, gotoIn l Kh = some T → Reach P N K T ids2 s2 h2 H2 m2
theorem HdOk.later {todo : List Item} {ids ids' : Nat → Nat} {s s' : VS} {d : Hd} (b : Bk ids s ids' s') (hd : HdOk P N K todo ids s d) : HdOk P N K todo ids' s' d := by
  obtain ⟨Kh, id0, s0, a1, a2, a3, a4, a5⟩ := hd
  exact ⟨Kh, id0, s0, a1, a2, a3, a4.trans b, a5⟩
theorem HdOk.push {todo : List Item} {ids : Nat → Nat} {s : VS} {d : Hd} (x : Item) (hd : HdOk P N K todo ids s d) : HdOk P N K (x :: todo) ids s d := by
  obtain ⟨Kh, id0, s0, a1, a2, a3, a4, a5⟩ := hd
  exact ⟨Kh, id0, s0, a1, a2, a3.cons x, a4, a5⟩
theorem HdOk.popC {k : List Item} {c : Code} {ids : Nat → Nat} {s : VS} {d : Hd} (hd : HdOk P N K (.code c :: k) ids s d) (hj : d.key = .jn → d.len ≠ (Item.code c :: k).length) : HdOk P N K k ids s d := by
  obtain ⟨Kh, id0, s0, a1, a2, a3, a4, a5⟩ := hd
  refine ⟨Kh, id0, s0, a1, a2, ?_, a4, a5⟩
  by_cases e : d.key = .jn
  · obtain ⟨p, hp⟩ := a3
    cases p with
    | nil => exact absurd (by rw [a1, hp]; rfl) (hj e)
    | cons y p => simp only [List.cons_append] at hp; injection hp with _ hp; exact ⟨p, hp⟩
  · exact a3.tail fun l => a2 e c l
theorem HdOk.suf {todo k : List Item} {ids : Nat → Nat} {s : VS} {d : Hd} (hd : HdOk P N K todo ids s d) (hs : Suf k todo) (hl : d.len ≤ k.length) : HdOk P N K k ids s d := by
  obtain ⟨Kh, id0, s0, a1, a2, a3, a4, a5⟩ := hd
  exact ⟨Kh, id0, s0, a1, a2, a3.both hs (by omega), a4, a5⟩
theorem keepH_mem {len : Nat} {d : Hd} : ∀ {E : List Hd}, d ∈ keepH len E → d ∈ E ∧ d.len ≤ len
  | [], h => by cases h
  | e :: E, h => by
    unfold keepH at h
    cases hb : Nat.ble e.len len with
    | true =>
      rw [hb, cond_true] at h
      rcases List.mem_cons.1 h with rfl | h
      · exact ⟨List.mem_cons_self .., ble_le hb⟩
      · exact ⟨List.mem_cons_of_mem _ (keepH_mem h).1, (keepH_mem h).2⟩
    | false =>
      rw [hb, cond_false] at h
      exact ⟨List.mem_cons_of_mem _ (keepH_mem h).1, (keepH_mem h).2⟩
theorem keyEq_eq {a b : HKey} (h : keyEq a b = true) : a = b := by
  cases a <;> cases b <;> simp only [keyEq] at h <;> first | rfl | (cases h; done) | (rw [beq_eq' h])
theorem findH_none {len : Nat} : ∀ {E : List Hd}, findH .jn len E = none → ∀ d ∈ E, d.key = .jn → d.len ≠ len
  | [], _, d, hd, _ => by cases hd
  | e :: E, h, d, hd, hk => by
    unfold findH at h
    cases hb : (keyEq .jn e.key && Nat.beq len e.len) with
    | true => rw [hb, cond_true] at h; cases h
    | false =>
      rw [hb, cond_false] at h
      rcases List.mem_cons.1 hd with rfl | hd
      · intro hl
        rw [hk, hl, Nat.beq_refl] at hb; cases hb
      · exact findH_none h d hd hk
theorem findH_mem {key : HKey} {len : Nat} {g : VS → Hp → Prop} : ∀ {E : List Hd}, findH key len E = some g → ∃ d ∈ E, d.key = key ∧ d.len = len ∧ d.run = g
  | [], h => by cases h
  | e :: E, h => by
    unfold findH at h
    cases hb : (keyEq key e.key && Nat.beq len e.len) with
    | true =>
      rw [hb, cond_true] at h
      injection h with h
      rw [Bool.and_eq_true] at hb
      refine ⟨e, List.mem_cons_self .., ?_, (beq_eq' hb.2).symm, h⟩
      exact (keyEq_eq hb.1).symm
    | false =>
      rw [hb, cond_false] at h
      obtain ⟨d, h1, h2⟩ := findH_mem h
      exact ⟨d, List.mem_cons_of_mem _ h1, h2⟩
/-- **Code.** -/
theorem run_sound : ∀ (n : Nat) {E : List Hd} {todo : List Item} {ids : Nat → Nat} {s : VS} {h : Hp} {m : T AV} {H : Heap}, RelV ids s h m H → (∀ d ∈ E, HdOk P N K todo ids s d) → vcRun P N cuts K n E todo s h → Reach P N K todo ids s h H m
  | 0, E, todo, ids, s, h, m, H, R, hE, hk => hk.elim
  | n + 1, E, todo, ids, s, h, m, H, R, hE, hk => by
    have IH := fun {E : List Hd} {todo : List Item} {ids : Nat → Nat} {s : VS} {h : Hp} {m : T AV} {H : Heap} => run_sound n (E := E) (todo := todo) (ids := ids) (s := s) (h := h) (m := m) (H := H)
    change vcStep P N cuts K (vcRun P N cuts K n) E todo s h at hk
    have hRch : ∀ {todo : List Item} {ids ids' : Nat → Nat} {s s' : VS} {h : Hp} {H : Heap} {m : T AV}, TrH s h H s' h H → Reach P N K todo ids' s' h H m → Reach P N K todo ids s h H m := fun t r => Reach.pre t r
    have hTr : ∀ {todo : List Item} {ids : Nat → Nat} {s : VS} {h : Hp} {H : Heap} {s' : VS} {h' : Hp} {m : T AV}, RelV ids s h m H → Tr ids s h H ids s' h' H → Reach P N K todo ids s' h' H m → Reach P N K todo ids s h H m := fun _ t r => Reach.pre t.toH r
    unfold vcStep at hk
    split at hk
    · rename_i g hg
      obtain ⟨d, hd, e1, e2, e3⟩ := findH_mem hg
      obtain ⟨Kh, id0, s0, a1, a2, a3, a4, a5⟩ := hE d hd
      have : Kh = todo := a3.eq (by rw [← a1, e2, itemsLen_eq])
      subst this
      have := a5 a4 R (by rw [e3]; exact hk)
      rw [e1] at this
      exact this
    rename_i hno
    rw [itemsLen_eq] at hno
    have hnj := findH_none hno
    split at hk
    · exact Reach.done R (fun rec => rfl) hk
    · rename_i c k
      have hE' : ∀ d ∈ E, HdOk P N K k ids s d := fun d hd => (hE d hd).popC (hnj d hd)
      split at hk
      · exact Reach.step (fun rec => rfl) (IH R hE' hk)
      · rename_i l
        split at hk
        · rename_i T _ hT
          obtain ⟨rest, body, k', eT, sT, gT⟩ := gotoIn_suf hT
          have key := vcCut_sound (Rch := fun ids s h H m => Reach P N K k ids s h H m ∧ Reach P N K T ids s h H m) (fun t r => ⟨Reach.pre t r.1, Reach.pre t r.2⟩) (fun _ t r => ⟨Reach.pre t.toH r.1, Reach.pre t.toH r.2⟩) R (fun {ids1 s1 h1 m1 H1 back} R1 B1 hb hg => by
            have hnew : ∀ {k2 : List Item}, Suf (.inScope body :: k') k2 → HdOk P N K k2 ids1 s1 ⟨.lb l, Nat.pred (itemsLen T), back⟩ := fun {k2} hs => by
              refine ⟨.inScope body :: k', ids1, s1, by rw [eT]; simp [itemsLen, itemsLen_eq], (fun _ c l e => by cases e), hs, Bk.refl _ _, ?_⟩
              intro ids2 s2 h2 m2 H2 B2 R2 hrun T' hT'
              have : T' = T := by rw [gT] at hT'; injection hT' with hT'; exact hT'.symm
              subst this
              exact (hb B2 R2 hrun).2
            refine ⟨IH R1 ?_ hg.1, IH R1 ?_ hg.2⟩
            · intro d hd
              rcases List.mem_cons.1 hd with rfl | hd
              · exact hnew sT
              · exact (hE' d hd).later B1
            · intro d hd
              rcases List.mem_cons.1 hd with rfl | hd
              · exact hnew (by rw [eT]; exact (Suf.refl _).cons _)
              · obtain ⟨h1, h2⟩ := keepH_mem hd
                rw [eT]
                exact (((hE' d h1).suf sT (by rw [eT] at h2; simpa [itemsLen, itemsLen_eq] using h2)).push _).later B1) hk
          exact Reach.step (fun rec => rfl) key.1
        · exact Reach.step (fun rec => rfl) (IH R hE' hk)
      · exact Reach.done R (fun rec => rfl) hk
      · rename_i x y
        split at hk
        · rename_i ex _
          refine Reach.step (todo' := .code x :: .code y :: k) (fun rec => rfl) ?_
          refine vcJoin_sound (Rch := Reach P N K (.code x :: .code y :: k)) (RchK := Reach P N K (.code y :: k)) hTr hRch hTr R (fun {ids1 s1 h1 m1 H1 back} R1 B1 hb hg => ?_) (fun {ids1 s1 h1 m1 H1} R1 B1 hg => ?_) hk
          · refine IH R1 (fun d hd => ?_) hg
            rcases List.mem_cons.1 hd with rfl | hd
            · refine ⟨.code y :: k, ids1, s1, by simp [itemsLen_eq], (fun e => absurd rfl e), (Suf.refl _).cons _, Bk.refl _ _, ?_⟩
              intro ids2 s2 h2 m2 H2 B2 R2 hrun
              exact hb B2 R2 hrun
            · exact (((hE' d hd).push _).push _).later B1
          · exact IH R1 (fun d hd => ((hE' d hd).push _).later B1) hg
        · exact Reach.step (fun rec => rfl) (IH R (fun d hd => ((hE' d hd).push _).push _) hk)
      · rename_i c x y
        have hcond : ∀ {E : List Hd} {ids : Nat → Nat} {s : VS} {h : Hp} {m : T AV} {H : Heap}, RelV ids s h m H → (∀ d ∈ E, HdOk P N K k ids s d) → vcCond (vcRun P N cuts K n E) c x y k s h → Reach P N K (.code (.cond c x y) :: k) ids s h H m := by
          intro E ids s h m H R hE' hk
          unfold vcCond at hk
          split at hk
          · rename_i hc
            have := (R.ev hc).1
            exact Reach.step (fun rec => by simp only [stepA, this, SV.av]) (IH R (fun d hd => (hE' d hd).push _) hk)
          · rename_i hc
            have := (R.ev hc).1
            exact Reach.step (fun rec => by simp only [stepA, this, SV.av]) (IH R (fun d hd => (hE' d hd).push _) hk)
          · rename_i cc hc
            have := (R.ev hc).1
            obtain ⟨k1, k2⟩ := hk
            cases cc with
            | true => exact Reach.step (fun rec => by simp only [stepA, this, SV.av]) (IH R (fun d hd => (hE' d hd).push _) (k1 rfl))
            | false => exact Reach.step (fun rec => by simp only [stepA, this, SV.av]) (IH R (fun d hd => (hE' d hd).push _) (k2 rfl))
          · exact hk.elim
        split at hk
        · rename_i ex _
          refine vcJoin_sound (Rch := Reach P N K (.code (.cond c x y) :: k)) (RchK := Reach P N K k) hTr hRch hTr R (fun {ids1 s1 h1 m1 H1 back} R1 B1 hb hg => ?_) (fun {ids1 s1 h1 m1 H1} R1 B1 hg => ?_) hk
          · refine hcond R1 (fun d hd => ?_) hg
            rcases List.mem_cons.1 hd with rfl | hd
            · refine ⟨k, ids1, s1, by simp [itemsLen_eq], (fun e => absurd rfl e), Suf.refl _, Bk.refl _ _, ?_⟩
              intro ids2 s2 h2 m2 H2 B2 R2 hrun
              exact hb B2 R2 hrun
            · exact (hE' d hd).later B1
          · exact IH R1 (fun d hd => (hE' d hd).later B1) hg
        · exact hcond R hE' hk
      · exact Reach.step (fun rec => rfl) (IH R (fun d hd => ((hE' d hd).push _).push _) hk)
      · rename_i x
        have hloop : ∀ {s : VS} {h : Hp}, RelV ids s h m H → (∀ d ∈ E, HdOk P N K k ids s d) → vcCut N [x] s h (fun s h back => vcRun P N cuts K n (⟨.lp, Nat.succ (itemsLen k), back⟩ :: E) (.code x :: .inLoop x :: k) s h) → Reach P N K (.code (.loop x) :: k) ids s h H m := by
          intro s h R hE' hk
          refine Reach.step (todo' := .code x :: .inLoop x :: k) (fun rec => rfl) ?_
          have key := vcCut_sound (Rch := Reach P N K (.inLoop x :: k)) hRch hTr R (fun {ids1 s1 h1 m1 H1 back} R1 B1 hb hg => by
            refine Reach.step (todo' := .code x :: .inLoop x :: k) (fun rec => rfl) (IH R1 (fun d hd => ?_) hg)
            rcases List.mem_cons.1 hd with rfl | hd
            · refine ⟨.inLoop x :: k, ids1, s1, by simp [itemsLen_eq], (fun _ c l e => by cases e), (Suf.refl _).cons _, Bk.refl _ _, ?_⟩
              intro ids2 s2 h2 m2 H2 B2 R2 hrun
              exact hb B2 R2 hrun
            · exact (((hE' d hd).push _).push _).later B1) hk
          obtain ⟨n1, m', H', i', s2, h2, a1, a2, a3, a4⟩ := key
          refine ⟨n1, m', H', i', s2, h2, fun n' hn => ?_, a2, a3, a4⟩
          exact a1 (n' + 1) (by omega)
        split at hk
        · obtain ⟨s', h', R', T, _, _, _, _, hk'⟩ := escs_sound hk R
          exact Reach.pre T.toH (hloop R' (fun d hd => (hE' d hd).later T.bk) hk')
        · exact hloop R hE' hk
      · exact Reach.step (fun rec => rfl) (IH R (fun d hd => ((hE' d hd).push _).push _) hk)
      · rename_i id
        split at hk
        · rename_i k' hx
          refine Reach.step (todo' := k') (fun rec => by simp only [stepA, hx, Option.bind_some]) (IH R (fun d hd => ?_) hk)
          obtain ⟨h1, h2⟩ := keepH_mem hd
          exact (hE' d h1).suf (exitTo_suf hx) (by rw [← itemsLen_eq]; exact h2)
        · exact hk.elim
      · rename_i l
        split at hk
        · rename_i T hT
          obtain ⟨rest, body, k', eT, sT, gT⟩ := gotoIn_suf hT
          have hstep : ∀ rec : RunA, stepA P rec N m (.code (.goto l) :: k) H = rec N m T H := fun rec => by simp only [stepA, hT, Option.bind_some]
          have hlen : Nat.pred (itemsLen T) = (Item.inScope body :: k').length := by rw [eT]; simp [itemsLen, itemsLen_eq]
          split at hk
          · rename_i g hg
            obtain ⟨d, hd, e1, e2, e3⟩ := findH_mem hg
            obtain ⟨Kh, id0, s0, a1, a2, a3, a4, a5⟩ := hE' d hd
            have : Kh = .inScope body :: k' := by
              have hl : Kh.length = (Item.inScope body :: k').length := by rw [← a1, e2, hlen]
              exact (a3.both sT (by omega)).eq hl
            subst this
            have := a5 a4 R (by rw [e3]; exact hk)
            rw [e1] at this
            exact Reach.step hstep (this T gT)
          · refine Reach.step hstep (IH R (fun d hd => ?_) hk)
            obtain ⟨h1, h2⟩ := keepH_mem hd
            rw [eT]
            exact ((hE' d h1).suf sT (by rw [← hlen]; exact h2)).push _
        · exact hk.elim
      · rename_i id ops d
        obtain ⟨n1, m1, H1, ids1, s1, h1, a1, R1, T1, k1⟩ := region_sound' R hk
        rw [frcS_eq] at k1
        obtain ⟨n2, m', H', i', s2, h2, b1, b2, b3, b4⟩ := IH R1 (fun d hd => (hE' d hd).later T1.bk) k1
        refine ⟨max n1 n2 + 1, m', H', i', s2, h2, fun n' hn => ?_, b2, T1.toH.trans b3, b4⟩
        obtain ⟨j, rfl⟩ : ∃ j, n' = j + 1 := ⟨n' - 1, by omega⟩
        show stepA P (runA P j) N m (.code (.region id ops d) :: k) H = _
        show (regionA P (callA P (runA P j)) N m H ops d).bind _ = _
        rw [show regionA P (callA P (runA P j)) N m H ops d = some (m1, H1) from a1 j (by omega)]
        exact b1 j (by omega)
      · exact hk.elim
    · rename_i id k
      refine Reach.step (todo' := k) (fun rec => rfl) (IH R (fun d hd => ?_) hk)
      obtain ⟨h1, h2⟩ := keepH_mem hd
      exact (hE d h1).suf ((Suf.refl _).cons _) (by rw [← itemsLen_eq]; exact h2)
    · rename_i id k
      refine Reach.step (todo' := k) (fun rec => rfl) (IH R (fun d hd => ?_) hk)
      obtain ⟨h1, h2⟩ := keepH_mem hd
      exact (hE d h1).suf ((Suf.refl _).cons _) (by rw [← itemsLen_eq]; exact h2)
    · rename_i x k
      split at hk
      · rename_i g hg
        obtain ⟨d, hd, e1, e2, e3⟩ := findH_mem hg
        obtain ⟨Kh, id0, s0, a1, a2, a3, a4, a5⟩ := hE d hd
        have : Kh = .inLoop x :: k := a3.eq (by rw [← a1, e2]; simp [itemsLen_eq])
        subst this
        have := a5 a4 R (by rw [e3]; exact hk)
        rw [e1] at this
        exact this
      · exact hk.elim
    · exact hk.elim
/-! ### calls -/
theorem resS_sound {ids : Nat → Nat} {s : VS} {h : Hp} {m : T AV} {H : Heap} (R : RelV ids s h m H) {r : ResultVar} {F : SV → Prop} (hk : resS P s h r F) : ∃ v, resV P m H r = some v.av ∧ v.Good ids s.nl ∧ F v := by
  unfold resS at hk
  split at hk
  · rename_i t
    split at hk
    · rename_i v hv
      obtain ⟨a1, a2⟩ := R.get hv
      exact ⟨v, a1, a2, hk⟩
    · exact hk.elim
  · rename_i a t
    split at hk
    · rename_i av ha
      obtain ⟨a1, a2⟩ := R.get ha
      -- a load, told by an operation made up for it
      have key : ∀ {b q : Nat} {v : SV}, m.get a = some (.p b q) → (isAggT P t = some true ∧ (∃ n, szOf P t = some n ∧ (rd H b q n).map .agg = some v.av) ∨ isAggT P t = some false ∧ (rd H b q 1).bind (fun cs => cs.head?) = some v.av) → resV P m H (.cell a t) = some v.av := by
        intro b q v e1 e2
        simp only [resV, e1]
        rcases e2 with ⟨e2, n, e3, e4⟩ | ⟨e2, e3⟩
        · simp only [e2, e3, Option.bind_some]; exact e4
        · simp only [e2]; exact e3
      have ext : ∀ {b q : Nat}, m.get a = some (.p b q) → ldE P t b q s h (fun _ v _ _ => match v with | some v => F v | none => False) → ∃ v, resV P m H (.cell a t) = some v.av ∧ v.Good ids s.nl ∧ F v := by
        intro b q e1 hl
        unfold ldE at hl
        split at hl
        · rename_i k hs
          obtain ⟨cs, hr, hl⟩ := onO_some hl
          obtain ⟨l, rfl, g1, g2, g3, g4⟩ := onL_sound (ids := ids) (nl := s.nl) _ hl
          match l, g3, g4 with
          | [x], _, g4 => exact ⟨x, key e1 (.inr ⟨shape_one hs, by rw [(rd_of R.fits hr).1]; rfl⟩), g1.1, g4⟩
        · rename_i ks n hs hn
          obtain ⟨cs, hr, hl⟩ := onO_some hl
          obtain ⟨l, rfl, g1, g2, g3, g4⟩ := onL_sound (ids := ids) (nl := s.nl) _ hl
          exact ⟨.ag l, key e1 (.inl ⟨shape_agg hs, n, hn, by rw [(rd_of R.fits hr).1]; rfl⟩), g1, g4⟩
        · exact hl.elim
      unfold vcLoad at hk
      split at hk
      · rename_i k id q
        split at hk
        · rename_i st id' cs hL
          obtain ⟨⟨q1, q2⟩, ⟨q3, q4⟩, q5, q6⟩ := R.loc k st id' cs hL
          have : id' = id := by rw [q2, a2.2]
          subst this
          have hrd : ∀ n, rd H id' q n = sub? (SV.avs cs) q n := by intro n; unfold rd; rw [q3]; rfl
          unfold ldL at hk
          split at hk
          · rename_i n hs hn
            split at hk
            · rename_i l hl
              obtain ⟨b1, b2, b3⟩ := avs_sub hl
              exact ⟨.ag l, key a1 (.inl ⟨hs, n, hn, by rw [hrd, b1]; rfl⟩), goods_iff.2 fun x hx => goods_iff.1 q5 x (b3 x hx), hk⟩
            · exact hk.elim
          · rename_i hs
            split at hk
            · rename_i x hx
              have hx' := avs_nth cs q
              rw [hx] at hx'
              exact ⟨x, key a1 (.inr ⟨hs, by rw [hrd, sub_nth hx']; rfl⟩), goods_iff.1 q5 _ (nthL_mem hx), hk⟩
            · exact hk.elim
          · exact hk.elim
        · exact ext a1 hk
      · exact ext a1 hk
      · obtain ⟨p, hp, hk⟩ := onO_some hk
        rename_i a' _
        rw [show (SV.vv _).av = _ from ptrV_some hp] at a1
        exact ext a1 hk
      · exact hk.elim
    · exact hk.elim
theorem resSs_sound {ids : Nat → Nat} {s : VS} {h : Hp} {m : T AV} {H : Heap} (R : RelV ids s h m H) : ∀ {rs : List ResultVar} {F : List SV → Prop}, resSs P s h rs F → ∃ vs, resL P m H rs = some (SV.avs vs) ∧ SV.Goods ids s.nl vs ∧ F vs
  | [], F, hk => ⟨[], rfl, trivial, hk⟩
  | r :: rs, F, hk => by
    obtain ⟨v, a1, a2, a3⟩ := resS_sound R (show resS P s h r fun v => resSs P s h rs fun vs => F (v :: vs) from hk)
    obtain ⟨vs, b1, b2, b3⟩ := resSs_sound R a3
    exact ⟨v :: vs, by simp only [resL, a1, b1, SV.avs], ⟨a2, b2⟩, b3⟩
theorem initS_get : ∀ {vs : List SV} {i : Nat} {s : VS} {t st : Nat} {o : Option SV}, (initS vs i s).m.get t = some (st, o) → s.m.get t = some (st, o) ∨ ∃ x, o = some x ∧ i ≤ t ∧ vs[t - i]? = some x
  | [], i, s, t, st, o, h => .inl h
  | v :: vs, i, s, t, st, o, h => by
    rcases initS_get (s := s.put i (some v)) h with e | ⟨x, e1, e2, e3⟩
    · have e : (s.m.set i (some (s.st, some v))).get t = some (st, o) := e
      rw [T.get_set] at e
      by_cases ht : t = i
      · rw [if_pos ht] at e
        simp only [Option.some.injEq, Prod.mk.injEq] at e
        exact .inr ⟨v, e.2.symm, by omega, by rw [ht, Nat.sub_self]; rfl⟩
      · rw [if_neg ht] at e; exact .inl e
    · refine .inr ⟨x, e1, by omega, ?_⟩
      rw [show t - i = (t - (i + 1)) + 1 by omega, List.getElem?_cons_succ]; exact e3
theorem initS_L : ∀ {vs : List SV} {i : Nat} {s : VS}, (initS vs i s).L = s.L ∧ (initS vs i s).nl = s.nl
  | [], i, s => ⟨rfl, rfl⟩
  | v :: vs, i, s => initS_L (vs := vs) (i := i + 1) (s := s.put i (some v))
/-- **A call: the conditions that its code reads off come to what is said of it.** -/
theorem call_sound {f : FuncId} {args : List SV} {h : Hp} {Post : AV → Hp → Prop} (hg : SV.Goods (fun _ => 0) 0 args) (hk : vcCall P cuts f args h Post) : wpC P f (SV.avs args) Post h := by
  intro H F
  unfold vcCall at hk
  split at hk
  · rename_i fn hf
    split at hk
    · rename_i c hb
      split at hk
      · rename_i hle
        have R : RelV (fun _ => 0) (initS args 0 ⟨.lf, .lf, 0, 0⟩) h (initA (SV.avs args) 0 .lf) H := by
          obtain ⟨e1, e2⟩ := initS_L (vs := args) (i := 0) (s := ⟨.lf, .lf, 0, 0⟩)
          have hget : ∀ t st o, (initS args 0 ⟨.lf, .lf, 0, 0⟩).m.get t = some (st, o) → ∃ x, o = some x ∧ args[t]? = some x := by
            intro t st o he
            rcases initS_get he with e | ⟨x, a1, a2, a3⟩
            · cases e
            · exact ⟨x, a1, a3⟩
          refine ⟨fun t st o he => ?_, fun t st x he => ?_, fun k st id cs he => ?_, fun k k' hk => ?_, fun k hk => ?_, F⟩
          · obtain ⟨x, rfl, hx⟩ := hget t st o he
            have hlt : t < args.length := (List.getElem?_eq_some_iff.1 hx).1
            rw [initA_get, if_pos ⟨Nat.zero_le _, by rw [avs_length]; omega⟩, Nat.sub_zero, avs_map, List.getElem?_map, hx]
          · obtain ⟨x', e, hx⟩ := hget t st _ he
            injection e with e; subst e
            rw [e2]
            exact goods_iff.1 hg x (List.mem_of_getElem? hx)
          · rw [e1] at he; cases he
          · rw [e2] at hk; exact absurd hk (Nat.not_lt_zero _)
          · rw [e2] at hk; exact absurd hk (Nat.not_lt_zero _)
        obtain ⟨n, m', H', ids', s', h', a1, a2, a3, a4⟩ := run_sound (P := P) (N := fn.ntmps) (cuts := cuts) 10000 R (E := []) (fun d hd => by cases hd) hk
        obtain ⟨vs, b1, b2, b3⟩ := resSs_sound a2 a4
        obtain ⟨s2, h2, R2, T2, _, _, _, _, hpost⟩ := esc_sound b3 a2
        have T3 := a3.trans T2.toH
        refine ⟨tupled (SV.avs vs), H', h2, ⟨n, ?_⟩, ⟨R2.fits, T3.next, fun b hb hno => T3.keep b hb ?_, fun b hb => ?_, ?_⟩, hpost⟩
        · unfold callA
          rw [hf]
          simp only [hb]
          rw [avs_length, hle, cond_true, a1 n (Nat.le_refl _), Option.bind_some]
          show (resL P m' H' fn.results.toList).map _ = _
          rw [b1]
          rfl
        · rintro (hs | ⟨k, st, cs, hs⟩)
          · exact hs hno
          · rw [initS_L.1] at hs; cases hs
        · rcases T3.seen b (.inl hb) with (hs | ⟨k, st, cs, hs⟩) | hs
          · exact .inl hs
          · rw [initS_L.1] at hs; cases hs
          · exact .inr hs
        · rw [← R2.fits.lo, T3.low, F.lo]
      · exact hk.elim
    · exact hk.elim
  · exact hk.elim
end
end Go.Proofs.YthnhdgcaolgdnaaAn
