/- The conditions are sound: numbers, texts, parts. -/
import Derived.Test.YthnhdgcaolgdnaaAnZa
set_option linter.unusedVariables false
set_option linter.unusedSimpArgs false
namespace Go.Proofs.YthnhdgcaolgdnaaAn
open Go
theorem asI_av {x : SV} {k : IntKind} {n : Int} (h : asI x = some (k, n)) : x.av = .i k n := by
  cases x <;> simp only [asI] at h <;> first | (cases h; done) | (injection h with h; injection h with h1 h2; subst h1; subst h2; rfl)
theorem asB_av {x : SV} {c : Bool} (h : asB x = some c) : x.av = .b c := by
  cases x <;> simp only [asB] at h <;> first | (cases h; done) | (injection h with h; subst h; rfl)
theorem intA_int {op : BinOp} {k : IntKind} {a b : Int} {v : AV} (h : intA op k a b = some v) (hc : cmpI op a b = none) : ∃ c, v = .i k c := by
  cases op <;> simp only [cmpI, intA] at h hc <;> first | (cases hc; done) | (cases h; done) | skip
  all_goals first
    | (injection h with h; exact ⟨_, h.symm⟩)
    | (cases he : eqI b 0 with
       | true => rw [he] at h; cases h
       | false => rw [he] at h; injection h with h; exact ⟨_, h.symm⟩)
    | (split at h
       · obtain ⟨_, h⟩ := cond_some h
         first | (cases h; done) | (injection h with h; exact ⟨_, h.symm⟩)
       · cases h)
theorem intO_some {op : BinOp} {k : IntKind} {a b c : Int} (h : intO op k a b = some c) (hc : cmpI op a b = none) : intA op k a b = some (.i k c) := by
  unfold intO at h
  split at h
  · rename_i k' c' e
    injection h with h; subst h
    obtain ⟨d, hd⟩ := intA_int e hc
    injection hd with h1 h2; subst h1; exact e
  · cases h
theorem cmpI_some {op : BinOp} {k : IntKind} {a b : Int} {c : Bool} (h : cmpI op a b = some c) : intA op k a b = some (.b c) := by
  cases op <;> simp only [cmpI] at h <;> first | (cases h; done) | (injection h with h; subst h; simp only [intA, eqI_eq, leI_eq])
  · congr 2
  · congr 2
  · congr 2; rw [Bool.eq_iff_iff]; simp [Int.not_le]
  · congr 2; rw [Bool.eq_iff_iff]; simp [Int.not_le]
theorem shO_some {op : BinOp} {k : IntKind} {a b c : Int} (h : shO op k a b = some c) : shiftA op k a b = some (.i k c) := by
  unfold shO at h
  split at h
  · rename_i k' c' e
    injection h with h; subst h
    unfold shiftA at e ⊢
    cases b with
    | negSucc n => cases e
    | ofNat n =>
      cases op <;> simp only at e ⊢ <;> first | (cases e; done) | (injection e with e; injection e with e1 e2; subst e1; subst e2; rfl)
  · cases h
theorem eqLN : ∀ (x y : List Nat), eqL x y = decide (x = y)
  | [], [] => by simp [eqL]
  | [], _ :: _ => by simp [eqL]
  | _ :: _, [] => by simp [eqL]
  | a :: x, b :: y => by
    simp only [eqL]
    cases h : Nat.beq a b with
    | true => have := beq_eq' h; subst this; rw [cond_true, eqLN x y]; simp
    | false =>
      have : a ≠ b := fun e => by subst e; rw [Nat.beq_refl] at h; cases h
      simp [this]
theorem eqInts_some : ∀ {xs ys : List SV} {c : Bool}, eqIs xs ys = some c → eqInts (SV.avs xs) (SV.avs ys) = some c
  | [], [], c, h => by simpa [eqIs, eqInts, SV.avs] using h
  | [], _ :: _, c, h => by simp [eqIs] at h
  | _ :: _, [], c, h => by simp [eqIs] at h
  | x :: xs, y :: ys, c, h => by
    simp only [eqIs] at h
    split at h
    · rename_i k a k' b h1 h2
      obtain ⟨hk, h⟩ := cond_some h
      have key : ∃ d, eqIs xs ys = some d ∧ c = (decide (a = b) && d) := by
        split at h
        · injection h with h; subst h; exact ⟨true, rfl, by simp⟩
        · obtain ⟨d, hd, rfl⟩ := map_some' h; exact ⟨d, hd, rfl⟩
      obtain ⟨d, hd, rfl⟩ := key
      have ih := eqInts_some hd
      simp only [SV.avs, asI_av h1, asI_av h2, eqInts, hk, cond_true, ih, eqI_eq]
      cases hab : (a == b) with
      | true => have : a = b := by simpa using hab
                simp [this]
      | false => have : a ≠ b := by simpa using hab
                 simp [this]
    · cases h
section
variable {P : Program} {ids : Nat → Nat} {s : VS} {h : Hp} {m : T AV} {H : Heap} {K : KO} {o : Oper}
theorem eqSV_sound {t : TypeId} {x y : SV} {K : SV → Prop} (hk : eqSV P t x y K) : ∃ v c, K v ∧ (v = .kb c ∨ v = .bb c) ∧ eqA P t x.av y.av = some c := by
  unfold eqSV at hk
  split at hk
  · rename_i hu
    split at hk
    · rename_i c d h1 h2
      exact ⟨_, _, hk, .inr rfl, by rw [asB_av h1, asB_av h2]; simp [eqA, hu]⟩
    · exact hk.elim
  · rename_i hu
    split at hk
    · exact ⟨_, _, hk, .inl rfl, by simp [eqA, SV.av, hu]⟩
    · exact ⟨_, _, hk, .inl rfl, by simp [eqA, SV.av, hu]⟩
    · exact ⟨_, _, hk, .inl rfl, by simp [eqA, SV.av, hu]⟩
    · rename_i a
      obtain ⟨c, hc, hk⟩ := onO_some hk
      refine ⟨_, _, hk, .inr rfl, ?_⟩
      cases a <;> simp only [nilSl] at hc <;> first | (cases hc; done) | (injection hc with hc; subst hc; simp [eqA, SV.av, hu])
    · rename_i a
      obtain ⟨c, hc, hk⟩ := onO_some hk
      refine ⟨_, _, hk, .inr rfl, ?_⟩
      cases a <;> simp only [nilSl] at hc <;> first | (cases hc; done) | (injection hc with hc; subst hc; simp [eqA, SV.av, hu])
    · exact hk.elim
  · rename_i hu
    split at hk
    · exact ⟨_, _, hk, .inl rfl, by simp [eqA, SV.av, hu]⟩
    · exact ⟨_, _, hk, .inl rfl, by simp [eqA, SV.av, hu]⟩
    · exact ⟨_, _, hk, .inl rfl, by simp [eqA, SV.av, hu]⟩
    · exact ⟨_, _, hk, .inl rfl, by simp [eqA, SV.av, hu]⟩
    · exact ⟨_, _, hk, .inl rfl, by simp [eqA, SV.av, hu]⟩
    · rename_i a
      obtain ⟨c, hc, hk⟩ := onO_some hk
      refine ⟨_, _, hk, .inr rfl, ?_⟩
      cases a <;> simp only [nilP] at hc <;> first | (cases hc; done) | (injection hc with hc; subst hc; simp [eqA, SV.av, hu])
    · rename_i a
      obtain ⟨c, hc, hk⟩ := onO_some hk
      refine ⟨_, _, hk, .inr rfl, ?_⟩
      cases a <;> simp only [nilP] at hc <;> first | (cases hc; done) | (injection hc with hc; subst hc; simp [eqA, SV.av, hu])
    · exact hk.elim
  · rename_i hu
    split at hk
    · exact ⟨_, _, hk, .inl rfl, by simp [eqA, SV.av, hu]⟩
    · exact ⟨_, _, hk, .inl rfl, by simp [eqA, SV.av, hu]⟩
    · exact ⟨_, _, hk, .inl rfl, by simp [eqA, SV.av, hu]⟩
    · rename_i a
      obtain ⟨c, hc, hk⟩ := onO_some hk
      refine ⟨_, _, hk, .inr rfl, ?_⟩
      cases a <;> simp only [nilF] at hc <;> first | (cases hc; done) | (injection hc with hc; subst hc; simp [eqA, SV.av, hu])
    · rename_i a
      obtain ⟨c, hc, hk⟩ := onO_some hk
      refine ⟨_, _, hk, .inr rfl, ?_⟩
      cases a <;> simp only [nilF] at hc <;> first | (cases hc; done) | (injection hc with hc; subst hc; simp [eqA, SV.av, hu])
    · exact hk.elim
  · split at hk
    · rename_i cs ds
      split at hk
      · rename_i hc
        split at hk
        · rename_i c he
          refine ⟨_, _, hk, .inr rfl, ?_⟩
          simp only [SV.av, eqA, avs_length, hc, cond_true]
          exact eqInts_some he
        · exact hk.elim
      · exact hk.elim
    · exact hk.elim
  · exact hk.elim
theorem notS_some {x d : SV} (h : notS x = some d) {c : Bool} (hc : x = .kb c ∨ x = .bb c) : d = .kb (!c) ∨ d = .bb (!c) := by
  rcases hc with rfl | rfl <;> simp only [notS] at h <;> injection h with h <;> subst h <;> simp
theorem bin_sound {op : BinOp} {t : TypeId} {x y : SV} {K : SV → Prop} (hk : vcBin P op t x y K) : ∃ v, K v ∧ binA P op t x.av y.av = some v.av ∧ ∀ ids nl, v.Good ids nl := by
  unfold vcBin at hk
  split at hk
  · rename_i k a k' b h1 h2
    rw [asI_av h1, asI_av h2]
    split at hk
    · obtain ⟨c, hc, hk⟩ := onO_some hk
      exact ⟨_, hk, shO_some hc, fun _ _ => trivial⟩
    · obtain ⟨c, hc, hk⟩ := onO_some hk
      exact ⟨_, hk, shO_some hc, fun _ _ => trivial⟩
    · rename_i hn1 hn2
      split at hk
      · rename_i hkk
        have e : binA P op t (.i k a) (.i k' b) = intA op k a b := by
          cases op <;> first | (exact absurd rfl hn1) | (exact absurd rfl hn2) | (simp only [binA, hkk, cond_true])
        split at hk
        · rename_i c hc
          exact ⟨_, hk, by rw [e]; exact cmpI_some hc, fun _ _ => trivial⟩
        · rename_i hc
          obtain ⟨c, hcc, hk⟩ := onO_some hk
          exact ⟨_, hk, by rw [e]; exact intO_some hcc hc, fun _ _ => trivial⟩
      · exact hk.elim
  · split at hk
    · rename_i a b _
      show ∃ v, K v ∧ binA P op t (.s a) (.s b) = some v.av ∧ _
      have e : binA P op t (.s a) (.s b) = strA op a b := by cases op <;> rfl
      rw [e]
      split at hk
      · obtain ⟨c, hc, hk⟩ := onO_some hk
        obtain ⟨h1, h2⟩ := cond_some hc
        injection h2 with h2; subst h2
        exact ⟨_, hk, by simp only [strA, h1, cond_true]; rfl, fun _ _ => trivial⟩
      · split at hk
        · rename_i c hc
          refine ⟨_, hk, ?_, fun _ _ => trivial⟩
          cases op <;> simp only [cmpS] at hc <;> first | (cases hc; done) | (injection hc with hc; subst hc; simp only [strA, eqLN]; rfl)
        · exact hk.elim
    · rename_i hno
      split at hk
      · obtain ⟨v, c, hk, hv, he⟩ := eqSV_sound hk
        refine ⟨v, hk, ?_, by rcases hv with rfl | rfl <;> exact fun _ _ => trivial⟩
        have e2 : v.av = .b c := by rcases hv with rfl | rfl <;> rfl
        rw [e2]
        generalize x.av = u at he ⊢
        generalize y.av = w at he ⊢
        unfold binA
        split
        · simp only [eqA] at he; cases he
        · simp only [eqA] at he; cases he
        · simp [he]
      · obtain ⟨v, c, hk, hv, he⟩ := eqSV_sound hk
        split at hk
        · rename_i d hd
          have hd' := notS_some hd hv
          refine ⟨d, hk, ?_, by rcases hd' with rfl | rfl <;> exact fun _ _ => trivial⟩
          have e2 : d.av = .b (!c) := by rcases hd' with rfl | rfl <;> rfl
          rw [e2]
          generalize x.av = u at he ⊢
          generalize y.av = w at he ⊢
          unfold binA
          split
          · simp only [eqA] at he; cases he
          · simp only [eqA] at he; cases he
          · simp [he]
        · exact hk.elim
      · exact hk.elim
theorem un_sound {op : UnOp} {x : SV} {K : SV → Prop} (hk : vcUn op x K) : ∃ v, K v ∧ unA op x.av = some v.av ∧ ∀ ids nl, v.Good ids nl := by
  unfold vcUn at hk
  split at hk
  · split at hk
    · rename_i d hd
      cases x <;> simp only [notS] at hd <;> first | (cases hd; done) | (injection hd with hd; subst hd; exact ⟨_, hk, rfl, fun _ _ => trivial⟩)
    · exact hk.elim
  · split at hk
    · rename_i k n he
      obtain ⟨c, hc, hk⟩ := onO_some hk
      rw [asI_av he]
      unfold unO at hc
      split at hc
      · rename_i k' c' e
        injection hc with hc; subst hc
        refine ⟨_, hk, ?_, fun _ _ => trivial⟩
        have : k' = k := by
          cases op <;> simp only [unA] at e <;> first | (cases e; done) | skip
          · injection e with e; injection e with e1 e2; exact e1.symm
          · cases n with
            | negSucc n => cases e
            | ofNat n => obtain ⟨_, e⟩ := cond_some e; injection e with e; injection e with e1 e2; exact e1.symm
        subst this; exact e
      · cases hc
    · exact hk.elim
theorem field_sound {fl : Field} {cs : List SV} {K : SV → Prop} (hk : vcField P fl cs K) : ∃ v, K v ∧ partA P fl.type (SV.avs cs) fl.offset = some v.av ∧ ∀ ids nl, SV.Goods ids nl cs → v.Good ids nl := by
  unfold vcField at hk
  split at hk
  · rename_i n hs hn
    split at hk
    · rename_i l hl
      obtain ⟨a1, a2, a3⟩ := avs_sub hl
      exact ⟨_, hk, by simp only [partA, hs, hn, Option.bind_some, a1]; rfl, fun ids nl hg => goods_iff.2 fun x hx => goods_iff.1 hg x (a3 x hx)⟩
    · exact hk.elim
  · rename_i hs
    split at hk
    · rename_i x hx
      exact ⟨_, hk, by simp only [partA, hs, avs_nth, hx]; rfl, fun ids nl hg => goods_iff.1 hg _ (nthL_mem hx)⟩
    · exact hk.elim
  · exact hk.elim
theorem allN_at : ∀ {n : Nat} {p : Nat → Prop}, allN n p → ∀ j, j < n → p j
  | n + 1, p, h, j, hj => by
    by_cases e : j = n
    · subst e; exact h.2
    · exact allN_at h.1 j (by omega)
theorem natLt_some {i : Int} {n j : Nat} (h : natLt i n = some j) : i = .ofNat j ∧ j < n := by
  cases i with
  | negSucc i => cases h
  | ofNat i => obtain ⟨h1, h2⟩ := cond_some h; injection h2 with h2; subst h2; exact ⟨rfl, by simpa [Nat.blt_eq] using h1⟩
theorem at_sound {i : SV} {n : Nat} {K : Nat → Prop} (hk : vcAt i n K) : ∃ j k, K j ∧ j < n ∧ i.av = .i k (.ofNat j) := by
  unfold vcAt at hk
  split at hk
  · split at hk
    · rename_i k i' _ j hj
      obtain ⟨rfl, h2⟩ := natLt_some hj
      exact ⟨j, k, hk, h2, rfl⟩
    · exact hk.elim
  · obtain ⟨j, hj, hk'⟩ := onO_some hk
    obtain ⟨e, h2⟩ := natLt_some hj
    exact ⟨j, _, allN_at hk' j h2 rfl, h2, by rw [e]; rfl⟩
  · exact hk.elim
theorem blt_of {a b : Nat} (h : a < b) : Nat.blt a b = true := by rw [Nat.blt_eq]; exact h
theorem indexAddr_sound {t : TypeId} {x i : SV} {K : SV → Prop} (hk : vcIndexAddr P t x i s h K) : ∃ v, K v ∧ indexA P t x.av i.av = some v.av ∧ ∀ ids nl, x.Good ids nl → v.Good ids nl := by
  unfold vcIndexAddr at hk
  split at hk
  · rename_i n e hu
    split at hk
    · rename_i sz hsz
      split at hk
      · obtain ⟨j, k, hk, h1, h2⟩ := at_sound hk
        exact ⟨_, hk, by rw [h2]; simp [indexA, SV.av, hu, natOf, hsz, blt_of h1], fun _ _ hg => hg⟩
      · split at hk
        · rename_i k i' he
          obtain ⟨j, hj, hk'⟩ := onO_some hk
          obtain ⟨e', h2⟩ := natLt_some hj
          subst e'
          exact ⟨_, hk', by rw [asI_av he]; simp [indexA, SV.av, hu, natOf, hsz, blt_of h2], fun _ _ _ => trivial⟩
        · exact hk.elim
      · exact hk.elim
    · exact hk.elim
  · rename_i e hu
    split at hk
    · rename_i sz hsz
      split at hk
      · obtain ⟨j, k, hk, h1, h2⟩ := at_sound hk
        exact ⟨_, hk, by rw [h2]; simp [indexA, SV.av, hu, natOf, hsz, blt_of h1], fun _ _ hg => hg⟩
      · split at hk
        · rename_i a k i' he
          obtain ⟨p, hp, hk⟩ := onO_some hk
          refine ⟨_, hk, ?_, fun _ _ _ => trivial⟩
          rw [asI_av he]
          unfold idxV at hp
          split at hp
          · rename_i b oo len _ _ _ j
            obtain ⟨h1, h2⟩ := cond_some hp
            injection h2 with h2; subst h2
            simp [indexA, SV.av, hu, natOf, hsz, h1]
          · cases hp
        · exact hk.elim
      · exact hk.elim
    · exact hk.elim
  · exact hk.elim
theorem index_sound {t : TypeId} {x i : SV} {K : SV → Prop} (hk : vcIndex P t x i K) : ∃ v, K v ∧ indexV P t x.av i.av = some v.av ∧ ∀ ids nl, x.Good ids nl → v.Good ids nl := by
  unfold vcIndex at hk
  split at hk
  · rename_i hu
    split at hk
    · rename_i l k i' he
      obtain ⟨c, hc, hk⟩ := onO_some hk
      obtain ⟨j, hj, hc⟩ := bind_some' hc
      refine ⟨_, hk, ?_, fun _ _ _ => trivial⟩
      rw [asI_av he]
      cases i' with
      | negSucc i' => cases hj
      | ofNat i' =>
        injection hj with hj; subst hj
        simp [indexV, SV.av, hu, natOf, hc]
    · exact hk.elim
  · rename_i n e hu
    split at hk
    · rename_i sz c cs hsz hc
      obtain ⟨j, k, hk, h1, h2⟩ := at_sound hk
      rw [h2]
      split at hk
      · split at hk
        · rename_i l hl
          obtain ⟨a1, a2, a3⟩ := avs_sub hl
          exact ⟨_, hk, by simp [indexV, SV.av, hu, natOf, hsz, blt_of h1, partA, hc, a1], fun ids nl hg => goods_iff.2 fun x hx => goods_iff.1 hg x (a3 x hx)⟩
        · exact hk.elim
      · split at hk
        · rename_i y hy
          exact ⟨_, hk, by simp [indexV, SV.av, hu, natOf, hsz, blt_of h1, partA, hc, avs_nth, hy], fun ids nl hg => goods_iff.1 hg _ (nthL_mem hy)⟩
        · exact hk.elim
    · exact hk.elim
  · exact hk.elim
end
end Go.Proofs.YthnhdgcaolgdnaaAn
