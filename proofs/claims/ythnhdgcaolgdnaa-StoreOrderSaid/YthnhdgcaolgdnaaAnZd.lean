/- The conditions are sound: what is built in, calls, each operation. -/
import Derived.Test.YthnhdgcaolgdnaaAnZc
set_option linter.unusedVariables false
set_option linter.unusedSimpArgs false
namespace Go.Proofs.YthnhdgcaolgdnaaAn
open Go
/-! ### what a call gives -/
theorem flat_back {ids : Nat → Nat} {nl : Nat} : ∀ {sh : List Sh} {vs : List AV} {l : List SV}, flatV sh vs = some (SV.avs l) → SV.Goods ids nl l → l.length = (flatK sh).length → vs = SV.avs (backV sh l) ∧ SV.Goods ids nl (backV sh l) ∧ (backV sh l).length = sh.length
  | [], vs, l, h, hg, hl => by
    cases vs with
    | nil => exact ⟨rfl, trivial, rfl⟩
    | cons v vs => cases h
  | .one k :: sh, vs, l, h, hg, hl => by
    cases vs with
    | nil => cases h
    | cons v vs =>
      obtain ⟨r, hr, he⟩ := map_some' (show (flatV sh vs).map (fun l => v :: l) = some (SV.avs l) from h)
      cases l with
      | nil => cases he
      | cons x xs =>
        simp only [SV.avs] at he
        injection he with e1 e2
        subst e2
        obtain ⟨a1, a2, a3⟩ := flat_back hr hg.2 (by simp [flatK, shKinds] at hl; omega)
        exact ⟨by simp only [backV, SV.avs]; rw [← a1, e1], ⟨hg.1, a2⟩, by simp only [backV, List.length_cons, a3]⟩
  | .agg ks :: sh, vs, l, h, hg, hl => by
    cases vs with
    | nil => cases h
    | cons v vs =>
      cases v <;> first | (cases h; done) | skip
      rename_i cs
      obtain ⟨hc, h⟩ := cond_some (show cond (Nat.beq cs.length ks.length) ((flatV sh vs).map fun l => cs ++ l) none = _ from h)
      have hcl := beq_eq' hc
      obtain ⟨r, hr, he⟩ := map_some' h
      have hll : l.length = ks.length + (flatK sh).length := by simpa [flatK, shKinds] using hl
      have e1 : cs = SV.avs (l.take ks.length) := by
        rw [avs_take, ← he, List.take_append_of_le_length (by omega), List.take_of_length_le (by omega)]
      have e2 : r = SV.avs (l.drop ks.length) := by
        rw [avs_drop, ← he, List.drop_append_of_le_length (by omega), List.drop_of_length_le (by omega), List.nil_append]
      rw [e2] at hr
      have hg1 : SV.Goods ids nl (l.take ks.length) := goods_iff.2 fun x hx => goods_iff.1 hg x (List.mem_of_mem_take hx)
      have hg2 : SV.Goods ids nl (l.drop ks.length) := goods_iff.2 fun x hx => goods_iff.1 hg x (List.mem_of_mem_drop hx)
      obtain ⟨a1, a2, a3⟩ := flat_back hr hg2 (by simp; omega)
      exact ⟨by simp only [backV, SV.avs, SV.av]; rw [← a1, ← e1], ⟨hg1, a2⟩, by simp only [backV, List.length_cons, a3]⟩
theorem onS_sound {ids : Nat → Nat} {nl : Nat} {sh : List Sh} {vs : List AV} {F : List SV → Prop} (h : onS sh vs (lamK (flatK sh) F)) : ∃ l, vs = SV.avs (backV sh l) ∧ SV.Goods ids nl (backV sh l) ∧ (backV sh l).length = sh.length ∧ F l := by
  unfold onS at h
  split at h
  · rename_i fl hf
    obtain ⟨l, rfl, h1, h2, h3, h4⟩ := onL_sound (ids := ids) (nl := nl) _ h
    obtain ⟨a1, a2, a3⟩ := flat_back hf h1 h3
    exact ⟨l, a1, a2, a3, h4⟩
  · exact h.elim
theorem retV_sound {P : Program} {t : TypeId} {v : AV} {K : SV → Prop} (ids : Nat → Nat) (nl : Nat) (h : retV P t v K) : ∃ x : SV, v = x.av ∧ x.Good ids nl ∧ K x := by
  unfold retV at h
  split at h
  · split at h
    · rename_i sh hs
      unfold onTup at h
      split at h
      · rename_i vs
        obtain ⟨l, a1, a2, a3, a4⟩ := onS_sound (ids := ids) (nl := nl) h
        exact ⟨.tp (backV sh l), by rw [a1]; rfl, a2, a4⟩
      · exact h.elim
    · exact h.elim
  · split at h
    · rename_i sh hs
      obtain ⟨l, a1, a2, a3, a4⟩ := onS_sound (ids := ids) (nl := nl) h
      split at a4
      · rename_i x hx
        rw [hx] at a1 a2
        simp only [SV.avs] at a1
        injection a1 with a1 _
        exact ⟨x, a1, a2.1, a4⟩
      · exact a4.elim
    · exact h.elim
section
variable {P : Program} {ids : Nat → Nat} {s : VS} {h : Hp} {m : T AV} {H : Heap} {K : KO} {o : Oper}
/-! ### append, copy, clear -/
theorem appA_some {H0 : Heap} {d v : AV} {n sz : Nat} {src : Src} {H' : Heap} (ha : appA H0 d n src sz = some (v, H')) : d.isSl = true ∧ v.sc = true := by
  unfold appA at ha
  obtain ⟨new, _, ha⟩ := bind_some' ha
  obtain ⟨_, ha⟩ := cond_some ha
  split at ha
  · refine ⟨rfl, ?_⟩
    cases hn : Nat.beq n 0 with
    | true => rw [hn, cond_true] at ha; injection ha with ha; injection ha with h1 _; subst h1; rfl
    | false =>
      rw [hn, cond_false] at ha
      obtain ⟨_, ha⟩ := cond_some ha
      injection ha with ha; injection ha with h1 _; subst h1; rfl
  · refine ⟨rfl, ?_⟩
    cases hn : Nat.beq n 0 with
    | true => rw [hn, cond_true] at ha; injection ha with ha; injection ha with h1 _; subst h1; rfl
    | false =>
      rw [hn, cond_false] at ha
      obtain ⟨_, ha⟩ := cond_some ha
      injection ha with ha; injection ha with h1 _; subst h1; rfl
  · rename_i b q len lo ex z _ _
    refine ⟨rfl, ?_⟩
    obtain ⟨_, ha⟩ := cond_some ha
    cases hfit : Nat.ble (len + n) lo with
    | true =>
      rw [hfit, cond_true] at ha
      cases hn : Nat.beq n 0 with
      | true => rw [hn, cond_true] at ha; injection ha with ha; injection ha with h1 _; subst h1; rfl
      | false =>
        rw [hn, cond_false] at ha
        obtain ⟨_, _, ha⟩ := map_some' ha
        injection ha with h1 _; subst h1; rfl
    | false =>
      rw [hfit, cond_false] at ha
      cases ex with
      | true =>
        rw [cond_true] at ha
        obtain ⟨_, _, ha⟩ := bind_some' ha
        injection ha with ha; injection ha with h1 _; subst h1; rfl
      | false =>
        rw [cond_false] at ha
        obtain ⟨_, _, ha⟩ := bind_some' ha
        obtain ⟨_, _, ha⟩ := bind_some' ha
        obtain ⟨_, ha⟩ := cond_some ha
        injection ha with ha; injection ha with h1 _; subst h1; rfl
  · cases ha
/-- append, from a source that is as good as another one -/
theorem app_sound (R : RelV ids s h m H) {d : AV} {n sz : Nat} {src src' : Src} (hsrc : rdSrc H src = rdSrc H src') (ha : d.isSl = true → aeff P (evA m) o = some (.app d n src sz))
    (w : wpE (.app d n src' sz) (fun r h' => onO r fun v => K .we (some (.vv v)) s h') h) : OpS P o ids s h m H K := by
  obtain ⟨r, H', h', h1, S, hk⟩ := w H R.fits
  obtain ⟨v, rfl, hk⟩ := onO_some hk
  have h1 : (appA H d n src' sz).map (fun p : AV × Heap => (some p.1, p.2)) = some (some v, H') := h1
  obtain ⟨⟨v', H1⟩, h2, h3⟩ := map_some' h1
  injection h3 with h3 h4
  injection h3 with h3
  simp only at h3 h4
  subst h3; subst h4
  obtain ⟨g1, g2⟩ := appA_some h2
  have e : appA H d n src sz = appA H d n src' sz := by unfold appA; rw [hsrc]
  obtain ⟨R', T'⟩ := R.step S
  refine ⟨0, _, H1, ids, s, h', some (.vv v'), .we, fun _ _ => ⟨ha g1, ?_⟩, fun y hy => by injection hy with hy; subst hy; exact g2, R', T', rfl, ⟨(fun _ _ _ _ e => by cases e), R.kept S⟩, hk⟩
  show (appA H d n src sz).map (fun p : AV × Heap => (some p.1, p.2)) = _
  rw [e, h2]; rfl
theorem append_sound (R : RelV ids s h m H) {tys : Array TypeId} {t u : TypeId} {rest : List TypeId} {d x : SV} {args : List AV} (htys : tys.toList = t :: u :: rest) (hgx : x.Good ids s.nl)
    (ha : aeff P (evA m) o = builtinA P .append tys (d.av :: x.av :: args)) (hk : vcAppend P t u d x s h K) : OpS P o ids s h m H K := by
  unfold builtinA at ha
  rw [htys] at ha
  simp only at ha
  unfold vcAppend at hk
  split at hk
  · rename_i e he
    split at hk
    · rename_i sz z hsz hz
      split at hk
      · rename_i hzl
        simp only [he, hsz, Option.bind_some] at ha
        split at hk
        · rename_i ki hu
          simp only [hu] at ha
          split at hk
          · rename_i kk n hn
            obtain ⟨n', hn', hk1⟩ := onO_some hk
            obtain ⟨hc, hk2⟩ := hk1
            simp only [Bool.and_eq_true] at hc
            rw [asI_av hn, natI_some hn'] at ha
            refine opS_esc R hk2 fun R' _ _ _ hk => app_sound R' (src := .lit (zeros z n')) rfl (fun hd => ?_) hk
            rw [ha]
            simp only [natOf, Option.bind_some, hz, hd, hzl, hc.1, hc.2, Bool.and_self, cond_true]
          · exact hk.elim
        · rename_i ud hni hu
          have ha : aeff P (evA m) o = (srcA sz x.av).bind fun ns => (zeroA P e).bind fun z => cond (d.av.isSl && Nat.beq z.length sz && Nat.ble ((4 * ns.1 + 4000) * P.bytesOf e) 17179869184) (some (.app d.av ns.1 ns.2 sz)) none := by
            rw [ha, hu]
            cases ud <;> first | rfl | (exact absurd rfl (hni _))
          split at hk
          · rename_i k id len zz _
            split at hk
            · rename_i st id' cs hL
              have e1 : id' = id := by rw [(R.loc k st id' cs hL).1.2, hgx.2]
              subst e1
              obtain ⟨⟨q1, q2⟩, ⟨q3, q4⟩, q5, q6⟩ := R.loc k st id' cs hL
              split at hk
              · rename_i hc
                simp only [Bool.and_eq_true] at hc
                obtain ⟨⟨⟨c1, c2⟩, c3⟩, c4⟩ := hc
                have hlen := beq_eq' c2
                have hzz := beq_eq' c1
                refine opS_esc R hk fun R' _ _ _ hk => app_sound R' (src := cond (Nat.beq len 0) (.lit []) (.mem id' 0 (len * sz))) ?_ (fun hd => ?_) hk
                · cases hl : Nat.beq len 0 with
                  | true =>
                    have hl := beq_eq' hl
                    rw [hl, Nat.zero_mul] at hlen
                    rw [List.length_eq_zero_iff.1 hlen]; rfl
                  | false =>
                    show rd H id' 0 (len * sz) = some (SV.avs cs)
                    unfold rd
                    rw [q3]
                    show sub? (SV.avs cs) 0 (len * sz) = _
                    unfold sub?
                    rw [Nat.zero_add, avs_length, Nat.ble_eq_true_of_le (by omega), cond_true, List.drop_zero, List.take_of_length_le (by rw [avs_length]; omega)]
                · rw [ha]
                  simp only [SV.av, srcA, c1, cond_true, Option.bind_some, hz, hd, hzl, c4, Bool.and_self]
              · exact hk.elim
            · exact hk.elim
          · refine opS_esc R hk fun R' _ _ _ hk => ?_
            obtain ⟨p, hp, hk1⟩ := onO_some hk
            obtain ⟨hc, hk2⟩ := hk1
            refine app_sound R' (src := p.2) rfl (fun hd => ?_) hk2
            have hp : srcA sz x.av = some p := hp
            rw [ha, hp]
            simp only [Option.bind_some, hz, hd, hzl, hc, Bool.and_self, cond_true]
        · exact hk.elim
      · exact hk.elim
    · exact hk.elim
  · exact hk.elim
theorem builtin_sound (R : RelV ids s h m H) {b : Builtin} {tys : Array TypeId} {args : List SV} (hg : SV.Goods ids s.nl args) (ha : aeff P (evA m) o = builtinA P b tys (SV.avs args)) (hk : vcBuiltin P b tys.toList args s h K) : OpS P o ids s h m H K := by
  unfold vcBuiltin at hk
  split at hk
  · rename_i t rest x xs htys
    unfold builtinA at ha
    rw [htys] at ha
    simp only [SV.avs] at ha
    split at hk
    · rename_i l hu
      exact opS_q R (v := .ii .i64 (.ofNat l.length)) (by rw [ha]; simp only [hu, SV.av]) trivial hk
    · rename_i e hu
      exact opS_q R (v := .ki .i64 0) (by rw [ha]; simp only [hu, SV.av]) trivial hk
    · rename_i k id len sz hu
      exact opS_q R (v := .ki .i64 (.ofNat _)) (by rw [ha]; simp only [hu, SV.av]) trivial hk
    · rename_i a hu
      obtain ⟨n, hn, hk1⟩ := onO_some hk
      refine opS_q R (v := .ii .i64 (.ofNat n)) ?_ trivial hk1
      rw [ha]
      simp only [hu, SV.av]
      rename_i aa _ _
      revert hn
      first
        | (cases a <;> intro hn <;> simp only [lenV] at hn <;> first | (cases hn; done) | (injection hn with hn; subst hn; rfl))
        | (cases aa <;> intro hn <;> simp only [lenV] at hn <;> first | (cases hn; done) | (injection hn with hn; subst hn; rfl))
    · exact hk.elim
  · rename_i t rest x xs htys
    unfold builtinA at ha
    rw [htys] at ha
    simp only [SV.avs] at ha
    split at hk
    · rename_i e hu
      exact opS_q R (v := .ki .i64 0) (by rw [ha]; simp only [hu, SV.av]) trivial hk
    · rename_i k id len sz hu
      exact opS_q R (v := .ki .i64 (.ofNat _)) (by rw [ha]; simp only [hu, SV.av]) trivial hk
    · rename_i a hu
      obtain ⟨n, hn, hk1⟩ := onO_some hk
      refine opS_q R (v := .ii .i64 (.ofNat n)) ?_ trivial hk1
      rw [ha]
      simp only [hu, SV.av]
      rename_i aa _ _
      revert hn
      first
        | (cases a <;> intro hn <;> simp only [capV] at hn <;> first | (cases hn; done) | (injection hn with hn; subst hn; rfl) | (split at hn <;> first | (cases hn; done) | (injection hn with hn; subst hn; rfl)))
        | (cases aa <;> intro hn <;> simp only [capV] at hn <;> first | (cases hn; done) | (injection hn with hn; subst hn; rfl) | (split at hn <;> first | (cases hn; done) | (injection hn with hn; subst hn; rfl)))
    · exact hk.elim
  · rename_i x y
    split at hk
    · rename_i k a k' b h1 h2
      refine opS_q R (v := .ii k (min a b)) ?_ trivial hk
      rw [ha]
      simp only [builtinA, SV.avs, asI_av h1, asI_av h2, minA, Option.map_some, SV.av, leI_eq]
      congr 3
      by_cases hab : a ≤ b
      · rw [decide_eq_true hab, cond_true, Int.min_eq_left hab]
      · rw [decide_eq_false hab, cond_false, Int.min_eq_right (by omega)]
    · exact hk.elim
  · rename_i x y
    split at hk
    · rename_i k a k' b h1 h2
      refine opS_q R (v := .ii k (max a b)) ?_ trivial hk
      rw [ha]
      simp only [builtinA, SV.avs, asI_av h1, asI_av h2, maxA, Option.map_some, SV.av, leI_eq]
      congr 3
      by_cases hab : b ≤ a
      · rw [decide_eq_true hab, cond_true, Int.max_eq_left hab]
      · rw [decide_eq_false hab, cond_false, Int.max_eq_right (by omega)]
    · exact hk.elim
  · rename_i t u rest d x xs htys
    exact append_sound R htys hg.2.1 (by rw [ha]; rfl) hk
  · rename_i t rest d x xs htys
    unfold builtinA at ha
    rw [htys] at ha
    simp only [SV.avs] at ha
    split at hk
    · rename_i e he
      split at hk
      · rename_i sz hsz
        simp only [he, hsz, Option.bind_some] at ha
        refine opS_esc R hk fun {s' h'} R' _ _ _ hk => ?_
        obtain ⟨p, hp, hk1⟩ := onO_some hk
        have key : aeff P (evA m) o = some p.2 ∧ ((p.2 = .q (.i .i64 0) ∧ p.1 = 0) ∨ ∃ b q src, p.2 = .w b q src (some (.i .i64 (.ofNat p.1)))) := by
          rw [ha]
          unfold copyV at hp
          obtain ⟨n, hn, hp⟩ := bind_some' hp
          rw [hn, Option.bind_some]
          split at hp
          · rename_i hd
            injection hp with hp; subst hp
            rw [hd]
            exact ⟨rfl, .inl ⟨rfl, rfl⟩⟩
          · rename_i hd
            injection hp with hp; subst hp
            rw [hd]
            exact ⟨rfl, .inl ⟨rfl, rfl⟩⟩
          · rename_i b q len lo ex zz hd
            obtain ⟨hzz, hp⟩ := cond_some hp
            rw [hd]
            simp only [hzz, cond_true]
            cases hm0 : Nat.beq (Nat.min n len) 0 with
            | true =>
              rw [hm0, cond_true] at hp
              injection hp with hp; subst hp
              exact ⟨rfl, .inl ⟨rfl, rfl⟩⟩
            | false =>
              rw [hm0, cond_false] at hp
              obtain ⟨src, hs, hp⟩ := map_some' hp
              subst hp
              rw [cond_false, hs]
              exact ⟨rfl, .inr ⟨b, q, src, rfl⟩⟩
          · cases hp
        obtain ⟨ha', hform⟩ := key
        refine opS_E R' ha' (fun c => by rcases hform with ⟨h1, _⟩ | ⟨b, q, src, h1⟩ <;> rw [h1] <;> rfl) (fun _ _ _ _ e => by rcases hform with ⟨h1, _⟩ | ⟨b, q, src, h1⟩ <;> rw [h1] at e <;> cases e) fun H0 F0 => ?_
        obtain ⟨v, H', h'', a1, a2, a3⟩ := hk1 H0 F0
        refine ⟨v, H', h'', a1, a2, some (.ii .i64 (.ofNat p.1)), ?_, (fun y hy ids nl => by injection hy with hy; subst hy; trivial), a3⟩
        rcases hform with ⟨h1, h2⟩ | ⟨b, q, src, h1⟩
        · rw [h1] at a1
          injection a1 with a1; injection a1 with a1 _
          rw [← a1, h2]; rfl
        · rw [h1] at a1
          exact doEff_w a1
      · exact hk.elim
    · exact hk.elim
  · rename_i t rest x xs htys
    unfold builtinA at ha
    rw [htys] at ha
    simp only [SV.avs] at ha
    split at hk
    · rename_i e he
      split at hk
      · rename_i z hz
        simp only [he, hz, Option.bind_some] at ha
        refine opS_esc R hk fun {s' h'} R' _ _ _ hk => ?_
        obtain ⟨p, hp, hk1⟩ := onO_some hk
        have key : aeff P (evA m) o = some p ∧ (p = .q (.tup []) ∨ ∃ b q src, p = .w b q src (some (.tup []))) := by
          rw [ha]
          unfold clearV at hp
          split at hp
          · rename_i hd
            injection hp with hp; subst hp
            rw [hd]
            exact ⟨rfl, .inl rfl⟩
          · rename_i hd
            injection hp with hp; subst hp
            rw [hd]
            exact ⟨rfl, .inl rfl⟩
          · rename_i b q len lo ex zz hd
            rw [hd]
            simp only
            cases hm0 : Nat.beq len 0 with
            | true =>
              rw [hm0, cond_true] at hp
              injection hp with hp; subst hp
              exact ⟨rfl, .inl rfl⟩
            | false =>
              rw [hm0, cond_false] at hp
              obtain ⟨hc, hp⟩ := cond_some hp
              injection hp with hp; subst hp
              rw [cond_false, hc]
              exact ⟨rfl, .inr ⟨b, q, _, rfl⟩⟩
          · cases hp
        obtain ⟨ha', hform⟩ := key
        refine opS_E R' ha' (fun c => by rcases hform with h1 | ⟨b, q, src, h1⟩ <;> rw [h1] <;> rfl) (fun _ _ _ _ e => by rcases hform with h1 | ⟨b, q, src, h1⟩ <;> rw [h1] at e <;> cases e) fun H0 F0 => ?_
        obtain ⟨v, H', h'', a1, a2, a3⟩ := hk1 H0 F0
        refine ⟨v, H', h'', a1, a2, some (.tp []), ?_, (fun y hy ids nl => by injection hy with hy; subst hy; trivial), a3⟩
        rcases hform with h1 | ⟨b, q, src, h1⟩
        · rw [h1] at a1
          injection a1 with a1; injection a1 with a1 _
          rw [← a1]; rfl
        · rw [h1] at a1
          exact doEff_w a1
      · exact hk.elim
    · exact hk.elim
  · exact hk.elim
/-! ### calls -/
theorem goes_sound (R : RelV ids s h m H) {f : FuncId} {args : List AV} {t : TypeId} (ha : aeff P (evA m) o = some (.call f args)) (hk : wpC P f args (fun v h' => retV P t v fun x => K .we (some x) s h') h) : OpS P o ids s h m H K := by
  obtain ⟨v, H', h', hg, S, hk⟩ := hk H R.fits
  obtain ⟨n, hn⟩ := hg.at
  obtain ⟨x, rfl, hx, hk⟩ := retV_sound ids s.nl hk
  obtain ⟨R', T'⟩ := R.step S
  refine ⟨n, _, H', ids, s, h', some x, .we, fun n' hle => ⟨ha, ?_⟩, fun y hy => by injection hy with hy; subst hy; exact hx, R', T', rfl, ⟨(fun _ _ _ _ e => by cases e), R.kept S⟩, hk⟩
  show (callA P (runA P n') f args H).bind _ = _
  rw [hn n' hle]
  show cond (Nat.ble H.next H'.next) _ _ = _
  rw [Nat.ble_eq_true_of_le S.next]; rfl
theorem fnV_some {a : AV} {p : FuncId × List AV} (h : fnV a = some p) : a = .f p.1 p.2 := by
  cases a <;> first | (cases h; done) | skip
  injection h with h; subst h; rfl
theorem callV_sound (R : RelV ids s h m H) {g : SV} {t : TypeId} {args : List SV} (ha : aeff P (evA m) o = (match some g.av with | some (.f f caps) => cond (fnOk P f) (some (.call f (SV.avs args ++ caps))) none | _ => none)) (hk : vcCallV P g t args s h K) : OpS P o ids s h m H K := by
  unfold vcCallV at hk
  split at hk
  · rename_i f caps
    split at hk
    · rename_i hf
      refine opS_esc R hk fun R' _ _ _ hk => goes_sound R' ?_ hk
      rw [ha]
      simp only [SV.av, hf, cond_true, avs_append]
    · exact hk.elim
  · rename_i a
    obtain ⟨p, hp, hk1⟩ := onO_some hk
    obtain ⟨hf, hk2⟩ := hk1
    have := fnV_some hp
    subst this
    refine opS_esc R hk2 fun R' _ _ _ hk => goes_sound R' ?_ hk
    rw [ha]
    simp only [SV.av, hf, cond_true]
  · exact hk.elim
/-- **Each operation.** -/
theorem op_sound (R : RelV ids s h m H) (hk : vcOp P o s h K) : OpS P o ids s h m H K := by
  unfold vcOp at hk
  split at hk
  · rename_i x ho
    split at hk
    · rename_i v hv
      obtain ⟨a1, a2⟩ := R.ev hv
      exact opS_q R (by unfold aeff; rw [ho]; simp only [a1, Option.map_some]) a2 hk
    · exact hk.elim
  · rename_i x ho
    split at hk
    · rename_i v hv
      obtain ⟨a1, a2⟩ := R.ev hv
      exact opS_q R (by unfold aeff; rw [ho]; simp only [a1, Option.map_some]) a2 hk
    · exact hk.elim
  · rename_i c a b ho
    split at hk
    · rename_i hc
      split at hk
      · rename_i v hv
        obtain ⟨a1, a2⟩ := R.ev hv
        exact opS_q R (by unfold aeff; rw [ho]; simp only [(R.ev hc).1, SV.av, a1, Option.map_some]) a2 hk
      · exact hk.elim
    · rename_i hc
      split at hk
      · rename_i v hv
        obtain ⟨a1, a2⟩ := R.ev hv
        exact opS_q R (by unfold aeff; rw [ho]; simp only [(R.ev hc).1, SV.av, a1, Option.map_some]) a2 hk
      · exact hk.elim
    · rename_i cc hc
      split at hk
      · rename_i v w hv hw
        obtain ⟨a1, a2⟩ := R.ev hv
        obtain ⟨b1, b2⟩ := R.ev hw
        obtain ⟨k1, k2⟩ := hk
        cases cc with
        | true => exact opS_q R (by unfold aeff; rw [ho]; simp only [(R.ev hc).1, SV.av, a1, Option.map_some]) a2 (k1 rfl)
        | false => exact opS_q R (by unfold aeff; rw [ho]; simp only [(R.ev hc).1, SV.av, b1, Option.map_some]) b2 (k2 rfl)
      · exact hk.elim
    · exact hk.elim
  · rename_i e ho
    split at hk
    · rename_i z hz
      have hz' := zeroA_good (ids := ids) (nl := s.nl) hz
      refine opS_new R (cs := SV.ofs z) (g := fun id => .p id 0) (mk := fun id => .lp s.nl id 0) ?_ (fun _ => rfl) (fun id => ⟨Nat.lt_succ_self _, (if_pos rfl).symm⟩) hz'.1 hz'.2 hk
      unfold aeff; rw [ho]; simp only [hz, Option.map_some, ofs_avs]
    · exact hk.elim
  · rename_i t x ho
    split at hk
    · rename_i v hv
      split at hk
      · rename_i hc
        simp only [Bool.and_eq_true] at hc
        obtain ⟨a1, a2⟩ := R.ev hv
        refine opS_new R (cs := v.cells) (g := fun id => .p id 0) (mk := fun id => .lp s.nl id 0) ?_ (fun _ => rfl) (fun id => ⟨Nat.lt_succ_self _, (if_pos rfl).symm⟩) (cells_good a2) hc.2 hk
        unfold aeff; rw [ho]; simp only [a1, Option.bind_some, notTup_one a2 hc.1, cond_true, cells_av a2 hc.1]
      · exact hk.elim
    · exact hk.elim
  · rename_i t parts ho
    exact build_sound R ho hk
  · rename_i t len parts ho
    exact buildSlice_sound R ho hk
  · rename_i t a ho
    split at hk
    · rename_i av hv
      obtain ⟨a1, a2⟩ := R.ev hv
      exact load_sound R a2 (aeff_load ho a1) hk
    · exact hk.elim
  · rename_i t a x ho
    split at hk
    · rename_i u v hu hv
      obtain ⟨a1, a2⟩ := R.ev hu
      obtain ⟨b1, b2⟩ := R.ev hv
      exact store_sound R a2 b2 (aeff_store ho a1 b1) hk
    · exact hk.elim
  · rename_i x ho
    split at hk
    · rename_i hv
      obtain ⟨a1, a2⟩ := R.ev hv
      exact opS_q R (by unfold aeff; rw [ho]; simp only [a1, SV.av]) a2 hk
    · rename_i hv
      obtain ⟨a1, a2⟩ := R.ev hv
      exact opS_q R (by unfold aeff; rw [ho]; simp only [a1, SV.av]) a2 hk
    · rename_i hv
      obtain ⟨a1, a2⟩ := R.ev hv
      exact opS_q R (by unfold aeff; rw [ho]; simp only [a1, SV.av]) a2 hk
    · rename_i hv
      obtain ⟨a1, a2⟩ := R.ev hv
      obtain ⟨p, hp, hk1⟩ := onO_some hk
      rw [show (SV.vv _).av = _ from ptrV_some hp] at a1
      exact opS_q R (v := .pp p.1 p.2) (by unfold aeff; rw [ho]; simp only [a1, SV.av]) trivial hk1
    · exact hk.elim
  · rename_i op t x y yt ho
    split at hk
    · rename_i u v hu hv
      obtain ⟨a1, a2⟩ := R.ev hu
      obtain ⟨b1, b2⟩ := R.ev hv
      obtain ⟨w, hw, he, hg⟩ := bin_sound hk
      exact opS_q R (by unfold aeff; rw [ho]; simp only [a1, b1, he, Option.map_some]) (hg _ _) hw
    · exact hk.elim
  · rename_i op t x ho
    split at hk
    · rename_i u hu
      obtain ⟨a1, a2⟩ := R.ev hu
      obtain ⟨w, hw, he, hg⟩ := un_sound hk
      exact opS_q R (by unfold aeff; rw [ho]; simp only [a1, Option.bind_some, he, Option.map_some]) (hg _ _) hw
    · exact hk.elim
  · rename_i src dst x ho
    split at hk
    · rename_i u hu
      obtain ⟨a1, a2⟩ := R.ev hu
      exact convert_sound R a2 (by unfold aeff; rw [ho]; simp only [a1, Option.bind_some]) hk
    · exact hk.elim
  · rename_i g first captured ho
    split at hk
    · rename_i l hf hl
      obtain ⟨a1, a2⟩ := R.evs hl
      exact opS_q R (v := .ff g l) (by unfold aeff; rw [ho]; simp only [hf, cond_true, a1, Option.map_some, SV.av]) a2 hk
    · exact hk.elim
  · rename_i t l c ho
    split at hk
    · rename_i u v hu hv
      exact make_sound R ho (R.ev hu).1 (R.ev hv).1 hk
    · exact hk.elim
  · rename_i t x lo hi mx ho
    split at hk
    · rename_i x' lo' hi' mx' hx hlo hhi hmx
      exact slice_sound R ho (R.ev hx).1 hlo hhi hmx hk
    · exact hk.elim
  · rename_i t x f ho
    split at hk
    · rename_i fs hu
      split at hk
      · rename_i fl hfl
        split at hk
        · rename_i n hn
          split at hk
          · rename_i k id q hn0 hx
            obtain ⟨a1, a2⟩ := R.ev hx
            exact opS_q R (v := .lp k id (q + fl.offset)) (by unfold aeff; rw [ho]; simp only [hu, a1, SV.av, hfl, hn, Option.bind_some, hn0, cond_false]) a2 hk
          · rename_i b q hn0 hx
            obtain ⟨a1, a2⟩ := R.ev hx
            exact opS_q R (v := .pp b (q + fl.offset)) (by unfold aeff; rw [ho]; simp only [hu, a1, SV.av, hfl, hn, Option.bind_some, hn0, cond_false]) trivial hk
          · rename_i hn0 hx
            obtain ⟨a1, a2⟩ := R.ev hx
            obtain ⟨p, hp, hk1⟩ := onO_some hk
            rw [show (SV.vv _).av = _ from ptrV_some hp] at a1
            exact opS_q R (v := .pp _ _) (by unfold aeff; rw [ho]; simp only [hu, a1, SV.av, hfl, hn, Option.bind_some, hn0, cond_false]) trivial hk1
          · exact hk.elim
        · exact hk.elim
      · exact hk.elim
    · exact hk.elim
  · rename_i t x f ho
    split at hk
    · rename_i fs cs hu hx
      split at hk
      · rename_i fl hfl
        obtain ⟨a1, a2⟩ := R.ev hx
        obtain ⟨w, hw, he, hg⟩ := field_sound hk
        exact opS_q R (by unfold aeff; rw [ho]; simp only [hu, a1, SV.av, hfl, he, Option.map_some]) (hg _ _ a2) hw
      · exact hk.elim
    · exact hk.elim
  · rename_i t x i ho
    split at hk
    · rename_i u v hu hv
      obtain ⟨w, hw, he, hg⟩ := indexAddr_sound hk
      exact opS_q R (by unfold aeff; rw [ho]; simp only [(R.ev hu).1, (R.ev hv).1, he, Option.map_some]) (hg _ _ (R.ev hu).2) hw
    · exact hk.elim
  · rename_i t x i ho
    split at hk
    · rename_i u v hu hv
      obtain ⟨w, hw, he, hg⟩ := index_sound hk
      exact opS_q R (by unfold aeff; rw [ho]; simp only [(R.ev hu).1, (R.ev hv).1, he, Option.map_some]) (hg _ _ (R.ev hu).2) hw
    · exact hk.elim
  · rename_i t i ho
    split at hk
    · rename_i vs hx
      split at hk
      · rename_i v hv
        obtain ⟨a1, a2⟩ := R.ev hx
        exact opS_q R (by unfold aeff; rw [ho]; simp only [a1, SV.av, avs_nth, hv, Option.map_some]) (goods_iff.1 a2 _ (nthL_mem hv)) hk
      · exact hk.elim
    · exact hk.elim
  · rename_i c ho
    split at hk
    · rename_i args hargs
      obtain ⟨a1, a2⟩ := R.evs hargs
      split at hk
      · rename_i b hb
        exact builtin_sound R a2 (by unfold aeff; rw [ho]; simp only [a1, Option.bind_some, hb]) hk
      · rename_i g hgc
        split at hk
        · rename_i gv hgv
          exact callV_sound R (by unfold aeff; rw [ho]; simp only [a1, Option.bind_some, hgc]; rw [(R.ev hgv).1]; cases gv.av <;> rfl) hk
        · exact hk.elim
      · exact hk.elim
    · exact hk.elim
  · exact hk.elim
end
end Go.Proofs.YthnhdgcaolgdnaaAn
