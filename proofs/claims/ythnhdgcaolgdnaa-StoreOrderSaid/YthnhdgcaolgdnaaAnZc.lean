/- The conditions are sound: rows, calls, each operation. -/
import Derived.Test.YthnhdgcaolgdnaaAnZb
set_option linter.unusedVariables false
set_option linter.unusedSimpArgs false
namespace Go.Proofs.YthnhdgcaolgdnaaAn
open Go
section
variable {P : Program} {ids : Nat → Nat} {s : VS} {h : Hp} {m : T AV} {H : Heap} {K : KO} {o : Oper}
/-! ### conversions -/
theorem strAt_some {a : AV} {r : List Nat × Nat × Nat × Nat} (hr : strAt h a = some r) : ((a = .ns ∨ ∃ z, a = .e z) ∧ r.1 = []) ∨ ∃ b q len lo ex, a = .sl b q len lo ex 1 ∧ ((Nat.beq len 0 = true ∧ r.1 = []) ∨ (Nat.beq len 0 = false ∧ r.2 = (b, q, len) ∧ ∃ cs, rdH h b q len = some cs ∧ allU8 cs = some r.1)) := by
  unfold strAt at hr
  split at hr
  · injection hr with hr; subst hr; exact .inl ⟨.inl rfl, rfl⟩
  · injection hr with hr; subst hr; exact .inl ⟨.inr ⟨_, rfl⟩, rfl⟩
  · rename_i b q len lo ex sz
    obtain ⟨h1, hr⟩ := cond_some hr
    have := beq_eq' h1; subst this
    refine .inr ⟨b, q, len, lo, ex, rfl, ?_⟩
    cases hl : Nat.beq len 0 with
    | true => rw [hl, cond_true] at hr; injection hr with hr; subst hr; exact .inl ⟨rfl, rfl⟩
    | false =>
      rw [hl, cond_false] at hr
      obtain ⟨l, hl, he⟩ := map_some' hr
      subst he
      obtain ⟨cs, h2, h3⟩ := bind_some' hl
      exact .inr ⟨rfl, rfl, cs, h2, h3⟩
  · cases hr
theorem convert_sound (R : RelV ids s h m H) {src dst : TypeId} {x : SV} (hg : x.Good ids s.nl) (ha : aeff P (evA m) o = convertA P src dst x.av) (hk : vcConvert P src dst x s h K) : OpS P o ids s h m H K := by
  unfold vcConvert at hk
  split at hk
  · rename_i d k hs hd
    split at hk
    · rename_i k' n he
      obtain ⟨c, hc, hk'⟩ := onO_some hk
      injection hc with hc
      refine opS_q R (v := .ii k c) ?_ trivial hk'
      rw [ha, asI_av he]
      simp [convertA, hs, hd, SV.av, hc]
    · exact hk.elim
  · rename_i ds hs hd
    split at hk
    · refine opS_q R (v := .ss _) ?_ trivial hk
      rw [ha]
      simp [convertA, hs, hd, SV.av]
    · split at hk
      · rename_i e
        split at hk
        · rename_i he
          refine opS_esc R hk fun {s' h'} R' _ hnl _ hk => ?_
          obtain ⟨r, hr, hk'⟩ := onO_some hk
          rcases strAt_some hr with ⟨h1, h2⟩ | ⟨b, q, len, lo, ex, h1, h2⟩
          · rcases h1 with h1 | ⟨z, h1⟩
            · rw [h1] at ha
              refine ⟨0, .q (.s r.1), H, ids, s', h', some (.ss r.1), .re r.2.1 r.2.2.1 r.2.2.2, fun _ _ => ⟨by rw [ha, h2]; simp [convertA, hs, hd, he], rfl⟩, fun y hy => by injection hy with hy; subst hy; trivial, R', Tr.refl _ _ _ _, rfl, .inl ⟨_, rfl⟩, hk'⟩
            · rw [h1] at ha
              refine ⟨0, .q (.s r.1), H, ids, s', h', some (.ss r.1), .re r.2.1 r.2.2.1 r.2.2.2, fun _ _ => ⟨by rw [ha, h2]; simp [convertA, hs, hd, he], rfl⟩, fun y hy => by injection hy with hy; subst hy; trivial, R', Tr.refl _ _ _ _, rfl, .inl ⟨_, rfl⟩, hk'⟩
          · rw [h1] at ha
            rcases h2 with ⟨hl, h2⟩ | ⟨hl, h2, cs, h3, h4⟩
            · refine ⟨0, .q (.s r.1), H, ids, s', h', some (.ss r.1), .re r.2.1 r.2.2.1 r.2.2.2, fun _ _ => ⟨by rw [ha, h2]; simp [convertA, hs, hd, he, hl, Nat.beq], rfl⟩, fun y hy => by injection hy with hy; subst hy; trivial, R', Tr.refl _ _ _ _, rfl, .inl ⟨_, rfl⟩, hk'⟩
            · obtain ⟨r1, r2⟩ := rd_of R'.fits h3
              have e1 : r.2.1 = b := by rw [h2]
              have e2 : r.2.2.1 = q := by rw [h2]
              have e3 : r.2.2.2 = len := by rw [h2]
              refine ⟨0, .r b q len fun cs => (allU8 cs).map .s, H, ids, s', h', some (.ss r.1), .re r.2.1 r.2.2.1 r.2.2.2, fun _ _ => ⟨by rw [ha]; simp [convertA, hs, hd, he, hl, Nat.beq], ?_⟩, fun y hy => by injection hy with hy; subst hy; trivial, R', Tr.refl _ _ _ _, rfl, .inr ⟨⟨_, by rw [e1, e2, e3]⟩, by rw [e1]; exact r2⟩, hk'⟩
              show (rd H b q len).bind _ = _
              rw [r1]
              show Option.map _ ((allU8 cs).map AV.s) = _
              rw [h4]; rfl
        · exact hk.elim
      · exact hk.elim
  · rename_i e hs hd
    split at hk
    · rename_i l he
      refine opS_mem R (mk := fun id => .sl id 0 l.length l.length false 1) ?_ (fun _ => rfl) (fun _ => rfl) hk
      rw [ha]
      simp [convertA, hs, hd, SV.av, he, bytesV]
    · exact hk.elim
  · rename_i e e' hs hd
    split at hk
    · rename_i he
      split at hk
      · rename_i hb
        refine opS_esc R hk fun {s' h'} R' _ hnl _ hk => ?_
        split at hk
        · rename_i b q len lo ex sz hx
          rw [hx] at ha
          refine opS_E R' (e := .m b (.sl b q len lo ex sz)) ?_ (fun _ => rfl) (fun _ _ _ _ e => by cases e) ?_
          · rw [ha]; simp [convertA, hs, hd, he, hb]
          · intro H0 F0
            obtain ⟨v, H', h', a1, a2, a3⟩ := hk H0 F0
            refine ⟨v, H', h', a1, a2, some (.vv (.sl b q len lo ex sz)), ?_, (fun y hy ids nl => by injection hy with hy; subst hy; rfl), a3⟩
            unfold doEff at a1
            obtain ⟨_, a1⟩ := cond_some a1
            obtain ⟨_, _, a1⟩ := map_some' a1
            injection a1 with a1 _
            exact a1.symm
        · exact hk.elim
      · exact hk.elim
    · exact hk.elim
  · exact hk.elim

/-! ### rows made -/
theorem build_sound (R : RelV ids s h m H) {t : TypeId} {parts : Array (Nat × Operand)} (ho : o.op = .build t parts) (hk : vcBuild P t parts.toList s fun v => K .q (some v) s h) : OpS P o ids s h m H K := by
  unfold vcBuild at hk
  split at hk
  · rename_i z ps fs hz hp hu
    split at hk
    · rename_i hall
      split at hk
      · rename_i cs hf
        obtain ⟨p1, p2⟩ := R.parts hp
        obtain ⟨a1, a2, _⟩ := fill_av hf (zeroA_good (ids := ids) (nl := s.nl) hz).1 p2
        rw [ofs_avs] at a1
        refine opS_q R (v := .ag cs) ?_ a2 hk
        unfold aeff
        rw [ho]
        simp only [hz, p1, hu, hall, a1, Option.bind_some, cond_true, Option.map_some]
        rfl
      · exact hk.elim
    · exact hk.elim
  · rename_i z ps n e hz hp hu
    split at hk
    · rename_i sz hsz
      split at hk
      · rename_i cs hf
        obtain ⟨p1, p2⟩ := R.parts hp
        obtain ⟨a1, a2, _⟩ := fill_av hf (zeroA_good (ids := ids) (nl := s.nl) hz).1 p2
        rw [ofs_avs] at a1
        refine opS_q R (v := .ag cs) ?_ a2 hk
        unfold aeff
        rw [ho]
        simp only [hz, p1, hu, hsz, a1, Option.bind_some, Option.map_some]
        rfl
      · exact hk.elim
    · exact hk.elim
  · exact hk.elim
theorem zeros_good {z : List AV} (hz : SV.Goods ids s.nl (SV.ofs z)) : ∀ n, SV.Goods ids s.nl (SV.ofs (zeros z n))
  | 0 => trivial
  | n + 1 => by
    rw [goods_iff]
    intro x hx
    rw [ofs_map] at hx
    simp only [zeros, List.map_append, List.mem_append] at hx
    rcases hx with hx | hx
    · exact goods_iff.1 hz x (by rw [ofs_map]; exact hx)
    · exact goods_iff.1 (zeros_good hz n) x (by rw [ofs_map]; exact hx)
theorem buildSlice_sound (R : RelV ids s h m H) {t : TypeId} {len : Nat} {parts : Array (Nat × Operand)} (ho : o.op = .buildSlice t len parts) (hk : vcBuildSlice P t len parts.toList s h K) : OpS P o ids s h m H K := by
  unfold vcBuildSlice at hk
  split at hk
  · rename_i e ps he hp
    split at hk
    · rename_i sz z hsz hz
      split at hk
      · rename_i hc
        simp only [Bool.and_eq_true] at hc
        obtain ⟨⟨c1, c2⟩, c3⟩ := hc
        split at hk
        · rename_i cs hf
          split at hk
          · rename_i hone
            obtain ⟨p1, p2⟩ := R.parts hp
            have hpos : 0 < sz := by simpa [Nat.blt_eq] using c2
            have hb0 : Nat.beq (len * sz) 0 = Nat.beq len 0 := by
              rw [Bool.eq_iff_iff, Nat.beq_eq, Nat.beq_eq]
              constructor
              · intro h0; rcases Nat.mul_eq_zero.1 h0 with h | h <;> omega
              · intro h0; rw [h0, Nat.zero_mul]
            have hzg : SV.Goods ids s.nl (SV.ofs (cond (Nat.beq len 0) [] (zeros z len))) := by
              cases hl : Nat.beq len 0 with
              | true => trivial
              | false =>
                rw [hl, cond_false] at hz
                exact zeros_good (zeroA_good hz).1 len
            obtain ⟨a1, a2, _⟩ := fill_av hf hzg p2
            rw [ofs_avs] at a1
            refine opS_new R (cs := cs) (g := fun id => .sl id 0 len len true sz) (mk := fun id => .ls s.nl id len sz) ?_ (fun _ => rfl) (fun id => ⟨Nat.lt_succ_self _, (if_pos rfl).symm⟩) a2 hone hk
            unfold aeff
            rw [ho]
            simp only [he, hsz, p1, Option.bind_some, c1, cond_true, hb0, hz, c3, a1, Option.map_some]
          · exact hk.elim
        · exact hk.elim
      · exact hk.elim
    · exact hk.elim
  · exact hk.elim
theorem natI_some {i : Int} {n : Nat} (hh : natI i = some n) : i = .ofNat n := by
  cases i with
  | negSucc i => cases hh
  | ofNat i => injection hh with hh; rw [hh]
theorem make_sound (R : RelV ids s h m H) {t : TypeId} {l c : Operand} {x y : SV} (ho : o.op = .makeSlice t l c) (hl : evA m l = some x.av) (hc : evA m c = some y.av) (hk : vcMake P t x y s h K) : OpS P o ids s h m H K := by
  unfold vcMake at hk
  split at hk
  · rename_i e he
    split at hk
    · rename_i sz z k l' k' c' hsz hz h1 h2
      split at hk
      · rename_i hzl
        obtain ⟨n, hn, hk1⟩ := onO_some hk
        obtain ⟨mm, hm, hk2⟩ := onO_some hk1
        obtain ⟨hcc, hk3⟩ := hk2
        have e1 := natI_some hn
        have e2 := natI_some hm
        refine opS_mem R (mk := fun id => .sl id 0 n mm true sz) (cs := zerosV z mm) ?_ (fun _ => rfl) (fun _ => rfl) hk3
        unfold aeff
        rw [ho]
        rw [asI_av h1, e1] at hl
        rw [asI_av h2, e2] at hc
        simp only [he, hsz, hl, hc, natOf, hz, Option.bind_some]
        simp only [Bool.and_eq_true] at hcc
        rw [hcc.1.1, hcc.1.2, hcc.2, hzl]
        rfl
      · exact hk.elim
    · exact hk.elim
  · exact hk.elim
theorem bnd_ev (R : RelV ids s h m H) {x : Option Operand} {r : Option Int} (hb : bndS s x = some r) (d : Nat) : bound (evA m) d x = natO d r ∧ (x.isSome = r.isSome) ∧ (x.isNone = r.isNone) := by
  cases x with
  | none => simp only [bndS] at hb; injection hb with hb; subst hb; exact ⟨rfl, rfl, rfl⟩
  | some x =>
    simp only [bndS] at hb
    split at hb
    · rename_i v hv
      split at hb
      · rename_i k n he
        injection hb with hb; subst hb
        refine ⟨?_, rfl, rfl⟩
        simp only [bound, (R.ev hv).1, Option.bind_some, natO, asI_av he]
        cases n <;> rfl
      · cases hb
    · cases hb
theorem slV_sc {x r : AV} {lo hi mx : Option Int} {es : Nat} (hr : slV x lo hi mx es = some r) : r.sc = true := by
  unfold slV at hr
  split at hr
  · obtain ⟨_, _, hr⟩ := bind_some' hr
    obtain ⟨_, _, hr⟩ := bind_some' hr
    obtain ⟨_, _, hr⟩ := bind_some' hr
    obtain ⟨_, hr⟩ := cond_some hr
    injection hr with hr; subst hr; rfl
  · obtain ⟨_, _, hr⟩ := bind_some' hr
    obtain ⟨_, _, hr⟩ := bind_some' hr
    obtain ⟨_, _, hr⟩ := bind_some' hr
    obtain ⟨_, hr⟩ := cond_some hr
    injection hr with hr; subst hr; rfl
  · obtain ⟨_, _, hr⟩ := bind_some' hr
    obtain ⟨_, _, hr⟩ := bind_some' hr
    obtain ⟨_, hr⟩ := cond_some hr
    split at hr
    · obtain ⟨_, hr⟩ := cond_some hr
      obtain ⟨_, _, hr⟩ := bind_some' hr
      obtain ⟨_, hr⟩ := cond_some hr
      injection hr with hr; subst hr; rfl
    · obtain ⟨_, hr⟩ := cond_some hr
      injection hr with hr; subst hr; rfl
  · cases hr
theorem slice_sound (R : RelV ids s h m H) {t : TypeId} {xo : Operand} {lo hi mx : Option Operand} {x : SV} {lo' hi' mx' : Option Int} (ho : o.op = .slice t xo lo hi mx) (hx : evA m xo = some x.av) (hlo : bndS s lo = some lo') (hhi : bndS s hi = some hi') (hmx : bndS s mx = some mx') (hk : vcSlice P t x lo' hi' mx' s h K) : OpS P o ids s h m H K := by
  have ha : aeff P (evA m) o = (sliceA P (evA m) t x.av lo hi mx).map .q := by
    unfold aeff; rw [ho]; simp only [hx, Option.bind_some]
  unfold vcSlice at hk
  split at hk
  · rename_i l hu
    split at hk
    · rename_i hmn
      obtain ⟨l', hl', hk'⟩ := onO_some hk
      refine opS_q R (v := .ss l') ?_ trivial hk'
      have hmn' : mx = none := by
        have := (bnd_ev R hmx 0).2.2
        cases mx with
        | none => rfl
        | some _ => cases this
      rw [ha]
      unfold slStr at hl'
      simp only [sliceA, hu, SV.av, hmn']
      rw [(bnd_ev R hlo 0).1, (bnd_ev R hhi l.length).1]
      obtain ⟨a, ha', hl'⟩ := bind_some' hl'
      obtain ⟨b, hb', hl'⟩ := bind_some' hl'
      obtain ⟨hc, hl'⟩ := cond_some hl'
      injection hl' with hl'; subst hl'
      simp only [ha', hb', Option.bind_some, hc, cond_true, Option.map_some]
    · exact hk.elim
  · rename_i x' e hu
    split at hk
    · rename_i es hes
      refine opS_esc R hk fun {s' h'} R' _ _ _ hk => ?_
      obtain ⟨r, hr, hk'⟩ := onO_some hk
      refine opS_q R' (v := .vv r) ?_ (slV_sc hr) hk'
      rw [ha]
      have key : ∀ w, slV w lo' hi' mx' es = some r → sliceA P (evA m) t w lo hi mx = some r := by
        intro w hr
        unfold sliceA
        rw [hu]
        cases w <;> first | (cases hr; done) | skip
        · rename_i b q len cap ex sz
          simp only [slV] at hr
          simp only [hes]
          obtain ⟨a, ha', hr⟩ := bind_some' hr
          obtain ⟨hh, hb', hr⟩ := bind_some' hr
          obtain ⟨hc, hr⟩ := cond_some hr
          rw [(bnd_ev R hlo 0).1, (bnd_ev R hhi len).1, ha', hb']
          simp only [Option.bind_some, hc, cond_true]
          split at hr
          · obtain ⟨hs, hr⟩ := cond_some hr
            obtain ⟨mm, hm', hr⟩ := bind_some' hr
            have hmx2 := bnd_ev R hmx 0
            cases mx with
            | none => exact absurd hmx2.2.1 (by simp)
            | some mo =>
              simp only [(bnd_ev R hhi 0).2.1, hs, cond_true]
              rw [hmx2.1, hm', Option.bind_some]; exact hr
          · have hmx2 := bnd_ev R hmx 0
            cases mx with
            | none => exact hr
            | some mo => exact absurd hmx2.2.1 (by simp)
        · simp only [slV] at hr
          simp only [hes]
          obtain ⟨a, ha', hr⟩ := bind_some' hr
          obtain ⟨b, hb', hr⟩ := bind_some' hr
          obtain ⟨c, hc', hr⟩ := bind_some' hr
          obtain ⟨hc, hr⟩ := cond_some hr
          rw [(bnd_ev R hlo 0).1, (bnd_ev R hhi 0).1, (bnd_ev R hmx 0).1, ha', hb', hc']
          simp only [Option.bind_some, Option.isSome_some, Bool.and_true, (bnd_ev R hmx 0).2.2, (bnd_ev R hhi 0).2.1, hc, cond_true]
          exact hr
        · simp only [slV] at hr
          simp only [hes]
          obtain ⟨a, ha', hr⟩ := bind_some' hr
          obtain ⟨b, hb', hr⟩ := bind_some' hr
          obtain ⟨c, hc', hr⟩ := bind_some' hr
          obtain ⟨hc, hr⟩ := cond_some hr
          rw [(bnd_ev R hlo 0).1, (bnd_ev R hhi 0).1, (bnd_ev R hmx 0).1, ha', hb', hc']
          simp only [Option.bind_some, Option.isSome_some, Bool.and_true, (bnd_ev R hmx 0).2.2, (bnd_ev R hhi 0).2.1, hc, cond_true]
          exact hr
      rw [key _ hr]; rfl
    · exact hk.elim
  · exact hk.elim
end
end Go.Proofs.YthnhdgcaolgdnaaAn
