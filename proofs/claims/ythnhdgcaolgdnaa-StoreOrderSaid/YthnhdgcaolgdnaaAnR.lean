/- Regions that draw their order: each step, and the end. -/
import Derived.Test.YthnhdgcaolgdnaaAnQ
set_option linter.unusedVariables false
set_option linter.unusedSimpArgs false
namespace Go.Proofs.YthnhdgcaolgdnaaAn
open Go

section
variable {P : Program} {call : CallA} {N : Nat} {ops : Array Oper} {ms : List Nat} {mS : Nat → T AV} {hS : Nat → Heap} {eS : Nat → Option Eff} {rS : Nat → Option AV} {j0 : Inj} {H0 : Heap} {w0 : World}
variable (C : Ctx P call N ops ms mS hS eS rS)
variable {jt : Inj} {p : Nat} {S : Nat → Prop} {w : World} {a : Act}
theorem operand_looks {o : Oper} {t : Nat} (h : Operand.tmp t ∈ o.op.operands) : t ∈ o.looksAt ops :=
  List.mem_append_left _ (List.mem_filterMap.2 ⟨.tmp t, Array.mem_toList_iff.2 h, rfl⟩)
theorem guard_looks {o : Oper} {g : Nat} {want : Bool} {d : Tmp} (hg : o.guard = some (g, want)) (hd : (ops[g]?).bind (·.dst) = some d) : d ∈ o.looksAt ops := by
  unfold Oper.looksAt
  rw [hg]
  simp [hd]
include C
theorem Ctx.looks (I : Inv N ops mS hS eS j0 H0 w0 jt p S a.tmps w) {i : Nat} {o : Oper} (hi : ops[i]? = some o) (hSi : ¬ S i) (hready : ∀ e ∈ o.after, Region.binds .any e = true → S e.on) {t : Nat} (ht : t ∈ o.looksAt ops) (htN : t < N) :
    PutV (R jt (hS (max i p)).next) ((mS i).get t) (a.tmps.getD t undef) :=
  I.tm t i htN (Nat.le_of_lt (at_lt hi)) (C.cons_look I.closed hi hSi hready (.inl ht))
theorem Ctx.wanted (I : Inv N ops mS hS eS j0 H0 w0 jt p S a.tmps w) {i : Nat} {o : Oper} (hi : ops[i]? = some o) (hSi : ¬ S i) (hready : ∀ e ∈ o.after, Region.binds .any e = true → S e.on) {c : Bool} (h : wantedA ops (mS i) o = some c) :
    Region.wanted o (yielded ops a.tmps) = c :=
  wanted_of I.size (fun g want d hg hd => ⟨fun hlt => C.looks I hi hSi hready (guard_looks hg hd) hlt, fun hge => C.outs i (Nat.le_of_lt (at_lt hi)) d hge⟩) h
open Classical in
theorem Ctx.does (I : Inv N ops mS hS eS j0 H0 w0 jt p S a.tmps w) {i : Nat} {o : Oper} (hi : ops[i]? = some o) (hSi : ¬ S i) (hready : ∀ e ∈ o.after, Region.binds .any e = true → S e.on) {e : Eff} (h : aeff P (evA (mS i)) o = some e) :
    Does P (R jt (hS (max i p)).next) (execOp a.eval o) e := by
  have hc : aeff P (fun x => if x ∈ o.op.operands then evA (mS i) x else none) o = some e := by
    rw [← h]
    refine (aeff_congr fun x hx => ?_).symm
    rw [if_pos hx]
  refine does_of_aeff (fun x v hx => ?_) hc
  by_cases hm : x ∈ o.op.operands
  · rw [if_pos hm] at hx
    cases x with
    | tmp t =>
      have hx' : (mS i).get t = some v := hx
      have hlt : t < N := by
        rcases Nat.lt_or_ge t N with h | h
        · exact h
        · rw [C.outs i (Nat.le_of_lt (at_lt hi)) t h] at hx'; cases hx'
      have := C.looks I hi hSi hready (operand_looks hm) hlt
      rw [hx'] at this
      exact this
    | const c => exact conv_VR hx
    | global g => cases hx
    | func f =>
      injection hx with hx; subst hx
      exact VR.f' (vs := []) .nil
  · rw [if_neg hm] at hx; cases hx
omit C in
theorem closed_add (I : Inv N ops mS hS eS j0 H0 w0 jt p S a.tmps w) {i : Nat} {o : Oper} (hi : ops[i]? = some o) (hready : ∀ e ∈ o.after, Region.binds .any e = true → S e.on) :
    ∀ k o', ops[k]? = some o' → (S k ∨ k = i) → ∀ e ∈ o'.after, Region.binds .any e = true → (S e.on ∨ e.on = i) := by
  intro k o' hk hSk e he hb
  rcases hSk with h | h
  · exact .inl (I.closed k o' hk h e he hb)
  · subst h
    rw [hi] at hk; injection hk with hk; subst hk
    exact .inl (hready e he hb)
/-- what a load finds -/
theorem Ctx.load (I : Inv N ops mS hS eS j0 H0 w0 jt p S a.tmps w) {i : Nat} {o : Oper} (hi : ops[i]? = some o) (hSi : ¬ S i) (hready : ∀ e ∈ o.after, Region.binds .any e = true → S e.on) {b q n : Nat} {f : List AV → Option AV} (he : eS i = some (.r b q n f))
    {cs : List AV} (hrd : rd (hS i) b q n = some cs) {rb d m : Nat} (hj : R jt (hS (max i p)).next b = some (rb, d, m)) :
    ∃ vs, vs.length = n ∧ At w rb (q + d) vs ∧ VRs (R jt (hS (max (i + 1) p)).next) cs vs := by
  have hil := at_lt hi
  have hpn := I.pn
  obtain ⟨hjb, hjt⟩ := R_some hj
  have loudSame : ∀ k e, k < ops.size → eS k = some e → loudE e = true → (k < i → ¬ S k) → (i < k → S k) → k ≠ i → sameA (hS k) (hS (k + 1)) b q n = true := by
    intro k e hk hek hle h1 h2 hne
    obtain ⟨ok, hok⟩ := at_of hk
    rcases Nat.lt_or_ge k i with hlt | hge
    · have hc := C.rdk i b q n f he hil k e hlt hek hle
      rw [Bool.or_eq_true] at hc
      refine hc.resolve_left fun hc => ?_
      rw [C.mask_get hi] at hc
      exact h1 hlt (mask_closed C.draw S I.closed i o hi hready hc)
    · have hc := C.ldk k e hek hk hle i b q n f (by omega) he
      rw [Bool.or_eq_true] at hc
      refine hc.resolve_left fun hc => ?_
      rw [C.mask_get hok] at hc
      exact hSi (mask_closed C.draw S I.closed k ok hok (I.closed k ok hok (h2 (by omega))) hc)
  have quietOf : ∀ k, ¬ (∃ e, eS k = some e ∧ loudE e = true) → ∀ e, eS k = some e → loudE e = false := by
    intro k hl e hek
    cases hle : loudE e with
    | false => rfl
    | true => exact absurd ⟨e, hek, hle⟩ hl
  have stepQ : ∀ k, k < ops.size → b < (hS k).next → ¬ (∃ e, eS k = some e ∧ loudE e = true) → (rd (hS k) b q n = some cs ↔ rd (hS (k + 1)) b q n = some cs) := by
    intro k hk hb hl
    rcases C.quiet hk (quietOf k hl) with h | ⟨c, g, _, h⟩
    · rw [h]
    · rw [h]
      unfold rd
      rw [get_alloc, if_neg (by omega)]
  rcases Nat.lt_or_ge i p with hip | hpi
  · -- it comes up behind ones that stand behind it
    have hmax : max i p = p := by omega
    have hmax' : max (i + 1) p = p := by omega
    rw [hmax] at hj hjb
    have hbi : b < (hS i).next := by
      rcases Nat.lt_or_ge b (hS i).next with h | h
      · exact h
      · obtain ⟨cells, hc, _⟩ := bind_some' hrd
        rw [I.fresh i (by omega) b h] at hc; cases hc
    have up : ∀ k, i ≤ k → k ≤ p → rd (hS k) b q n = some cs := by
      intro k
      induction k with
      | zero => intro h1 _; have : i = 0 := by omega
                subst this; exact hrd
      | succ k ih =>
        intro h1 h2
        by_cases e : i = k + 1
        · subst e; exact hrd
        · have ihk := ih (by omega) (by omega)
          by_cases hl : ∃ e, eS k = some e ∧ loudE e = true
          · obtain ⟨e, hek, hle⟩ := hl
            have hki : k ≠ i := by
              intro h; subst h
              rw [he] at hek; injection hek with hek; subst hek; cases hle
            obtain ⟨ok, hok⟩ := at_of (ops := ops) (k := k) (by omega)
            exact (sameA_rd (loudSame k e (by omega) hek hle (fun h => by omega) (fun _ => (I.loudp k ok hok (C.loud_static hok hek hle)).2 (by omega)) hki)).1 ihk
          · exact (stepQ k (by omega) (Nat.lt_of_lt_of_le hbi (C.next_mono (by omega) (by omega))) hl).1 ihk
    obtain ⟨vs, g1, g2, g3⟩ := I.rel.rd (up p (by omega) (Nat.le_refl _)) hj
    exact ⟨vs, g1, g2, by rw [hmax']; exact g3⟩
  · have hmax : max i p = i := by omega
    have hmax' : max (i + 1) p = i + 1 := by omega
    rw [hmax] at hj hjb
    rw [hmax']
    have down : ∀ k0, p ≤ k0 → k0 ≤ i → b < (hS k0).next → rd (hS k0) b q n = some cs := by
      intro k0 hp0 hi0 hb0
      have : ∀ s, s ≤ i - k0 → rd (hS (i - s)) b q n = some cs := by
        intro s
        induction s with
        | zero => intro _; exact hrd
        | succ s ih =>
          intro hs
          have ihs := ih (by omega)
          have e1 : i - s = (i - (s + 1)) + 1 := by omega
          rw [e1] at ihs
          generalize hk : i - (s + 1) = k at ihs
          by_cases hl : ∃ e, eS k = some e ∧ loudE e = true
          · obtain ⟨e, hek, hle⟩ := hl
            obtain ⟨ok, hok⟩ := at_of (ops := ops) (k := k) (by omega)
            refine (sameA_rd (loudSame k e (by omega) hek hle (fun _ hSk => ?_) (fun h => by omega) (by omega))).2 ihs
            have := (I.loudp k ok hok (C.loud_static hok hek hle)).1 hSk
            omega
          · exact (stepQ k (by omega) (Nat.lt_of_lt_of_le hb0 (C.next_mono (by omega) (by omega))) hl).2 ihs
      have := this (i - k0) (by omega)
      rwa [show i - (i - k0) = k0 by omega] at this
    rcases Nat.lt_or_ge b (hS p).next with hbp | hbp
    · obtain ⟨vs, g1, g2, g3⟩ := I.rel.rd (down p (Nat.le_refl _) hpi hbp) (R_mk hbp hjt)
      exact ⟨vs, g1, g2, VRs.mono (R_mono (C.next_mono (by omega) (by omega))) g3⟩
    · obtain ⟨k, c, g, hSk, hpk, hkn, hek, hbk⟩ := I.dom b _ hjt hbp
      subst hbk
      have hki : k < i := by
        rcases Nat.lt_or_ge k i with h | h
        · exact h
        · have := C.next_mono h (by omega); omega
      obtain ⟨rb', sz, f1, f2, f3, f4⟩ := I.fut k c g hSk hpk hkn hek
      rw [hjt] at f1; injection f1 with f1; injection f1 with e1 f1; injection f1 with e2 e3
      subst e1; subst e2; subst e3
      have hq : ∀ e, eS k = some e → loudE e = false := by
        intro e h; rw [hek] at h; injection h with h; subst h; rfl
      have hal : hS (k + 1) = alloc (hS k) c := by
        rcases C.quiet hkn hq with h | ⟨c', g', h', h⟩
        · exfalso
          obtain ⟨ok, hok⟩ := at_of hkn
          rcases (C.step k ok hok).eff with ⟨_, e', he', _, hde⟩ | ⟨_, hn, _, _⟩
          · rw [hek] at he'; injection he' with he'; subst he'
            injection hde with hde; injection hde with _ hde
            rw [h] at hde
            have := congrArg Heap.next hde
            have h3 : (alloc (hS k) c).next = (hS k).next + 1 := rfl
            omega
          · rw [hek] at hn; cases hn
        · rw [hek] at h'; injection h' with h'; injection h' with h1 h2; subst h1; exact h
      have hlt : (hS k).next < (hS (k + 1)).next := by rw [hal]; exact Nat.lt_succ_self _
      have hr := down (k + 1) (by omega) (by omega) hlt
      obtain ⟨cells, hcl, hsub⟩ := bind_some' hr
      rw [hal, get_alloc, if_pos rfl] at hcl
      injection hcl with hcl; subst hcl
      obtain ⟨vs, g1, g2, g3⟩ := f2.at hsub
      exact ⟨vs, g1, g2, VRs.mono (R_mono (C.next_mono (by omega) (by omega))) g3⟩
end
end Go.Proofs.YthnhdgcaolgdnaaAn
