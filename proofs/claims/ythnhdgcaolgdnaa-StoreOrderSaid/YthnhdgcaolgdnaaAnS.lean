/- Regions that draw their order: every order, to the end. -/
import Derived.Test.YthnhdgcaolgdnaaAnR
set_option linter.unusedVariables false
set_option linter.unusedSimpArgs false
namespace Go.Proofs.YthnhdgcaolgdnaaAn
open Go

def Un (l : Array Bool) : Nat → Nat
  | 0 => 0
  | k + 1 => Un l k + (if l.getD k false = true then 0 else 1)
theorem Un_zero {l : Array Bool} : ∀ {n : Nat}, Un l n = 0 → ∀ k, k < n → l.getD k false = true
  | 0, _, k, hk => by omega
  | n + 1, h, k, hk => by
    simp only [Un] at h
    by_cases e : k = n
    · subst e
      by_cases hl : l.getD k false = true
      · exact hl
      · rw [if_neg hl] at h; omega
    · exact Un_zero (n := n) (by omega) k (by omega)
theorem Un_set {l : Array Bool} {i : Nat} (hi : i < l.size) (hl : l.getD i false = false) : ∀ {n : Nat}, (i < n → Un (l.setIfInBounds i true) n + 1 = Un l n) ∧ (n ≤ i → Un (l.setIfInBounds i true) n = Un l n)
  | 0 => ⟨fun h => by omega, fun _ => rfl⟩
  | n + 1 => by
    obtain ⟨h1, h2⟩ := Un_set (n := n) hi hl
    simp only [Un]
    by_cases e : n = i
    · subst e
      have g1 : (l.setIfInBounds n true).getD n false = true := by simp [Array.getD, hi]
      rw [if_pos g1, if_neg (by rw [hl]; simp), h2 (Nat.le_refl _)]
      exact ⟨fun _ => by omega, fun h => by omega⟩
    · have g1 : (l.setIfInBounds i true).getD n false = l.getD n false := getD_set_ne false (Ne.symm e)
      rw [g1]
      exact ⟨fun h => by have := h1 (by omega); omega, fun h => by rw [h2 (by omega)]⟩
theorem R_add_ge {jt : Inj} {B b : Nat} {x : Nat × Nat × Nat} (h : B ≤ b) : R (jt.add b x) B = R jt B := by
  funext k
  unfold R
  by_cases hk : k < B
  · rw [if_pos hk, if_pos hk, Inj.add_ne _ _ (by omega)]
  · rw [if_neg hk, if_neg hk]

section
variable {P : Program} {call : CallA} {N : Nat} {ops : Array Oper} {ms : List Nat} {mS : Nat → T AV} {hS : Nat → Heap} {eS : Nat → Option Eff} {rS : Nat → Option AV} {j0 : Inj} {H0 : Heap} {w0 : World}
variable (C : Ctx P call N ops ms mS hS eS rS)
include C
theorem Ctx.alloc_at {k : Nat} (hk : k < ops.size) {c : List AV} {g : Nat → AV} (he : eS k = some (.a c g)) : hS (k + 1) = alloc (hS k) c ∧ rS k = some (g (hS k).next) := by
  obtain ⟨o, ho⟩ := at_of hk
  rcases (C.step k o ho).eff with ⟨_, e', he', _, hde⟩ | ⟨_, hn, _, _⟩
  · rw [he] at he'; injection he' with he'; subst he'
    injection hde with hde; injection hde with h1 h2
    exact ⟨h2.symm, h1.symm⟩
  · rw [he] at hn; cases hn
theorem Ctx.alloc_lt {k : Nat} (hk : k < ops.size) {c : List AV} {g : Nat → AV} (he : eS k = some (.a c g)) : (hS k).next < (hS (k + 1)).next := by
  rw [(C.alloc_at hk he).1]; exact Nat.lt_succ_self _
theorem Ctx.alloc_ne {k i : Nat} (hk : k < ops.size) (hi : i < ops.size) (hne : k ≠ i) {c c' : List AV} {g g' : Nat → AV} (he : eS k = some (.a c g)) (he' : eS i = some (.a c' g')) : (hS k).next ≠ (hS i).next := by
  rcases Nat.lt_or_ge k i with h | h
  · have := C.alloc_lt hk he
    have := C.next_mono (k := k + 1) (k' := i) (by omega) (by omega)
    omega
  · have := C.alloc_lt hi he'
    have := C.next_mono (k := i + 1) (k' := k) (by omega) (by omega)
    omega
variable {jt : Inj} {p : Nat} {S : Nat → Prop} {w : World} {a : Act}
/-- an operation that makes nothing, and is not loud, has come up -/
theorem Ctx.inv_quiet (I : Inv N ops mS hS eS j0 H0 w0 jt p S a.tmps w) {i : Nat} {o : Oper} (hi : ops[i]? = some o) (hSi : ¬ S i) (hready : ∀ e ∈ o.after, Region.binds .any e = true → S e.on) (hl : loud o = false) (hna : ∀ c g, eS i ≠ some (.a c g))
    {v' : Value} (hv : PutV (R jt (hS (max (i + 1) p)).next) (rS i) v') : Inv N ops mS hS eS j0 H0 w0 jt p (fun x => S x ∨ x = i) (a.put o.dst v').tmps w where
  closed := closed_add I hi hready
  loudp := fun k o' hk hlo => by
    have hne : k ≠ i := fun e => by subst e; rw [hi] at hk; injection hk with hk; subst hk; rw [hl] at hlo; cases hlo
    exact ⟨fun h => (I.loudp k o' hk hlo).1 (h.resolve_right hne), fun h => .inl ((I.loudp k o' hk hlo).2 h)⟩
  made := fun k o' hk hm hlt => .inl (I.made k o' hk hm hlt)
  pn := I.pn
  rel := I.rel
  fresh := I.fresh
  dom := fun b x hb hge => let ⟨k, c, f, h1, h2⟩ := I.dom b x hb hge; ⟨k, c, f, .inl h1, h2⟩
  fut := fun k c f hk h1 h2 h3 => by
    rcases hk with hk | hk
    · exact I.fut k c f hk h1 h2 h3
    · subst hk; exact absurd h3 (hna c f)
  futinj := fun k c f k' c' f' hk h1 h2 h3 hk' h1' h2' h3' => by
    rcases hk with hk | hk
    · rcases hk' with hk' | hk'
      · exact I.futinj k c f k' c' f' hk h1 h2 h3 hk' h1' h2' h3'
      · subst hk'; exact absurd h3' (hna c' f')
    · subst hk; exact absurd h3 (hna c f)
  tm := C.tm_step I hi hSi (Nat.le_refl _) I.pn (fun B _ => Inj.le_refl _) rfl hv
  size := by
    have := I.size
    cases hd : o.dst with
    | none => exact this
    | some d => show (a.tmps.setIfInBounds d v').size = N; rw [Array.size_setIfInBounds]; exact this
  ext := I.ext
theorem Ctx.finish (I : Inv N ops mS hS eS j0 H0 w0 jt p S a.tmps w) (hall : ∀ k, k < ops.size → S k) :
    ∃ j', TRel j' N (mS ops.size) a.tmps ∧ Rel j' (hS ops.size) w ∧ Ext j0 H0 w0 j' (hS ops.size) w := by
  have hpn := I.pn
  obtain ⟨h1, h2, _, _⟩ := C.advance I hpn (Nat.le_refl _) (fun k o hpk hk hok => by
      cases hlo : loud o with
      | false => rfl
      | true => have := (I.loudp k o hok hlo).1 (hall k hk); omega) (fun k o _ hk _ _ => hall k hk)
  refine ⟨_, ⟨I.size, fun t ht => ?_, fun t ht => C.outs _ (Nat.le_refl _) t ht⟩, h1, h2⟩
  have := I.tm t ops.size ht (Nat.le_refl _) (fun x y hx _ => ⟨fun h => hall x h, fun h => absurd (at_lt hx) (by omega)⟩)
  rwa [Nat.max_eq_left hpn] at this
/-- an operation that makes a block has come up -/
theorem Ctx.inv_make (I : Inv N ops mS hS eS j0 H0 w0 jt p S a.tmps w) {i : Nat} {o : Oper} (hi : ops[i]? = some o) (hSi : ¬ S i) (hready : ∀ e ∈ o.after, Region.binds .any e = true → S e.on) (hl : loud o = false) {c : List AV} {g : Nat → AV} (he : eS i = some (.a c g))
    {w' : World} {cs' : Array Value} {ty : TypeId} {lo hi' dr : Nat} {v' : Value} (hw' : w' = { w with heap := w.heap.push (.cells cs' ty (lo, hi')), drawn := w.drawn + dr }) (hfz : lo = hi' ∨ cs'.size ≤ lo)
    {vs rest : List Value} (hcs : cs'.toList = vs ++ rest) (hvs : VRs (R jt (hS (max i p)).next) c vs) (hvr : ∀ (j' : Inj) (id : Nat), (R jt (hS (max i p)).next).le j' → j' id = some (w.heap.size, 0, cs'.size) → VR j' (g id) v') :
    Inv N ops mS hS eS j0 H0 w0 (jt.add (hS i).next (w.heap.size, 0, cs'.size)) p (fun x => S x ∨ x = i) (a.put o.dst v').tmps w' := by
  have hil := at_lt hi
  have hpn := I.pn
  have hpi : p ≤ i := by
    rcases Nat.lt_or_ge i p with h | h
    · exact absurd (I.made i o hi (C.makes_static hi he hl) h) hSi
    · exact h
  have hmax : max i p = i := by omega
  have hmax' : max (i + 1) p = i + 1 := by omega
  rw [hmax] at hvs hvr
  have hge : (hS p).next ≤ (hS i).next := C.next_mono hpi (by omega)
  have hjn : jt (hS i).next = none := by
    cases hj : jt (hS i).next with
    | none => rfl
    | some x =>
      obtain ⟨k, c', f', h1, h2, h3, h4, h5⟩ := I.dom _ x hj hge
      have hne : i ≠ k := fun e => hSi (e ▸ h1)
      exact absurd h5 (C.alloc_ne hil h3 hne he h4)
  have hle : jt.le (jt.add (hS i).next (w.heap.size, 0, cs'.size)) := Inj.le_add _ hjn
  have hleB : ∀ B, (R jt B).le (R (jt.add (hS i).next (w.heap.size, 0, cs'.size)) B) := fun B b x hb => let ⟨h1, h2⟩ := R_some hb; R_mk h1 (hle b x h2)
  have hold : ∀ k, k < w.heap.size → w'.heap[k]? = w.heap[k]? := by
    intro k hk
    rw [hw']
    show (w.heap.push _)[k]? = _
    rw [Array.getElem?_push, if_neg (by omega)]
  have hRp : R (jt.add (hS i).next (w.heap.size, 0, cs'.size)) (hS p).next = R jt (hS p).next := R_add_ge hge
  have hother : ∀ k c' f', S k → p ≤ k → k < ops.size → eS k = some (.a c' f') → (jt.add (hS i).next (w.heap.size, 0, cs'.size)) (hS k).next = jt (hS k).next := by
    intro k c' f' h1 h2 h3 h4
    exact Inj.add_ne _ _ (C.alloc_ne h3 hil (fun e => hSi (e ▸ h1)) h4 he)
  refine ⟨closed_add I hi hready, ?_, fun k o' hk hm hlt => .inl (I.made k o' hk hm hlt), I.pn, by rw [hRp]; exact I.rel.grow hold, I.fresh, ?_, ?_, ?_, ?_, ?_, ?_⟩
  · intro k o' hk hlo
    have hne : k ≠ i := fun e => by subst e; rw [hi] at hk; injection hk with hk; subst hk; rw [hl] at hlo; cases hlo
    exact ⟨fun h => (I.loudp k o' hk hlo).1 (h.resolve_right hne), fun h => .inl ((I.loudp k o' hk hlo).2 h)⟩
  · intro b x hb hbge
    by_cases e : b = (hS i).next
    · exact ⟨i, c, g, .inr rfl, hpi, hil, he, e⟩
    · rw [Inj.add_ne _ _ e] at hb
      obtain ⟨k, c', f', h1, h2⟩ := I.dom b x hb hbge
      exact ⟨k, c', f', .inl h1, h2⟩
  · intro k c' f' hk h1 h2 h3
    by_cases e : k = i
    · subst e
      rw [he] at h3; injection h3 with h3; injection h3 with h3 h4; subst h3
      refine ⟨w.heap.size, cs'.size, Inj.add_same _ _ _, ?_, ?_, I.ext.size⟩
      · rw [R_add_ge (Nat.le_refl _)]
        exact ⟨cs', ty, lo, hi', by rw [hw']; simp, rfl, .inr hfz, [], vs, rest, by simpa using hcs, rfl, hvs⟩
      · rw [hRp]
        rintro ⟨b, cells, d, n, hb, hj⟩
        have := (I.rel.blk b cells _ d n hb hj).lt
        omega
    · have hSk := hk.resolve_right e
      obtain ⟨rb, sz, f1, f2, f3, f4⟩ := I.fut k c' f' hSk h1 h2 h3
      refine ⟨rb, sz, by rw [hother k c' f' hSk h1 h2 h3]; exact f1, (f2.mono (hleB _)).same (hold rb f2.lt), by rw [hRp]; exact f3, f4⟩
  · intro k c1 f1 k' c2 f2 hk h1 h2 h3 hk' h1' h2' h3' rb sz sz' hj hj'
    by_cases e : k = i
    · by_cases e' : k' = i
      · rw [e, e']
      · exfalso
        have hSk' := hk'.resolve_right e'
        rw [hother k' c2 f2 hSk' h1' h2' h3'] at hj'
        subst e
        rw [Inj.add_same] at hj; injection hj with hj; injection hj with hj _
        obtain ⟨rb2, sz2, q1, q2, _, _⟩ := I.fut k' c2 f2 hSk' h1' h2' h3'
        rw [q1] at hj'; injection hj' with hj'; injection hj' with hj' _
        have := q2.lt; omega
    · have hSk := hk.resolve_right e
      rw [hother k c1 f1 hSk h1 h2 h3] at hj
      by_cases e' : k' = i
      · exfalso
        subst e'
        rw [Inj.add_same] at hj'; injection hj' with hj'; injection hj' with hj' _
        obtain ⟨rb2, sz2, q1, q2, _, _⟩ := I.fut k c1 f1 hSk h1 h2 h3
        rw [q1] at hj; injection hj with hj; injection hj with hj _
        have := q2.lt; omega
      · have hSk' := hk'.resolve_right e'
        rw [hother k' c2 f2 hSk' h1' h2' h3'] at hj'
        exact I.futinj k c1 f1 k' c2 f2 hSk h1 h2 h3 hSk' h1' h2' h3' rb sz sz' hj hj'
  · refine C.tm_step I hi hSi (Nat.le_refl _) I.pn (fun B _ => hleB B) rfl ?_
    rw [hmax', (C.alloc_at hil he).2]
    exact hvr _ _ (Inj.le_trans (hleB _) (R_mono (C.next_succ hil))) (R_mk (C.alloc_lt hil he) (Inj.add_same _ _ _))
  · have := I.size
    cases hd : o.dst with
    | none => exact this
    | some d => show (a.tmps.setIfInBounds d v').size = N; rw [Array.size_setIfInBounds]; exact this
  · rw [hRp]
    refine I.ext.trans (Ext.grow hold ?_ ?_ ?_ ?_)
    · rw [hw']; show w.heap.size ≤ (w.heap.push _).size; simp
    · rw [hw']
    · rw [hw']
    · rw [hw']
/-- a loud operation has come up -/
theorem Ctx.inv_loud (I : Inv N ops mS hS eS j0 H0 w0 jt p S a.tmps w) {i : Nat} {o : Oper} (hi : ops[i]? = some o) (hSi : ¬ S i) (hready : ∀ e ∈ o.after, Region.binds .any e = true → S e.on) (hl : loud o = true) :
    p ≤ i ∧ Rel (R jt (hS i).next) (hS i) w ∧ ∀ {j' : Inj} {w' : World} {v' : Value}, PutV j' (rS i) v' → Rel j' (hS (i + 1)) w' → Ext (R jt (hS i).next) (hS i) w j' (hS (i + 1)) w' →
      ∃ jt', Inv N ops mS hS eS j0 H0 w0 jt' (i + 1) (fun x => S x ∨ x = i) (a.put o.dst v').tmps w' := by
  have hil := at_lt hi
  have hpn := I.pn
  have hpi : p ≤ i := by
    rcases Nat.lt_or_ge i p with h | h
    · exact absurd ((I.loudp i o hi hl).2 h) hSi
    · exact h
  -- loud ones ahead of it have come up, those behind it have not
  have before : ∀ k o', ops[k]? = some o' → loud o' = true → k < i → S k := by
    intro k o' hk hlo hlt
    have hb := C.bit hk hi hlt (by intro h; simp only [Bool.and_eq_true, hlo, hl] at h; simp at h)
    exact mask_closed C.draw S I.closed i o hi hready hb
  have behind : ∀ k o', ops[k]? = some o' → loud o' = true → i < k → ¬ S k := by
    intro k o' hk hlo hlt hSk
    have hb := C.bit hi hk hlt (by intro h; simp only [Bool.and_eq_true, hlo, hl] at h; simp at h)
    exact hSi (mask_closed C.draw S I.closed k o' hk (I.closed k o' hk hSk) hb)
  have madeI : ∀ k o', ops[k]? = some o' → makes o' = true → k < i → S k := by
    intro k o' hk hm hlt
    have hb := C.bit hk hi hlt (by intro h; simp only [Bool.and_eq_true, hm, hl] at h; simp at h)
    exact mask_closed C.draw S I.closed i o hi hready hb
  obtain ⟨a1, a2, a3, a4⟩ := C.advance I hpi (Nat.le_of_lt hil) (fun k o' h1 h2 hk => by
      cases hlo : loud o' with
      | false => rfl
      | true => have := (I.loudp k o' hk hlo).1 (before k o' hk hlo h2); omega) (fun k o' _ h2 hk hm => madeI k o' hk hm h2)
  refine ⟨hpi, a1, fun {j' w' v'} hv hrel hext => ?_⟩
  have hna : ∀ c g, eS i ≠ some (.a c g) := by
    intro c g he
    rcases (C.step i o hi).eff with ⟨hwanted, e', he', ha, hdo⟩ | ⟨_, hn, _, _⟩
    · rw [he] at he'; injection he' with he'; subst he'
      obtain ⟨dst, op, type, pos, after, guard⟩ := o
      cases op
      case store t a x =>
        simp only [aeff] at ha
        split at ha
        · obtain ⟨_, _, ha⟩ := bind_some' ha
          obtain ⟨_, ha⟩ := cond_some ha
          cases ha
        · cases ha
      case convert s d x =>
        simp only [aeff] at ha
        obtain ⟨v, _, ha⟩ := bind_some' ha
        have hsd : s = d := beq_eq' hl
        subst hsd
        unfold convertA at ha
        split at ha
        · cases ha
        · cases ha
        · rename_i h1 h2 _
          rw [h1] at h2; cases h2
        · rename_i h1 h2 _
          rw [h1] at h2; cases h2
        · rename_i h1 h2 _
          rw [h1] at h2; cases h2
        · rename_i h1 h2 _
          rw [h1] at h2; cases h2
        · split at ha
          · obtain ⟨_, ha⟩ := cond_some ha
            cases ha
          · cases ha
        · cases ha
      case call cc =>
        simp only [aeff] at ha
        obtain ⟨args, _, ha'⟩ := bind_some' ha
        clear ha
        obtain ⟨callee, cargs, cty⟩ := cc
        cases callee with
        | value g' =>
          simp only at ha'
          split at ha'
          · obtain ⟨_, ha'⟩ := cond_some ha'; cases ha'
          · cases ha'
        | invoke r n => cases ha'
        | builtin b =>
          simp only at ha'
          unfold builtinA at ha'
          split at ha'
          · cases hl
          · cases hl
          · cases hl
          · cases hl
          · obtain ⟨_, _, ha'⟩ := bind_some' ha'
            obtain ⟨_, _, ha'⟩ := bind_some' ha'
            split at ha'
            · split at ha'
              · obtain ⟨_, _, ha'⟩ := bind_some' ha'
                obtain ⟨_, _, ha'⟩ := bind_some' ha'
                obtain ⟨_, ha'⟩ := cond_some ha'
                cases ha'
              · obtain ⟨_, _, ha'⟩ := bind_some' ha'
                obtain ⟨_, _, ha'⟩ := bind_some' ha'
                obtain ⟨_, ha'⟩ := cond_some ha'
                cases ha'
              · cases ha'
            · cases ha'
          · obtain ⟨_, _, ha'⟩ := bind_some' ha'
            obtain ⟨_, _, ha'⟩ := bind_some' ha'
            obtain ⟨_, _, ha'⟩ := bind_some' ha'
            split at ha'
            · cases ha'
            · cases ha'
            · obtain ⟨_, ha'⟩ := cond_some ha'
              generalize Nat.beq _ 0 = cb at ha'
              cases cb
              · rw [cond_false] at ha'
                obtain ⟨_, _, ha'⟩ := map_some' ha'
                cases ha'
              · cases ha'
            · cases ha'
          · obtain ⟨_, _, ha'⟩ := bind_some' ha'
            split at ha'
            · cases ha'
            · cases ha'
            · generalize Nat.beq _ 0 = cb at ha'
              cases cb
              · rw [cond_false] at ha'
                obtain ⟨_, _, ha'⟩ := bind_some' ha'
                obtain ⟨_, ha'⟩ := cond_some ha'
                cases ha'
              · cases ha'
            · cases ha'
          · cases ha'
      all_goals (simp only [loud] at hl; cases hl)
    · rw [he] at hn; cases hn
  have hin : (hS i).next ≤ (hS (i + 1)).next := C.next_succ hil
  let jt' : Inj := fun b => if b < (hS (i + 1)).next then j' b else jt b
  have hlo : ∀ b, b < (hS (i + 1)).next → jt' b = j' b := fun b h => if_pos h
  have hhi : ∀ b, (hS (i + 1)).next ≤ b → jt' b = jt b := fun b h => if_neg (by omega)
  have hR' : R jt' (hS (i + 1)).next = j' := by
    funext b
    unfold R
    by_cases h : b < (hS (i + 1)).next
    · rw [if_pos h, hlo b h]
    · rw [if_neg h]
      cases hj : j' b with
      | none => rfl
      | some x => exact absurd (hrel.dom b x hj) h
  have hleB : ∀ B, (R jt B).le (R jt' B) := by
    intro B b x hb
    obtain ⟨h1, h2⟩ := R_some hb
    refine R_mk h1 ?_
    rcases Nat.lt_or_ge b (hS (i + 1)).next with h | h
    · rw [hlo b h]
      rcases Nat.lt_or_ge b (hS i).next with h' | h'
      · exact hext.le b x (R_mk h' h2)
      · exfalso
        obtain ⟨k, c, f, g1, g2, g3, g4, g5⟩ := I.dom b x h2 (Nat.le_trans (C.next_mono hpi (by omega)) h')
        have hne : k ≠ i := fun e => hSi (e ▸ g1)
        rcases Nat.lt_or_ge k i with hk | hk
        · have := C.alloc_lt g3 g4
          have := C.next_mono (k := k + 1) (k' := i) (by omega) (by omega)
          omega
        · have := C.next_mono (k := i + 1) (k' := k) (by omega) (by omega)
          omega
    · rw [hhi b h]; exact h2
  have behindNext : ∀ k, i + 1 ≤ k → k < ops.size → (hS (i + 1)).next ≤ (hS k).next := fun k h1 h2 => C.next_mono h1 (by omega)
  have ownBack : ∀ k c f rb sz, S k → i + 1 ≤ k → k < ops.size → eS k = some (.a c f) → jt (hS k).next = some (rb, 0, sz) → rb < w.heap.size → ¬ Own (R jt (hS i).next) (hS i) rb := by
    intro k c f rb sz h1 h2 h3 h4 h5 _ hown
    obtain ⟨rb1, sz1, f1, f2, f3, f4⟩ := I.fut k c f h1 (by omega) h3 h4
    rw [h5] at f1; injection f1 with f1; injection f1 with e1 f1; subst e1
    rcases a3 rb hown with q | ⟨k', c', f', sz', q1, q2, q3, q4, q5⟩
    · exact f3 q
    · have := I.futinj k c f k' c' f' h1 (by omega) h3 h4 q1 q2 (by omega) q4 rb sz sz' h5 q5
      omega
  refine ⟨jt', closed_add I hi hready, ?_, ?_, by omega, by rw [hR']; exact hrel, ?_, ?_, ?_, ?_, ?_, ?_, ?_⟩
  · intro k o' hk hlk
    constructor
    · rintro (h | h)
      · rcases Nat.lt_or_ge i k with hlt | hge
        · exact absurd h (behind k o' hk hlk hlt)
        · omega
      · omega
    · intro h
      by_cases e : k = i
      · exact .inr e
      · exact .inl (before k o' hk hlk (by omega))
  · intro k o' hk hm hlt
    by_cases e : k = i
    · exact .inr e
    · exact .inl (madeI k o' hk hm (by omega))
  · intro k hk b hb
    by_cases e : k = i + 1
    · subst e; exact hrel.fresh b hb
    · exact a4 k (by omega) b hb
  · intro b x hb hge
    rw [hhi b hge] at hb
    obtain ⟨k, c, f, g1, g2, g3, g4, g5⟩ := I.dom b x hb (Nat.le_trans (C.next_mono (by omega) (by omega)) hge)
    refine ⟨k, c, f, .inl g1, ?_, g3, g4, g5⟩
    have hne : k ≠ i := fun e => hSi (e ▸ g1)
    rcases Nat.lt_or_ge k i with hk | hk
    · have := C.alloc_lt g3 g4
      have := C.next_mono (k := k + 1) (k' := i + 1) (by omega) (by omega)
      omega
    · omega
  · intro k c f hk h1 h2 h3
    have hSk := hk.resolve_right (by omega)
    obtain ⟨rb, sz, f1, f2, f3, f4⟩ := I.fut k c f hSk (by omega) h2 h3
    have hno := ownBack k c f rb sz hSk h1 h2 h3 f1 f2.lt
    refine ⟨rb, sz, by rw [hhi _ (behindNext k h1 h2)]; exact f1, (f2.mono (hleB _)).same (hext.keep rb f2.lt hno), ?_, f4⟩
    rw [hR']
    exact fun ho => hno (hext.own rb f2.lt ho)
  · intro k c1 f1 k' c2 f2 hk h1 h2 h3 hk' h1' h2' h3' rb sz sz' hj hj'
    rw [hhi _ (behindNext k h1 h2)] at hj
    rw [hhi _ (behindNext k' h1' h2')] at hj'
    exact I.futinj k c1 f1 k' c2 f2 (hk.resolve_right (by omega)) (by omega) h2 h3 (hk'.resolve_right (by omega)) (by omega) h2' h3' rb sz sz' hj hj'
  · refine C.tm_step I hi hSi (p' := i + 1) (by omega) (by omega) (fun B _ => hleB B) rfl ?_
    rw [Nat.max_self, hR']
    exact hv
  · have := I.size
    cases hd : o.dst with
    | none => exact this
    | some d => show (a.tmps.setIfInBounds d v').size = N; rw [Array.size_setIfInBounds]; exact this
  · rw [hR']
    exact a2.trans hext
end
end Go.Proofs.YthnhdgcaolgdnaaAn
