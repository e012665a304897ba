/- Whole functions: what the evaluator tells, the model comes to. -/
import Derived.Test.YthnhdgcaolgdnaaAnS
import Derived.Scope
set_option linter.unusedVariables false
set_option linter.unusedSimpArgs false
namespace Go.Proofs.YthnhdgcaolgdnaaAn
open Go

section
variable {P : Program} {call : CallA} {N : Nat} {ops : Array Oper} {ms : List Nat} {mS : Nat → T AV} {hS : Nat → Heap} {eS : Nat → Option Eff} {rS : Nat → Option AV} {j0 : Inj} {H0 : Heap} {w0 : World} {Q : Exit → Act → World → Prop} {d0 : List Deferred}
theorem Ctx.any (C : Ctx P call N ops ms mS hS eS rS) (hc : CallOk P call)
    (hQ : ∀ a' w' j', TRel j' N (mS ops.size) a'.tmps → a'.defers = d0 → Rel j' (hS ops.size) w' → Ext j0 H0 w0 j' (hS ops.size) w' → Q .normal a' w') :
    ∀ (fuel : Nat) (listed : Array Bool) (a : Act) (w : World) (jt : Inj) (p : Nat), Inv N ops mS hS eS j0 H0 w0 jt p (fun k => listed.getD k false = true) a.tmps w → listed.size = ops.size → a.defers = d0 → Un listed ops.size ≤ fuel →
      wpAny P .any ops Q fuel listed a w := by
  have done : ∀ (listed : Array Bool) (a : Act) (w : World) (jt : Inj) (p : Nat), Inv N ops mS hS eS j0 H0 w0 jt p (fun k => listed.getD k false = true) a.tmps w → a.defers = d0 → (∀ k, k < ops.size → listed.getD k false = true) → Q .normal a w := by
    intro listed a w jt p I hd hall
    obtain ⟨j', h1, h2, h3⟩ := C.finish I hall
    exact hQ a w j' h1 hd h2 h3
  intro fuel
  induction fuel with
  | zero =>
    intro listed a w jt p I hsz hd hu
    have hall := Un_zero (l := listed) (n := ops.size) (by omega)
    refine ⟨?_, done listed a w jt p I hd hall⟩
    rw [List.eq_nil_iff_forall_not_mem]
    intro i hi
    obtain ⟨h1, o, ho, _⟩ := mem_ready.1 hi
    have hil := at_lt ho
    have := hall i hil
    have hs : i < listed.size := by omega
    simp [Array.getD, hs] at h1 this
    rw [this] at h1; cases h1
  | succ fuel ih =>
    intro listed a w jt p I hsz hd hu
    refine ⟨fun h0 => done listed a w jt p I hd fun k => ?_, fun i hi => ?_⟩
    · induction k using Nat.strongRecOn with
      | _ k ihk =>
        intro hk
        cases hl : listed.getD k false with
        | true => rfl
        | false =>
          exfalso
          obtain ⟨o, ho⟩ := at_of hk
          have hs : k < listed.size := by omega
          have hmem : k ∈ Region.ready .any ops listed := mem_ready.2 ⟨by simp [Array.getD, hs] at hl ⊢; exact hl, o, ho, fun e he hb => by
            have hlt := edgesOk_spec (C.draw k o ho).edges e (Array.mem_toList_iff.2 he) hb
            exact ihk e.on hlt (by omega)⟩
          rw [h0] at hmem; cases hmem
    · obtain ⟨h1, o, ho, hready⟩ := mem_ready.1 hi
      have hil := at_lt ho
      have hs : i < listed.size := by omega
      have hSi : listed.getD i false = false := by simp [Array.getD, hs] at h1 ⊢; exact h1
      have hnS : ¬ (listed.getD i false = true) := by rw [hSi]; simp
      have hset : (fun k => (listed.setIfInBounds i true).getD k false = true) = (fun x => listed.getD x false = true ∨ x = i) := by
        funext k
        apply propext
        by_cases e : k = i
        · subst e; simp [Array.getD, hs]
        · rw [getD_set_ne false (Ne.symm e)]; simp [e]
      have hun : Un (listed.setIfInBounds i true) ops.size ≤ fuel := by
        have := (Un_set (n := ops.size) hs hSi).1 hil
        omega
      have next : ∀ (a' : Act) (w' : World) (jt' : Inj) (p' : Nat), Inv N ops mS hS eS j0 H0 w0 jt' p' (fun x => listed.getD x false = true ∨ x = i) a'.tmps w' → a'.defers = d0 → wpAny P .any ops Q fuel (listed.setIfInBounds i true) a' w' := by
        intro a' w' jt' p' I' hd'
        exact ih _ a' w' jt' p' (by rw [hset]; exact I') (by simp [hsz]) hd' hun
      unfold wpOp
      simp only [ho]
      rcases (C.step i o ho).eff with ⟨hw, e, he, hae, hde⟩ | ⟨hw, hen, hrn, hhe⟩
      · rw [C.wanted I ho hnS hready hw, if_pos rfl]
        refine .inl ?_
        have hdoes := C.does I ho hnS hready hae
        cases hlo : loud o with
        | true =>
          obtain ⟨hpi, hrel, hnext⟩ := C.inv_loud I ho hnS hready hlo
          rw [Nat.max_eq_left hpi] at hdoes
          refine op_wp hdoes hde hrel hc fun v' w' j' hv hr' hE => ?_
          obtain ⟨jt', I'⟩ := hnext hv hr' hE
          exact next _ w' jt' (i + 1) I' ((put_defers _ _ _).trans hd)
        | false =>
          unfold Oper.wp
          rcases quiet_eff hlo hae with ⟨v, rfl⟩ | ⟨b, q, n, k, rfl⟩ | ⟨c, k, rfl, hm⟩
          · obtain ⟨v', hv, hrun⟩ := hdoes
            rw [hrun w]
            injection hde with hde; injection hde with e1 e2
            have hq : ∀ c g, eS i ≠ some (.a c g) := by intro c g h; rw [he] at h; cases h
            refine next _ w jt p (C.inv_quiet I ho hnS hready hlo hq (v' := v') ?_) ((put_defers _ _ _).trans hd)
            rw [← e1]
            exact VR.mono (R_mono (C.next_mono (by omega) (by have := I.pn; omega))) hv
          · obtain ⟨rb, d, m, hj, hdo⟩ := hdoes
            obtain ⟨cs, hcs, hde⟩ := bind_some' hde
            obtain ⟨v, hkv, hde⟩ := map_some' hde
            injection hde with e1 e2
            obtain ⟨vs, g1, g2, g3⟩ := C.load I ho hnS hready he hcs hj
            obtain ⟨v', hv, hrun⟩ := hdo w vs g1 g2 _ cs v g3 hkv
            rw [hrun]
            have hq : ∀ c g, eS i ≠ some (.a c g) := by intro c g h; rw [he] at h; cases h
            refine next _ w jt p (C.inv_quiet I ho hnS hready hlo hq (v' := v') ?_) ((put_defers _ _ _).trans hd)
            rw [← e1]
            exact hv
          · obtain ⟨cs', ty, lo, hi', v', dr, g1, g2, ⟨vs, rest, g3, g4⟩, g5⟩ := hdoes w
            rw [g1]
            exact next _ _ _ p (C.inv_make I ho hnS hready hlo he rfl g2 g3 g4 g5) ((put_defers _ _ _).trans hd)
      · rw [C.wanted I ho hnS hready hw, if_neg (by simp)]
        cases hlo : loud o with
        | true =>
          obtain ⟨hpi, hrel, hnext⟩ := C.inv_loud I ho hnS hready hlo
          obtain ⟨jt', I'⟩ := hnext (v' := undef) (w' := w) (j' := R jt (hS i).next) (by rw [hrn]; exact rfl) (by rw [hhe]; exact hrel) (by rw [hhe]; exact Ext.refl _ _ _)
          exact next _ w jt' (i + 1) I' ((put_defers _ _ _).trans hd)
        | false =>
          have hq : ∀ c g, eS i ≠ some (.a c g) := by intro c g h; rw [hen] at h; cases h
          exact next _ w jt p (C.inv_quiet I ho hnS hready hlo hq (v' := undef) (by rw [hrn]; exact rfl)) ((put_defers _ _ _).trans hd)
end

/-! ### one operation later -/
theorem bltM {a b : Nat} (h : a < b) : Nat.blt a b = true := Nat.ble_eq_true_of_le h
theorem mvP_S {i j x : Nat} (h : i < j) : mvP i j (mvS i j x) = x := by
  unfold mvS mvP
  cases h1 : Nat.blt x i with
  | true => simp only [cond_true]; rw [h1]; rfl
  | false =>
    have h1 : ¬ x < i := fun h => by rw [bltM h] at h1; cases h1
    simp only [cond_false]
    cases h2 : Nat.beq x i with
    | true =>
      have h2 := beq_eq' h2
      subst h2
      simp only [cond_true]
      have e1 : Nat.blt j x = false := by cases hb : Nat.blt j x with
        | false => rfl
        | true => have := blt_lt hb; omega
      have e2 : Nat.blt j j = false := by cases hb : Nat.blt j j with
        | false => rfl
        | true => have := blt_lt hb; omega
      rw [e1, e2, Nat.beq_refl]; rfl
    | false =>
      have h2 : x ≠ i := fun e => by rw [e, Nat.beq_refl] at h2; cases h2
      simp only [cond_false]
      cases h3 : Nat.ble x j with
      | true =>
        have h3 := Nat.le_of_ble_eq_true h3
        simp only [cond_true]
        have e1 : Nat.blt (Nat.pred x) i = false := by cases hb : Nat.blt (Nat.pred x) i with
          | false => rfl
          | true => have := blt_lt hb; have : x.pred = x - 1 := rfl; omega
        have e2 : Nat.blt (Nat.pred x) j = true := bltM (by have : x.pred = x - 1 := rfl; omega)
        rw [e1, e2]
        show Nat.succ (Nat.pred x) = x
        have : x.pred = x - 1 := rfl
        omega
      | false =>
        have h3 : ¬ x ≤ j := fun h => by rw [Nat.ble_eq_true_of_le h] at h3; cases h3
        simp only [cond_false]
        have e1 : Nat.blt x i = false := by cases hb : Nat.blt x i with
          | false => rfl
          | true => have := blt_lt hb; omega
        have e2 : Nat.blt x j = false := by cases hb : Nat.blt x j with
          | false => rfl
          | true => have := blt_lt hb; omega
        have e3 : Nat.beq x j = false := by cases hb : Nat.beq x j with
          | false => rfl
          | true => have := beq_eq' hb; omega
        rw [e1, e2, e3]; rfl
theorem mvS_P {i j k : Nat} (h : i < j) : mvS i j (mvP i j k) = k := by
  unfold mvP
  cases h1 : Nat.blt k i with
  | true => simp only [cond_true]; unfold mvS; rw [h1]; rfl
  | false =>
    have h1' : ¬ k < i := fun h => by rw [bltM h] at h1; cases h1
    simp only [cond_false]
    cases h2 : Nat.blt k j with
    | true =>
      have h2 := blt_lt h2
      simp only [cond_true]
      unfold mvS
      have e1 : Nat.blt (Nat.succ k) i = false := by cases hb : Nat.blt (Nat.succ k) i with
        | false => rfl
        | true => have := blt_lt hb; omega
      have e2 : Nat.beq (Nat.succ k) i = false := by cases hb : Nat.beq (Nat.succ k) i with
        | false => rfl
        | true => have := beq_eq' hb; omega
      rw [e1, e2, Nat.ble_eq_true_of_le (show Nat.succ k ≤ j by omega)]; rfl
    | false =>
      have h2 : ¬ k < j := fun h => by rw [bltM h] at h2; cases h2
      simp only [cond_false]
      cases h3 : Nat.beq k j with
      | true =>
        have h3 := beq_eq' h3
        subst h3
        simp only [cond_true]
        unfold mvS
        have e1 : Nat.blt i i = false := by cases hb : Nat.blt i i with
          | false => rfl
          | true => have := blt_lt hb; omega
        rw [e1, Nat.beq_refl]; rfl
      | false =>
        have h3 : k ≠ j := fun e => by rw [e, Nat.beq_refl] at h3; cases h3
        simp only [cond_false]
        unfold mvS
        have e1 : Nat.blt k i = false := by cases hb : Nat.blt k i with
          | false => rfl
          | true => have := blt_lt hb; omega
        have e2 : Nat.beq k i = false := by cases hb : Nat.beq k i with
          | false => rfl
          | true => have := beq_eq' hb; omega
        have e3 : Nat.ble k j = false := by cases hb : Nat.ble k j with
          | false => rfl
          | true => have := Nat.le_of_ble_eq_true hb; omega
        rw [e1, e2, e3]; rfl
theorem mvP_lt {i j k n : Nat} (h : i < j) (hj : j < n) : mvP i j k < n ↔ k < n := by
  unfold mvP
  cases h1 : Nat.blt k i with
  | true => simp only [cond_true]
  | false =>
    simp only [cond_false]
    cases h2 : Nat.blt k j with
    | true => have h2 := blt_lt h2; simp only [cond_true]; omega
    | false =>
      simp only [cond_false]
      cases h3 : Nat.beq k j with
      | true => have h3 := beq_eq' h3; simp only [cond_true]; omega
      | false => simp only [cond_false]
theorem mvOps_size {ops : Array Oper} {i j : Nat} : (mvOps ops i j).size = ops.size := by
  unfold mvOps
  split
  · simp
  · rfl
theorem mvOps_at {ops : Array Oper} {i j : Nat} (h : i < j) (hj : j < ops.size) (k : Nat) : (mvOps ops i j)[k]? = (ops[mvP i j k]?).map (mvO i j) := by
  unfold mvOps
  rw [Array.getElem?_eq_getElem (show i < ops.size by omega)]
  simp only [List.getElem?_toArray, List.getElem?_map]
  by_cases hk : k < ops.size
  · have hp := (mvP_lt (k := k) h hj).2 hk
    rw [List.getElem?_range hk, Array.getElem?_eq_getElem hp]
    simp [Array.getD, hp]
  · have hp : ¬ mvP i j k < ops.size := fun h' => hk ((mvP_lt h hj).1 h')
    rw [List.getElem?_eq_none (by simp; omega), Array.getElem?_eq_none (by omega)]
    rfl
theorem noGuards_at : ∀ {l : List Oper}, noGuards l = true → ∀ o ∈ l, o.guard = none
  | [], _, o, ho => by cases ho
  | x :: l, h, o, ho => by
    unfold noGuards at h
    cases hg : x.guard with
    | some y => rw [hg] at h; cases h
    | none =>
      rw [hg] at h
      rcases List.mem_cons.1 ho with rfl | ho
      · exact hg
      · exact noGuards_at h o ho
theorem wpOp_mv {P : Program} {ops : Array Oper} {Q : Exit → Act → World → Prop} {i j x : Nat} {o : Oper} {K : Act → World → Prop} {a : Act} {w : World} (h : i < j) (hj : j < ops.size) (hx : ops[x]? = some o) (hg : o.guard = none) (hw : wpOp P (mvOps ops i j) Q (mvS i j x) K a w) : wpOp P ops Q x K a w := by
  have e : (mvOps ops i j)[mvS i j x]? = some (mvO i j o) := by rw [mvOps_at h hj, mvP_S h, hx]; rfl
  unfold wpOp at hw ⊢
  rw [e] at hw
  rw [hx]
  have w1 : ∀ y, Region.wanted (mvO i j o) y = true := fun y => by unfold Region.wanted mvO; rw [hg]
  have w2 : ∀ y, Region.wanted o y = true := fun y => by unfold Region.wanted; rw [hg]
  simp only [w1, if_true] at hw
  simp only [w2, if_true]
  exact hw
theorem wpAny_mv {P : Program} {ops : Array Oper} {Q : Exit → Act → World → Prop} {i j : Nat} (h : i < j) (hj : j < ops.size) (hg : noGuards ops.toList = true) : ∀ (fuel : Nat) (listed listed' : Array Bool) (a : Act) (w : World), listed.size = ops.size → listed'.size = ops.size → (∀ k, listed'.getD k false = listed.getD (mvP i j k) false) →
    wpAny P .any (mvOps ops i j) Q fuel listed' a w → wpAny P .any ops Q fuel listed a w := by
  have key : ∀ (listed listed' : Array Bool), listed.size = ops.size → listed'.size = ops.size → (∀ k, listed'.getD k false = listed.getD (mvP i j k) false) → ∀ x, x ∈ Region.ready .any ops listed ↔ mvS i j x ∈ Region.ready .any (mvOps ops i j) listed' := by
    intro listed listed' hs hs' hl x
    have gt : ∀ (l : Array Bool) (k : Nat), l.size = ops.size → k < ops.size → l.getD k true = l.getD k false := fun l k hz hk => by simp [Array.getD, hz, hk]
    rw [mem_ready, mem_ready, mvOps_at h hj, mvP_S h]
    have hmem : ∀ o : Oper, (∀ e ∈ o.after, Region.binds .any e = true → listed.getD e.on false = true) ↔ (∀ e ∈ (mvO i j o).after, Region.binds .any e = true → listed'.getD e.on false = true) := by
      intro o
      unfold mvO
      constructor
      · intro hh e he hb
        have he := Array.mem_toList_iff.2 he
        simp only [List.mem_map] at he
        obtain ⟨e0, h0, rfl⟩ := he
        have := hh e0 (Array.mem_toList_iff.1 h0) hb
        rw [hl, mvP_S h]; exact this
      · intro hh e he hb
        have := hh { e with on := mvS i j e.on } (Array.mem_toList_iff.1 (by simp only [List.mem_map]; exact ⟨e, Array.mem_toList_iff.2 he, rfl⟩)) hb
        rw [hl, mvP_S h] at this; exact this
    constructor
    · rintro ⟨h1, o, ho, h2⟩
      have hx := at_lt ho
      have hx' : mvS i j x < ops.size := (mvP_lt h hj).1 (by rw [mvP_S h]; exact hx)
      refine ⟨?_, mvO i j o, by rw [ho]; rfl, (hmem o).1 h2⟩
      rw [gt listed' _ hs' hx', hl, mvP_S h, ← gt listed _ hs hx]; exact h1
    · rintro ⟨h1, o', ho', h2⟩
      cases ho : ops[x]? with
      | none => rw [ho] at ho'; cases ho'
      | some o =>
        rw [ho] at ho'
        injection ho' with ho'
        subst ho'
        have hx := at_lt ho
        have hx' : mvS i j x < ops.size := (mvP_lt h hj).1 (by rw [mvP_S h]; exact hx)
        refine ⟨?_, o, rfl, (hmem o).2 h2⟩
        rw [gt listed' _ hs' hx', hl, mvP_S h, ← gt listed _ hs hx] at h1; exact h1
  have nil : ∀ (listed listed' : Array Bool), listed.size = ops.size → listed'.size = ops.size → (∀ k, listed'.getD k false = listed.getD (mvP i j k) false) → (Region.ready .any ops listed = [] ↔ Region.ready .any (mvOps ops i j) listed' = []) := by
    intro listed listed' hs hs' hl
    rw [List.eq_nil_iff_forall_not_mem, List.eq_nil_iff_forall_not_mem]
    refine ⟨fun hh k hk => hh (mvP i j k) ((key listed listed' hs hs' hl _).2 (by rw [mvS_P h]; exact hk)), fun hh x hx => hh _ ((key listed listed' hs hs' hl x).1 hx)⟩
  intro fuel
  induction fuel with
  | zero =>
    intro listed listed' a w hs hs' hl hw
    exact ⟨(nil listed listed' hs hs' hl).2 hw.1, hw.2⟩
  | succ fuel ih =>
    intro listed listed' a w hs hs' hl hw
    refine ⟨fun h0 => hw.1 ((nil listed listed' hs hs' hl).1 h0), fun x hx => ?_⟩
    obtain ⟨_, o, ho, _⟩ := mem_ready.1 hx
    have hxl := at_lt ho
    have := hw.2 _ ((key listed listed' hs hs' hl x).1 hx)
    refine wpOp_mv h hj ho (noGuards_at hg o (List.mem_of_getElem? (by simpa using ho))) (wpOp_mono (fun a w hh => ?_) this)
    refine ih _ _ a w (by simp [hs]) (by simp [hs']) (fun k => ?_) hh
    by_cases ek : k = mvS i j x
    · subst ek
      have hx' : mvS i j x < ops.size := (mvP_lt h hj).1 (by rw [mvP_S h]; exact hxl)
      rw [mvP_S h]
      simp [Array.getD, hs, hs', hx', hxl]
    · have hne : mvP i j k ≠ x := fun e => ek (by rw [← e, mvS_P h])
      rw [getD_set_ne false (Ne.symm ek), getD_set_ne false (Ne.symm hne)]; exact hl k
theorem tryMv_spec {ops ops' : Array Oper} {ms : List Nat} : ∀ {l : List (Nat × Nat)}, tryMv ops l = some (ops', ms) → drawMs ops' [] ops'.toList [] = some ms ∧ ∃ i j, i < j ∧ j < ops.size ∧ ops' = mvOps ops i j
  | [], h => by cases h
  | (i, j) :: l, h => by
    unfold tryMv at h
    split at h
    · rename_i ms' hc
      injection h with h; injection h with h1 h2
      subst h1; subst h2
      obtain ⟨h3, h4⟩ := cond_some hc
      simp only [Bool.and_eq_true] at h3
      exact ⟨h4, i, j, blt_lt h3.1, blt_lt h3.2, rfl⟩
    · exact tryMv_spec h
theorem lateMs_spec {P : Program} {ops ops' : Array Oper} {ms : List Nat} (h : lateMs ops = some (ops', ms)) : drawMs ops' [] ops'.toList [] = some ms ∧ ops'.size = ops.size ∧
    ∀ (Q : Exit → Act → World → Prop) (a : Act) (w : World), wpAny P .any ops' Q ops'.size (Array.replicate ops'.size false) a w → wpAny P .any ops Q ops.size (Array.replicate ops.size false) a w := by
  unfold lateMs at h
  split at h
  · rename_i ms' hms
    injection h with h; injection h with h1 h2
    subst h1; subst h2
    exact ⟨hms, rfl, fun _ _ _ h => h⟩
  · obtain ⟨hg, h⟩ := cond_some h
    obtain ⟨h1, i, j, h2, h3, rfl⟩ := tryMv_spec h
    refine ⟨h1, mvOps_size, fun Q a w hw => ?_⟩
    rw [mvOps_size] at hw
    refine wpAny_mv h2 h3 hg ops.size _ _ a w (by simp) (by simp) (fun k => ?_) hw
    simp only [Array.getD_eq_getD_getElem?, Array.getElem?_replicate]
    split <;> split <;> rfl
section
variable {P : Program} {call : CallA} {N : Nat} {ops : Array Oper} {Q : Exit → Act → World → Prop}
theorem region_draw (hm : P.follows .mixedOrders = true) (hc : CallOk P call) {id : Nat} {j : Inj} {m m' : T AV} {a : Act} {H H' : Heap} {w : World} {ms : List Nat} {ops' : Array Oper} (hlate : lateMs ops = some (ops', ms)) (h : drawA P call N ops' ops'.toList ms 0 m H [] [] = some (m', H'))
    (ht : TRel j N m a.tmps) (hR : Rel j H w)
    (hQ : ∀ a' w' j', TRel j' N m' a'.tmps → a'.defers = a.defers → Rel j' H' w' → Ext j H w j' H' w' → Q .normal a' w') : (Code.region id ops true).wp P Q a w := by
  obtain ⟨hms, _, hback⟩ := lateMs_spec (P := P) hlate
  obtain ⟨_, hdraw⟩ := drawMs_spec ops'.toList [] [] ms hms rfl (by simp)
  obtain ⟨mS, hS, eS, rS, hrun, h1, h2, h3, h4⟩ := drawA_spec ops'.toList ms 0 m H [] [] m' H' h
  have hlen : 0 + ops'.toList.length = ops'.size := by simp
  rw [hlen] at h3 h4
  have C : Ctx P call N ops' ms mS hS eS rS := by
    refine ⟨fun k o ho => ?_, fun k o ho => ?_, fun k b q n f he hk l e hl hel hle => ?_, fun k e he hk hle l b q n f hl hel => ?_, fun t ht' => ?_⟩
    · have := hdraw k o (by simpa using ho)
      simpa using this
    · have := hrun.step k o (by simpa using ho)
      simpa using this
    · have := hrun.rdk k b q n f (by simpa using hk) (by simpa using he) l e hl (by simpa using hel) hle
      simpa using this
    · have := hrun.ldk k e (by simpa using hk) (by simpa using he) hle l b q n f hl (by simpa using hel)
      simpa using this
    · rw [h1]; exact ht.out t ht'
  refine wp_region_any hm (hback _ _ _ ?_)
  have hf : ∀ k, (Array.replicate ops'.size false).getD k false = true → False := by
    intro k hk
    simp only [Array.getD_eq_getD_getElem?, Array.getElem?_replicate] at hk
    split at hk <;> cases hk
  have hRj : R j (hS 0).next = j := by rw [h2]; exact R_all hR
  refine C.any (j0 := j) (H0 := H) (w0 := w) (d0 := a.defers) hc (fun a' w' j' g1 g2 g3 g4 => hQ a' w' j' (by rw [← h3]; exact g1) g2 (by rw [← h4]; exact g3) (by rw [← h4]; exact g4)) ops'.size _ a _ j 0 ?_ (by simp) rfl ?_
  · refine ⟨fun k o _ hk => (hf k hk).elim, fun k o _ _ => ⟨fun hk => (hf k hk).elim, fun hk => by omega⟩, fun k o _ _ hk => by omega, Nat.zero_le _, ?_, fun k hk b hb => ?_, fun b x hb hge => ?_, fun k c f hk => (hf k hk).elim, fun k c f k' c' f' hk => (hf k hk).elim, fun t k htN hk hcons => ?_, ht.size, ?_⟩
    · rw [hRj, h2]; exact hR.drawn _
    · have : k = 0 := by omega
      subst this
      rw [h2] at hb ⊢
      exact hR.fresh b hb
    · have := hR.dom b x hb
      rw [h2] at hge; omega
    · have hk0 : (mS k).get t = (mS 0).get t := C.kept (Nat.zero_le _) hk fun x y _ hxk hx hd => (hf x ((hcons x y hx hd).1 hxk)).elim
      rw [hk0, h1]
      refine (ht.get t htN).mono ?_
      have : (R j (hS 0).next).le (R j (hS (max k 0)).next) := R_mono (C.next_mono (Nat.zero_le _) (by omega))
      rwa [hRj] at this
    · rw [hRj, h2]; exact Ext.drawn j H w _
  · have : ∀ n, Un (Array.replicate ops'.size false) n ≤ n := by
      intro n
      induction n with
      | zero => exact Nat.le_refl _
      | succ n ih => simp only [Un]; split <;> omega
    exact this _
theorem region_sound (hm : P.follows .mixedOrders = true) (hc : CallOk P call) {id : Nat} {j : Inj} {m m' : T AV} {a : Act} {H H' : Heap} {w : World} {draw : Bool} (h : regionA P call N m H ops draw = some (m', H')) (ht : TRel j N m a.tmps) (hR : Rel j H w)
    (hQ : ∀ a' w' j', TRel j' N m' a'.tmps → a'.defers = a.defers → Rel j' H' w' → Ext j H w j' H' w' → Q .normal a' w') : (Code.region id ops draw).wp P Q a w := by
  unfold regionA at h
  cases draw with
  | false => exact region_plain hc h ht hR hQ
  | true =>
    rw [cond_true] at h
    obtain ⟨⟨ops', ms⟩, hms, h⟩ := bind_some' h
    exact region_draw hm hc hms h ht hR hQ
end

/-! ### code -/
def RunOk (P : Program) (run : RunA) : Prop := ∀ (N : Nat) (m : T AV) (todo : List Item) (H : Heap) (m' : T AV) (H' : Heap) (j : Inj) (a : Act) (w : World) (b : Frame) (cs : List Frame),
  run N m todo H = some (m', H') → TRel j N m a.tmps → Rel j H w → a.defers = [] →
  ∃ a' w' j' todo', Steps P (lone (b.at a todo) cs w) (lone { b.at a' todo' with mode := .returning } cs w') ∧ TRel j' N m' a'.tmps ∧ Rel j' H' w' ∧ Ext j H w j' H' w' ∧ a'.defers = []
section
variable {P : Program}
theorem initA_get : ∀ (vs : List AV) (i : Nat) (m : T AV) (t : Nat), (initA vs i m).get t = if i ≤ t ∧ t < i + vs.length then vs[t - i]? else m.get t
  | [], i, m, t => by
    have : ¬ (i ≤ t ∧ t < i + ([] : List AV).length) := by simp
    rw [if_neg this]; rfl
  | v :: vs, i, m, t => by
    show (initA vs (i + 1) (m.set i (some v))).get t = _
    rw [initA_get vs (i + 1) _ t, T.get_set]
    by_cases h1 : i + 1 ≤ t ∧ t < i + 1 + vs.length
    · rw [if_pos h1, if_pos (by simp; omega)]
      rw [show t - i = (t - (i + 1)) + 1 by omega]; rfl
    · rw [if_neg h1]
      by_cases h2 : t = i
      · subst h2
        rw [if_pos rfl, if_pos (by simp)]
        simp
      · rw [if_neg h2, if_neg (by simp; omega)]
theorem init_TRel {j : Inj} {args : List AV} {args' : List Value} (hv : VRs j args args') {n : Nat} (hn : args.length ≤ n) : TRel j n (initA args 0 .lf) (args'.toArray ++ Array.replicate (n - args'.toArray.size) undef) := by
  have hl := hv.length
  refine ⟨by simp; omega, fun t ht => ?_, fun t ht => ?_⟩
  · rw [initA_get]
    by_cases h : t < args.length
    · rw [if_pos (by omega)]
      obtain ⟨v', h1, h2⟩ := hv.get (i := t) (List.getElem?_eq_getElem h)
      have : (args'.toArray ++ Array.replicate (n - args'.toArray.size) undef).getD t undef = v' := by
        rw [Array.getD_eq_getD_getElem?, Array.getElem?_append_left (by simp; omega)]
        simp [h1]
      rw [this, Nat.sub_zero, List.getElem?_eq_getElem h]
      exact h2
    · rw [if_neg (by omega)]
      show _ = undef
      rw [Array.getD_eq_getD_getElem?, Array.getElem?_append_right (by simp; omega), Array.getElem?_replicate]
      split <;> rfl
  · rw [initA_get, if_neg (by omega)]; rfl
def resSem (ts : Array Value) : ResultVar → Sem Value
  | .tmp t => pure (ts.getD t undef)
  | .cell a t => do loadVar t (← asAddr (ts.getD a undef))
theorem resV_run {j : Inj} {N : Nat} {m : T AV} {ts : Array Value} {H : Heap} {w : World} (ht : TRel j N m ts) (hR : Rel j H w) {r : ResultVar} {v : AV} (h : resV P m H r = some v) :
    ∃ v', VR j v v' ∧ (resSem ts r).run P w = .ok v' w := by
  have hat : ∀ {t : Nat} {v : AV}, m.get t = some v → VR j v (ts.getD t undef) := fun hh => (TRel.at (a := ⟨ts, []⟩) ht hh).2
  cases r with
  | tmp t => exact ⟨_, hat h, rfl⟩
  | cell a t =>
    simp only [resV] at h
    split at h
    · rename_i b o hm
      have hp := hat hm
      generalize hr : ts.getD a undef = u at hp
      cases hp with
      | @p _ rb d n _ hj =>
      split at h
      · rename_i hagg
        obtain ⟨k, hs, h⟩ := bind_some' h
        obtain ⟨cs, hcs, rfl⟩ := map_some' h
        obtain ⟨vs, g1, g2, g3⟩ := hR.rd hcs hj
        have hl := g2.loadCells (P := P)
        rw [g1] at hl
        refine ⟨_, VR.agg' g3, ?_⟩
        simp only [resSem, hr, asAddr, Sem.run_bind, Sem.run_pure, Result.andThen_ok, loadVar, run_isAgg' w hagg, if_true, run_sizeOf' w hs, hl]
      · rename_i hagg
        obtain ⟨cs, hcs, h⟩ := bind_some' h
        obtain ⟨vs, g1, g2, g3⟩ := hR.rd hcs hj
        cases g3 with
        | nil => cases h
        | @cons c u' cs us q1 q2 =>
        injection h with h; subst h
        have h0 := g2 0 u' rfl
        rw [Nat.add_zero] at h0
        refine ⟨u', q1, ?_⟩
        simp only [resSem, hr, asAddr, Sem.run_bind, Sem.run_pure, Result.andThen_ok, loadVar, run_isAgg' w hagg, Bool.false_eq_true, if_false, run_load, h0]
      · cases h
    · cases h
theorem resL_run {j : Inj} {N : Nat} {m : T AV} {ts : Array Value} {H : Heap} {w : World} (ht : TRel j N m ts) (hR : Rel j H w) : ∀ {rs : List ResultVar} {vs : List AV}, resL P m H rs = some vs →
    ∃ vs', VRs j vs vs' ∧ (rs.mapM (resSem ts)).run P w = .ok vs' w
  | [], vs, h => by simp only [resL] at h; injection h with h; subst h; exact ⟨[], .nil, by simp⟩
  | r :: rs, vs, h => by
    simp only [resL] at h
    split at h
    · rename_i v vs0 h1 h2
      injection h with h; subst h
      obtain ⟨v', g1, g2⟩ := resV_run ht hR h1
      obtain ⟨vs', g3, g4⟩ := resL_run ht hR h2
      refine ⟨v' :: vs', .cons g1 g3, ?_⟩
      rw [List.mapM_cons, Sem.run_bind, g2, Result.andThen_ok, Sem.run_bind, g4]
      rfl
    · cases h
theorem results_run {j : Inj} {N : Nat} {m : T AV} {ts : Array Value} {H : Heap} {w : World} (ht : TRel j N m ts) (hR : Rel j H w) {fn : Func} {vs : List AV} (h : resL P m H fn.results.toList = some vs) :
    ∃ v', VR j (tupled vs) v' ∧ (results fn ts).run P w = .ok v' w := by
  obtain ⟨vs', g1, g2⟩ := resL_run ht hR h
  have hrun : (results fn ts).run P w = .ok (if h : vs'.toArray.size = 1 then vs'.toArray[0] else .tuple vs'.toArray) w := by
    have hres : results fn ts = (do let vs ← fn.results.mapM (resSem ts); pure (if h : vs.size = 1 then vs[0] else .tuple vs)) := by
      unfold results
      have : (fun x : ResultVar => (match x with | .tmp t => pure (ts.getD t undef) | .cell a t => do loadVar t (← asAddr (ts.getD a undef)) : Sem Value)) = resSem ts := by
        funext x; cases x <;> rfl
      rw [← this]
      rfl
    rw [hres, Sem.run_bind, Array.mapM_eq_mapM_toList, Sem.run_map, g2]
    rfl
  refine ⟨_, ?_, hrun⟩
  cases g1 with
  | nil => exact VR.tup' .nil
  | @cons a v as us h1 t1 =>
    cases t1 with
    | nil => exact h1
    | cons h2 t2 =>
      have := VR.tup' (All2.cons h1 (All2.cons h2 t2))
      simpa [tupled] using this
theorem callOk_of_runOk {run : RunA} (h : RunOk P run) : CallOk P (callA P run) := by
  intro f args H v H' j w args' hcall hR hv
  unfold callA at hcall
  split at hcall
  · rename_i fn hf
    split at hcall
    · rename_i c hb
      obtain ⟨hle, hcall⟩ := cond_some hcall
      obtain ⟨⟨m1, H1⟩, hrun, hcall⟩ := bind_some' hcall
      obtain ⟨vs, hvs, hcall⟩ := map_some' hcall
      injection hcall with e1 e2; subst e1; subst e2
      intro cs
      let b : Frame := { (default : Frame) with fn := f, kind := .normal }
      have henter : Frame.enter P f args'.toArray .normal = b.at { tmps := args'.toArray ++ Array.replicate (fn.ntmps - args'.toArray.size) undef, defers := [] } [.code c] := by
        simp [Frame.enter, Frame.at, hf, hb, b]
      obtain ⟨a', w', j', todo', hs, ht', hR', hE', hd'⟩ := h fn.ntmps _ [.code c] H m1 H1 j { tmps := args'.toArray ++ Array.replicate (fn.ntmps - args'.toArray.size) undef, defers := [] } w b cs hrun (init_TRel hv (ble_le hle)) hR rfl
      obtain ⟨v', g1, g2⟩ := results_run ht' hR' hvs
      refine ⟨.returned v', w', _, ⟨v', j', rfl, g1, hR', hE'⟩, by rw [henter]; exact hs, rfl, ⟨rfl, hd', rfl, fn, hf, g2⟩⟩
    · cases hcall
  · cases hcall
theorem runOk_step (hm : P.follows .mixedOrders = true) {run : RunA} (ih : RunOk P run) : RunOk P (stepA P run) := by
  intro N m todo H m' H' j a w b cs h ht hR hd
  have via : ∀ {todo1 : List Item}, Steps P (lone (b.at a todo) cs w) (lone (b.at a todo1) cs w) → run N m todo1 H = some (m', H') →
      ∃ a' w' j' todo', Steps P (lone (b.at a todo) cs w) (lone { b.at a' todo' with mode := .returning } cs w') ∧ TRel j' N m' a'.tmps ∧ Rel j' H' w' ∧ Ext j H w j' H' w' ∧ a'.defers = [] := by
    intro todo1 hs h1
    obtain ⟨a', w', j', todo', g1, g2⟩ := ih N m todo1 H m' H' j a w b cs h1 ht hR hd
    exact ⟨a', w', j', todo', hs.trans g1, g2⟩
  unfold stepA at h
  split at h
  · injection h with h; injection h with e1 e2; subst e1; subst e2
    exact ⟨a, w, j, [], .one step_end, ht, hR, Ext.refl _ _ _, hd⟩
  · rename_i c k
    split at h
    · exact via (.one step_skip) h
    · exact via (.one step_label) h
    · injection h with h; injection h with e1 e2; subst e1; subst e2
      exact ⟨a, w, j, _, .one step_ret, ht, hR, Ext.refl _ _ _, hd⟩
    · exact via (.one step_seq) h
    · rename_i c x y
      split at h
      · rename_i hc
        have hv := ht.eval c _ hc
        have : a.eval c = .bool true := by generalize a.eval c = u at hv; cases hv; rfl
        exact via (.one (step_cond this)) h
      · rename_i hc
        have hv := ht.eval c _ hc
        have : a.eval c = .bool false := by generalize a.eval c = u at hv; cases hv; rfl
        exact via (.one (step_cond this)) h
      · cases h
    · exact via (.one step_block) h
    · exact via (.one step_loop) h
    · exact via (.one step_scope) h
    · obtain ⟨k', hk, h⟩ := bind_some' h
      exact via (.one (step_exit hk)) h
    · obtain ⟨k', hk, h⟩ := bind_some' h
      exact via (.one (step_goto hk)) h
    · rename_i id ops d
      obtain ⟨⟨m1, H1⟩, hreg, h⟩ := bind_some' h
      obtain ⟨e, a1, w1, ⟨rfl, j1, q1, q2, q3, q4⟩, harr⟩ := region_sound (id := id) hm (callOk_of_runOk ih) hreg ht hR (Q := fun e a1 w1 => e = .normal ∧ ∃ j1, TRel j1 N m1 a1.tmps ∧ a1.defers = a.defers ∧ Rel j1 H1 w1 ∧ Ext j H w j1 H1 w1)
        (fun a' w' j' g1 g2 g3 g4 => ⟨rfl, j', g1, g2, g3, g4⟩) b k cs
      obtain ⟨a', w', j', todo', g1, g2, g3, g4, g5⟩ := ih N m1 k H1 m' H' j1 a1 w1 b cs h q1 q3 (q2.trans hd)
      exact ⟨a', w', j', todo', Steps.trans harr g1, g2, g3, q4.trans g4, g5⟩
    · cases h
  · exact via (.one step_inBlock) h
  · exact via (.one step_inScope) h
  · exact via (.one step_inLoop) h
  · cases h
theorem runOk (hm : P.follows .mixedOrders = true) : ∀ n, RunOk P (runA P n)
  | 0 => by intro N m todo H m' H' j a w b cs h; cases h
  | n + 1 => runOk_step hm (runOk hm n)
/-- **What the evaluator tells of a call, the model's call comes to.** -/
theorem calls_of_callA (hm : P.follows .mixedOrders = true) (n : Nat) : CallOk P (callA P (runA P n)) := callOk_of_runOk (runOk hm n)
end
end Go.Proofs.YthnhdgcaolgdnaaAn
