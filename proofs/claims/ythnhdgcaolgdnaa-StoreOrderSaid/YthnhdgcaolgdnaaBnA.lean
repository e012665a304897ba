/- Words for the proofs of conditions: numbers, rows that are read. -/
import Derived.Test.YthnhdgcaolgdnaaAnZh
set_option linter.unusedVariables false
set_option linter.unusedSimpArgs false
namespace Go.Proofs.YthnhdgcaolgdnaaAn
open Go

/-! ### steps -/
theorem wpC.mono {P : Program} {f : FuncId} {args : List AV} {Q Q' : AV → Hp → Prop} {h : Hp} (w : wpC P f args Q h) (k : ∀ v h', Q v h' → Q' v h') : wpC P f args Q' h := by
  intro H F
  obtain ⟨v, H', h', a, b, c⟩ := w H F
  exact ⟨v, H', h', a, b, k _ _ c⟩
theorem wpE.mono {e : Eff} {Q Q' : Option AV → Hp → Prop} {h : Hp} (w : wpE e Q h) (k : ∀ v h', Q v h' → Q' v h') : wpE e Q' h := by
  intro H F
  obtain ⟨v, H', h', a, b, c⟩ := w H F
  exact ⟨v, H', h', a, b, k _ _ c⟩
theorem onO.mk {α : Type} {x : Option α} {K : α → Prop} {a : α} (e : x = some a) (k : K a) : onO x K := by rw [e]; exact k
theorem onB.mk {c : Bool} {X Y : Prop} (x : c = true → X) (y : c = false → Y) : onB c X Y := ⟨x, y⟩
theorem onB.dec {p : Prop} [Decidable p] {X Y : Prop} (x : p → X) (y : ¬ p → Y) : onB (decide p) X Y := ⟨fun e => x (of_decide_eq_true e), fun e => y (of_decide_eq_false e)⟩
theorem onB.not {c : Bool} {X Y : Prop} (x : c = false → X) (y : c = true → Y) : onB (!c) X Y := ⟨fun e => x (by simpa using e), fun e => y (by simpa using e)⟩
theorem onB.ndec {p : Prop} [Decidable p] {X Y : Prop} (x : ¬ p → X) (y : p → Y) : onB (!decide p) X Y := ⟨fun e => x (by simpa using e), fun e => y (by simpa using e)⟩
theorem onB.pos {c : Bool} {X Y : Prop} (e : c = true) (x : X) : onB c X Y := ⟨fun _ => x, fun e' => (by rw [e] at e'; cases e')⟩
theorem onB.neg {c : Bool} {X Y : Prop} (e : c = false) (y : Y) : onB c X Y := ⟨fun e' => (by rw [e] at e'; cases e'), fun _ => y⟩
theorem onC.mk {c : Bool} {X : Prop} (e : c = true) (x : X) : onC c X := ⟨e, x⟩
theorem Dup.mk {X : Prop} (x : X) : Dup X := (⟨x, x⟩ : X ∧ X)

/-! ### whole numbers -/
abbrev M63 : Int := 9223372036854775808
theorem wrap64 {n : Int} (h1 : -9223372036854775808 ≤ n) (h2 : n < 9223372036854775808) : wrapA .i64 n = n := by
  unfold wrapA
  have : inKind .i64 n = true := by
    unfold inKind
    cases n with
    | ofNat m => simp only [kTop]; rw [Nat.blt_eq]; have : (Int.ofNat m) = (m : Int) := rfl; omega
    | negSucc m => simp only [kLow]; rw [Nat.blt_eq]; have : (Int.negSucc m) = -(m : Int) - 1 := by omega
                   omega
  rw [this]; rfl
theorem add64 {a b : Int} (h1 : -9223372036854775808 ≤ a + b) (h2 : a + b < 9223372036854775808) : intO .add .i64 a b = some (a + b) := by
  unfold intO intA
  show some (wrapA .i64 (a + b)) = _
  rw [wrap64 h1 h2]
theorem sub64 {a b : Int} (h1 : -9223372036854775808 ≤ a - b) (h2 : a - b < 9223372036854775808) : intO .sub .i64 a b = some (a - b) := by
  unfold intO intA
  show some (wrapA .i64 (a - b)) = _
  rw [wrap64 h1 h2]
theorem mul64 {a b : Int} (h1 : -9223372036854775808 ≤ a * b) (h2 : a * b < 9223372036854775808) : intO .mul .i64 a b = some (a * b) := by
  unfold intO intA
  show some (wrapA .i64 (a * b)) = _
  rw [wrap64 h1 h2]
theorem wr64 {a : Int} (h1 : -9223372036854775808 ≤ a) (h2 : a < 9223372036854775808) : wrO .i64 a = some a := by
  unfold wrO; rw [wrap64 h1 h2]
theorem wrap_mod {k : IntKind} {n : Int} (hk : kLow k = 0) : wrapA k n = n % (kMod k : Int) := by
  rw [wrapA_eq]
  have hM : (kTop k) = kMod k := by cases k <;> first | rfl | (simp [kLow] at hk)
  have hp : 0 < kMod k := by cases k <;> simp [kMod]
  have := wrap_cases k n
  have h1 := Int.emod_lt_of_pos n (show (0 : Int) < (kMod k : Int) by omega)
  rw [hM] at this
  omega
theorem wr8 (n : Int) : wrO .u8 n = some (n % 256) := by unfold wrO; rw [wrap_mod rfl]; rfl
theorem wr32 (n : Int) : wrO .u32 n = some (n % 4294967296) := by unfold wrO; rw [wrap_mod rfl]; rfl
theorem natI_of {n : Nat} : natI (n : Int) = some n := rfl
theorem natI_pos {i : Int} (h : 0 ≤ i) : natI i = some i.toNat := by
  cases i with
  | ofNat n => rfl
  | negSucc n => omega
theorem natLt_pos {i : Int} {n : Nat} (h : 0 ≤ i) (h2 : i < n) : natLt i n = some i.toNat := by
  cases i with
  | ofNat j =>
    have hj : j < n := by have : (Int.ofNat j) = (j : Int) := rfl; omega
    unfold natLt
    simp only [blt_of hj, cond_true]; rfl
  | negSucc j => omega

/-! ### memory in two parts -/
def Hp.add (p g : Hp) : Hp := ⟨fun k => match p.g k with
  | some c => some c
  | none => g.g k, g.lo⟩
def Disj (p g : Hp) : Prop := ∀ k c, p.g k = some c → g.g k = none
def Hp.le (p h : Hp) : Prop := ∀ k c, p.g k = some c → h.g k = some c
theorem Hp.le_refl (h : Hp) : h.le h := fun _ _ e => e
theorem Hp.le_trans {a b c : Hp} (x : a.le b) (y : b.le c) : a.le c := fun k d e => y k d (x k d e)
theorem Hp.le_left (p g : Hp) : p.le (p.add g) := fun k c e => by show (match p.g k with | some c => some c | none => g.g k) = _; rw [e]
theorem Hp.le_right {p g : Hp} (d : Disj p g) : g.le (p.add g) := fun k c e => by
  show (match p.g k with | some c => some c | none => g.g k) = _
  cases hp : p.g k with
  | none => exact e
  | some c' => rw [d k c' hp] at e; cases e
theorem Hp.le_put {h : Hp} {b : Nat} {cs : List AV} (hb : h.g b = none) : h.le (h.put b cs) := fun k c e => by
  show (if k = b then some cs else h.g k) = _
  rw [if_neg (fun e' => by rw [e', hb] at e; cases e)]; exact e
theorem Hp.put_same (h : Hp) (b : Nat) (cs : List AV) : (h.put b cs).g b = some cs := if_pos rfl
theorem Hp.put_ne (h : Hp) {b k : Nat} (cs : List AV) (e : k ≠ b) : (h.put b cs).g k = h.g k := if_neg e
def Hp.one (b : Nat) (cs : List AV) (lo : Nat) : Hp := ⟨fun k => if k = b then some cs else none, lo⟩
def Hp.none (lo : Nat) : Hp := ⟨fun _ => Option.none, lo⟩
theorem Hp.ext {a b : Hp} (h1 : ∀ k, a.g k = b.g k) (h2 : a.lo = b.lo) : a = b := by
  cases a; cases b
  simp only at h1 h2
  subst h2
  congr 1
  funext k; exact h1 k
theorem Hp.put_eq (h : Hp) (b : Nat) (cs : List AV) : h.put b cs = (Hp.one b cs h.lo).add h := by
  refine Hp.ext (fun k => ?_) rfl
  show (if k = b then some cs else h.g k) = (match (if k = b then some cs else Option.none) with | some c => some c | .none => h.g k)
  by_cases e : k = b
  · rw [if_pos e, if_pos e]
  · rw [if_neg e, if_neg e]
/-- **the frame** -/
theorem wpC.frame {P : Program} {f : FuncId} {args : List AV} {Q : AV → Hp → Prop} {p g : Hp} (hlo : p.lo = g.lo) (d : Disj p g) (w : wpC P f args Q p) : wpC P f args (fun v h' => ∃ p', h' = p'.add g ∧ Disj p' g ∧ p'.lo = g.lo ∧ Q v p') (p.add g) := by
  intro H F
  have Fp : Fits p H := ⟨fun b cs hb => F.get b cs (Hp.le_left p g b cs hb), F.lo.trans hlo.symm, F.low, F.fresh⟩
  obtain ⟨v, H', p', a, S, q⟩ := w H Fp
  have hd : Disj p' g := by
    intro k c hk
    cases hg : g.g k with
    | none => rfl
    | some c' =>
      rcases S.dom k (by rw [hk]; simp) with e | e
      · cases hp : p.g k with
        | none => exact absurd hp e
        | some c2 => rw [d k c2 hp] at hg; cases hg
      · have := (F.get k c' (Hp.le_right d k c' hg)).2; omega
  refine ⟨v, H', p'.add g, a, ⟨⟨fun b cs hb => ?_, ?_, S.fits.low, S.fits.fresh⟩, S.next, fun b hb hno => S.keep b hb ?_, fun b hb => ?_, rfl⟩, p', rfl, hd, S.lo.trans hlo, q⟩
  · have hb : (match p'.g b with | some c => some c | Option.none => g.g b) = some cs := hb
    cases hp : p'.g b with
    | some c => rw [hp] at hb; injection hb with hb; subst hb; exact S.fits.get b c hp
    | none =>
      rw [hp] at hb
      have := F.get b cs (Hp.le_right d b cs hb)
      have hpb : p.g b = Option.none := by
        cases hp2 : p.g b with
        | none => rfl
        | some c2 => rw [d b c2 hp2] at hb; cases hb
      exact ⟨by rw [S.keep b this.2 hpb]; exact this.1, Nat.lt_of_lt_of_le this.2 S.next⟩
  · rw [S.fits.lo, S.lo]; exact hlo
  · have hno : (match p.g b with | some c => some c | Option.none => g.g b) = Option.none := hno
    cases hp : p.g b with
    | none => rfl
    | some c => rw [hp] at hno; cases hno
  · have hb : (match p'.g b with | some c => some c | Option.none => g.g b) ≠ Option.none := hb
    cases hp : p'.g b with
    | some c =>
      refine (S.dom b (by rw [hp]; simp)).imp (fun e => ?_) id
      cases hp2 : p.g b with
      | none => exact absurd hp2 e
      | some c2 => rw [Hp.le_left p g b c2 hp2]; simp
    | none =>
      rw [hp] at hb
      cases hg : g.g b with
      | none => exact absurd hg hb
      | some c => exact .inl (by rw [Hp.le_right d b c hg]; simp)

/-! ### rows -/
/-- a slice whose elements, sz cells each, are these -/
def Raw (h : Hp) (a : AV) (sz : Nat) (css : List (List AV)) : Prop := (∀ c ∈ css, c.length = sz) ∧ match a with
  | .ns | .e _ => css = []
  | .sl b o len lo ex z => z = sz ∧ len = css.length ∧ len ≤ lo ∧ (css = [] ∨ rdH h b o (css.length * sz) = some css.flatten)
  | _ => False
theorem rdH_le {h h' : Hp} (l : h.le h') {b o n : Nat} {cs : List AV} (e : rdH h b o n = some cs) : rdH h' b o n = some cs := by
  obtain ⟨c, h1, h2⟩ := bind_some' e
  unfold rdH
  rw [l b c h1]; exact h2
theorem rdH_sub {h : Hp} {b o n : Nat} {cs r : List AV} (e : rdH h b o n = some cs) {o' n' : Nat} (hs : sub? cs o' n' = some r) : rdH h b (o + o') n' = some r := by
  obtain ⟨c, h1, h2⟩ := bind_some' e
  unfold rdH
  rw [h1, Option.bind_some]
  obtain ⟨h3, rfl⟩ := sub_some h2
  obtain ⟨h4, rfl⟩ := sub_some hs
  simp only [List.length_take, List.length_drop] at h4
  unfold sub?
  rw [Nat.ble_eq_true_of_le (by omega), cond_true]
  congr 1
  apply List.ext_getElem?
  intro i
  by_cases hi : i < n'
  · rw [List.getElem?_take_of_lt hi, List.getElem?_take_of_lt hi, List.getElem?_drop, List.getElem?_drop, List.getElem?_take_of_lt (by omega), List.getElem?_drop]
    congr 1; omega
  · rw [List.getElem?_eq_none (by simp; omega), List.getElem?_eq_none (by simp; omega)]
theorem sub_mk {cs : List AV} {o n : Nat} (h : o + n ≤ cs.length) : sub? cs o n = some ((cs.drop o).take n) := by
  unfold sub?
  rw [Nat.ble_eq_true_of_le h]; rfl
theorem flat_len {sz : Nat} : ∀ {css : List (List AV)}, (∀ c ∈ css, c.length = sz) → css.flatten.length = css.length * sz
  | [], _ => by simp
  | c :: css, h => by
    rw [List.flatten_cons, List.length_append, flat_len fun c hc => h c (by simp [hc]), h c (by simp), List.length_cons, Nat.succ_mul, Nat.add_comm]
theorem flat_drop {sz : Nat} : ∀ {css : List (List AV)} (i : Nat), (∀ c ∈ css, c.length = sz) → css.flatten.drop (i * sz) = (css.drop i).flatten
  | css, 0, _ => by simp
  | [], i + 1, _ => by simp
  | c :: css, i + 1, h => by
    rw [List.flatten_cons, List.drop_succ_cons, ← flat_drop i fun c hc => h c (by simp [hc])]
    have : c.length = sz := h c (by simp)
    rw [Nat.succ_mul, Nat.add_comm, ← List.drop_drop, ← this, List.drop_left]
theorem flat_take {sz : Nat} : ∀ {css : List (List AV)} (i : Nat), (∀ c ∈ css, c.length = sz) → css.flatten.take (i * sz) = (css.take i).flatten
  | css, 0, _ => by simp
  | [], i + 1, _ => by simp
  | c :: css, i + 1, h => by
    rw [List.flatten_cons, List.take_succ_cons, List.flatten_cons, ← flat_take i fun c hc => h c (by simp [hc])]
    have : c.length = sz := h c (by simp)
    rw [List.take_append, List.take_of_length_le (by rw [Nat.succ_mul]; omega), Nat.succ_mul, this, Nat.add_sub_cancel]
namespace Raw
variable {h h' : Hp} {a : AV} {sz : Nat} {css : List (List AV)}
theorem mono (r : Raw h a sz css) (l : h.le h') : Raw h' a sz css := by
  refine ⟨r.1, ?_⟩
  have r := r.2
  cases a <;> first | exact r | skip
  exact ⟨r.1, r.2.1, r.2.2.1, r.2.2.2.imp id fun e => rdH_le l e⟩
theorem sc (r : Raw h a sz css) : a.sc = true := by
  have r := r.2
  cases a <;> first | rfl | exact r.elim
theorem len (r : Raw h a sz css) : lenV a = some css.length := by
  have r := r.2
  cases a <;> first | exact r.elim | skip
  · exact congrArg some r.2.1
  all_goals
    have r : css = [] := r
    subst r; rfl
theorem idx (r : Raw h a sz css) {i : Int} {c : List AV} (h0 : 0 ≤ i) (hi : css[i.toNat]? = some c) : ∃ b o, idxV a i sz = some (b, o) ∧ rdH h b o sz = some c ∧ c.length = sz := by
  have hlt : i.toNat < css.length := (List.getElem?_eq_some_iff.1 hi).1
  have hcl : c.length = sz := r.1 c (List.mem_of_getElem? hi)
  obtain ⟨hall, r⟩ := r
  cases a <;> first | exact r.elim | skip
  · rename_i b o len lo ex z
    obtain ⟨r1, r2, r3, r4⟩ := r
    subst r1
    refine ⟨b, o + i.toNat * z, ?_, ?_, hcl⟩
    · cases i with
      | negSucc j => omega
      | ofNat j =>
        unfold idxV
        simp only
        rw [blt_of (by rw [r2]; exact hlt), cond_true]; rfl
    · rcases r4 with r4 | r4
      · subst r4; cases hlt
      · refine rdH_sub r4 ?_
        have hle : i.toNat * z + z ≤ css.length * z := by rw [← Nat.succ_mul]; exact Nat.mul_le_mul_right _ hlt
        rw [sub_mk (by rw [flat_len hall]; exact hle)]
        congr 1
        rw [flat_drop _ hall]
        have hd : css.drop i.toNat = c :: css.drop (i.toNat + 1) := by
          rw [List.drop_eq_getElem_cons hlt]
          congr 1
          rw [List.getElem?_eq_getElem hlt] at hi
          injection hi
        rw [hd, List.flatten_cons, ← hcl, List.take_left]
  all_goals
    have r : css = [] := r
    subst r; cases hlt
/-- a part of it -/
theorem slice (r : Raw h a sz css) {lo hi : Option Int} {i j : Nat} (hlo : natO 0 lo = some i) (hhi : natO css.length hi = some j) (h1 : i ≤ j) (h2 : j ≤ css.length) (hsz : a = .ns → True) :
    ∃ r', slV a lo hi none sz = some r' ∧ Raw h r' sz ((css.drop i).take (j - i)) := by
  obtain ⟨hall, r⟩ := r
  have hsub : ∀ c ∈ (css.drop i).take (j - i), c.length = sz := fun c hc => hall c (List.mem_of_mem_drop (List.mem_of_mem_take hc))
  cases a <;> first | exact r.elim | skip
  · rename_i b o len cap ex z
    obtain ⟨r1, r2, r3, r4⟩ := r
    subst r1
    refine ⟨.sl b (cond (Nat.beq cap i) o (o + i * z)) (j - i) (cap - i) ex z, ?_, hsub, rfl, by simp; omega, by omega, ?_⟩
    · unfold slV
      simp only [hlo, Option.bind_some]
      rw [r2, hhi, Option.bind_some, Nat.beq_refl, cond_true, Nat.ble_eq_true_of_le h1, Nat.ble_eq_true_of_le (by omega)]
      rfl
    · by_cases he : j - i = 0
      · left; rw [he, List.take_zero]
      · right
        have hne : Nat.beq cap i = false := by
          cases hb : Nat.beq cap i with
          | true => have := beq_eq' hb; omega
          | false => rfl
        rw [hne, cond_false]
        rcases r4 with r4 | r4
        · subst r4; simp at h2; omega
        · refine rdH_sub r4 ?_
          have hl : ((css.drop i).take (j - i)).length = j - i := by simp; omega
          have hle : i * z + (j - i) * z ≤ css.length * z := by rw [← Nat.add_mul]; exact Nat.mul_le_mul_right _ (by omega)
          rw [hl, sub_mk (by rw [flat_len hall]; exact hle), flat_drop _ hall, flat_take _ (fun c hc => hall c (List.mem_of_mem_drop hc))]
  all_goals
    have r : css = [] := r
    subst r
    simp only [List.length_nil] at h2
    have : i = 0 := by omega
    subst this
    have : j = 0 := by omega
    subst this
    have hhi' : natO 0 hi = some 0 := by
      cases hi with
      | none => rfl
      | some x => exact hhi
    refine ⟨_, by unfold slV; simp only [hlo, Option.bind_some]; rw [hhi', Option.bind_some]; rfl, hsub, ?_⟩
    exact (rfl : ([] : List (List AV)) = [])
end Raw
/-- a row of whole numbers -/
def Ints (h : Hp) (a : AV) (xs : List Int) : Prop := Raw h a 1 (xs.map fun x => [.i .i64 x])
def Bys (h : Hp) (a : AV) (xs : List Nat) : Prop := Raw h a 1 (xs.map fun x => [.i .u8 (.ofNat x)]) ∧ ∀ x ∈ xs, x < 256
theorem Ints.idx {h : Hp} {a : AV} {xs : List Int} (r : Ints h a xs) {i : Int} {x : Int} (h0 : 0 ≤ i) (hi : xs[i.toNat]? = some x) : ∃ b o, idxV a i 1 = some (b, o) ∧ rdH h b o 1 = some [.i .i64 x] :=
  let ⟨b, o, h1, h2, _⟩ := Raw.idx r h0 (c := [.i .i64 x]) (by simp [hi]); ⟨b, o, h1, h2⟩
theorem Ints.len {h : Hp} {a : AV} {xs : List Int} (r : Ints h a xs) : lenV a = some xs.length := by have := Raw.len r; simpa using this
theorem Ints.mono {h h' : Hp} {a : AV} {xs : List Int} (r : Ints h a xs) (l : h.le h') : Ints h' a xs := Raw.mono r l
theorem Bys.len {h : Hp} {a : AV} {xs : List Nat} (r : Bys h a xs) : lenV a = some xs.length := by have := Raw.len r.1; simpa using this
theorem Bys.mono {h h' : Hp} {a : AV} {xs : List Nat} (r : Bys h a xs) (l : h.le h') : Bys h' a xs := ⟨Raw.mono r.1 l, r.2⟩
theorem Bys.idx {h : Hp} {a : AV} {xs : List Nat} (r : Bys h a xs) {i : Int} {x : Nat} (h0 : 0 ≤ i) (hi : xs[i.toNat]? = some x) : ∃ b o, idxV a i 1 = some (b, o) ∧ rdH h b o 1 = some [.i .u8 (.ofNat x)] :=
  let ⟨b, o, h1, h2, _⟩ := Raw.idx r.1 h0 (c := [.i .u8 (.ofNat x)]) (by simp [hi]); ⟨b, o, h1, h2⟩
end Go.Proofs.YthnhdgcaolgdnaaAn
