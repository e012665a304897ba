/- What a value of the evaluator stands for; the model's small steps, run. -/
import Derived.Test.YthnhdgcaolgdnaaAnA
import Derived.Laws.Cells
import Derived.Laws.IdiomCopy
import Derived.Laws.StructEq
import Derived.Laws.Entries
set_option linter.unusedVariables false
set_option linter.unusedSimpArgs false
namespace Go.Proofs.YthnhdgcaolgdnaaAn
open Go

/-! ### rows side by side -/
inductive All2 {α β : Type} (R : α → β → Prop) : List α → List β → Prop
  | nil : All2 R [] []
  | cons {a b as bs} (h : R a b) (t : All2 R as bs) : All2 R (a :: as) (b :: bs)
namespace All2
variable {α β : Type} {R S : α → β → Prop}
theorem length {xs ys} (h : All2 R xs ys) : xs.length = ys.length := by induction h <;> simp_all
theorem mono (hm : ∀ a b, R a b → S a b) {xs ys} (h : All2 R xs ys) : All2 S xs ys := by
  induction h with
  | nil => exact .nil
  | cons h _ ih => exact .cons (hm _ _ h) ih
theorem get {xs : List α} {ys : List β} (h : All2 R xs ys) {i : Nat} {a : α} (ha : xs[i]? = some a) : ∃ b, ys[i]? = some b ∧ R a b := by
  induction h generalizing i with
  | nil => simp at ha
  | cons h _ ih =>
    cases i with
    | zero => simp at ha; subst ha; exact ⟨_, by simp, h⟩
    | succ i => simp at ha; simpa using ih ha
theorem get2 {xs : List α} {ys : List β} (h : All2 R xs ys) {i : Nat} {a : α} {b : β} (ha : xs[i]? = some a) (hb : ys[i]? = some b) : R a b := by
  obtain ⟨b', h1, h2⟩ := h.get ha
  rw [h1] at hb; cases hb; exact h2
theorem of_get : ∀ {xs : List α} {ys : List β}, xs.length = ys.length → (∀ (i : Nat) a b, xs[i]? = some a → ys[i]? = some b → R a b) → All2 R xs ys
  | [], [], _, _ => .nil
  | a :: as, b :: bs, hl, h => .cons (h 0 a b (by simp) (by simp)) (of_get (by simpa using hl) fun i x y hx hy => h (i + 1) x y (by simpa using hx) (by simpa using hy))
  | [], _ :: _, hl, _ => by simp at hl
  | _ :: _, [], hl, _ => by simp at hl
theorem append {xs xs' : List α} {ys ys' : List β} (h : All2 R xs ys) (h' : All2 R xs' ys') : All2 R (xs ++ xs') (ys ++ ys') := by
  induction h with
  | nil => exact h'
  | cons h _ ih => exact .cons h ih
theorem take {xs : List α} {ys : List β} (h : All2 R xs ys) (n : Nat) : All2 R (xs.take n) (ys.take n) := by
  induction h generalizing n with
  | nil => simp; exact .nil
  | cons h _ ih => cases n with
    | zero => exact .nil
    | succ n => exact .cons h (ih n)
theorem drop {xs : List α} {ys : List β} (h : All2 R xs ys) (n : Nat) : All2 R (xs.drop n) (ys.drop n) := by
  induction h generalizing n with
  | nil => simp; exact .nil
  | cons h t ih => cases n with
    | zero => exact .cons h t
    | succ n => exact ih n
end All2

/-! ### what stands for what -/
abbrev Inj := Nat → Option (Nat × Nat × Nat)
def Inj.le (j j' : Inj) : Prop := ∀ b x, j b = some x → j' b = some x
theorem Inj.le_refl (j : Inj) : j.le j := fun _ _ h => h
theorem Inj.le_trans {a b c : Inj} (h : a.le b) (k : b.le c) : a.le c := fun _ _ e => k _ _ (h _ _ e)

inductive VR (j : Inj) : AV → Value → Prop
  | b (x : Bool) : VR j (.b x) (.bool x)
  | i (k : IntKind) (n : Int) : VR j (.i k n) (.int k n)
  | s (t : ByteArray) : VR j (.s (bytesL t)) (.string t)
  | p {b rb d n o : Nat} (h : j b = some (rb, d, n)) : VR j (.p b o) (.pointer (some ⟨rb, o + d, none⟩))
  | np : VR j .np (.pointer none)
  | sl {b o len lo : Nat} {ex : Bool} {sz rb d n oo cap : Nat} (h : j b = some (rb, d, n)) (ho : 0 < lo → oo = o + d) (hl : len ≤ lo) (hc : lo ≤ cap) (hx : ex = true → cap = lo) (hb : oo + cap * sz ≤ n) :
      VR j (.sl b o len lo ex sz) (.slice (some ⟨rb, oo, none⟩) len cap)
  | ns : VR j .ns (.slice none 0 0)
  | e (a : Addr) : VR j (.e a) (.slice (some a) 0 0)
  | f {g : FuncId} {cs : List AV} {vs : List Value} (h : cs.length = vs.length) (h2 : ∀ (i : Nat) c v, cs[i]? = some c → vs[i]? = some v → VR j c v) : VR j (.f g cs) (.func (.func g) #[] vs.toArray)
  | nf : VR j .nf .nilFunc
  | agg {cs : List AV} {vs : List Value} (h : cs.length = vs.length) (h2 : ∀ (i : Nat) c v, cs[i]? = some c → vs[i]? = some v → VR j c v) : VR j (.agg cs) (.agg vs.toArray)
  | tup {cs : List AV} {vs : List Value} (h : cs.length = vs.length) (h2 : ∀ (i : Nat) c v, cs[i]? = some c → vs[i]? = some v → VR j c v) : VR j (.tup cs) (.tuple vs.toArray)
  | x (v : Value) : VR j (.x v) v

theorem VR.mono {j j' : Inj} (hj : j.le j') {a : AV} {v : Value} (h : VR j a v) : VR j' a v := by
  induction h with
  | b x => exact .b x
  | i k n => exact .i k n
  | s t => exact .s t
  | p h => exact .p (hj _ _ h)
  | np => exact .np
  | sl h ho hl hc hx hb => exact .sl (hj _ _ h) ho hl hc hx hb
  | ns => exact .ns
  | e a => exact .e a
  | f h _ ih => exact .f h ih
  | nf => exact .nf
  | agg h _ ih => exact .agg h ih
  | tup h _ ih => exact .tup h ih
  | x v => exact .x v
abbrev VRs (j : Inj) : List AV → List Value → Prop := All2 (VR j)
theorem VRs.mono {j j' : Inj} (hj : j.le j') {a : List AV} {v : List Value} (h : VRs j a v) : VRs j' a v := All2.mono (fun _ _ h => h.mono hj) h

theorem VR.agg' {j : Inj} {cs : List AV} {vs : List Value} (h : VRs j cs vs) : VR j (.agg cs) (.agg vs.toArray) := .agg h.length fun _ _ _ a b => h.get2 a b
theorem VR.tup' {j : Inj} {cs : List AV} {vs : List Value} (h : VRs j cs vs) : VR j (.tup cs) (.tuple vs.toArray) := .tup h.length fun _ _ _ a b => h.get2 a b
theorem VR.f' {j : Inj} {g : FuncId} {cs : List AV} {vs : List Value} (h : VRs j cs vs) : VR j (.f g cs) (.func (.func g) #[] vs.toArray) := .f h.length fun _ _ _ a b => h.get2 a b
theorem VR.agg_inv {j : Inj} {cs : List AV} {v : Value} (h : VR j (.agg cs) v) : ∃ vs : List Value, v = .agg vs.toArray ∧ VRs j cs vs := by
  cases h with | agg h h2 => exact ⟨_, rfl, All2.of_get h h2⟩
theorem VR.tup_inv {j : Inj} {cs : List AV} {v : Value} (h : VR j (.tup cs) v) : ∃ vs : List Value, v = .tuple vs.toArray ∧ VRs j cs vs := by
  cases h with | tup h h2 => exact ⟨_, rfl, All2.of_get h h2⟩
theorem VR.f_inv {j : Inj} {g : FuncId} {cs : List AV} {v : Value} (h : VR j (.f g cs) v) : ∃ vs : List Value, v = .func (.func g) #[] vs.toArray ∧ VRs j cs vs := by
  cases h with | f h h2 => exact ⟨_, rfl, All2.of_get h h2⟩

theorem convS_VR {j : Inj} {v : Value} {a : AV} (h : convS v = some a) : VR j a v := by
  unfold convS at h
  split at h <;> first | (cases h; done) | (injection h with h; subst h; constructor)
theorem convL_VR {j : Inj} : ∀ {vs : List Value} {cs : List AV}, convL vs = some cs → VRs j cs vs
  | [], cs, h => by simp only [convL] at h; injection h with h; subst h; exact .nil
  | v :: vs, cs, h => by
    simp only [convL] at h
    split at h
    · rename_i c cs' h1 h2
      injection h with h; subst h
      exact .cons (convS_VR h1) (convL_VR h2)
    · cases h
theorem conv_VR {j : Inj} {v : Value} {a : AV} (h : conv v = some a) : VR j a v := by
  unfold conv at h
  split at h
  · rename_i cs
    split at h
    · rename_i l hl
      injection h with h; subst h
      have := VR.agg' (convL_VR (j := j) hl)
      simpa using this
    · cases h
  · exact convS_VR h

/-- the cells -/
theorem VR.cells {j : Inj} {a : AV} {v : Value} (h : VR j a v) (hx : a.one = true) : VRs j a.cells v.cells.toList := by
  cases h with
  | agg h h2 => exact All2.of_get (by simpa [AV.cells, Value.cells] using h) (by simpa [AV.cells, Value.cells] using h2)
  | tup => simp [AV.one] at hx
  | x => simp [AV.one] at hx
  | _ => exact .cons (by constructor <;> assumption) .nil
theorem VR.sc_one {j : Inj} {a : AV} {v : Value} (h : VR j a v) (hs : a.sc = true) : v.oneCell' = true := by
  cases h <;> first | rfl | (simp [AV.sc] at hs)
theorem VRs.sc_one {j : Inj} {as : List AV} {vs : List Value} (h : VRs j as vs) (hs : as.all AV.sc = true) : ∀ v ∈ vs, v.oneCell' = true := by
  induction h with
  | nil => intro v hv; cases hv
  | cons h _ ih =>
    simp only [List.all_cons, Bool.and_eq_true] at hs
    intro v hv
    cases hv with
    | head => exact h.sc_one hs.1
    | tail _ hv => exact ih hs.2 v hv

/-! ### numbers -/
theorem kEq_eq {a b : IntKind} (h : kEq a b = true) : a = b := by cases a <;> cases b <;> first | rfl | (simp [kEq] at h)
theorem eqI_eq (a b : Int) : eqI a b = (a == b) := by
  cases a <;> cases b <;> simp only [eqI]
  · rename_i m n; rw [Bool.eq_iff_iff]; simp [Nat.beq_eq]; omega
  · rw [Bool.eq_iff_iff]; simp
  · rw [Bool.eq_iff_iff]; simp
  · rename_i m n; rw [Bool.eq_iff_iff]; simp [Nat.beq_eq]
theorem leI_eq (a b : Int) : leI a b = decide (a ≤ b) := by
  rw [Bool.eq_iff_iff, decide_eq_true_eq]
  cases a <;> cases b <;> simp only [leI]
  · rename_i m n
    have e : Nat.beq m 0 = decide (m = 0) := by cases m <;> rfl
    rw [e]
    by_cases h : m = 0
    · subst h; simp only [decide_true, cond_true, true_iff]; exact Int.natCast_nonneg n
    · simp only [h, decide_false, cond_false, Nat.ble_eq]; exact (Int.ofNat_le (m := m) (n := n)).symm
  · rename_i m n; simp; have := Int.negSucc_lt_zero n; omega
  · rename_i m n; simp; have := Int.negSucc_lt_zero m; omega
  · rename_i m n; rw [Nat.ble_eq]; omega
theorem posMod_eq (M : Nat) (hM : 0 < M) (n : Int) : (posMod M n : Int) = n % (M : Int) := by
  cases n with
  | ofNat m => show ((m % M : Nat) : Int) = _; simp
  | negSucc m =>
    show ((Nat.sub (Nat.pred M) (m % M) : Nat) : Int) = _
    have h1 : m % M < M := Nat.mod_lt _ hM
    have e : Nat.sub (Nat.pred M) (m % M) = M - 1 - m % M := rfl
    have h2 : Int.negSucc m = ((M - 1 - m % M : Nat) : Int) + (M : Int) * (-((m / M : Nat) : Int) - 1) := by
      have h3 : (m : Int) = M * ((m / M : Nat) : Int) + ((m % M : Nat) : Int) := by exact_mod_cast (Nat.div_add_mod m M).symm
      rw [Int.negSucc_eq, Int.mul_sub, Int.mul_neg]
      omega
    rw [e, h2, Int.add_mul_emod_self_left, Int.emod_eq_of_lt (by omega) (by omega)]
theorem wrap_cases (k : IntKind) (n : Int) : (k.wrap n = n % (kMod k : Int) ∧ n % (kMod k : Int) < kTop k) ∨ (k.wrap n = n % (kMod k : Int) - kMod k ∧ (kTop k : Int) ≤ n % (kMod k : Int)) := by
  have e1 : (2 ^ k.bits : Int) = (kMod k : Int) := by cases k <;> rfl
  have hlt : n % (kMod k : Int) < kMod k := Int.emod_lt_of_pos _ (by cases k <;> decide)
  unfold IntKind.wrap
  simp only [e1]
  cases hs : k.signed with
  | true =>
    have e2 : (2 ^ (k.bits - 1) : Int) = (kTop k : Int) := by cases k <;> first | rfl | cases hs
    simp only [e2, Bool.true_and, decide_eq_true_eq]
    by_cases h : n % (kMod k : Int) ≥ (kTop k : Int)
    · rw [if_pos h]; exact .inr ⟨rfl, h⟩
    · rw [if_neg h]; exact .inl ⟨rfl, by omega⟩
  | false =>
    have e3 : kTop k = kMod k := by cases k <;> first | rfl | cases hs
    simp only [Bool.false_and, Bool.false_eq_true, if_false]
    exact .inl ⟨trivial, by rw [e3]; exact hlt⟩
theorem wrapA_eq (k : IntKind) (n : Int) : wrapA k n = k.wrap n := by
  have hp : (posMod (kMod k) n : Int) = n % (kMod k : Int) := posMod_eq _ (by cases k <;> decide) n
  have hw := wrap_cases k n
  have hsum : kTop k + kLow k = kMod k := by cases k <;> rfl
  have hpos : 0 < kMod k := by cases k <;> decide
  unfold wrapA
  generalize k.wrap n = W at hw ⊢
  cases hi : inKind k n with
  | true =>
    simp only [cond_true]
    cases n with
    | ofNat m =>
      have hm : m < kTop k := by simpa [inKind, Nat.blt_eq] using hi
      have he : (Int.ofNat m) % (kMod k : Int) = (m : Int) := Int.emod_eq_of_lt (Int.natCast_nonneg m) (by show (m : Int) < _; omega)
      rw [he] at hw
      show (m : Int) = W
      omega
    | negSucc m =>
      have hm : m < kLow k := by simpa [inKind, Nat.blt_eq] using hi
      have he : (Int.negSucc m) % (kMod k : Int) = (kMod k : Int) - 1 - m := by
        have : Int.negSucc m = ((kMod k : Int) - 1 - m) + (kMod k : Int) * (-1) := by rw [Int.negSucc_eq]; omega
        rw [this, Int.add_mul_emod_self_left, Int.emod_eq_of_lt (by omega) (by omega)]
      rw [he] at hw
      rw [Int.negSucc_eq]
      omega
  | false =>
    simp only [cond_false]
    generalize posMod (kMod k) n = q at hp
    have hb : Nat.blt q (kTop k) = decide (q < kTop k) := by rw [Bool.eq_iff_iff]; simp [Nat.blt_eq]
    rw [hb]
    rw [← hp] at hw
    by_cases hq : q < kTop k
    · simp only [hq, decide_true, cond_true]
      show (q : Int) = W
      omega
    · simp only [hq, decide_false, cond_false]
      show (q : Int) - (kMod k : Int) = W
      omega

/-! ### the model's small steps, run -/
section
variable {P : Program} (w : World)
theorem run_typeInfo' {t : TypeId} {i : TypeInfo} (h : P.info? t = some i) : (typeInfo t).run P w = .ok i w := by simp [typeInfo, h]
theorem run_underlying' {t : TypeId} {d : TypeDesc} (h : P.underlying t = some d) : (underlying t).run P w = .ok d w := by simp [underlying, h]
theorem szOf_some {t : TypeId} {n : Nat} (h : szOf P t = some n) : ∃ i, P.info? t = some i ∧ i.size = n := by simpa [szOf] using h
theorem run_sizeOf' {t : TypeId} {n : Nat} (h : szOf P t = some n) : (sizeOf t).run P w = .ok n w := by
  obtain ⟨i, hi, rfl⟩ := szOf_some h
  simp [sizeOf, run_typeInfo' _ hi]
theorem run_isAgg' {t : TypeId} {c : Bool} (h : isAggT P t = some c) : (isAgg t).run P w = .ok c w := by
  unfold isAggT at h
  cases hu : P.underlying t with
  | none => simp [hu] at h
  | some d =>
    rw [hu] at h
    simp only [isAgg, Sem.run_bind, run_underlying' _ hu, Result.andThen_ok]
    cases d <;> simp at h <;> subst h <;> rfl
theorem zeroA_some {j : Inj} {t : TypeId} {z : List AV} (h : zeroA P t = some z) : ∃ i v, P.info? t = some i ∧ i.zero = some v ∧ VRs j z v.cells.toList := by
  unfold zeroA at h
  split at h
  · rename_i i hi
    split at h
    · rename_i v hv
      cases hc : conv v with
      | none => simp [hc] at h
      | some a =>
        simp [hc] at h
        subst h
        have ho : a.one = true := by
          unfold conv at hc
          split at hc
          · split at hc
            · injection hc with hc; subst hc; rfl
            · cases hc
          · unfold convS at hc
            split at hc <;> first | (cases hc; done) | (injection hc with hc; subst hc; rfl)
        exact ⟨i, v, hi, hv, (conv_VR hc).cells ho⟩
    · cases h
  · cases h
theorem run_zeroValue' {t : TypeId} {i : TypeInfo} {v : Value} (hi : P.info? t = some i) (hz : i.zero = some v) : (zeroValue t).run P w = .ok v w := by
  simp [zeroValue, run_typeInfo' _ hi, hz]
omit w in
theorem run_part' {j : Inj} {t : TypeId} {cs : List AV} {vs : List Value} {off : Nat} {v : AV} (h : partA P t cs off = some v) (hv : VRs j cs vs) :
    ∃ v', VR j v v' ∧ ∀ w, (part t vs.toArray off).run P w = .ok v' w := by
  unfold partA at h
  cases ha : isAggT P t with
  | none => simp [ha] at h
  | some c =>
    simp only [ha] at h
    cases c with
    | true =>
      simp only at h
      cases hs : szOf P t with
      | none => simp [hs] at h
      | some n =>
        simp only [hs, Option.bind_some] at h
        unfold sub? at h
        cases hb : Nat.ble (off + n) cs.length with
        | false => simp [hb] at h
        | true =>
          simp [hb] at h
          subst h
          refine ⟨_, VR.agg' ((hv.drop off).take n), fun w => ?_⟩
          simp only [part, Sem.run_bind, run_isAgg' _ ha, Result.andThen_ok, if_true, run_sizeOf' _ hs, Sem.run_pure]
          congr 2
          simp
    | false =>
      simp only at h
      have hn : ∀ (l : List AV) i, nthL l i = l[i]? := by
        intro l
        induction l with
        | nil => intro i; simp [nthL]
        | cons a l ih => intro i; cases i <;> simp [nthL, ih]
      rw [hn] at h
      obtain ⟨v', h1, h2⟩ := hv.get h
      refine ⟨v', h2, fun w => ?_⟩
      simp only [part, Sem.run_bind, run_isAgg' _ ha, Result.andThen_ok, Bool.false_eq_true, if_false]
      simp [h1]
end
theorem nthL_eq {α : Type} : ∀ (l : List α) (i : Nat), nthL l i = l[i]?
  | [], i => by simp [nthL]
  | a :: l, 0 => by simp [nthL]
  | a :: l, i + 1 => by simp [nthL, nthL_eq l i]

end Go.Proofs.YthnhdgcaolgdnaaAn
