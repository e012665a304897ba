/- Plain laws of the small functions: vectors. -/
import Derived.Test.YtpmcojmhkpaoaaaLibS
import Derived.Test.YtpmcojmhkpaoaaaPAx4
set_option linter.unusedVariables false
set_option linter.unusedSimpArgs false
namespace Go.Proofs.Ytpmcojmhkpaoaaa.PA
open Go.RowKit Go.Proofs.YtpmcojmhkpaoaaaW.PrintWords Go.Proofs.YtpmcojmhkpaoaaaW.PrintLast Go.Proofs.YtpmcojmhkpaoaaaW.PrintMore

def inVec (x : Int) : Prop := 0 ≤ x ∧ x ≤ 1099511627776
instance (x : Int) : Decidable (inVec x) := inferInstanceAs (Decidable (_ ∧ _))
def isVec (v : List Int) : Bool := decide (1 ≤ v.length ∧ v.length ≤ 16 ∧ ∀ x ∈ v, inVec x)
theorem isVec_iff {v : List Int} : isVec v = true ↔ 1 ≤ v.length ∧ v.length ≤ 16 ∧ ∀ x ∈ v, inVec x := by unfold isVec; rw [decide_eq_true_eq]
theorem all_drop {p : Int → Prop} {v : List Int} {i : Nat} (h : i < v.length) : (∀ x ∈ v.drop i, p x) ↔ p v[i] ∧ ∀ x ∈ v.drop (i + 1), p x := by
  rw [List.drop_eq_getElem_cons h, List.forall_mem_cons]
theorem haveIs_L (v : List Int) (hl : v.length < 9223372036854775807) : ∀ (d i : Nat), i ≤ v.length → v.length - i = d → have_Is.L0 v (i : Int) = some (decide (1 ≤ v.length ∧ v.length ≤ 16 ∧ ∀ x ∈ v.drop i, inVec x)) := by
  intro d
  induction d with
  | zero =>
    intro i hi hd
    have hi' : i = v.length := by omega
    subst hi'
    rw [have_Is.L0_eq, if_pos (by omega)]
    simp only [List.drop_length]
    by_cases h : (v.length : Int) ≥ 1
    · rw [if_pos h]
      exact congrArg some (decide_eq_decide.2 (by simp; omega))
    · rw [if_neg h]
      exact congrArg some (decide_eq_false (by omega)).symm
  | succ d ih =>
    intro i hi hd
    have hil : i < v.length := by omega
    rw [have_Is.L0_eq, if_neg (by omega), if_pos (by omega), if_pos (by omega), rd_nat v i hil]
    have hall := all_drop (p := inVec) hil
    by_cases h1 : v[i] ≥ 0
    · rw [if_pos h1]
      by_cases h2 : v[i] ≤ 1099511627776
      · rw [if_pos h2, w64s (by omega) (by omega), show ((i : Int) + 1) = ((i + 1 : Nat) : Int) from rfl, ih (i + 1) (by omega) (by omega)]
        refine congrArg some (decide_eq_decide.2 ?_)
        rw [hall]
        exact ⟨fun h => ⟨h.1, h.2.1, ⟨h1, h2⟩, h.2.2⟩, fun h => ⟨h.1, h.2.1, h.2.2.2⟩⟩
      · rw [if_neg h2]
        exact congrArg some (decide_eq_false (fun h => h2 (hall.1 h.2.2).1.2)).symm
    · rw [if_neg h1]
      exact congrArg some (decide_eq_false (fun h => h1 (hall.1 h.2.2).1.1)).symm
theorem haveIs (v : List Int) (hl : v.length < 9223372036854775807) : have_Is.F v = some (isVec v) := by
  rw [have_Is.F_eq]
  exact haveIs_L v hl v.length 0 (by omega) (by omega)
theorem refVector_L (v : List Int) (hl : v.length < 9223372036854775807) : ∀ (d i : Nat), i ≤ v.length → v.length - i = d → arrasref6_Vector.L0 v (i : Int) = some (decide (1 ≤ v.length ∧ v.length ≤ 16 ∧ ∀ x ∈ v.drop i, inVec x)) := by
  intro d
  induction d with
  | zero =>
    intro i hi hd
    have hi' : i = v.length := by omega
    subst hi'
    rw [arrasref6_Vector.L0_eq, if_neg (by omega)]
    simp only [List.drop_length]
    by_cases h : (v.length : Int) ≥ 1
    · rw [if_pos h]
      exact congrArg some (decide_eq_decide.2 (by simp; omega))
    · rw [if_neg h]
      exact congrArg some (decide_eq_false (by omega)).symm
  | succ d ih =>
    intro i hi hd
    have hil : i < v.length := by omega
    rw [arrasref6_Vector.L0_eq, if_pos (by omega), if_pos (by omega), rd_nat v i hil, refNum, Option.bind_some]
    have hall := all_drop (p := inVec) hil
    by_cases h1 : 0 ≤ v[i] ∧ v[i] ≤ 1099511627776
    · rw [if_pos (decide_eq_true h1), w64s (by omega) (by omega), show ((i : Int) + 1) = ((i + 1 : Nat) : Int) from rfl, ih (i + 1) (by omega) (by omega)]
      refine congrArg some (decide_eq_decide.2 ?_)
      rw [hall]
      exact ⟨fun h => ⟨h.1, h.2.1, h1, h.2.2⟩, fun h => ⟨h.1, h.2.1, h.2.2.2⟩⟩
    · rw [if_neg (by rw [decide_eq_true_eq]; exact h1)]
      exact congrArg some (decide_eq_false (fun h => h1 (hall.1 h.2.2).1)).symm
theorem refVector (v : List Int) (hl : v.length < 9223372036854775807) : arrasref6_Vector.F v = some (isVec v) := by
  rw [arrasref6_Vector.F_eq]
  exact refVector_L v hl v.length 0 (by omega) (by omega)
def isPair (a b : List Int) : Bool := isVec a && isVec b && decide (a.length = b.length)
theorem isPair_iff {a b : List Int} : isPair a b = true ↔ isVec a = true ∧ isVec b = true ∧ a.length = b.length := by
  simp [isPair, and_assoc]
theorem together_F (a b : List Int) (ha : a.length < 9223372036854775807) (hb : b.length < 9223372036854775807) : have_together.F a b = some (isPair a b) := by
  rw [have_together.F_eq, haveIs a ha, Option.bind_some, haveIs b hb, Option.bind_some]
  unfold isPair
  have e : ((a.length : Int) == (b.length : Int)) = decide (a.length = b.length) := by
    by_cases h : a.length = b.length
    · simp [h]
    · simp [h]; omega
  rw [e]
  cases isVec a <;> cases isVec b <;> simp
theorem refPair (a b : List Int) (ha : a.length < 9223372036854775807) (hb : b.length < 9223372036854775807) : arrasref6_Pair.F a b = some (isPair a b) := by
  rw [arrasref6_Pair.F_eq, refVector a ha, Option.bind_some, refVector b hb, Option.bind_some]
  unfold isPair
  have e : ((a.length : Int) == (b.length : Int)) = decide (a.length = b.length) := by
    by_cases h : a.length = b.length
    · simp [h]
    · simp [h]; omega
  rw [e]
  cases isVec a <;> cases isVec b <;> simp

/-! ### Element by element -/
def joinV (a b : List Int) : List Int := List.zipWith mx a b
def lacksV (a b : List Int) : List Int := List.zipWith (fun x y => mx 0 (y - x)) a b
def overV (a b : List Int) : Bool := decide (∀ (i : Nat) (h1 : i < a.length) (h2 : i < b.length), b[i] ≤ a[i])
theorem zip_take_succ (f : Int → Int → Int) (a b : List Int) (i : Nat) (ha : i < a.length) (hb : i < b.length) : (List.zipWith f a b).take (i + 1) = (List.zipWith f a b).take i ++ [f a[i] b[i]] := by
  rw [take_succ' _ i (by simp; omega)]
  simp
theorem join_L (a b : List Int) (hab : a.length = b.length) (hl : a.length < 17592186044416) : ∀ (d i : Nat), i ≤ a.length → a.length - i = d →
    have_Join.L0 a b ((joinV a b).take i) (a.length : Int) (i : Int) = some (joinV a b, 0) := by
  have hlen : (joinV a b).length = a.length := by simp [joinV]; omega
  intro d
  induction d with
  | zero =>
    intro i hi hd
    rw [have_Join.L0_eq, if_neg (by omega), List.take_of_length_le (by omega)]
  | succ d ih =>
    intro i hi hd
    rw [have_Join.L0_eq, if_pos (by omega), if_pos (by omega), if_pos (by omega), if_pos (by omega), if_pos (by rw [List.length_take]; omega), rd_nat a i (by omega), rd_nat b i (by omega), w64s (by omega) (by omega)]
    have := zip_take_succ mx a b i (by omega) (by omega)
    unfold joinV at ih ⊢
    rw [← this]
    exact ih (i + 1) (by omega) (by omega)
theorem join_F (a b : List Int) (ha : a.length < 17592186044416) (hb : b.length < 17592186044416) : have_Join.F a b = some (if isPair a b = true then (joinV a b, 0) else ([], 1)) := by
  rw [have_Join.F_eq, together_F a b (by omega) (by omega), Option.bind_some]
  by_cases h : isPair a b = true
  · rw [if_pos h, if_pos h]
    exact join_L a b (isPair_iff.1 h).2.2 ha a.length 0 (by omega) (by omega)
  · rw [if_neg h, if_neg h]
theorem lacks_L (a b : List Int) (hab : a.length = b.length) (hl : a.length < 17592186044416) (hva : ∀ x ∈ a, inVec x) (hvb : ∀ x ∈ b, inVec x) : ∀ (d i : Nat), i ≤ a.length → a.length - i = d →
    have_Lacks.L0 a b ((lacksV a b).take i) (a.length : Int) (i : Int) = some (lacksV a b, 0) := by
  have hlen : (lacksV a b).length = a.length := by simp [lacksV]; omega
  intro d
  induction d with
  | zero =>
    intro i hi hd
    rw [have_Lacks.L0_eq, if_neg (by omega), List.take_of_length_le (by omega)]
  | succ d ih =>
    intro i hi hd
    have h1 := hva a[i] (List.getElem_mem (by omega))
    have h2 := hvb b[i] (List.getElem_mem (by omega))
    unfold inVec at h1 h2
    rw [have_Lacks.L0_eq, if_pos (by omega), if_pos (by omega), if_pos (by omega), if_pos (by omega), if_pos (by rw [List.length_take]; omega), rd_nat a i (by omega), rd_nat b i (by omega), w64s (by omega) (by omega), w64 (by omega) (by omega)]
    have := zip_take_succ (fun x y => mx 0 (y - x)) a b i (by omega) (by omega)
    unfold lacksV at ih ⊢
    rw [← this]
    exact ih (i + 1) (by omega) (by omega)
theorem lacks_F (a b : List Int) (ha : a.length < 17592186044416) (hb : b.length < 17592186044416) : have_Lacks.F a b = some (if isPair a b = true then (lacksV a b, 0) else ([], 1)) := by
  rw [have_Lacks.F_eq, together_F a b (by omega) (by omega), Option.bind_some]
  by_cases h : isPair a b = true
  · rw [if_pos h, if_pos h]
    obtain ⟨h1, h2, h3⟩ := isPair_iff.1 h
    exact lacks_L a b h3 ha (isVec_iff.1 h1).2.2 (isVec_iff.1 h2).2.2 a.length 0 (by omega) (by omega)
  · rw [if_neg h, if_neg h]
theorem over_L (a b : List Int) (hab : a.length = b.length) (hl : a.length < 17592186044416) : ∀ (d i : Nat), i ≤ a.length → a.length - i = d →
    have_Over.L0 a b (a.length : Int) (i : Int) = some (decide (∀ (j : Nat) (h1 : j < a.length) (h2 : j < b.length), i ≤ j → b[j] ≤ a[j])) := by
  intro d
  induction d with
  | zero =>
    intro i hi hd
    rw [have_Over.L0_eq, if_neg (by omega)]
    exact congrArg some (decide_eq_true (fun j h1 h2 h3 => by omega)).symm
  | succ d ih =>
    intro i hi hd
    rw [have_Over.L0_eq, if_pos (by omega), if_pos (by omega), if_pos (by omega), if_pos (by omega), rd_nat a i (by omega), rd_nat b i (by omega), w64s (by omega) (by omega), show ((i : Int) + 1) = ((i + 1 : Nat) : Int) from rfl, ih (i + 1) (by omega) (by omega)]
    by_cases h : b[i] > a[i]
    · rw [if_pos h]
      exact congrArg some (decide_eq_false (fun hh => by have := hh i (by omega) (by omega) (Nat.le_refl _); omega)).symm
    · rw [if_neg h]
      refine congrArg some (decide_eq_decide.2 ⟨fun hh j h1 h2 h3 => ?_, fun hh j h1 h2 h3 => hh j h1 h2 (by omega)⟩)
      by_cases hj : j = i
      · subst hj; omega
      · exact hh j h1 h2 (by omega)
theorem over_F (a b : List Int) (hab : a.length = b.length) (hl : a.length < 17592186044416) : have_Over.F a b = some (overV a b) := by
  rw [have_Over.F_eq]
  have := over_L a b hab hl a.length 0 (by omega) (by omega)
  rw [show ((0 : Nat) : Int) = 0 from rfl] at this
  rw [this]
  exact congrArg some (decide_eq_decide.2 ⟨fun hh j h1 h2 => hh j h1 h2 (Nat.zero_le _), fun hh j h1 h2 _ => hh j h1 h2⟩)
theorem refCovers_L (a b : List Int) (hab : a.length = b.length) (hl : a.length < 17592186044416) : ∀ (d i : Nat), i ≤ a.length → a.length - i = d →
    arrasref6_Covers.L0 a b (i : Int) = some (decide (∀ (j : Nat) (h1 : j < a.length) (h2 : j < b.length), i ≤ j → b[j] ≤ a[j])) := by
  intro d
  induction d with
  | zero =>
    intro i hi hd
    rw [arrasref6_Covers.L0_eq, if_neg (by omega)]
    exact congrArg some (decide_eq_true (fun j h1 h2 h3 => by omega)).symm
  | succ d ih =>
    intro i hi hd
    rw [arrasref6_Covers.L0_eq, if_pos (by omega), if_pos (by omega), if_pos (by omega), rd_nat a i (by omega), rd_nat b i (by omega), w64s (by omega) (by omega), show ((i : Int) + 1) = ((i + 1 : Nat) : Int) from rfl, ih (i + 1) (by omega) (by omega)]
    by_cases h : b[i] > a[i]
    · rw [if_pos h]
      exact congrArg some (decide_eq_false (fun hh => by have := hh i (by omega) (by omega) (Nat.le_refl _); omega)).symm
    · rw [if_neg h]
      refine congrArg some (decide_eq_decide.2 ⟨fun hh j h1 h2 h3 => ?_, fun hh j h1 h2 h3 => hh j h1 h2 (by omega)⟩)
      by_cases hj : j = i
      · subst hj; omega
      · exact hh j h1 h2 (by omega)
theorem refCovers (a b : List Int) (hab : a.length = b.length) (hl : a.length < 17592186044416) : arrasref6_Covers.F a b = some (overV a b) := by
  rw [arrasref6_Covers.F_eq]
  have := refCovers_L a b hab hl a.length 0 (by omega) (by omega)
  rw [show ((0 : Nat) : Int) = 0 from rfl] at this
  rw [this]
  exact congrArg some (decide_eq_decide.2 ⟨fun hh j h1 h2 => hh j h1 h2 (Nat.zero_le _), fun hh j h1 h2 _ => hh j h1 h2⟩)
theorem covers_F (a b : List Int) (ha : a.length < 17592186044416) (hb : b.length < 17592186044416) : have_Covers.F a b = some (if isPair a b = true then (overV a b, 0) else (false, 1)) := by
  rw [have_Covers.F_eq, together_F a b (by omega) (by omega), Option.bind_some]
  by_cases h : isPair a b = true
  · rw [if_pos h, if_pos h, over_F a b (isPair_iff.1 h).2.2 ha, Option.bind_some]
  · rw [if_neg h, if_neg h]
theorem sum_le (v : List Int) (h : ∀ x ∈ v, inVec x) : 0 ≤ v.sum ∧ v.sum ≤ v.length * 1099511627776 := by
  induction v with
  | nil => simp
  | cons x v ih =>
    have h1 := h x (by simp)
    have h2 := ih (fun y hy => h y (by simp [hy]))
    unfold inVec at h1
    simp only [List.sum_cons, List.length_cons]
    omega
theorem sum_take_succ (v : List Int) (i : Nat) (h : i < v.length) : (v.take (i + 1)).sum = (v.take i).sum + v[i] := by
  rw [take_succ' v i h, List.sum_append]
  simp
theorem count_L (v : List Int) (hl : v.length ≤ 16) (hv : ∀ x ∈ v, inVec x) : ∀ (d i : Nat), i ≤ v.length → v.length - i = d → have_Count.L0 (v.take i).sum v (v.length : Int) (i : Int) = some (v.sum, 0) := by
  intro d
  induction d with
  | zero =>
    intro i hi hd
    rw [have_Count.L0_eq, if_neg (by omega), List.take_of_length_le (by omega)]
  | succ d ih =>
    intro i hi hd
    have hs := sum_le (v.take i) (fun x hx => hv x (List.mem_of_mem_take hx))
    have hx := hv v[i] (List.getElem_mem (by omega))
    have ht : (v.take i).length ≤ 16 := by rw [List.length_take]; omega
    unfold inVec at hx
    have hb : ((v.take i).length : Int) * 1099511627776 ≤ 16 * 1099511627776 := by omega
    rw [have_Count.L0_eq, if_pos (by omega), if_pos (by omega), if_pos (by omega), rd_nat v i (by omega), w64s (by omega) (by omega), w64 (by omega) (by omega), ← sum_take_succ v i (by omega)]
    exact ih (i + 1) (by omega) (by omega)
theorem count_F (v : List Int) (hl : v.length < 9223372036854775807) : have_Count.F v = some (if isVec v = true then (v.sum, 0) else (0, 1)) := by
  rw [have_Count.F_eq, haveIs v hl, Option.bind_some]
  by_cases h : isVec v = true
  · rw [if_pos h, if_pos h]
    obtain ⟨h1, h2, h3⟩ := isVec_iff.1 h
    exact count_L v h2 h3 v.length 0 (by omega) (by omega)
  · rw [if_neg h, if_neg h]
theorem wakes7 : arraslaw7_wakes.F = some true := by
  rw [arraslaw7_wakes.F_eq, join_F _ _ (by decide) (by decide), Option.bind_some, if_pos (by decide)]
  simp only [arraslaw7_num.f, Option.bind_some, if_true]
  rw [eqNumbers _ _ (by decide)]
  rfl
theorem joinV_length (a b : List Int) (h : a.length = b.length) : (joinV a b).length = a.length := by simp [joinV]; omega
theorem lacksV_length (a b : List Int) (h : a.length = b.length) : (lacksV a b).length = a.length := by simp [lacksV]; omega
theorem joinV_get (a b : List Int) (i : Nat) (h1 : i < a.length) (h2 : i < b.length) (h : i < (joinV a b).length) : (joinV a b)[i] = mx a[i] b[i] := by simp [joinV]
theorem lacksV_get (a b : List Int) (i : Nat) (h1 : i < a.length) (h2 : i < b.length) (h : i < (lacksV a b).length) : (lacksV a b)[i] = mx 0 (b[i] - a[i]) := by simp [lacksV]
theorem vec_of {v : List Int} (h1 : 1 ≤ v.length) (h2 : v.length ≤ 16) (h : ∀ (i : Nat) (hi : i < v.length), inVec v[i]) : isVec v = true :=
  isVec_iff.2 ⟨h1, h2, fun x hx => by obtain ⟨i, hi, rfl⟩ := List.mem_iff_getElem.1 hx; exact h i hi⟩
theorem vec_get {v : List Int} (h : isVec v = true) (i : Nat) (hi : i < v.length) : 0 ≤ v[i] ∧ v[i] ≤ 1099511627776 := (isVec_iff.1 h).2.2 _ (List.getElem_mem hi)
theorem join_vec {a b : List Int} (h : isPair a b = true) : isVec (joinV a b) = true := by
  obtain ⟨ha, hb, hl⟩ := isPair_iff.1 h
  have hj := joinV_length a b hl
  have := isVec_iff.1 ha
  refine vec_of (by omega) (by omega) (fun i hi => ?_)
  rw [joinV_get a b i (by omega) (by omega)]
  have h1 := vec_get ha i (by omega)
  have h2 := vec_get hb i (by omega)
  unfold inVec mx
  split <;> omega
theorem join_comm {a b : List Int} (h : a.length = b.length) : joinV b a = joinV a b := by
  apply List.ext_getElem
  · rw [joinV_length _ _ h, joinV_length _ _ h.symm]; omega
  · intro i h1 h2
    rw [joinV_length _ _ h.symm] at h1
    rw [joinV_get b a i (by omega) (by omega), joinV_get a b i (by omega) (by omega)]
    unfold mx
    split <;> split <;> omega
theorem join_self (a : List Int) : joinV a a = a := by
  apply List.ext_getElem
  · exact joinV_length a a rfl
  · intro i h1 h2
    rw [joinV_get a a i (by omega) (by omega)]
    unfold mx
    split <;> omega
theorem pair_join {a b : List Int} (h : isPair a b = true) : isPair (joinV a b) a = true ∧ isPair (joinV a b) b = true := by
  obtain ⟨ha, hb, hl⟩ := isPair_iff.1 h
  exact ⟨isPair_iff.2 ⟨join_vec h, ha, joinV_length a b hl⟩, isPair_iff.2 ⟨join_vec h, hb, (joinV_length a b hl).trans hl⟩⟩
theorem over_join {a b : List Int} (hl : a.length = b.length) : overV (joinV a b) a = true ∧ overV (joinV a b) b = true := by
  have hj := joinV_length a b hl
  refine ⟨decide_eq_true (fun i h1 h2 => ?_), decide_eq_true (fun i h1 h2 => ?_)⟩
  all_goals
    rw [joinV_get a b i (by omega) (by omega)]
    unfold mx
    split <;> omega

theorem rd86 (l : List S86) (i : Nat) (h : i < l.length) : rd_T86 l (i : Int) = l[i] := by simp [rd_T86, h]
theorem heavy7 (a b x : List Int) (ha : a.length < 4611686018427387904) (hb : b.length < 4611686018427387904) : arraslaw7_heavy.f a b x = some (decide (a.length + b.length > 2000 ∨ x.length > 3000)) := by
  unfold arraslaw7_heavy.f
  rw [w64 (by omega) (by omega)]
  by_cases h1 : (a.length : Int) + (b.length : Int) > 2000
  · rw [if_pos h1]
    exact congrArg some (decide_eq_true (.inl (by omega))).symm
  · rw [if_neg h1]
    exact congrArg some (decide_eq_decide.2 ⟨fun h => .inr (by omega), fun h => by omega⟩)
end Go.Proofs.Ytpmcojmhkpaoaaa.PA
