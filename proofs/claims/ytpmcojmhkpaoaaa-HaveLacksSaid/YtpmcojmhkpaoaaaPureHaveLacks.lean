/- The plain law behind HaveLacks: joined with what is lacked no more is lacked; who lacks nothing covers it. -/
import Derived.Test.YtpmcojmhkpaoaaaStatHaveLacks
import Derived.Test.YtpmcojmhkpaoaaaLibH
set_option linter.unusedVariables false
set_option linter.unusedSimpArgs false
namespace Go.Proofs.Ytpmcojmhkpaoaaa.PA
open Go.RowKit Go.Proofs.YtpmcojmhkpaoaaaW.PrintWords Go.Proofs.YtpmcojmhkpaoaaaW.PrintLast Go.Proofs.YtpmcojmhkpaoaaaW.PrintMore
theorem sum_zip (a : List Int) : ∀ (b : List Int), a.length = b.length → (joinV a b).sum = a.sum + (lacksV a b).sum := by
  unfold joinV lacksV
  induction a with
  | nil => intro b _; simp
  | cons x a ih =>
    intro b hb
    cases b with
    | nil => simp at hb
    | cons y b =>
      simp only [List.zipWith_cons_cons, List.sum_cons]
      rw [ih b (by simpa using hb)]
      have : mx x y = x + mx 0 (y - x) := by unfold mx; split <;> split <;> omega
      omega
theorem lacks_join (a b : List Int) (hl : a.length = b.length) (i : Nat) (h1 : i < a.length) : rd (lacksV (joinV a b) b) (i : Int) = 0 := by
  have hj := joinV_length a b hl
  have hk := lacksV_length (joinV a b) b (by omega)
  rw [rd_nat _ i (by omega), lacksV_get _ _ i (by omega) (by omega), joinV_get a b i h1 (by omega)]
  unfold mx
  split <;> split at * <;> omega
theorem lacks_none (a b : List Int) (hl : a.length = b.length) : overV a b = (lacksV a b).all (· == 0) := by
  have hk := lacksV_length a b hl
  unfold overV
  rw [Bool.eq_iff_iff, decide_eq_true_eq, List.all_eq_true]
  simp only [beq_iff_eq]
  constructor
  · intro h x hx
    obtain ⟨i, hi, rfl⟩ := List.mem_iff_getElem.1 hx
    rw [lacksV_get a b i (by omega) (by omega)]
    have := h i (by omega) (by omega)
    unfold mx
    split <;> omega
  · intro h i h1 h2
    have := h _ (List.getElem_mem (show i < (lacksV a b).length by omega))
    rw [lacksV_get a b i h1 h2] at this
    unfold mx at this
    split at this <;> omega
theorem haveLacks_none (l : List S86) (x : Int) (v y : List Int) (e : Int) (ok : Bool) (f : Int) (A B C z : List Int) (hz : z.length ≤ 16) : ∀ (d i : Nat) (none : Bool), i ≤ z.length → z.length - i = d →
    arraslaw7_HaveLacks.L1 l x z v y e ok f none (i : Int) A B C = arraslaw7_HaveLacks.L1 l x z v y e ok f (none && (z.drop i).all (· == 0)) (z.length : Int) A B C := by
  intro d
  induction d with
  | zero =>
    intro i none hi hd
    have : i = z.length := by omega
    subst this
    simp
  | succ d ih =>
    intro i none hi hd
    have hil : i < z.length := by omega
    rw [arraslaw7_HaveLacks.L1_eq, if_pos (by omega)]
    have hd2 : (z.drop i).all (· == 0) = (z[i] == 0 && (z.drop (i + 1)).all (· == 0)) := by
      rw [List.drop_eq_getElem_cons hil, List.all_cons]
    cases none with
    | true =>
      rw [if_pos rfl, if_pos (by omega), rd_nat z i hil, w64s (by omega) (by omega), show ((i : Int) + 1) = ((i + 1 : Nat) : Int) from rfl, ih (i + 1) _ (by omega) (by omega), hd2]
      rw [Bool.true_and]
    | false =>
      rw [if_neg (by simp), w64s (by omega) (by omega), show ((i : Int) + 1) = ((i + 1 : Nat) : Int) from rfl, ih (i + 1) _ (by omega) (by omega)]
      simp
theorem haveLacks_sum (l : List S86) (x : Int) (z y : List Int) (e : Int) (ok : Bool) (f : Int) (none : Bool) (n j m k : Int) (hz : z.length ≤ 16) (hv : ∀ q ∈ z, inVec q) (hy : ∀ (i : Nat), i < z.length → rd y (i : Int) = 0) (hyl : z.length = y.length) :
    ∀ (d i : Nat), i ≤ z.length → z.length - i = d →
    arraslaw7_HaveLacks.L2 l x z y e ok f none n j m k ((z.take i).sum) (i : Int) = arraslaw7_HaveLacks.L2 l x z y e ok f none n j m k z.sum (z.length : Int) := by
  intro d
  induction d with
  | zero =>
    intro i hi hd
    have : i = z.length := by omega
    subst this
    simp
  | succ d ih =>
    intro i hi hd
    have hil : i < z.length := by omega
    have hs := sum_le (z.take i) (fun q hq => hv q (List.mem_of_mem_take hq))
    have hx := hv z[i] (List.getElem_mem hil)
    have ht : (z.take i).length ≤ 16 := by rw [List.length_take]; omega
    unfold inVec at hx
    have hb : ((z.take i).length : Int) * 1099511627776 ≤ 16 * 1099511627776 := by omega
    conv => lhs; rw [arraslaw7_HaveLacks.L2_eq]
    rw [if_pos (by omega), if_pos (by omega), if_pos (by omega), if_pos (hy i hil), rd_nat z i hil, w64 (by omega) (by omega), w64s (by omega) (by omega), ← sum_take_succ z i hil]
    exact ih (i + 1) (by omega) (by omega)
theorem lacks_vec {a b : List Int} (h : isPair a b = true) : ∀ q ∈ lacksV a b, inVec q := by
  obtain ⟨ha, hb, hl⟩ := isPair_iff.1 h
  have hk := lacksV_length a b hl
  intro q hq
  obtain ⟨i, hi, rfl⟩ := List.mem_iff_getElem.1 hq
  rw [lacksV_get a b i (by omega) (by omega)]
  have h1 := vec_get ha i (by omega)
  have h2 := vec_get hb i (by omega)
  unfold inVec mx
  split <;> omega
theorem haveLacks_L (l : List S86) (hl : l.length ≤ 9223372036854775807) (hok : ∀ a ∈ l, ok_T86 a) : ∀ (d i : Nat), i ≤ l.length → l.length - i = d → arraslaw7_HaveLacks.L0 l (i : Int) = some true := by
  intro d
  induction d with
  | zero =>
    intro i hi hd
    rw [arraslaw7_HaveLacks.L0_eq, if_neg (by omega), arraslaw7_HaveLacks.J1_eq, if_neg (by simp), wakes7]
    rfl
  | succ d ih =>
    intro i hi hd
    have hil : i < l.length := by omega
    rw [arraslaw7_HaveLacks.L0_eq, if_pos (by omega), arraslaw7_HaveLacks.J1_eq]
    by_cases h20 : (i : Int) < 15
    · rw [if_pos (decide_eq_true h20), if_pos (by omega), if_pos (by omega), rd86 l i hil]
      obtain ⟨⟨_, hx0, _⟩, ⟨_, hx1, _⟩, _⟩ := hok l[i] (List.getElem_mem hil)
      have done : arraslaw7_HaveLacks.L0 l (wrap64 ((i : Int) + 1)) = some true := by
        rw [w64s (by omega) (by omega)]
        exact ih (i + 1) (by omega) (by omega)
      generalize l[i] = x at *
      generalize x.f0 = a at *
      generalize x.f1 = b at *
      rw [heavy7 _ _ _ (by omega) (by omega), Option.bind_some]
      by_cases hv : a.length + b.length > 2000 ∨ x.f2.length > 3000
      · rw [if_pos (decide_eq_true hv), arraslaw7_HaveLacks.J2_eq, if_pos rfl, done]
      · rw [if_neg (by rw [decide_eq_true_eq]; exact hv), refPair _ _ (by omega) (by omega), Option.bind_some, arraslaw7_HaveLacks.J2_eq]
        by_cases hp : isPair a b = true
        · obtain ⟨ha, hb, hab⟩ := isPair_iff.1 hp
          have hj := joinV_length a b hab
          have hk := lacksV_length a b hab
          have hk2 := lacksV_length (joinV a b) b (by omega)
          have h16 := (isVec_iff.1 ha).2.1
          rw [if_neg (by simp [hp]), lacks_F _ _ (by omega) (by omega), if_pos hp, Option.bind_some, join_F _ _ (by omega) (by omega), if_pos hp, Option.bind_some]
          simp only [arraslaw7_num.f, Option.bind_some, if_true]
          rw [arraslaw7_HaveLacks.J3_eq, if_neg (by simp), lacks_F _ _ (by omega) (by omega), if_pos (pair_join hp).2, Option.bind_some, covers_F _ _ (by omega) (by omega), if_pos hp, Option.bind_some]
          have e1 := haveLacks_none l (i : Int) (joinV a b) (lacksV (joinV a b) b) 0 (overV a b) 0 a b x.f2 (lacksV a b) (by omega) a.length 0 true (by omega) (by omega)
          rw [show ((0 : Nat) : Int) = 0 from rfl] at e1
          show arraslaw7_HaveLacks.L1 l (i : Int) (lacksV a b) (joinV a b) (lacksV (joinV a b) b) 0 (overV a b) 0 true 0 a b x.f2 = some true
          rw [e1, arraslaw7_HaveLacks.L1_eq, if_neg (by omega), count_F _ (by omega), if_pos ha, Option.bind_some, count_F _ (by omega), if_pos (join_vec hp), Option.bind_some]
          have e2 := haveLacks_sum l (i : Int) (lacksV a b) (lacksV (joinV a b) b) 0 (overV a b) 0 (true && ((lacksV a b).drop 0).all (· == 0)) a.sum 0 (joinV a b).sum 0 (by omega) (lacks_vec hp) (fun q hq => lacks_join a b hab q (by omega)) (by omega) (lacksV a b).length 0 (by omega) (by omega)
          simp only [List.take_zero, List.sum_nil] at e2
          rw [show ((0 : Nat) : Int) = 0 from rfl] at e2
          show arraslaw7_HaveLacks.L2 l (i : Int) (lacksV a b) (lacksV (joinV a b) b) 0 (overV a b) 0 (true && ((lacksV a b).drop 0).all (· == 0)) a.sum 0 (joinV a b).sum 0 0 0 = some true
          rw [e2, arraslaw7_HaveLacks.L2_eq, if_neg (by omega)]
          have s1 := sum_le a (isVec_iff.1 ha).2.2
          have s2 := sum_le (lacksV a b) (lacks_vec hp)
          have b1 : (a.length : Int) * 1099511627776 ≤ 16 * 1099511627776 := by omega
          have b2 : ((lacksV a b).length : Int) * 1099511627776 ≤ 16 * 1099511627776 := by omega
          simp only [arraslaw7_num.f, Option.bind_some, if_true, Bool.true_and, List.drop_zero]
          rw [if_neg (by rw [lacks_none a b hab]; simp), arraslaw7_HaveLacks.J6_eq, w64 (x := a.sum + (lacksV a b).sum) (by omega) (by omega), if_neg (by rw [sum_zip a b hab]; simp), done]
        · rw [if_pos (by simp [hp]), done]
    · rw [if_neg (by rw [decide_eq_true_eq]; exact h20), wakes7]
      rfl
theorem arraslaw7_HaveLacks.proof : arraslaw7_HaveLacks.Pure := by
  intro l ⟨hm, _, hok⟩
  refine Go.Proofs.YtpmcojmhkpaoaaaLabel.Lim.rounds (arraslaw7_HaveLacks.F_lim l) ?_
  rw [arraslaw7_HaveLacks.F_eq]
  exact haveLacks_L l hm hok l.length 0 (by omega) (by omega)
end Go.Proofs.Ytpmcojmhkpaoaaa.PA
