/- The plain law behind HavePairs: whether a vector may be, covers, what both have, how many that is, what one lacks, is the page's. -/
import Derived.Test.YtpmcojmhkpaoaaaStatHavePairs
import Derived.Test.YtpmcojmhkpaoaaaLibH
set_option linter.unusedVariables false
set_option linter.unusedSimpArgs false
namespace Go.Proofs.Ytpmcojmhkpaoaaa.PA
open Go.RowKit Go.Proofs.YtpmcojmhkpaoaaaW.PrintWords Go.Proofs.YtpmcojmhkpaoaaaW.PrintLast Go.Proofs.YtpmcojmhkpaoaaaW.PrintMore

theorem haveCheck (v : List Int) (hl : v.length < 9223372036854775807) : have_Check.F v = some (if isVec v = true then 0 else 1) := by
  rw [have_Check.F_eq, haveIs v hl, Option.bind_some]
  split <;> rfl
theorem havePairs_sum (l : List S86) (x : Int) (A B : List Int) (cov : Bool) (e : Int) (v : List Int) (f : Int) (w : List Int) (g n h : Int) (a b X : List Int) (hl : a.length ≤ 16) (hv : ∀ q ∈ a, inVec q) : ∀ (d i : Nat), i ≤ a.length → a.length - i = d →
    arraslaw7_HavePairs.L1 l x A B cov e v f w g n h true ((a.take i).sum) (i : Int) a b X = arraslaw7_HavePairs.J3 l x A B cov e v f w g n h true a.sum a b X := by
  intro d
  induction d with
  | zero =>
    intro i hi hd
    rw [arraslaw7_HavePairs.L1_eq, if_neg (by omega), List.take_of_length_le (by omega)]
  | succ d ih =>
    intro i hi hd
    have hil : i < a.length := by omega
    have hs := sum_le (a.take i) (fun q hq => hv q (List.mem_of_mem_take hq))
    have hx := hv a[i] (List.getElem_mem hil)
    have ht : (a.take i).length ≤ 16 := by rw [List.length_take]; omega
    unfold inVec at hx
    have hb : ((a.take i).length : Int) * 1099511627776 ≤ 16 * 1099511627776 := by omega
    rw [arraslaw7_HavePairs.L1_eq, if_pos (by omega), if_pos rfl, if_pos (by omega), rd_nat a i hil, w64 (by omega) (by omega), w64s (by omega) (by omega), ← sum_take_succ a i hil]
    exact ih (i + 1) (by omega) (by omega)
theorem havePairs_inner (l : List S86) (x : Int) (a b X : List Int) (h : isPair a b = true) (done : arraslaw7_HavePairs.L0 l (wrap64 (x + 1)) = some true) :
    ∀ (d i : Nat), i ≤ a.length → a.length - i = d → arraslaw7_HavePairs.L2 l x a b (joinV a b) (lacksV a b) (i : Int) a b X = some true := by
  obtain ⟨ha, hb, hl⟩ := isPair_iff.1 h
  have hj := joinV_length a b hl
  have hk := lacksV_length a b hl
  have h16 := (isVec_iff.1 ha).2.1
  intro d
  induction d with
  | zero =>
    intro i hi hd
    rw [arraslaw7_HavePairs.L2_eq, if_neg (by omega), numbersOver _ (by omega), Option.bind_some, numbersOver _ (by omega), Option.bind_some, eqNumbers _ _ (by omega), Option.bind_some, if_pos (by simp), eqNumbers _ _ (by omega), Option.bind_some, if_pos (by simp), done]
  | succ d ih =>
    intro i hi hd
    have h1 := vec_get ha i (by omega)
    have h2 := vec_get hb i (by omega)
    rw [arraslaw7_HavePairs.L2_eq, if_pos (by omega), if_pos (by omega), if_pos (by omega), if_pos (by omega), rd_nat a i (by omega), rd_nat b i (by omega), rd_nat (joinV a b) i (by omega), if_pos (joinV_get a b i (by omega) (by omega) _), if_pos (by omega),
      rd_nat (lacksV a b) i (by omega), w64 (by omega) (by omega), if_pos (lacksV_get a b i (by omega) (by omega) _), w64s (by omega) (by omega)]
    exact ih (i + 1) (by omega) (by omega)
theorem havePairs_L (l : List S86) (hl : l.length ≤ 9223372036854775807) (hok : ∀ a ∈ l, ok_T86 a) : ∀ (d i : Nat), i ≤ l.length → l.length - i = d → arraslaw7_HavePairs.L0 l (i : Int) = some true := by
  intro d
  induction d with
  | zero =>
    intro i hi hd
    rw [arraslaw7_HavePairs.L0_eq, if_neg (by omega), arraslaw7_HavePairs.J1_eq, if_neg (by simp), wakes7]
    rfl
  | succ d ih =>
    intro i hi hd
    have hil : i < l.length := by omega
    rw [arraslaw7_HavePairs.L0_eq, if_pos (by omega), arraslaw7_HavePairs.J1_eq]
    by_cases h20 : (i : Int) < 15
    · rw [if_pos (decide_eq_true h20), if_pos (by omega), if_pos (by omega), rd86 l i hil]
      obtain ⟨⟨_, hx0, _⟩, ⟨_, hx1, _⟩, _⟩ := hok l[i] (List.getElem_mem hil)
      have done : arraslaw7_HavePairs.L0 l (wrap64 ((i : Int) + 1)) = some true := by
        rw [w64s (by omega) (by omega)]
        exact ih (i + 1) (by omega) (by omega)
      generalize l[i] = x at *
      generalize x.f0 = a at *
      generalize x.f1 = b at *
      rw [heavy7 _ _ _ (by omega) (by omega), Option.bind_some]
      by_cases hv : a.length + b.length > 2000 ∨ x.f2.length > 3000
      · rw [if_pos (decide_eq_true hv)]
      · rw [if_neg (by rw [decide_eq_true_eq]; exact hv), copyNumbers a (by omega), Option.bind_some, copyNumbers b (by omega), Option.bind_some, covers_F _ _ (by omega) (by omega), Option.bind_some, join_F _ _ (by omega) (by omega), Option.bind_some,
          lacks_F _ _ (by omega) (by omega), Option.bind_some, count_F _ (by omega), Option.bind_some, refVector _ (by omega), Option.bind_some]
        by_cases ha : isVec a = true
        · have h16 := (isVec_iff.1 ha).2.1
          rw [if_pos ha, ha]
          have e1 := fun cov e v f w g n h => havePairs_sum l (i : Int) a b cov e v f w g n h a b x.f2 h16 (isVec_iff.1 ha).2.2 a.length 0 (by omega) (by omega)
          simp only [List.take_zero, List.sum_nil] at e1
          rw [show ((0 : Nat) : Int) = 0 from rfl] at e1
          rw [e1, arraslaw7_HavePairs.J3_eq, haveCheck a (by omega), Option.bind_some, if_pos ha]
          simp only [arraslaw7_num.f, Option.bind_some, if_true]
          rw [if_neg (by decide), if_neg (by decide), arraslaw7_HavePairs.J4_eq, if_neg (by simp), refPair _ _ (by omega) (by omega), Option.bind_some]
          by_cases hp : isPair a b = true
          · obtain ⟨_, hb, hab⟩ := isPair_iff.1 hp
            rw [if_pos hp, if_pos hp]
            simp only [hp, arraslaw7_num.f, Option.bind_some, if_true]
            rw [refCovers a b hab (by omega), Option.bind_some, if_neg (by simp), if_pos (by rw [joinV_length a b hab]), arraslaw7_HavePairs.J6_eq, if_neg (by rw [lacksV_length a b hab]; simp)]
            exact havePairs_inner l (i : Int) a b x.f2 hp done a.length 0 (by omega) (by omega)
          · rw [if_neg hp, if_neg hp]
            simp only [hp, arraslaw7_num.f, Option.bind_some, if_true, if_neg, Bool.false_eq_true, if_false]
            first
              | (rw [arraslaw7_HavePairs.J5_eq, if_neg (by simp [w64]), done])
              | (simp [arraslaw7_HavePairs.J5_eq, w64, done])
        · have hp : ¬ isPair a b = true := fun h => ha (isPair_iff.1 h).1
          have hf : isVec a = false := by simpa using ha
          rw [if_neg ha, hf, arraslaw7_HavePairs.L1_eq]
          have e1 : (if (0 : Int) < (a.length : Int) then
              if false = true then
                if (0 : Int) ≤ 0 then arraslaw7_HavePairs.L1 l (i : Int) a b (if isPair a b = true then (overV a b, (0 : Int)) else (false, 1)).1 (if isPair a b = true then (overV a b, (0 : Int)) else (false, 1)).2 (if isPair a b = true then (joinV a b, (0 : Int)) else ([], 1)).1 (if isPair a b = true then (joinV a b, (0 : Int)) else ([], 1)).2 (if isPair a b = true then (lacksV a b, (0 : Int)) else ([], 1)).1 (if isPair a b = true then (lacksV a b, (0 : Int)) else ([], 1)).2 0 1 false (wrap64 (0 + rd a 0)) (wrap64 (0 + 1)) a b x.f2 else none
              else arraslaw7_HavePairs.J3 l (i : Int) a b false 1 [] 1 [] 1 0 1 false 0 a b x.f2
            else arraslaw7_HavePairs.J3 l (i : Int) a b false 1 [] 1 [] 1 0 1 false 0 a b x.f2) = arraslaw7_HavePairs.J3 l (i : Int) a b false 1 [] 1 [] 1 0 1 false 0 a b x.f2 := by
            split
            · rw [if_neg (by simp)]
            · rfl
          have goal : arraslaw7_HavePairs.J3 l (i : Int) a b false 1 [] 1 [] 1 0 1 false 0 a b x.f2 = some true := by
            rw [arraslaw7_HavePairs.J3_eq, haveCheck a (by omega), Option.bind_some, if_neg ha]
            simp only [arraslaw7_num.f, Option.bind_some, if_true]
            rw [if_neg (by decide), if_neg (by decide), if_neg (by simp), arraslaw7_HavePairs.J4_eq, if_neg (by decide), refPair _ _ (by omega) (by omega), Option.bind_some, if_neg hp]
            simp only [arraslaw7_num.f, Option.bind_some, if_true]
            simp [arraslaw7_HavePairs.J5_eq, w64, done]
          rw [if_neg hp, if_neg hp, if_neg hp]
          split
          · rw [if_neg (by simp)]; exact goal
          · exact goal
    · rw [if_neg (by rw [decide_eq_true_eq]; exact h20), wakes7]
      rfl
theorem arraslaw7_HavePairs.proof : arraslaw7_HavePairs.Pure := by
  intro l ⟨hm, _, hok⟩
  refine Go.Proofs.YtpmcojmhkpaoaaaLabel.Lim.rounds (arraslaw7_HavePairs.F_lim l) ?_
  rw [arraslaw7_HavePairs.F_eq]
  exact havePairs_L l hm hok l.length 0 (by omega) (by omega)
end Go.Proofs.Ytpmcojmhkpaoaaa.PA
