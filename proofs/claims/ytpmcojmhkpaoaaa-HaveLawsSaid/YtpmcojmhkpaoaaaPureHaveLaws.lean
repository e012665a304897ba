/- The plain law behind HaveLaws: joined both ways it is the same, it covers both, and it is the least that does. -/
import Derived.Test.YtpmcojmhkpaoaaaStatHaveLaws
import Derived.Test.YtpmcojmhkpaoaaaLibH
set_option linter.unusedVariables false
set_option linter.unusedSimpArgs false
namespace Go.Proofs.Ytpmcojmhkpaoaaa.PA
open Go.RowKit Go.Proofs.YtpmcojmhkpaoaaaW.PrintWords Go.Proofs.YtpmcojmhkpaoaaaW.PrintLast Go.Proofs.YtpmcojmhkpaoaaaW.PrintMore

theorem haveLaws_inner (l : List S86) (x : Int) (a b c : List Int) (h : isPair a b = true) (done : arraslaw7_HaveLaws.L0 l (wrap64 (x + 1)) = some true) :
    ∀ (d i : Nat), i ≤ a.length → a.length - i = d → arraslaw7_HaveLaws.L1 l x (joinV a b) (lacksV a b) (i : Int) a b c = some true := by
  obtain ⟨ha, hb, hl⟩ := isPair_iff.1 h
  have hj := joinV_length a b hl
  have hk := lacksV_length a b hl
  have h16 := (isVec_iff.1 ha).2.1
  intro d
  induction d with
  | zero =>
    intro i hi hd
    rw [arraslaw7_HaveLaws.L1_eq, if_neg (by omega), done]
  | succ d ih =>
    intro i hi hd
    have h1 := vec_get ha i (by omega)
    have h2 := vec_get hb i (by omega)
    have hv := vec_get (join_vec h) i (by omega)
    have hg := joinV_get a b i (by omega) (by omega) (by omega)
    have next : arraslaw7_HaveLaws.L1 l x (joinV a b) (lacksV a b) (wrap64 ((i : Int) + 1)) a b c = some true := by
      rw [w64s (by omega) (by omega)]
      exact ih (i + 1) (by omega) (by omega)
    rw [arraslaw7_HaveLaws.L1_eq, if_pos (by omega), if_pos (by omega), if_pos (by omega), if_pos (by omega), rd_nat a i (by omega), rd_nat (lacksV a b) i (by omega), rd_nat (joinV a b) i (by omega)]
    have hs : wrap64 (a[i] + (lacksV a b)[i]) = (joinV a b)[i] := by
      rw [lacksV_get a b i (by omega) (by omega), hg]
      have e : a[i] + mx 0 (b[i] - a[i]) = mx a[i] b[i] := by unfold mx; split <;> split <;> omega
      rw [e, ← hg]
      exact w64 (by omega) (by omega)
    rw [if_pos hs, copyNumbers _ (by omega), Option.bind_some, if_pos (by omega), rd_nat (joinV a b) i (by omega)]
    by_cases hz : (joinV a b)[i] = 0
    · rw [if_pos hz, next]
    · rw [if_neg hz, Option.bind_some, w64 (by omega) (by omega), show (i : Int).toNat = i from rfl]
      have hsl : ((joinV a b).set i ((joinV a b)[i] - 1)).length = a.length := by simp [hj]
      have hvs : isVec ((joinV a b).set i ((joinV a b)[i] - 1)) = true := by
        have := isVec_iff.1 ha
        refine vec_of (by omega) (by omega) (fun j hj' => ?_)
        rw [List.getElem_set]
        have := vec_get (join_vec h) j (by omega)
        unfold inVec
        split <;> omega
      rw [covers_F _ _ (by omega) (by omega), Option.bind_some, covers_F _ _ (by omega) (by omega), Option.bind_some, if_pos (isPair_iff.2 ⟨hvs, ha, hsl⟩), if_pos (isPair_iff.2 ⟨hvs, hb, by omega⟩)]
      simp only [arraslaw7_num.f, Option.bind_some, if_true]
      have hn : ¬ (overV ((joinV a b).set i ((joinV a b)[i] - 1)) a = true ∧ overV ((joinV a b).set i ((joinV a b)[i] - 1)) b = true) := by
        rintro ⟨o1, o2⟩
        have q1 := of_decide_eq_true o1 i (by omega) (by omega)
        have q2 := of_decide_eq_true o2 i (by omega) (by omega)
        rw [List.getElem_set_self] at q1 q2
        unfold mx at hg
        split at hg <;> omega
      by_cases o1 : overV ((joinV a b).set i ((joinV a b)[i] - 1)) a = true
      · have o2 : overV ((joinV a b).set i ((joinV a b)[i] - 1)) b = false := by
          cases h3 : overV ((joinV a b).set i ((joinV a b)[i] - 1)) b
          · rfl
          · exact absurd ⟨o1, h3⟩ hn
        rw [if_pos o1, o2, arraslaw7_HaveLaws.J5_eq, if_neg (by simp), next]
      · rw [if_neg o1, arraslaw7_HaveLaws.J5_eq, if_neg (by simp), next]
theorem haveLaws_L (l : List S86) (hl : l.length ≤ 9223372036854775807) (hok : ∀ a ∈ l, ok_T86 a) : ∀ (d i : Nat), i ≤ l.length → l.length - i = d → arraslaw7_HaveLaws.L0 l (i : Int) = some true := by
  intro d
  induction d with
  | zero =>
    intro i hi hd
    rw [arraslaw7_HaveLaws.L0_eq, if_neg (by omega), arraslaw7_HaveLaws.J1_eq, if_neg (by simp), wakes7]
    rfl
  | succ d ih =>
    intro i hi hd
    have hil : i < l.length := by omega
    rw [arraslaw7_HaveLaws.L0_eq, if_pos (by omega), arraslaw7_HaveLaws.J1_eq]
    by_cases h20 : (i : Int) < 15
    · rw [if_pos (decide_eq_true h20), if_pos (by omega), if_pos (by omega), rd86 l i hil]
      obtain ⟨⟨_, hx0, _⟩, ⟨_, hx1, _⟩, _⟩ := hok l[i] (List.getElem_mem hil)
      have done : arraslaw7_HaveLaws.L0 l (wrap64 ((i : Int) + 1)) = some true := by
        rw [w64s (by omega) (by omega)]
        exact ih (i + 1) (by omega) (by omega)
      generalize l[i] = x at *
      generalize x.f0 = a at *
      generalize x.f1 = b at *
      rw [heavy7 _ _ _ (by omega) (by omega), Option.bind_some]
      by_cases hv : a.length + b.length > 2000 ∨ x.f2.length > 3000
      · rw [if_pos (decide_eq_true hv), arraslaw7_HaveLaws.J2_eq, if_pos rfl, done]
      · rw [if_neg (by rw [decide_eq_true_eq]; exact hv), refPair _ _ (by omega) (by omega), Option.bind_some, arraslaw7_HaveLaws.J2_eq]
        by_cases hp : isPair a b = true
        · obtain ⟨ha, hb, hab⟩ := isPair_iff.1 hp
          have hj := joinV_length a b hab
          have pba : isPair b a = true := isPair_iff.2 ⟨hb, ha, hab.symm⟩
          have paa : isPair a a = true := isPair_iff.2 ⟨ha, ha, rfl⟩
          rw [if_neg (by simp [hp]), join_F _ _ (by omega) (by omega), if_pos hp, Option.bind_some, join_F _ _ (by omega) (by omega), if_pos pba, Option.bind_some, join_F _ _ (by omega) (by omega), if_pos paa, Option.bind_some,
            covers_F _ _ (by show (joinV a b).length < _; omega) (by omega), if_pos (pair_join hp).1, Option.bind_some, covers_F _ _ (by show (joinV a b).length < _; omega) (by omega), if_pos (pair_join hp).2, Option.bind_some, lacks_F _ _ (by omega) (by omega), if_pos hp, Option.bind_some]
          simp only [arraslaw7_num.f, Option.bind_some, if_true]
          rw [eqNumbers _ _ (by omega), Option.bind_some, if_pos (decide_eq_true (join_comm hab).symm), eqNumbers _ _ (by rw [join_self]; omega), Option.bind_some, if_pos (decide_eq_true (join_self a)), if_pos (over_join hab).1, if_pos (over_join hab).2,
            arraslaw7_HaveLaws.J3_eq, if_neg (by rw [lacksV_length a b hab, hj]; simp)]
          exact haveLaws_inner l (i : Int) a b x.f2 hp done a.length 0 (by omega) (by omega)
        · rw [if_pos (by simp [hp]), done]
    · rw [if_neg (by rw [decide_eq_true_eq]; exact h20), wakes7]
      rfl
theorem arraslaw7_HaveLaws.proof : arraslaw7_HaveLaws.Pure := by
  intro l ⟨hm, _, hok⟩
  refine Go.Proofs.YtpmcojmhkpaoaaaLabel.Lim.rounds (arraslaw7_HaveLaws.F_lim l) ?_
  rw [arraslaw7_HaveLaws.F_eq]
  exact haveLaws_L l hm hok l.length 0 (by omega) (by omega)
end Go.Proofs.Ytpmcojmhkpaoaaa.PA
