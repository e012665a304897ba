/- The plain law behind SyncWhoms: whom one asks next is the page's answer, is never oneself, and everybody else once before anybody twice. -/
import Derived.Test.YtpoohfmddkgndaaStatSyncWhoms
set_option linter.unusedVariables false
set_option linter.unusedSimpArgs false
namespace Go.Proofs.Ytpoohfmddkgndaa.PW
open Go.RowKit Go.Proofs.YtpoohfmddkgndaaW.PrintWords Go.Proofs.YtpoohfmddkgndaaW.PrintLast Go.Proofs.YtpoohfmddkgndaaW.PrintMore

theorem w64 {x : Int} (h0 : -9223372036854775808 ≤ x) (h1 : x < 9223372036854775808) : wrap64 x = x := by unfold wrap64; omega
theorem w64s {x : Int} (h0 : 0 ≤ x) (h1 : x < 9223372036854775807) : wrap64 (x + 1) = x + 1 := w64 (by omega) (by omega)
theorem rd_nat (l : List Int) (i : Nat) (h : i < l.length) : rd l (i : Int) = l[i] := by simp [rd, h]
theorem rd26 (l : List S26) (i : Nat) (h : i < l.length) : rd_T26 l (i : Int) = l[i] := by simp [rd_T26, h]

/-- Who is asked, and who next: of n, by rep, next being next. -/
def who (n rep next : Nat) : Nat × Nat := if next = rep then ((next + 1) % n, ((next + 1) % n + 1) % n) else (next, (next + 1) % n)
def go (n rep : Nat) : Nat → List Nat → Nat → Bool
  | 0, _, _ => true
  | m + 1, seen, next => (who n rep next).1 != rep && !(seen.elem (who n rep next).1) && go n rep m (seen ++ [(who n rep next).1]) (who n rep next).2
theorem go_all : ∀ n, n < 17 → ∀ rep, rep < n → ∀ next, next < n → 2 ≤ n → go n rep (n - 1) [] next = true := by decide +kernel
theorem who_lt {n rep next : Nat} (h : next < n) : (who n rep next).1 < n ∧ (who n rep next).2 < n := by
  have hn : 0 < n := by omega
  unfold who
  split
  · exact ⟨Nat.mod_lt _ hn, Nat.mod_lt _ hn⟩
  · exact ⟨h, Nat.mod_lt _ hn⟩
theorem tmod_nat {a n : Nat} (hn : 0 < n) (ha : a < 9223372036854775807) : Int.tmod (wrap64 ((a : Int) + 1)) (n : Int) = (((a + 1) % n : Nat) : Int) := by
  rw [w64s (by omega) (by omega), Int.tmod_eq_emod_of_nonneg (by omega), Int.natCast_emod]
  rfl
theorem whom_bad (a b c : Int) (h : ¬ (1 ≤ c ∧ c ≤ 16 ∧ 0 ≤ b ∧ b < c ∧ 0 ≤ a ∧ a < c)) : sync_Whom.F a b c = some (0, 0, 1) := by
  have j : sync_Whom.J0 a b c true = some (0, 0, 1) := by rw [sync_Whom.J0_eq, if_pos rfl]
  rw [sync_Whom.F_eq]
  by_cases h1 : c < 1
  · rw [if_pos h1, j]
  · rw [if_neg h1]
    by_cases h2 : c > 16
    · rw [if_pos h2, j]
    · rw [if_neg h2]
      by_cases h3 : b < 0
      · rw [if_pos h3, j]
      · rw [if_neg h3]
        by_cases h4 : b ≥ c
        · rw [if_pos h4, j]
        · rw [if_neg h4]
          by_cases h5 : a < 0
          · rw [if_pos h5, j]
          · rw [if_neg h5, decide_eq_true (by omega : a ≥ c), j]
theorem whom_ok (a b n : Nat) (h1 : 1 ≤ n) (h2 : n ≤ 16) (h3 : b < n) (h4 : a < n) : sync_Whom.F a b n = some (if n = 1 then (0, 0, 3) else (((who n b a).1 : Int), ((who n b a).2 : Int), 0)) := by
  rw [sync_Whom.F_eq, if_neg (by omega), if_neg (by omega), if_neg (by omega), if_neg (by omega), if_neg (by omega), decide_eq_false (by omega), sync_Whom.J0_eq, if_neg (by simp)]
  by_cases hn : n = 1
  · rw [if_pos (by omega), if_pos hn]
  · rw [if_neg (by omega), if_neg hn]
    unfold who
    by_cases hab : a = b
    · have hm : (a + 1) % n < n := Nat.mod_lt _ (by omega)
      rw [if_pos (by omega), if_neg (by omega), if_pos hab, tmod_nat (by omega) (by omega), tmod_nat (by omega) (by omega)]
    · rw [if_neg (by omega), if_neg (by omega), if_neg hab, tmod_nat (by omega) (by omega)]
theorem refWhom_ok (a b n : Nat) (h1 : 1 ≤ n) (h2 : n ≤ 16) (h4 : a < n) : arrasref25_Whom.f a b n = some (((who n b a).1 : Int), ((who n b a).2 : Int)) := by
  unfold arrasref25_Whom.f who
  by_cases hab : a = b
  · have hm : (a + 1) % n < n := Nat.mod_lt _ (by omega)
    rw [if_pos (by omega), if_neg (by omega), if_pos hab, tmod_nat (by omega) (by omega), tmod_nat (by omega) (by omega)]
  · rw [if_neg (by omega), if_neg (by omega), if_neg hab, tmod_nat (by omega) (by omega)]
theorem refReps (b c : Int) : arrasref25_Reps.f b c = some (decide (1 ≤ c ∧ c ≤ 16 ∧ 0 ≤ b ∧ b < c)) := by
  unfold arrasref25_Reps.f arrasref0_Num.f
  by_cases h1 : c ≥ 1
  · rw [if_pos h1]
    by_cases h2 : c ≤ 16
    · rw [if_pos h2, w64 (by omega) (by omega)]
      by_cases h3 : b ≥ 0
      · rw [if_pos h3, Option.bind_some]
        congr 1
        exact decide_eq_decide.2 (by omega)
      · rw [if_neg h3, Option.bind_some, decide_eq_false (by omega)]
    · rw [if_neg h2, decide_eq_false (by omega)]
  · rw [if_neg h1, decide_eq_false (by omega)]
theorem refIn (seen : List Int) (t : Int) (hl : seen.length < 9223372036854775807) (h : t ∉ seen) : ∀ (d i : Nat), i ≤ seen.length → seen.length - i = d → arrasref0_In.L0 seen t (i : Int) = some (-1) := by
  intro d
  induction d with
  | zero =>
    intro i hi hd
    rw [arrasref0_In.L0_eq, if_neg (by omega)]
  | succ d ih =>
    intro i hi hd
    have hil : i < seen.length := by omega
    rw [arrasref0_In.L0_eq, if_pos (by omega), if_pos (by omega), rd_nat seen i hil, if_neg (fun e => h (by rw [← e]; exact List.getElem_mem hil)), w64s (by omega) (by omega)]
    exact ih (i + 1) (by omega) (by omega)
theorem wakes25 : arraslaw25_wakes.F = some true := by
  rw [arraslaw25_wakes.F_eq]
  have := whom_ok 1 1 2 (by decide) (by decide) (by decide) (by decide)
  rw [show ((1 : Nat) : Int) = 1 from rfl, show ((2 : Nat) : Int) = 2 from rfl] at this
  rw [this]
  decide +kernel

theorem round_L (l : List S26) (i : Nat) (A : List S41) (V : List Int) (T N : Int) (n rep : Nat) (h1 : 2 ≤ n) (h2 : n ≤ 16) (h3 : rep < n) (next : arraslaw25_SyncWhoms.L0 l (wrap64 ((i : Int) + 1)) = some true) :
    ∀ (m k : Nat) (seen : List Nat) (nx : Nat), k + m = n - 1 → seen.length = k → nx < n → go n rep m seen nx = true →
      arraslaw25_SyncWhoms.L1 l i (seen.map (fun x : Nat => (x : Int))) nx k A V rep T n N = some true := by
  intro m
  induction m with
  | zero =>
    intro k seen nx hk hs hx hg
    rw [arraslaw25_SyncWhoms.L1_eq, w64 (by omega) (by omega), if_neg (by omega)]
    exact next
  | succ m ih =>
    intro k seen nx hk hs hx hg
    unfold go at hg
    simp only [Bool.and_eq_true, bne_iff_ne, ne_eq, Bool.not_eq_true', List.elem_eq_mem, decide_eq_false_iff_not] at hg
    obtain ⟨⟨g1, g2⟩, g3⟩ := hg
    have hw := who_lt (rep := rep) hx
    rw [arraslaw25_SyncWhoms.L1_eq, w64 (x := (n : Int) - 1) (by omega) (by omega), if_pos (by omega), whom_ok nx rep n (by omega) h2 h3 hx, if_neg (by omega), Option.bind_some]
    simp only [arraslaw25_num.f, Option.bind_some, if_true]
    rw [if_neg (by omega), arrasref0_In.F_eq]
    have hin : (((who n rep nx).1 : Nat) : Int) ∉ seen.map (fun x : Nat => (x : Int)) := by
      intro hm
      obtain ⟨y, hy, e⟩ := List.mem_map.1 hm
      have : y = (who n rep nx).1 := Int.ofNat.inj e
      rw [this] at hy
      exact g2 hy
    have := refIn _ _ (by rw [List.length_map]; omega) hin (seen.map (fun x : Nat => (x : Int))).length 0 (by omega) (by omega)
    rw [show ((0 : Nat) : Int) = 0 from rfl] at this
    rw [this, Option.bind_some, arraslaw25_SyncWhoms.J6_eq, if_neg (by decide), if_pos (by rw [List.length_map]; omega), w64s (by omega) (by omega)]
    have := ih (k + 1) (seen ++ [(who n rep nx).1]) (who n rep nx).2 (by omega) (by simp; omega) hw.2 g3
    simpa using this

theorem syncWhoms_L (l : List S26) (hl : l.length ≤ 9223372036854775807) (hok : ∀ a ∈ l, ok_T26 a) : ∀ (d i : Nat), i ≤ l.length → l.length - i = d → arraslaw25_SyncWhoms.L0 l (i : Int) = some true := by
  intro d
  induction d with
  | zero =>
    intro i hi hd
    rw [arraslaw25_SyncWhoms.L0_eq, if_neg (by omega), arraslaw25_SyncWhoms.J1_eq, if_neg (by simp), wakes25]
    rfl
  | succ d ih =>
    intro i hi hd
    have hil : i < l.length := by omega
    have next : arraslaw25_SyncWhoms.L0 l (wrap64 ((i : Int) + 1)) = some true := by
      rw [w64s (by omega) (by omega)]
      exact ih (i + 1) (by omega) (by omega)
    rw [arraslaw25_SyncWhoms.L0_eq, if_pos (by omega), arraslaw25_SyncWhoms.J1_eq]
    by_cases h20 : (i : Int) < 10
    · rw [if_pos (decide_eq_true h20), if_pos (by omega), if_pos (by omega), rd26 l i hil]
      generalize l[i] = x at *
      rw [refReps]
      by_cases hp : 1 ≤ x.f4 ∧ x.f4 ≤ 16 ∧ 0 ≤ x.f2 ∧ x.f2 < x.f4
      · by_cases hq : 0 ≤ x.f5 ∧ x.f5 < x.f4
        · obtain ⟨n, hn⟩ : ∃ n : Nat, x.f4 = n := ⟨x.f4.toNat, by omega⟩
          obtain ⟨b, hb⟩ : ∃ n : Nat, x.f2 = n := ⟨x.f2.toNat, by omega⟩
          obtain ⟨a, ha⟩ : ∃ n : Nat, x.f5 = n := ⟨x.f5.toNat, by omega⟩
          rw [decide_eq_true hp, hn, hb, ha]
          rw [whom_ok a b n (by omega) (by omega) (by omega) (by omega), Option.bind_some, Option.bind_some, if_pos rfl]
          unfold arrasref0_Num.f
          rw [if_pos (by omega), w64 (by omega) (by omega), Option.bind_some, decide_eq_true (by omega), arraslaw25_SyncWhoms.J2_eq, if_pos rfl]
          by_cases h1 : n = 1
          · rw [if_neg (by omega), if_pos h1, arraslaw25_SyncWhoms.J3_eq]
            simp only [arraslaw25_num.f, Option.bind_some, if_true]
            rw [arraslaw25_SyncWhoms.J4_eq, if_neg (by decide), if_neg (by decide)]
            exact next
          · rw [if_pos (by omega), if_neg h1, refWhom_ok a b n (by omega) (by omega) (by omega), Option.bind_some, arraslaw25_SyncWhoms.J3_eq]
            simp only [arraslaw25_num.f, Option.bind_some, if_true]
            rw [bne_self_eq_false, arraslaw25_SyncWhoms.J4_eq, if_neg (by decide), if_pos rfl]
            exact round_L l i x.f0 x.f1 x.f3 a n b (by omega) (by omega) (by omega) next (n - 1) 0 [] a (by omega) rfl (by omega) (go_all n (by omega) b (by omega) a (by omega) (by omega))
        · rw [whom_bad _ _ _ (by omega), Option.bind_some, Option.bind_some, if_pos (decide_eq_true hp)]
          have e : arrasref0_Num.f x.f5 (wrap64 (x.f4 - 1)) = some false := by
            unfold arrasref0_Num.f
            rw [w64 (by omega) (by omega)]
            by_cases h5 : x.f5 ≥ 0
            · rw [if_pos h5, decide_eq_false (by omega)]
            · rw [if_neg h5]
          rw [e, Option.bind_some, arraslaw25_SyncWhoms.J2_eq, if_neg (by decide), arraslaw25_SyncWhoms.J3_eq]
          simp only [arraslaw25_num.f, Option.bind_some, if_true]
          rw [bne_self_eq_false, arraslaw25_SyncWhoms.J4_eq, if_neg (by decide), if_neg (by decide)]
          exact next
      · rw [whom_bad _ _ _ (by omega), Option.bind_some, Option.bind_some, if_neg (by rw [decide_eq_true_eq]; exact hp), arraslaw25_SyncWhoms.J2_eq, if_neg (by decide), arraslaw25_SyncWhoms.J3_eq]
        simp only [arraslaw25_num.f, Option.bind_some, if_true]
        rw [bne_self_eq_false, arraslaw25_SyncWhoms.J4_eq, if_neg (by decide), if_neg (by decide)]
        exact next
    · rw [if_neg (by rw [decide_eq_true_eq]; exact h20), wakes25]
      rfl
theorem arraslaw25_SyncWhoms.proof : arraslaw25_SyncWhoms.Pure := by
  intro l ⟨hm, _, hok⟩
  refine Go.Proofs.YtpoohfmddkgndaaLabel.Lim.rounds (arraslaw25_SyncWhoms.F_lim l) ?_
  rw [arraslaw25_SyncWhoms.F_eq]
  exact syncWhoms_L l hm hok l.length 0 (by omega) (by omega)
end Go.Proofs.Ytpoohfmddkgndaa.PW
