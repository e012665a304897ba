/- Own texts and the words of this seat, as far as this claim reads them: LibQ, LibW, LibX, LibY, PureOpStyles, PCx5, PCx6, PCx7, PCx8, PCx9, PCx1, PCx10, PCx11, PCx12, PCx13, PCx14, PCx15, PCx16, PCx17, PCx18, PCx19, PCx20, PCx21, PCx22, PCx23, PCx24, PCx25. -/
import Derived.Test.YtddnlnjmikcgfaaPkSty1
import Derived.Lib.SlBytesConst
section
set_option linter.unusedVariables false
set_option linter.unusedSimpArgs false
namespace Go.Proofs.Ytddnlnjmikcgfaa.PC
open Go.RowKit Go.WB.PrintWords Go.WB.PrintLast Go.WB.PrintMore
def nk {α : Type} (p : List Int → α × Int × Int) (l : List Int) (k e : Int) : Int := if e = 0 then k + (p (l.drop k.toNat)).2.1 else k
def ne {α : Type} (p : List Int → α × Int × Int) (l : List Int) (k e : Int) : Int := if e = 0 then (p (l.drop k.toNat)).2.2 else e
def nv {α : Type} (p : List Int → α × Int × Int) (l : List Int) (k : Int) : α := (p (l.drop k.toNat)).1
def Ran {α : Type} (p : List Int → α × Int × Int) : Prop := ∀ l, eO l → 0 ≤ (p l).2.1 ∧ (p l).2.1 ≤ l.length
theorem nk_ran {α : Type} {p : List Int → α × Int × Int} (hp : Ran p) {l : List Int} (hb : eO l) {k e : Int} (h : 0 ≤ k ∧ k ≤ l.length) : 0 ≤ nk p l k e ∧ nk p l k e ≤ l.length := by
  have := hp _ (hb.drop k.toNat)
  rw [List.length_drop] at this
  unfold nk
  split <;> omega
theorem chain_e {α β : Type} {p : List Int → α × Int × Int} {q : α → List Int → β × Int × Int} (hp : Ran p) {l : List Int} (hb : eO l) {k e : Int} (h : 0 ≤ k ∧ k ≤ l.length) :
    ne (q (nv p l k)) l (nk p l k e) (ne p l k e) = ne (lL p q) l k e := by
  have hr := hp _ (hb.drop k.toNat)
  unfold ne nk nv lL
  by_cases he : e = 0
  · simp only [if_pos he]
    by_cases h1 : (p (l.drop k.toNat)).2.2 = 0
    · simp only [if_pos h1]
      rw [List.drop_drop, show (k + (p (l.drop k.toNat)).2.1).toNat = k.toNat + (p (l.drop k.toNat)).2.1.toNat by omega]
    · simp only [if_neg h1]
  · simp only [if_neg he]
theorem chain_v {α β : Type} {p : List Int → α × Int × Int} {q : α → List Int → β × Int × Int} (hp : Ran p) {l : List Int} (hb : eO l) {k : Int} (h : 0 ≤ k ∧ k ≤ l.length) (h0 : ne (lL p q) l k 0 = 0) :
    ne p l k 0 = 0 ∧ nk (q (nv p l k)) l (nk p l k 0) 0 = nk (lL p q) l k 0 ∧ nv (lL p q) l k = (nv p l k, nv (q (nv p l k)) l (nk p l k 0)) := by
  have hr := hp _ (hb.drop k.toNat)
  unfold ne nk nv lL at *
  simp only [if_true] at *
  by_cases h1 : (p (l.drop k.toNat)).2.2 = 0
  · simp only [if_pos h1] at h0 ⊢
    have e : l.drop (k + (p (l.drop k.toNat)).2.1).toNat = (l.drop k.toNat).drop (p (l.drop k.toNat)).2.1.toNat := by
      rw [List.drop_drop, show (k + (p (l.drop k.toNat)).2.1).toNat = k.toNat + (p (l.drop k.toNat)).2.1.toNat by omega]
    rw [e, if_pos h0]
    exact ⟨h1, by omega, rfl⟩
  · simp only [if_neg h1] at h0
    exact absurd h0 h1
theorem ib : Ran aZ := fun l hb => stamp_ran l hb
theorem ran_num : Ran iy := fun l hb => num_ran l hb
theorem ran_text : Ran iY := fun l hb => text_ran l hb
theorem ran_vec : Ran fw := fun l hb => vec_ran l hb
theorem place_N (l : List Int) (hb : eO l) (hl : l.length < 4611686018427387904) (k e : Int) (h : 0 ≤ k ∧ k ≤ l.length) :
    bD.F l k e = some ((nv aZ l k).1, (nv aZ l k).2, nk aZ l k e, ne aZ l k e) := place_F l hb hl k e h.1 h.2
theorem number_N (l : List Int) (hb : eO l) (hl : l.length < 4611686018427387904) (k e : Int) (h : 0 ≤ k ∧ k ≤ l.length) :
    bH.F l k e = some (nv iy l k, nk iy l k e, ne iy l k e) := number_F l hb hl k e h.1 h.2
theorem text_N (l : List Int) (hb : eO l) (hl : l.length < 4611686018427387904) (k : Int) : d9.F (l.drop k.toNat) = some (iY (l.drop k.toNat)) :=
  takeText _ (hb.drop _) (by rw [List.length_drop]; omega)
theorem part_N {α : Type} (p : List Int → α × Int × Int) (hp : Ran p) (l : List Int) (hb : eO l) (hl : l.length < 4611686018427387904) (k e : Int) (h : 0 ≤ k ∧ k ≤ l.length) :
    dx.f l k e (p (l.drop k.toNat)).2.1 (p (l.drop k.toNat)).2.2 = some (nk p l k e, ne p l k e) := by
  have := hp _ (hb.drop k.toNat)
  rw [List.length_drop] at this
  exact part_F l k e _ _ h.1 h.2 (by omega) (by omega) hl
abbrev T14 : Type := Int × Int × Int × List Int × Int × Int × Int × Int × Int × ByteArray × Int × Int × Int × Int
def errOf (z : T14) : Int := z.2.2.2.2.2.2.2.2.2.2.2.2.2
theorem tail_J1 (l : List Int) (hb : eO l) (hl : l.length < 4611686018427387904) (k e : Int) (h : 0 ≤ k ∧ k ≤ l.length) (s1 s2 s3 : Int) (d : List Int) (kk : Int) :
    ∃ z : T14, ay.J1 l k e s1 s2 s3 d kk 0 0 0 0 (⟨#[]⟩ : ByteArray) 0 0 = some z ∧ errOf z = ne (iW kk) l k e ∧
      (e = 0 → ne (iW kk) l k 0 = 0 → z = (s1, s2, s3, d, kk, (nv (iW kk) l k).1.1, (nv (iW kk) l k).1.2, (nv (iW kk) l k).2.1.1, (nv (iW kk) l k).2.1.2, (nv (iW kk) l k).2.2.1, (nv (iW kk) l k).2.2.2.1, (nv (iW kk) l k).2.2.2.2, nk (iW kk) l k 0, 0)) := by
  have h1 := nk_ran ib hb (e := e) h
  have c1 : ne (iU kk) l (nk aZ l k e) (ne aZ l k e) = ne (iW kk) l k e := chain_e (q := fun _ => iU kk) ib hb h
  rw [ay.J1_eq, place_N l hb hl k e h, Option.bind_some]
  by_cases hk : kk = 1
  · have h2 := nk_ran ib hb (e := ne aZ l k e) h1
    have eR : iU kk = mapP (fun x : (Int × Int) × ByteArray => ((x.1, x.2, 0, 0) : Rest)) (lL aZ (fun _ => iY)) := by funext l; unfold iU; rw [if_pos hk]
    have c2 : ne iY l (nk aZ l (nk aZ l k e) (ne aZ l k e)) (ne aZ l (nk aZ l k e) (ne aZ l k e)) = ne (iU kk) l (nk aZ l k e) (ne aZ l k e) := by
      rw [eR]
      exact chain_e (q := fun _ => iY) ib hb h1
    rw [if_pos hk, place_N l hb hl _ _ h1, Option.bind_some, if_pos h2.1, if_pos h2.2, text_N l hb hl, Option.bind_some, part_N iY ran_text l hb hl _ _ h2, Option.bind_some]
    refine ⟨_, rfl, c2.trans c1, ?_⟩
    intro he h0
    subst he
    obtain ⟨g1, g2, g3⟩ := chain_v (q := fun _ => iU kk) ib hb h h0
    rw [g1] at c1 c2 ⊢
    have h0' : ne (iU kk) l (nk aZ l k 0) 0 = 0 := c1.trans h0
    rw [eR] at h0'
    obtain ⟨f1, f2, f3⟩ := chain_v (q := fun _ => iY) ib hb h1 h0'
    rw [f1] at c2 ⊢
    have e1 : nv (iW kk) l k = (nv aZ l k, nv (iU kk) l (nk aZ l k 0)) := g3
    have e2 : nv (iU kk) l (nk aZ l k 0) = (nv aZ l (nk aZ l k 0), nv iY l (nk aZ l (nk aZ l k 0) 0), 0, 0) := by
      rw [eR]
      exact congrArg (fun x : (Int × Int) × ByteArray => ((x.1, x.2, 0, 0) : Rest)) f3
    have e3 : nk iY l (nk aZ l (nk aZ l k 0) 0) 0 = nk (iW kk) l k 0 := by
      have t : nk (iU kk) l (nk aZ l k 0) 0 = nk (lL aZ (fun _ => iY)) l (nk aZ l k 0) 0 := by rw [eR]; rfl
      exact f2.trans (t.symm.trans g2)
    have e4 : ne iY l (nk aZ l (nk aZ l k 0) 0) 0 = 0 := by rw [c2, eR]; exact h0'
    rw [e1, e2, e3, e4]
    rfl
  · have h2 := nk_ran ran_num hb (e := ne aZ l k e) h1
    have eR : iU kk = mapP (fun x : Int × Int => (((0, 0), noKey, x.1, x.2 - 1) : Rest)) (lL iy (fun _ => iy)) := by funext l; unfold iU; rw [if_neg hk]
    have c2 : ne iy l (nk iy l (nk aZ l k e) (ne aZ l k e)) (ne iy l (nk aZ l k e) (ne aZ l k e)) = ne (iU kk) l (nk aZ l k e) (ne aZ l k e) := by
      rw [eR]
      exact chain_e (q := fun _ => iy) ran_num hb h1
    rw [if_neg hk, number_N l hb hl _ _ h1, Option.bind_some, number_N l hb hl _ _ h2, Option.bind_some]
    refine ⟨_, rfl, c2.trans c1, ?_⟩
    intro he h0
    subst he
    obtain ⟨g1, g2, g3⟩ := chain_v (q := fun _ => iU kk) ib hb h h0
    rw [g1] at c1 c2 ⊢
    have h0' : ne (iU kk) l (nk aZ l k 0) 0 = 0 := c1.trans h0
    rw [eR] at h0'
    obtain ⟨f1, f2, f3⟩ := chain_v (q := fun _ => iy) ran_num hb h1 h0'
    rw [f1] at c2 ⊢
    have e1 : nv (iW kk) l k = (nv aZ l k, nv (iU kk) l (nk aZ l k 0)) := g3
    have e2 : nv (iU kk) l (nk aZ l k 0) = ((0, 0), noKey, nv iy l (nk aZ l k 0), nv iy l (nk iy l (nk aZ l k 0) 0) - 1) := by
      rw [eR]
      exact congrArg (fun x : Int × Int => (((0, 0), noKey, x.1, x.2 - 1) : Rest)) f3
    have e3 : nk iy l (nk iy l (nk aZ l k 0) 0) 0 = nk (iW kk) l k 0 := by
      have t : nk (iU kk) l (nk aZ l k 0) 0 = nk (lL iy (fun _ => iy)) l (nk aZ l k 0) 0 := by rw [eR]; rfl
      exact f2.trans (t.symm.trans g2)
    have e4 : ne iy l (nk iy l (nk aZ l k 0) 0) 0 = 0 := by rw [c2, eR]; exact h0'
    have e5 := tk_ok (l.drop (nk iy l (nk aZ l k 0) 0).toNat) 0 0 (by simpa [ne] using e4)
    have e6 : wrap64 (nv iy l (nk iy l (nk aZ l k 0) 0) - 1) = nv iy l (nk iy l (nk aZ l k 0) 0) - 1 := by
      have q1 : 0 ≤ nv iy l (nk iy l (nk aZ l k 0) 0) := e5.1
      have q2 : nv iy l (nk iy l (nk aZ l k 0) 0) ≤ 4611686018427387904 := e5.2.1
      exact lM (by omega) (by omega)
    rw [e1, e2, e3, e4, e6]
    rfl
def c12_l (k : Int) : Bool := k == 1 || k == 2
theorem bad_J0 (l : List Int) (hb : eO l) (hl : l.length < 4611686018427387904) (k e : Int) (h : 0 ≤ k ∧ k ≤ l.length) (s1 s2 s3 : Int) (d : List Int) (kk : Int) (b : Bool) (hbk : b = !c12_l kk) :
    ∃ z : T14, ay.J0 b l k e s1 s2 s3 d kk 0 0 0 0 (⟨#[]⟩ : ByteArray) 0 0 = some z ∧ errOf z = (if e = 0 then (if c12_l kk = true then ne (iW kk) l k 0 else 1) else e) ∧
      (e = 0 → c12_l kk = true → ne (iW kk) l k 0 = 0 → z = (s1, s2, s3, d, kk, (nv (iW kk) l k).1.1, (nv (iW kk) l k).1.2, (nv (iW kk) l k).2.1.1, (nv (iW kk) l k).2.1.2, (nv (iW kk) l k).2.2.1, (nv (iW kk) l k).2.2.2.1, (nv (iW kk) l k).2.2.2.2, nk (iW kk) l k 0, 0)) := by
  rw [ay.J0_eq]
  by_cases hc : c12_l kk = true
  · have : b = false := by rw [hbk, hc]; rfl
    rw [this, if_neg (by decide)]
    obtain ⟨z, z1, z2, z3⟩ := tail_J1 l hb hl k e h s1 s2 s3 d kk
    refine ⟨z, z1, ?_, fun he _ => z3 he⟩
    rw [z2, if_pos hc]
    by_cases he : e = 0
    · rw [if_pos he, he]
    · rw [if_neg he]; unfold ne; rw [if_neg he]
  · have : b = true := by rw [hbk]; simp at hc; rw [hc]; rfl
    rw [this, if_pos rfl, part_F l k e 0 1 h.1 h.2 (by omega) (by omega) hl, Option.bind_some]
    have e0 : (if e = 0 then k + 0 else k) = k := by split <;> omega
    simp only [e0]
    obtain ⟨z, z1, z2, z3⟩ := tail_J1 l hb hl k (if e = 0 then 1 else e) h s1 s2 s3 d kk
    refine ⟨z, z1, ?_, fun _ h => absurd h hc⟩
    rw [z2, if_neg hc]
    unfold ne
    by_cases he : e = 0
    · simp [he]
    · simp [he]
theorem take_F1 (l : List Int) (hb : eO l) (hl : l.length < 4611686018427387904) :
    ∃ z : T14, ay.F l 0 0 = some z ∧ errOf z = (opP l).2.2 ∧
      ((opP l).2.2 = 0 → z = ((opP l).1.1.1, (opP l).1.1.2, 0, (opP l).1.2.1, (opP l).1.2.2.1, (opP l).1.2.2.2.1.1, (opP l).1.2.2.2.1.2, (opP l).1.2.2.2.2.1.1, (opP l).1.2.2.2.2.1.2, (opP l).1.2.2.2.2.2.1, (opP l).1.2.2.2.2.2.2.1, (opP l).1.2.2.2.2.2.2.2, (opP l).2.1, 0)) := by
  have h : (0 : Int) ≤ 0 ∧ (0 : Int) ≤ l.length := by omega
  have h1 := nk_ran ib hb (e := 0) h
  have h2 := nk_ran ran_vec hb (e := ne aZ l 0 0) h1
  have h3 := nk_ran ran_num hb (e := ne fw l (nk aZ l 0 0) (ne aZ l 0 0)) h2
  rw [ay.jQ, place_N l hb hl 0 0 h, Option.bind_some, if_pos h1.1, if_pos h1.2, haveTake _ (hb.drop _) (by rw [List.length_drop]; omega), Option.bind_some, part_N fw ran_vec l hb hl _ _ h1, Option.bind_some, number_N l hb hl _ _ h2, Option.bind_some]
  simp only
  -- the kind's number
  generalize hK : nv iy l (nk fw l (nk aZ l 0 0) (ne aZ l 0 0)) = kk
  have hJ : (if kk = 1 then ay.J0 false l (nk iy l (nk fw l (nk aZ l 0 0) (ne aZ l 0 0)) (ne fw l (nk aZ l 0 0) (ne aZ l 0 0))) (ne iy l (nk fw l (nk aZ l 0 0) (ne aZ l 0 0)) (ne fw l (nk aZ l 0 0) (ne aZ l 0 0))) (nv aZ l 0).1 (nv aZ l 0).2 0 (fw (l.drop (nk aZ l 0 0).toNat)).1 kk 0 0 0 0 (⟨#[]⟩ : ByteArray) 0 0
      else ay.J0 (kk != 2) l (nk iy l (nk fw l (nk aZ l 0 0) (ne aZ l 0 0)) (ne fw l (nk aZ l 0 0) (ne aZ l 0 0))) (ne iy l (nk fw l (nk aZ l 0 0) (ne aZ l 0 0)) (ne fw l (nk aZ l 0 0) (ne aZ l 0 0))) (nv aZ l 0).1 (nv aZ l 0).2 0 (fw (l.drop (nk aZ l 0 0).toNat)).1 kk 0 0 0 0 (⟨#[]⟩ : ByteArray) 0 0)
      = ay.J0 (!c12_l kk) l (nk iy l (nk fw l (nk aZ l 0 0) (ne aZ l 0 0)) (ne fw l (nk aZ l 0 0) (ne aZ l 0 0))) (ne iy l (nk fw l (nk aZ l 0 0) (ne aZ l 0 0)) (ne fw l (nk aZ l 0 0) (ne aZ l 0 0))) (nv aZ l 0).1 (nv aZ l 0).2 0 (fw (l.drop (nk aZ l 0 0).toNat)).1 kk 0 0 0 0 (⟨#[]⟩ : ByteArray) 0 0 := by
    unfold c12_l
    by_cases hk1 : kk = 1
    · subst hk1; rfl
    · rw [if_neg hk1]
      have : (kk == 1) = false := by simpa using hk1
      rw [this, Bool.false_or]; rfl
  rw [hJ]
  obtain ⟨z, z1, z2, z3⟩ := bad_J0 l hb hl (nk iy l (nk fw l (nk aZ l 0 0) (ne aZ l 0 0)) (ne fw l (nk aZ l 0 0) (ne aZ l 0 0))) (ne iy l (nk fw l (nk aZ l 0 0) (ne aZ l 0 0)) (ne fw l (nk aZ l 0 0) (ne aZ l 0 0))) h3 (nv aZ l 0).1 (nv aZ l 0).2 0 (fw (l.drop (nk aZ l 0 0).toNat)).1 kk _ rfl
  -- the chain
  have a1 : ne (lL fw (fun _ => lL lG (fun k => lL aZ (fun _ => iU k)))) l (nk aZ l 0 0) (ne aZ l 0 0) = ne opP l 0 0 := chain_e (q := fun _ => lL fw (fun _ => lL lG (fun k => lL aZ (fun _ => iU k)))) ib hb h
  have a2 : ne (lL lG (fun k => lL aZ (fun _ => iU k))) l (nk fw l (nk aZ l 0 0) (ne aZ l 0 0)) (ne fw l (nk aZ l 0 0) (ne aZ l 0 0)) = ne opP l 0 0 := (chain_e (q := fun _ => lL lG (fun k => lL aZ (fun _ => iU k))) ran_vec hb h1).trans a1
  have eo : ne opP l 0 0 = (opP l).2.2 := by unfold ne; simp
  have key : ∀ k e, ne (lL lG (fun k => lL aZ (fun _ => iU k))) l k e = (if ne iy l k e = 0 then (if c12_l (nv iy l k) = true then (if 0 ≤ k ∧ k ≤ l.length then ne (iW (nv iy l k)) l (nk iy l k e) 0 else ne (lL lG (fun k => lL aZ (fun _ => iU k))) l k e) else 1) else ne iy l k e) := by
    intro k e
    unfold ne nv nk lL lG onlyP
    by_cases he : e = 0
    · simp only [if_pos he]
      by_cases hn : (iy (l.drop k.toNat)).2.2 = 0
      · by_cases hc : c12_l (iy (l.drop k.toNat)).1 = true
        · have hc' : ((iy (l.drop k.toNat)).1 == 1 || (iy (l.drop k.toNat)).1 == 2) = true := hc
          simp only [if_pos hn, hc, hc', if_true]
          by_cases hr : 0 ≤ k ∧ k ≤ (l.length : Int)
          · rw [if_pos hr]
            have hq := num_ran _ (hb.drop k.toNat)
            have hq1 : 0 ≤ (iy (l.drop k.toNat)).2.1 := hq.1
            rw [List.drop_drop, show (k + (iy (l.drop k.toNat)).2.1).toNat = k.toNat + (iy (l.drop k.toNat)).2.1.toNat by omega]
            rfl
          · rw [if_neg hr]
        · have hc' : ¬ ((iy (l.drop k.toNat)).1 == 1 || (iy (l.drop k.toNat)).1 == 2) = true := hc
          simp only [if_pos hn, if_neg hc, if_neg hc', if_neg (show ¬ ((1 : Int) = 0) by decide)]
      · simp only [if_neg hn]
    · simp only [if_neg he]
  have a3 := key (nk fw l (nk aZ l 0 0) (ne aZ l 0 0)) (ne fw l (nk aZ l 0 0) (ne aZ l 0 0))
  rw [if_pos h2, hK, a2] at a3
  refine ⟨z, z1, by rw [z2, ← eo, a3], ?_⟩
  intro h0
  rw [← eo] at h0
  obtain ⟨b1, b2, b3⟩ := chain_v (q := fun _ => lL fw (fun _ => lL lG (fun k => lL aZ (fun _ => iU k)))) ib hb h h0
  rw [b1] at a1 a2 a3 z3 z1 h2 h3 hK
  obtain ⟨d1, d2, d3⟩ := chain_v (q := fun _ => lL lG (fun k => lL aZ (fun _ => iU k))) ran_vec hb h1 (a1.trans h0)
  rw [d1] at a2 a3 z3 z1 h3
  rw [h0] at a3
  have n0 : ne iy l (nk fw l (nk aZ l 0 0) 0) 0 = 0 := by
    by_cases hn : ne iy l (nk fw l (nk aZ l 0 0) 0) 0 = 0
    · exact hn
    · rw [if_neg hn] at a3; exact absurd a3.symm hn
  rw [if_pos n0] at a3
  have cc : c12_l kk = true := by
    by_cases hc : c12_l kk = true
    · exact hc
    · rw [if_neg hc] at a3; exact absurd a3 (by decide)
  rw [if_pos cc] at a3
  rw [z3 n0 cc a3.symm]
  -- the values
  have hkind : lG (l.drop (nk fw l (nk aZ l 0 0) 0).toNat) = iy (l.drop (nk fw l (nk aZ l 0 0) 0).toNat) := by
    unfold lG onlyP
    have e1 : (iy (l.drop (nk fw l (nk aZ l 0 0) 0).toNat)).2.2 = 0 := by have := n0; unfold ne at this; simpa using this
    have e2 : ((iy (l.drop (nk fw l (nk aZ l 0 0) 0).toNat)).1 == 1 || (iy (l.drop (nk fw l (nk aZ l 0 0) 0).toNat)).1 == 2) = true := by
      have : nv iy l (nk fw l (nk aZ l 0 0) 0) = kk := hK
      unfold nv at this
      rw [this]; exact cc
    rw [if_pos e1, if_pos e2]
  have rk : Ran lG := by
    intro l hb
    have := num_ran l hb
    unfold lG onlyP
    split
    · split
      · exact this
      · exact ⟨Int.le_refl 0, by show (0 : Int) ≤ l.length; omega⟩
    · exact this
  have hv : nv lG l (nk fw l (nk aZ l 0 0) 0) = kk := by
    show (lG (l.drop (nk fw l (nk aZ l 0 0) 0).toNat)).1 = kk
    rw [hkind]
    exact hK
  have hkk : nk lG l (nk fw l (nk aZ l 0 0) 0) 0 = nk iy l (nk fw l (nk aZ l 0 0) 0) 0 := by
    show (if (0 : Int) = 0 then nk fw l (nk aZ l 0 0) 0 + (lG (l.drop (nk fw l (nk aZ l 0 0) 0).toNat)).2.1 else _) = _
    rw [hkind]
    rfl
  obtain ⟨f1, f2, f3⟩ := chain_v (p := lG) (q := fun k => lL aZ (fun _ => iU k)) rk hb h2 (a2.trans h0)
  rw [hv, hkk] at f2 f3
  have e1 : (opP l).1 = (nv aZ l 0, nv fw l (nk aZ l 0 0), kk, nv (iW kk) l (nk iy l (nk fw l (nk aZ l 0 0) 0) 0)) := by
    have : (opP l).1 = nv opP l 0 := by unfold nv; simp
    rw [this]
    exact b3.trans (by rw [d3, f3]; rfl)
  have e2 : (opP l).2.1 = nk (iW kk) l (nk iy l (nk fw l (nk aZ l 0 0) 0) 0) 0 := by
    have : (opP l).2.1 = nk opP l 0 0 := by unfold nk; simp
    rw [this]
    exact (f2.trans (d2.trans b2)).symm
  rw [e1, e2]
  rfl
end Go.Proofs.Ytddnlnjmikcgfaa.PC
end
section
set_option linter.unusedVariables false
set_option linter.unusedSimpArgs false
namespace Go.Proofs.Ytddnlnjmikcgfaa.PC
open Go.RowKit Go.WB.PrintWords Go.WB.PrintLast Go.WB.PrintMore
def isKey (s : ByteArray) : Bool := decide (1 ≤ s.size ∧ s.size ≤ 64) && (bt s ((s.size : Int) - 1) != 0)
theorem keyIs (s : ByteArray) : key_Is.f s = some (isKey s) := by
  unfold key_Is.f isKey
  by_cases h1 : (s.size : Int) ≥ 1
  · by_cases h2 : (s.size : Int) ≤ 64
    · rw [if_pos h1, if_pos h2, lM (by omega) (by omega), if_pos (by omega), if_pos (by omega), decide_eq_true (show 1 ≤ s.size ∧ s.size ≤ 64 by omega), Bool.true_and]
    · rw [if_pos h1, if_neg h2, decide_eq_false (show ¬ (1 ≤ s.size ∧ s.size ≤ 64) by omega), Bool.false_and]
  · rw [if_neg h1, decide_eq_false (show ¬ (1 ≤ s.size ∧ s.size ≤ 64) by omega), Bool.false_and]
def RuleOk (o : Option (Int × Int × Int × Bool)) : Prop := ∃ v, o = some v ∧ -1 ≤ v.1 ∧ v.2.1 ≤ 1099511627776
theorem RuleOk.of (a b c : Int) (d : Bool) (h : -1 ≤ a) (k : b ≤ 1099511627776) : RuleOk (some (a, b, c, d)) := ⟨_, rfl, h, k⟩
theorem RuleOk.ite {c : Prop} [Decidable c] {a b : Option (Int × Int × Int × Bool)} (h : RuleOk a) (k : RuleOk b) : RuleOk (if c then a else b) := by
  split
  · exact h
  · exact k
theorem rule_J2 (x : Int) (b : Bool) : RuleOk (aD.J2 x b) := by
  rw [aD.J2_eq]
  repeat' (first | exact RuleOk.of _ _ _ _ (by decide) (by decide) | refine RuleOk.ite ?_ ?_)
theorem rule_J1 (x : Int) (b : Bool) : RuleOk (aD.J1 x b) := by
  rw [aD.J1_eq]
  repeat' (first | exact RuleOk.of _ _ _ _ (by decide) (by decide) | exact rule_J2 _ _ | refine RuleOk.ite ?_ ?_)
theorem rule_J0 (x : Int) (b : Bool) : RuleOk (aD.J0 x b) := by
  rw [aD.J0_eq]
  repeat' (first | exact RuleOk.of _ _ _ _ (by decide) (by decide) | exact rule_J1 _ _ | refine RuleOk.ite ?_ ?_)
theorem rule_all (x : Int) : RuleOk (aD.F x) := by
  rw [aD.jQ]
  repeat' (first | exact RuleOk.of _ _ _ _ (by decide) (by decide) | exact rule_J0 _ _ | refine RuleOk.ite ?_ ?_)
noncomputable def ruleV (p : Int) : Int × Int × Int × Bool := (aD.F p).getD (0, 0, 0, false)
theorem rule_F (p : Int) : aD.F p = some (ruleV p) ∧ -1 ≤ (ruleV p).1 ∧ (ruleV p).2.1 ≤ 1099511627776 := by
  obtain ⟨v, h, h1, h2⟩ := rule_all p
  have e : ruleV p = v := by unfold ruleV; rw [h]; rfl
  rw [e]
  exact ⟨h, h1, h2⟩
noncomputable def propMay (p v : Int) : Bool := decide (0 ≤ p ∧ p < 19) && decide ((ruleV p).1 ≤ v ∧ v ≤ (ruleV p).2.1)
theorem propMay_F (p v : Int) : gX.F p v = some (propMay p v) := by
  rw [gX.jQ]
  unfold prop_Is.f propMay
  by_cases h : p ≥ 0
  · rw [if_pos h, Option.bind_some]
    by_cases h2 : p < 19
    · rw [if_pos (decide_eq_true h2), (rule_F p).1, Option.bind_some, decide_eq_true (show 0 ≤ p ∧ p < 19 by omega), Bool.true_and]
      split
      · rename_i h3
        rw [Option.bind_some]
        exact congrArg some (decide_eq_decide.2 ⟨fun h4 => ⟨h3, h4⟩, fun h4 => h4.2⟩)
      · rename_i h3
        exact congrArg some (decide_eq_false (fun h4 => h3 h4.1)).symm
    · rw [if_neg (by simpa using h2), decide_eq_false (show ¬ (0 ≤ p ∧ p < 19) by omega), Bool.false_and]
  · rw [if_neg h, Option.bind_some, if_neg (by decide), decide_eq_false (show ¬ (0 ≤ p ∧ p < 19) by omega), Bool.false_and]
theorem propMay_ran {p v : Int} (h : propMay p v = true) : 0 ≤ p ∧ p < 19 ∧ -1 ≤ v ∧ v ≤ 1099511627776 := by
  unfold propMay at h
  simp only [Bool.and_eq_true, decide_eq_true_eq] at h
  have := rule_F p
  omega
noncomputable def kindOk (k pr pp : Int) (key : ByteArray) (p v : Int) : Bool :=
  if k = 1 then ja pr pp && (isKey key && ((p == 0) && (v == 0))) else if k = 2 then propMay p v && (((pr == 0) && (pp == 0)) && (key.toList == ([] : List UInt8))) else false
theorem kind_F (a0 a1 a2 : Int) (d : List Int) (k a5 a6 pr pp : Int) (key : ByteArray) (p v : Int) : gD.F a0 a1 a2 d k a5 a6 pr pp key p v = some (kindOk k pr pp key p v) := by
  rw [gD.jQ]
  unfold kindOk
  by_cases h1 : k = 1
  · rw [if_pos h1, if_pos h1, stampPlace, Option.bind_some]
    cases ja pr pp
    · rfl
    · rw [if_pos rfl, keyIs, Option.bind_some]
      cases isKey key
      · rfl
      · rw [if_pos rfl]
        by_cases hp : p = 0
        · rw [if_pos hp, hp]; rfl
        · rw [if_neg hp]
          have : (p == 0) = false := by simpa using hp
          rw [this]; rfl
  · rw [if_neg h1, if_neg h1]
    by_cases h2 : k = 2
    · rw [if_pos h2, if_pos h2, propMay_F, Option.bind_some]
      cases propMay p v
      · rfl
      · rw [if_pos rfl]
        unfold jd.f
        rw [Option.bind_some]
        cases ((pr == 0) && (pp == 0))
        · rfl
        · rfl
    · rw [if_neg h2, if_neg h2]
noncomputable def mayOp (t r s : Int) (d : List Int) (k nt nr pr pp : Int) (key : ByteArray) (p v : Int) : Bool :=
  jV t r && (isVec d && (decide (r < d.length) && (jV nt nr && (decide (s = rd d r + 1 ∧ s ≤ 1099511627776) && kindOk k pr pp key p v))))
theorem stamp_range {t r : Int} (h : jV t r = true) : 1 ≤ t ∧ t ≤ 1099511627776 ∧ 0 ≤ r ∧ r < 16 := by
  unfold jV at h
  simpa using h
theorem vec_rd {d : List Int} (h : isVec d = true) {r : Int} (h0 : 0 ≤ r) (h1 : r < d.length) : 0 ≤ rd d r ∧ rd d r ≤ 1099511627776 := by
  obtain ⟨i, rfl⟩ := Int.eq_ofNat_of_zero_le h0
  have hi : i < d.length := by omega
  rw [show ((i : Nat) : Int) = (i : Int) from rfl, rd_nat d i hi]
  exact vec_get h i hi
theorem opMay (t r s : Int) (d : List Int) (k nt nr pr pp : Int) (key : ByteArray) (p v : Int) (hd : d.length < 9223372036854775807) :
    dO.F t r s d k nt nr pr pp key p v = some (mayOp t r s d k nt nr pr pp key p v) := by
  have hJ : dO.J0 true t r s d k nt nr pr pp key p v = some false := by rw [dO.J0_eq, if_pos rfl]
  rw [dO.jQ, stampIs, Option.bind_some]
  unfold mayOp
  by_cases h1 : jV t r = true
  · have hs := stamp_range h1
    rw [if_pos h1, haveIs d hd, Option.bind_some, h1, Bool.true_and]
    by_cases h2 : isVec d = true
    · rw [if_pos h2, h2, Bool.true_and]
      by_cases h3 : r < d.length
      · have hr := vec_rd h2 hs.2.2.1 h3
        rw [if_neg (by omega), stampIs, Option.bind_some, decide_eq_true h3, Bool.true_and]
        cases h4 : jV nt nr
        · rw [Bool.false_and]; exact hJ
        · rw [Bool.true_and]
          show dO.J0 false t r s d k nt nr pr pp key p v = _
          rw [dO.J0_eq, if_neg (by decide), if_pos hs.2.2.1, if_pos h3, lM (by omega) (by omega)]
          by_cases h5 : s = rd d r + 1
          · rw [if_pos h5]
            by_cases h6 : s ≤ 1099511627776
            · rw [if_pos h6, kind_F, Option.bind_some, decide_eq_true (show s = rd d r + 1 ∧ s ≤ 1099511627776 from ⟨h5, h6⟩), Bool.true_and]
            · rw [if_neg h6, decide_eq_false (show ¬ (s = rd d r + 1 ∧ s ≤ 1099511627776) from fun h => h6 h.2), Bool.false_and]
          · rw [if_neg h5, decide_eq_false (show ¬ (s = rd d r + 1 ∧ s ≤ 1099511627776) from fun h => h5 h.1), Bool.false_and]
      · rw [if_pos (by omega), hJ, decide_eq_false h3, Bool.false_and]
    · have h2' : isVec d = false := by simpa using h2
      rw [if_neg h2, hJ, h2', Bool.false_and]
  · have h1' : jV t r = false := by simpa using h1
    rw [if_neg h1, hJ, h1', Bool.false_and]
theorem isPlace_of {t r : Int} (h : jV t r = true) : ja t r = true := by unfold ja; rw [h]; rfl
theorem may_iff {t r s : Int} {d : List Int} {k nt nr pr pp : Int} {key : ByteArray} {p v : Int} : mayOp t r s d k nt nr pr pp key p v = true ↔
    jV t r = true ∧ isVec d = true ∧ r < d.length ∧ jV nt nr = true ∧ (s = rd d r + 1 ∧ s ≤ 1099511627776) ∧ kindOk k pr pp key p v = true := by
  unfold mayOp
  simp only [Bool.and_eq_true, decide_eq_true_eq]
theorem empty_key {key : ByteArray} (h : key.toList = []) : key = noKey := by
  rw [ByteArray.toList_eq] at h
  obtain ⟨a⟩ := key
  unfold noKey
  congr 1
  exact Array.toList_inj.1 h
abbrev bodyOf (t r : Int) (d : List Int) (k nt nr pr pp : Int) (key : ByteArray) (p v : Int) : Body := ((t, r), d, k, (nt, nr), ((pr, pp), key, p, v))
theorem kind_rest {k pr pp : Int} {key : ByteArray} {p v : Int} (h : kindOk k pr pp key p v = true) : (k = 1 ∨ k = 2) ∧ restOk k (((pr, pp), key, p, v) : Rest) := by
  unfold kindOk at h
  unfold restOk
  by_cases h1 : k = 1
  · rw [if_pos h1] at h
    simp only [Bool.and_eq_true, beq_iff_eq] at h
    obtain ⟨g1, g2, g3, g4⟩ := h
    unfold isKey at g2
    simp only [Bool.and_eq_true, decide_eq_true_eq] at g2
    rw [if_pos h1]
    refine ⟨.inl h1, ⟨g1, ?_⟩, ?_⟩
    · show key.size ≤ 65536
      omega
    · show (p, v) = (0, 0)
      rw [g3, g4]
  · rw [if_neg h1] at h
    by_cases h2 : k = 2
    · rw [if_pos h2] at h
      simp only [Bool.and_eq_true, beq_iff_eq] at h
      obtain ⟨g1, ⟨g2, g3⟩, g4⟩ := h
      have := propMay_ran g1
      rw [if_neg h1]
      refine ⟨.inr h2, ⟨⟨?_, ?_⟩, ⟨?_, ?_⟩⟩, ?_, ?_⟩
      · show 0 ≤ p; omega
      · show p ≤ 4611686018427387904; omega
      · show 0 ≤ v + 1; omega
      · show v + 1 ≤ 4611686018427387904; omega
      · show (pr, pp) = (0, 0); rw [g2, g3]
      · exact empty_key g4
    · rw [if_neg h2] at h
      exact absurd h (by decide)
theorem may_ok {t r s : Int} {d : List Int} {k nt nr pr pp : Int} {key : ByteArray} {p v : Int} (h : mayOp t r s d k nt nr pr pp key p v = true) : opOk (bodyOf t r d k nt nr pr pp key p v) := by
  obtain ⟨h1, h2, h3, h4, h5, h6⟩ := may_iff.1 h
  obtain ⟨h7, h8⟩ := kind_rest h6
  refine ⟨isPlace_of h1, h2, ⟨⟨?_, ?_⟩, ?_⟩, isPlace_of h4, h8⟩
  · show 0 ≤ k; omega
  · show k ≤ 4611686018427387904; omega
  · show (k == 1 || k == 2) = true
    rcases h7 with rfl | rfl <;> rfl
theorem opE_bytes (b : Body) : eO (opE b) := by
  unfold opE
  refine (stampEnc_bytes _ _).append ((encN_bytes _).append ((enc_bytes _).append ((stampEnc_bytes _ _).append ?_)))
  unfold restE
  split
  · exact (stampEnc_bytes _ _).append (encT_bytes _)
  · exact (enc_bytes _).append (enc_bytes _)
theorem opE_length {b : Body} (h : opOk b) : (opE b).length ≤ 100000 := by
  obtain ⟨h1, h2, ⟨h3, _⟩, h4, h5⟩ := h
  have a1 := iw h1
  have a2 := encN_length b.2.1 (vec_nums h2).1 (vec_nums h2).2
  unfold jW at h3
  have a3 := fG (n := b.2.2.1.toNat) (by omega)
  have a4 := iw h4
  unfold opE restE
  unfold restOk at h5
  by_cases hk : b.2.2.1 = 1
  · rw [if_pos hk] at h5 ⊢
    have a5 := iw h5.1.1
    have a6 := encT_length _ h5.1.2
    simp only [List.length_append]
    omega
  · rw [if_neg hk] at h5 ⊢
    obtain ⟨⟨g1, g2⟩, _⟩ := h5
    unfold jW at g1 g2
    have a5 := fG (n := b.2.2.2.2.2.2.1.toNat) (by omega)
    have a6 := fG (n := (b.2.2.2.2.2.2.2 + 1).toNat) (by omega)
    simp only [List.length_append]
    omega
theorem putAll_acc (acc l : List Int) (hl : l.length ≤ 1024) (h : ∀ x ∈ l, jW x) (ha : acc.length < 100000000000000) : bN.F acc l = some (acc ++ encN l) := by
  have h9 := fG (n := l.length) (by omega)
  rw [bN.jQ, put_F l.length acc (by omega) (by omega), Option.bind_some]
  have := putAll_L l hl h l.length 0 (acc ++ eH l.length) (by omega) (by omega) (by rw [List.length_append]; omega)
  rw [List.drop_zero] at this
  rw [show ((0 : Nat) : Int) = 0 from rfl] at this
  rw [this]
  unfold encN
  rw [List.append_assoc]
theorem putText_acc (acc : List Int) (s : ByteArray) (hs : s.size ≤ 65536) (ha : acc.length < 100000000000000) : eZ.F acc s = some (acc ++ encT s) := by
  have h9 := fG (n := s.size) (by omega)
  rw [eZ.jQ, put_F s.size acc (by omega) (by omega), Option.bind_some, if_pos (by rw [List.length_append]; omega)]
  unfold encT
  rw [List.append_assoc]
theorem num_of {x : Int} (h : jW x) : x = ((x.toNat : Nat) : Int) ∧ x.toNat ≤ 4611686018427387904 := by
  unfold jW at h
  omega
theorem put_num (acc : List Int) {x : Int} (h : jW x) (ha : acc.length < 100000000000000) : bI.F acc x = some (acc ++ eH x.toNat) := by
  obtain ⟨e, hx⟩ := num_of h
  have h9 := fG hx
  rw [e, put_F _ acc hx (by omega)]
  rfl
theorem opPut (acc : List Int) (t r s : Int) (d : List Int) (k nt nr pr pp : Int) (key : ByteArray) (p v : Int) (h : opOk (bodyOf t r d k nt nr pr pp key p v)) (ha : acc.length < 1000000000000) :
    fK.F acc t r s d k nt nr pr pp key p v = some (acc ++ opE (bodyOf t r d k nt nr pr pp key p v)) := by
  have hL := opE_length h
  obtain ⟨h1, h2, ⟨h3, h3'⟩, h4, h5⟩ := h
  simp only at h1 h2 h3 h3' h4 h5
  have q1 := kC h1
  have q4 := kC h4
  have b1 : (iG t r).length ≤ 18 := iw h1
  have b2 : (encN d).length ≤ 9225 := encN_length d (vec_nums h2).1 (vec_nums h2).2
  obtain ⟨_, hk9⟩ := num_of h3
  have b3 : (eH k.toNat).length ≤ 9 := fG hk9
  have b4 : (iG nt nr).length ≤ 18 := iw h4
  unfold opE at hL ⊢
  simp only [List.length_append] at hL ⊢
  rw [fK.jQ, stampPut acc (by omega) (by omega) (by omega), Option.bind_some, putAll_acc _ d (vec_nums h2).1 (vec_nums h2).2 (by simp only [List.length_append]; omega), Option.bind_some,
    put_num _ h3 (by simp only [List.length_append]; omega), Option.bind_some, stampPut _ (by omega) (by omega) (by simp only [List.length_append]; omega), Option.bind_some]
  unfold restE
  unfold restOk at h5
  by_cases hk : k = 1
  · rw [if_pos hk] at h5
    have q5 : 0 ≤ pr ∧ pr ≤ 1099511627776 ∧ 0 ≤ pp ∧ pp < 16 := kC h5.1.1
    have b5 : (iG pr pp).length ≤ 18 := iw h5.1.1
    simp only [if_pos hk] at hL ⊢
    rw [stampPut _ (by omega) (by omega) (by simp only [List.length_append]; omega), Option.bind_some, putText_acc _ key h5.1.2 (by simp only [List.length_append]; omega), Option.bind_some]
    simp only [List.append_assoc]
  · rw [if_neg hk] at h5
    have g1 : jW p := h5.1.1
    have g2 : jW (v + 1) := h5.1.2
    obtain ⟨_, e1⟩ := num_of g1
    have b5 : (eH p.toNat).length ≤ 9 := fG e1
    have e2 := g2
    unfold jW at e2
    simp only [if_neg hk] at hL ⊢
    rw [put_num _ g1 (by simp only [List.length_append]; omega), Option.bind_some, lM (by omega) (by omega), put_num _ g2 (by simp only [List.length_append]; omega), Option.bind_some]
    simp only [List.append_assoc]
theorem opBytes (t r s : Int) (d : List Int) (k nt nr pr pp : Int) (key : ByteArray) (p v : Int) (hd : d.length < 9223372036854775807) :
    dZ.F t r s d k nt nr pr pp key p v = some (if mayOp t r s d k nt nr pr pp key p v = true then (opE (bodyOf t r d k nt nr pr pp key p v), 0) else ([], 1)) := by
  rw [dZ.jQ, opMay _ _ _ _ _ _ _ _ _ _ _ _ hd, Option.bind_some]
  by_cases h : mayOp t r s d k nt nr pr pp key p v = true
  · rw [if_pos h, if_pos h, opPut [] _ _ _ _ _ _ _ _ _ _ _ _ (may_ok h) (by simp), Option.bind_some, List.nil_append]
  · rw [if_neg h, if_neg h]
def zeroOp (e : Int) : T14 := (0, 0, 0, ([] : List Int), 0, 0, 0, 0, 0, (⟨#[]⟩ : ByteArray), 0, 0, 0, e)
noncomputable def seqOf (l : List Int) : Int := rd (opP l).1.2.1 (opP l).1.1.2 + 1
noncomputable def takenMay (l : List Int) : Bool := mayOp (opP l).1.1.1 (opP l).1.1.2 (seqOf l) (opP l).1.2.1 (opP l).1.2.2.1 (opP l).1.2.2.2.1.1 (opP l).1.2.2.2.1.2 (opP l).1.2.2.2.2.1.1 (opP l).1.2.2.2.2.1.2 (opP l).1.2.2.2.2.2.1 (opP l).1.2.2.2.2.2.2.1 (opP l).1.2.2.2.2.2.2.2
def wholeOp (l : List Int) (s : Int) : T14 := ((opP l).1.1.1, (opP l).1.1.2, s, (opP l).1.2.1, (opP l).1.2.2.1, (opP l).1.2.2.2.1.1, (opP l).1.2.2.2.1.2, (opP l).1.2.2.2.2.1.1, (opP l).1.2.2.2.2.1.2, (opP l).1.2.2.2.2.2.1, (opP l).1.2.2.2.2.2.2.1, (opP l).1.2.2.2.2.2.2.2, (opP l).2.1, 0)
noncomputable def tkOp (l : List Int) : T14 := if (opP l).2.2 = 0 then (if takenMay l = true then wholeOp l (seqOf l) else zeroOp 1) else zeroOp (opP l).2.2
theorem opTake (l : List Int) (hb : eO l) (hl : l.length < 4611686018427387904) : eF.F l = some (tkOp l) := by
  obtain ⟨z, z1, z2, z3⟩ := take_F1 l hb hl
  rw [eF.jQ, z1, Option.bind_some]
  unfold tkOp
  by_cases h : (opP l).2.2 = 0
  · rw [if_pos h]
    have g := goodOp.was l hb h
    obtain ⟨⟨g1, g2, g3, g4, g5⟩, _⟩ := g
    have q1 := kC g1
    have q2 := isVec_iff.1 g2
    have hz := z3 h
    unfold errOf at z2
    rw [if_pos (by rw [z2, h])]
    rw [hz]
    simp only
    unfold takenMay
    by_cases h1 : (opP l).1.1.2 ≥ ((opP l).1.2.1.length : Int)
    · rw [if_pos h1, if_neg]
      · rfl
      · intro hm
        have := (may_iff.1 hm).2.2.1
        omega
    · have hr := vec_rd g2 q1.2.2.1 (by omega)
      rw [if_neg h1, if_pos q1.2.2.1, if_pos (by omega), lM (by omega) (by omega), opMay _ _ _ _ _ _ _ _ _ _ _ _ (by omega), Option.bind_some]
      show (if mayOp _ _ (seqOf l) _ _ _ _ _ _ _ _ _ = true then _ else _) = _
      split
      · rfl
      · rfl
  · rw [if_neg h]
    unfold errOf at z2
    rw [if_neg (by rw [z2]; exact h), z2]
    rfl
theorem tkOp_put {t r s : Int} {d : List Int} {k nt nr pr pp : Int} {key : ByteArray} {p v : Int} (h : mayOp t r s d k nt nr pr pp key p v = true) (rest : List Int) :
    tkOp (opE (bodyOf t r d k nt nr pr pp key p v) ++ rest) = (t, r, s, d, k, nt, nr, pr, pp, key, p, v, ((opE (bodyOf t r d k nt nr pr pp key p v)).length : Int), 0) := by
  have g := goodOp.put _ rest (may_ok h)
  have hs := (may_iff.1 h).2.2.2.2.1.1
  have e1 : seqOf (opE (bodyOf t r d k nt nr pr pp key p v) ++ rest) = s := by unfold seqOf; rw [g, hs]
  have e2 : takenMay (opE (bodyOf t r d k nt nr pr pp key p v) ++ rest) = true := by
    unfold takenMay
    rw [e1, g]
    exact h
  unfold tkOp
  rw [if_pos (by rw [g]), if_pos e2, e1]
  unfold wholeOp
  rw [g]
theorem eqOp_self (t r s : Int) (d : List Int) (k nt nr pr pp : Int) (key : ByteArray) (p v : Int) (hd : d.length < 9223372036854775807) :
    aX.F t r s d k nt nr pr pp key p v t r s d k nt nr pr pp key p v = some true := by
  rw [aX.jQ]
  simp [eqNumbers d d hd]
theorem may_O : mayOp 1 0 1 [0] 1 1 0 0 0 (⟨#[107]⟩ : ByteArray) 0 0 = true := by
  rw [may_iff]
  refine ⟨by decide, by decide, by decide, by decide, by decide, ?_⟩
  unfold kindOk
  rw [if_pos rfl]
  decide +kernel
theorem wakes10 : bg.F = some true := by
  have h := may_O
  have hp := tkOp_put h []
  have hL := opE_length (may_ok h)
  rw [List.append_nil] at hp
  rw [bg.jQ]
  unfold ic.f
  rw [Option.bind_some]
  simp only
  rw [opBytes _ _ _ _ _ _ _ _ _ _ _ _ (by decide), if_pos h, Option.bind_some]
  simp only
  rw [opTake _ (opE_bytes _) (by omega), hp, Option.bind_some]
  simp only [bT.f, Option.bind_some, if_true]
  rw [eqOp_self _ _ _ _ _ _ _ _ _ _ _ _ (by decide), Option.bind_some]
theorem heavy10 (a0 a1 a2 : Int) (d : List Int) (a4 a5 a6 a7 a8 : Int) (key : ByteArray) (a10 a11 : Int) (x : List Int) (hd : d.length < 4611686018427387904) (hk : key.size < 4611686018427387904) :
    iA.f a0 a1 a2 d a4 a5 a6 a7 a8 key a10 a11 x = some (decide (1 + d.length + key.size > 2000 ∨ x.length > 3000)) := by
  unfold iA.f iH.f
  rw [Option.bind_some, lM (x := 1 + (d.length : Int)) (by omega) (by omega), lM (by omega) (by omega)]
  split
  · exact congrArg some (decide_eq_true (by omega)).symm
  · exact congrArg some (decide_eq_decide.2 (by omega))
theorem rd31 (l : List S31) (i : Nat) (h : i < l.length) : au l (i : Int) = l[i] := by simp [au, h]
end Go.Proofs.Ytddnlnjmikcgfaa.PC
end
section
set_option linter.unusedVariables false
set_option linter.unusedSimpArgs false
namespace Go.Proofs.Ytddnlnjmikcgfaa.PC
open Go.RowKit Go.WB.PrintWords Go.WB.PrintLast Go.WB.PrintMore
theorem prop_cases {p : Int} (h : 0 ≤ p ∧ p < 19) : p = 0 ∨ p = 1 ∨ p = 2 ∨ p = 3 ∨ p = 4 ∨ p = 5 ∨ p = 6 ∨ p = 7 ∨ p = 8 ∨ p = 9 ∨ p = 10 ∨ p = 11 ∨ p = 12 ∨ p = 13 ∨ p = 14 ∨ p = 15 ∨ p = 16 ∨ p = 17 ∨ p = 18 := by omega
theorem rule_value {p : Int} (h : 0 ≤ p ∧ p < 19) : ∃ c, ag.F p = some ((ruleV p).1, (ruleV p).2.1, c, true) := by
  unfold ruleV
  rcases prop_cases h with rfl | rfl | rfl | rfl | rfl | rfl | rfl | rfl | rfl | rfl | rfl | rfl | rfl | rfl | rfl | rfl | rfl | rfl | rfl <;>
    simp [aD.jQ, aD.J0_eq, aD.J1_eq, aD.J2_eq, ag.jQ, ag.J0_eq, ag.J1_eq, ag.J2_eq, ag.J3_eq]
theorem no_value {p : Int} (h : ¬ (0 ≤ p ∧ p < 19)) : ag.F p = some (0, 0, 0, false) := by
  have h0 : p ≠ 0 ∧ p ≠ 1 ∧ p ≠ 2 ∧ p ≠ 3 ∧ p ≠ 4 ∧ p ≠ 5 ∧ p ≠ 6 ∧ p ≠ 7 ∧ p ≠ 8 ∧ p ≠ 9 ∧ p ≠ 10 ∧ p ≠ 11 ∧ p ≠ 12 ∧ p ≠ 13 ∧ p ≠ 14 ∧ p ≠ 15 ∧ p ≠ 16 ∧ p ≠ 17 ∧ p ≠ 18 := by omega
  obtain ⟨g0, g1, g2, g3, g4, g5, g6, g7, g8, g9, g10, g11, g12, g13, g14, g15, g16, g17, g18⟩ := h0
  simp [ag.jQ, ag.J0_eq, ag.J1_eq, ag.J2_eq, ag.J3_eq, g0, g1, g2, g3, g4, g5, g6, g7, g8, g9, g10, g11, g12, g13, g14, g15, g16, g17, g18]
theorem refCheck (p v : Int) : ∃ c, cK.F p v = some c ∧ (c == 0) = propMay p v := by
  rw [cK.jQ]
  unfold propMay
  by_cases h : 0 ≤ p ∧ p < 19
  · obtain ⟨c, hc⟩ := rule_value h
    rw [hc, Option.bind_some, if_pos rfl, decide_eq_true h, Bool.true_and]
    simp only
    by_cases h1 : v < (ruleV p).1
    · rw [if_pos h1, decide_eq_false (by omega)]
      exact ⟨_, rfl, rfl⟩
    · rw [if_neg h1]
      by_cases h2 : v > (ruleV p).2.1
      · rw [if_pos h2, decide_eq_false (by omega)]
        exact ⟨_, rfl, rfl⟩
      · rw [if_neg h2, decide_eq_true (by omega)]
        exact ⟨_, rfl, rfl⟩
  · rw [no_value h, Option.bind_some, if_neg (by decide), decide_eq_false h, Bool.false_and]
    exact ⟨_, rfl, rfl⟩
theorem refKey (s : ByteArray) : jk.f s = some (isKey s) := by
  rw [← keyIs s]
  rfl
theorem beq0 (v : Int) : ((0 : Int) == v) = (v == 0) := by
  by_cases h : v = 0
  · subst h; rfl
  · have h2 : ¬ (0 : Int) = v := fun e => h e.symm
    have e1 : ((0 : Int) == v) = false := by simpa using h2
    have e2 : (v == 0) = false := by simpa using h
    rw [e1, e2]
theorem ne_stay {α : Type} (p : List Int → α × Int × Int) (l : List Int) (k : Int) {e : Int} (h : e ≠ 0) : ne p l k e = e := by unfold ne; rw [if_neg h]
theorem eqOp_1 (t r s : Int) (d : List Int) (k nt nr pr pp : Int) (key : ByteArray) (p v : Int) (hd : d.length < 9223372036854775807) :
    aX.F t r s d k nt nr pr pp key 0 0 t r s d k nt nr pr pp key p v = some ((p == 0) && (v == 0)) := by
  rw [aX.jQ, eqNumbers d d hd]
  simp only [beq_self_eq_true, Bool.and_self, if_true, Option.bind_some, decide_true]
  by_cases hp : p = 0
  · subst hp
    rw [if_pos rfl, beq_self_eq_true, Bool.true_and]
    exact congrArg some (beq0 v)
  · have h2 : (p == 0) = false := by simpa using hp
    rw [if_neg (fun e => hp e.symm), h2, Bool.false_and]
theorem eqOp_2 (t r s : Int) (d : List Int) (k nt nr pr pp : Int) (key : ByteArray) (p v : Int) (hd : d.length < 9223372036854775807) :
    aX.F t r s d k nt nr 0 0 (⟨#[]⟩ : ByteArray) p v t r s d k nt nr pr pp key p v = some (((pr == 0) && (pp == 0)) && (key.toList == ([] : List UInt8))) := by
  have e0 : (⟨#[]⟩ : ByteArray).toList = [] := by rw [ByteArray.toList_eq]
  rw [aX.jQ, eqNumbers d d hd, e0]
  simp only [beq_self_eq_true, Bool.and_self, if_true, Option.bind_some, decide_true]
  rw [beq0 pr, beq0 pp]
  cases ((pr == 0) && (pp == 0))
  · rfl
  · rw [if_pos rfl, Bool.true_and]
    cases h : key.toList with
    | nil => rfl
    | cons a l => rfl
theorem refOp (t r s : Int) (d : List Int) (k nt nr pr pp : Int) (key : ByteArray) (p v : Int) (hd : d.length < 9223372036854775807) :
    aj.F t r s d k nt nr pr pp key p v = some (mayOp t r s d k nt nr pr pp key p v) := by
  have hJ : aj.J0 true t r s d k nt nr pr pp key p v = some false := by rw [aj.J0_eq, if_pos rfl]
  have hK : aj.J0 false t r s d k nt nr pr pp key p v = some (kindOk k pr pp key p v) := by
    rw [aj.J0_eq, if_neg (by decide)]
    unfold kindOk
    by_cases h1 : k = 1
    · rw [if_pos h1, if_pos h1, eqOp_1 _ _ _ _ _ _ _ _ _ _ _ _ hd, Option.bind_some, refPlace, Option.bind_some, refKey, Option.bind_some]
      cases ((p == 0) && (v == 0)) <;> cases ja pr pp <;> cases isKey key <;> rfl
    · rw [if_neg h1, if_neg h1]
      by_cases h2 : k = 2
      · obtain ⟨c, hc, hc2⟩ := refCheck p v
        rw [if_pos h2, if_pos h2, eqOp_2 _ _ _ _ _ _ _ _ _ _ _ _ hd, Option.bind_some, hc, Option.bind_some, hc2]
        cases (((pr == 0) && (pp == 0)) && (key.toList == ([] : List UInt8))) <;> cases propMay p v <;> rfl
      · rw [if_neg h2, if_neg h2]
  rw [aj.jQ, refStamp, Option.bind_some]
  unfold mayOp
  by_cases h1 : jV t r = true
  · have hs := stamp_range h1
    rw [if_pos h1, refVector d hd, Option.bind_some, h1, Bool.true_and]
    by_cases h2 : isVec d = true
    · rw [if_pos h2, h2, Bool.true_and]
      by_cases h3 : r < d.length
      · have hr := vec_rd h2 hs.2.2.1 h3
        rw [if_neg (by omega), decide_eq_true h3, Bool.true_and]
        by_cases h4 : s < 1
        · rw [if_pos h4, hJ, decide_eq_false (show ¬ (s = rd d r + 1 ∧ s ≤ 1099511627776) by omega), Bool.false_and, Bool.and_false]
        · rw [if_neg h4]
          by_cases h5 : s > 1099511627776
          · rw [if_pos h5, hJ, decide_eq_false (show ¬ (s = rd d r + 1 ∧ s ≤ 1099511627776) by omega), Bool.false_and, Bool.and_false]
          · rw [if_neg h5, if_pos hs.2.2.1, if_pos h3, lM (by omega) (by omega)]
            by_cases h6 : s = rd d r + 1
            · rw [if_pos h6, refStamp, Option.bind_some, decide_eq_true (show s = rd d r + 1 ∧ s ≤ 1099511627776 by omega), Bool.true_and]
              cases jV nt nr
              · rw [Bool.false_and]; exact hJ
              · rw [Bool.true_and]; exact hK
            · rw [if_neg h6, hJ, decide_eq_false (show ¬ (s = rd d r + 1 ∧ s ≤ 1099511627776) from fun h => h6 h.1), Bool.false_and, Bool.and_false]
      · rw [if_pos (by omega), hJ, decide_eq_false h3, Bool.false_and]
    · have h2' : isVec d = false := by simpa using h2
      rw [if_neg h2, hJ, h2', Bool.false_and]
  · have h1' : jV t r = false := by simpa using h1
    rw [if_neg h1, hJ, h1', Bool.false_and]
theorem refNums_L (l : List Int) (hl : l.length ≤ 1024) (h : ∀ x ∈ l, jW x) : ∀ (d i : Nat) (acc : List Int), i ≤ l.length → l.length - i = d → acc.length + 9 * d < 140737488355328 →
    bu.L0 l acc (i : Int) = some (acc ++ encs (l.drop i)) := by
  intro d
  induction d with
  | zero =>
    intro i acc hi hd ha
    rw [bu.ky, if_neg (by omega), List.drop_of_length_le (by omega)]
    simp [encs]
  | succ d ih =>
    intro i acc hi hd ha
    have hil : i < l.length := by omega
    have hx := h l[i] (List.getElem_mem hil)
    obtain ⟨e, hx2⟩ := num_of hx
    have h9 := fG hx2
    rw [bu.ky, if_pos (by omega), if_pos (by omega), rd_nat l i hil, List.drop_eq_getElem_cons hil]
    show (aJ.F l[i]).bind _ = some (acc ++ (eH l[i].toNat ++ encs (l.drop (i + 1))))
    rw [e, refNum_F _ hx2, Option.bind_some, if_pos (by omega), w64s (by omega) (by omega), ← List.append_assoc, Int.toNat_natCast]
    exact ih (i + 1) _ (by omega) (by omega) (by rw [List.length_append]; omega)
theorem refNums (l : List Int) (hl : l.length ≤ 1024) (h : ∀ x ∈ l, jW x) : bu.F l = some (encN l) := by
  have h9 := fG (n := l.length) (by omega)
  rw [bu.jQ, refNum_F l.length (by omega), Option.bind_some]
  have := refNums_L l hl h l.length 0 (eH l.length) (by omega) (by omega) (by omega)
  rw [List.drop_zero] at this
  exact this
theorem refText (s : ByteArray) (h : s.size ≤ 65536) : dw.F s = some (encT s) := by
  have h9 := fG (n := s.size) (by omega)
  rw [dw.jQ, refNum_F s.size (by omega), Option.bind_some, if_pos (by omega)]
  rfl
theorem refNum_x {x : Int} (h : jW x) : aJ.F x = some (eH x.toNat) := by
  obtain ⟨e, hx⟩ := num_of h
  rw [e, refNum_F _ hx]
  rfl
theorem refOpBytes (t r s : Int) (d : List Int) (k nt nr pr pp : Int) (key : ByteArray) (p v : Int) (h : opOk (bodyOf t r d k nt nr pr pp key p v)) :
    bi.F t r s d k nt nr pr pp key p v = some (opE (bodyOf t r d k nt nr pr pp key p v)) := by
  have hL := opE_length h
  obtain ⟨h1, h2, ⟨h3, h3'⟩, h4, h5⟩ := h
  simp only at h1 h2 h3 h3' h4 h5
  have b1 : (iG t r).length ≤ 18 := iw h1
  have b2 : (encN d).length ≤ 9225 := encN_length d (vec_nums h2).1 (vec_nums h2).2
  obtain ⟨_, hk9⟩ := num_of h3
  have b3 : (eH k.toNat).length ≤ 9 := fG hk9
  have b4 : (iG nt nr).length ≤ 18 := iw h4
  unfold opE
  rw [bi.jQ, refBytes h1, Option.bind_some, refNums d (vec_nums h2).1 (vec_nums h2).2, Option.bind_some, if_pos (by omega), Option.bind_some, refNum_x h3, Option.bind_some, if_pos (by simp only [List.length_append]; omega), Option.bind_some,
    refBytes h4, Option.bind_some, if_pos (by simp only [List.length_append]; omega), Option.bind_some]
  unfold restE
  unfold restOk at h5
  by_cases hk : k = 1
  · rw [if_pos hk] at h5
    have g1 : ja pr pp = true := h5.1.1
    have g2 : key.size ≤ 65536 := h5.1.2
    have b5 : (iG pr pp).length ≤ 18 := iw g1
    have b6 := encT_length key g2
    simp only [if_pos hk]
    rw [refBytes g1, Option.bind_some, if_pos (by simp only [List.length_append]; omega), Option.bind_some, refText key g2, Option.bind_some, if_pos (by simp only [List.length_append]; omega)]
    simp only [List.append_assoc]
  · rw [if_neg hk] at h5
    have g1 : jW p := h5.1.1
    have g2 : jW (v + 1) := h5.1.2
    obtain ⟨_, e1⟩ := num_of g1
    obtain ⟨_, e3⟩ := num_of g2
    have b5 : (eH p.toNat).length ≤ 9 := fG e1
    have b6 : (eH (v + 1).toNat).length ≤ 9 := fG e3
    have e2 := g2
    unfold jW at e2
    simp only [if_neg hk]
    rw [refNum_x g1, Option.bind_some, if_pos (by simp only [List.length_append]; omega), Option.bind_some, lM (by omega) (by omega), refNum_x g2, Option.bind_some, if_pos (by simp only [List.length_append]; omega)]
    simp only [List.append_assoc]
theorem tstamp_ok (l : List Int) (hb : eO l) (hl : l.length < 4611686018427387904) (k : Int) (h : 0 ≤ k ∧ k ≤ l.length) :
    aG.F l k 0 = some ((nv aZ l k).1, (nv aZ l k).2, nk aZ l k 0, ne aZ l k 0) := by
  have hr := stamp_ran _ (hb.drop k.toNat)
  rw [List.length_drop] at hr
  rw [aG.jQ, if_pos rfl, if_pos h.1, if_pos h.2, refTake _ (hb.drop _) (by rw [List.length_drop]; omega), Option.bind_some, lM (by omega) (by omega)]
  rfl
theorem tstamp_bad (l : List Int) (k e : Int) (h : e ≠ 0) : aG.F l k e = some (0, 0, k, e) := by
  rw [aG.jQ, if_neg h]
theorem tnum_ok (l : List Int) (hb : eO l) (hl : l.length < 4611686018427387904) (k : Int) (h : 0 ≤ k ∧ k ≤ l.length) :
    bf.F l k 0 = some (nv iy l k, nk iy l k 0, ne iy l k 0) := by
  have hr := num_ran _ (hb.drop k.toNat)
  rw [List.length_drop] at hr
  rw [bf.jQ, if_pos rfl, if_pos h.1, if_pos h.2, refTakeNum _ (hb.drop _) (by rw [List.length_drop]; omega), Option.bind_some, lM (by omega) (by omega)]
  rfl
theorem tnum_bad (l : List Int) (k e : Int) (h : e ≠ 0) : bf.F l k e = some (0, k, e) := by
  rw [bf.jQ, if_neg h]
theorem J3_bad (l : List Int) (k e : Int) (h : e ≠ 0) (a b c : Int) (d : List Int) (f g i j m : Int) (s : ByteArray) (o p : Int) : af.J3 l k e a b c d f g i j m s o p = some (zeroOp e) := by
  rw [af.J3_eq, if_neg h]
  rfl
theorem J2_bad (x l : List Int) (k e : Int) (h : e ≠ 0) (a b c : Int) (d : List Int) (f g i j m : Int) (s : ByteArray) (o p : Int) : af.J2 x l k e a b c d f g i j m s o p = some (zeroOp e) := by
  rw [af.J2_eq, tstamp_bad l k e h, Option.bind_some]
  by_cases hk : f = 1
  · rw [if_pos hk, tstamp_bad l k e h, Option.bind_some, if_neg h]
    exact J3_bad l k e h ..
  · rw [if_neg hk, tnum_bad l k e h, Option.bind_some, tnum_bad l k e h, Option.bind_some]
    exact J3_bad l k e h ..
theorem ref_tail (l : List Int) (hb : eO l) (hl : l.length < 4611686018427387904) (k : Int) (h : 0 ≤ k ∧ k ≤ l.length) (s1 s2 s3 : Int) (d : List Int) (kk : Int) :
    af.J2 l l k 0 s1 s2 s3 d kk 0 0 0 0 (⟨#[]⟩ : ByteArray) 0 0 =
      if ne (iW kk) l k 0 = 0 then af.J3 l (nk (iW kk) l k 0) 0 s1 s2 s3 d kk (nv (iW kk) l k).1.1 (nv (iW kk) l k).1.2 (nv (iW kk) l k).2.1.1 (nv (iW kk) l k).2.1.2 (nv (iW kk) l k).2.2.1 (nv (iW kk) l k).2.2.2.1 (nv (iW kk) l k).2.2.2.2
      else some (zeroOp (ne (iW kk) l k 0)) := by
  have h1 := nk_ran ib hb (e := 0) h
  have c1 : ne (iU kk) l (nk aZ l k 0) (ne aZ l k 0) = ne (iW kk) l k 0 := chain_e (q := fun _ => iU kk) ib hb h
  rw [af.J2_eq, tstamp_ok l hb hl k h, Option.bind_some]
  simp only
  by_cases he : ne aZ l k 0 = 0
  · rw [he] at c1 ⊢
    by_cases hk : kk = 1
    · have eR : iU kk = mapP (fun x : (Int × Int) × ByteArray => ((x.1, x.2, 0, 0) : Rest)) (lL aZ (fun _ => iY)) := by funext l; unfold iU; rw [if_pos hk]
      have h2 := nk_ran ib hb (e := 0) h1
      have hr := text_ran _ (hb.drop (nk aZ l (nk aZ l k 0) 0).toNat)
      rw [List.length_drop] at hr
      have c2 : ne iY l (nk aZ l (nk aZ l k 0) 0) (ne aZ l (nk aZ l k 0) 0) = ne (iW kk) l k 0 := by
        rw [← c1, eR]
        exact chain_e (q := fun _ => iY) ib hb h1
      rw [if_pos hk, tstamp_ok l hb hl _ h1, Option.bind_some]
      simp only
      by_cases he2 : ne aZ l (nk aZ l k 0) 0 = 0
      · rw [if_pos he2, if_pos h2.1, if_pos h2.2, refTakeText _ (hb.drop _) (by rw [List.length_drop]; omega), Option.bind_some, lM (by omega) (by omega)]
        rw [he2] at c2
        have c3 : (iY (l.drop (nk aZ l (nk aZ l k 0) 0).toNat)).2.2 = ne (iW kk) l k 0 := by rw [← c2]; unfold ne; rw [if_pos rfl]
        rw [c3]
        by_cases he3 : ne (iW kk) l k 0 = 0
        · rw [if_pos he3, he3]
          obtain ⟨g1, g2, g3⟩ := chain_v (q := fun _ => iU kk) ib hb h he3
          have h0' : ne (iU kk) l (nk aZ l k 0) 0 = 0 := c1.trans he3
          rw [eR] at h0'
          obtain ⟨f1, f2, f3⟩ := chain_v (q := fun _ => iY) ib hb h1 h0'
          have e1 : nv (iW kk) l k = (nv aZ l k, nv (iU kk) l (nk aZ l k 0)) := g3
          have e2 : nv (iU kk) l (nk aZ l k 0) = (nv aZ l (nk aZ l k 0), nv iY l (nk aZ l (nk aZ l k 0) 0), 0, 0) := by
            rw [eR]
            exact congrArg (fun x : (Int × Int) × ByteArray => ((x.1, x.2, 0, 0) : Rest)) f3
          have e3 : nk iY l (nk aZ l (nk aZ l k 0) 0) 0 = nk (iW kk) l k 0 := by
            have t : nk (iU kk) l (nk aZ l k 0) 0 = nk (lL aZ (fun _ => iY)) l (nk aZ l k 0) 0 := by rw [eR]; rfl
            exact f2.trans (t.symm.trans g2)
          rw [e1, e2, ← e3]
          rfl
        · rw [if_neg he3]
          exact J3_bad l _ _ he3 ..
      · have c3 : ne aZ l (nk aZ l k 0) 0 = ne (iW kk) l k 0 := by rw [← c2, ne_stay _ _ _ he2]
        rw [if_neg he2, if_neg (by rw [← c3]; exact he2), ← c3]
        exact J3_bad l _ _ he2 ..
    · have eR : iU kk = mapP (fun x : Int × Int => (((0, 0), noKey, x.1, x.2 - 1) : Rest)) (lL iy (fun _ => iy)) := by funext l; unfold iU; rw [if_neg hk]
      have h2 := nk_ran ran_num hb (e := 0) h1
      have c2 : ne iy l (nk iy l (nk aZ l k 0) 0) (ne iy l (nk aZ l k 0) 0) = ne (iW kk) l k 0 := by
        rw [← c1, eR]
        exact chain_e (q := fun _ => iy) ran_num hb h1
      rw [if_neg hk, tnum_ok l hb hl _ h1, Option.bind_some]
      simp only
      by_cases he2 : ne iy l (nk aZ l k 0) 0 = 0
      · rw [he2] at c2 ⊢
        rw [tnum_ok l hb hl _ h2, Option.bind_some]
        simp only
        rw [c2]
        by_cases he3 : ne (iW kk) l k 0 = 0
        · rw [if_pos he3, he3]
          obtain ⟨g1, g2, g3⟩ := chain_v (q := fun _ => iU kk) ib hb h he3
          have h0' : ne (iU kk) l (nk aZ l k 0) 0 = 0 := c1.trans he3
          rw [eR] at h0'
          obtain ⟨f1, f2, f3⟩ := chain_v (q := fun _ => iy) ran_num hb h1 h0'
          have e1 : nv (iW kk) l k = (nv aZ l k, nv (iU kk) l (nk aZ l k 0)) := g3
          have e2 : nv (iU kk) l (nk aZ l k 0) = ((0, 0), noKey, nv iy l (nk aZ l k 0), nv iy l (nk iy l (nk aZ l k 0) 0) - 1) := by
            rw [eR]
            exact congrArg (fun x : Int × Int => (((0, 0), noKey, x.1, x.2 - 1) : Rest)) f3
          have e3 : nk iy l (nk iy l (nk aZ l k 0) 0) 0 = nk (iW kk) l k 0 := by
            have t : nk (iU kk) l (nk aZ l k 0) 0 = nk (lL iy (fun _ => iy)) l (nk aZ l k 0) 0 := by rw [eR]; rfl
            exact f2.trans (t.symm.trans g2)
          have e5 := tk_ok (l.drop (nk iy l (nk aZ l k 0) 0).toNat) 0 0 (by have := c2.trans he3; simpa [ne] using this)
          have q1 : 0 ≤ nv iy l (nk iy l (nk aZ l k 0) 0) := e5.1
          have q2 : nv iy l (nk iy l (nk aZ l k 0) 0) ≤ 4611686018427387904 := e5.2.1
          rw [e1, e2, ← e3, lM (by omega) (by omega)]
          rfl
        · rw [if_neg he3]
          exact J3_bad l _ _ he3 ..
      · have c3 : ne iy l (nk aZ l k 0) 0 = ne (iW kk) l k 0 := by rw [← c2, ne_stay _ _ _ he2]
        rw [tnum_bad l _ _ he2, Option.bind_some, if_neg (by rw [← c3]; exact he2), ← c3]
        exact J3_bad l _ _ he2 ..
  · have c3 : ne aZ l k 0 = ne (iW kk) l k 0 := by rw [← c1, ne_stay _ _ _ he]
    rw [← c3, if_neg (c := ne aZ l k 0 = 0) he]
    by_cases hk : kk = 1
    · rw [if_pos hk, tstamp_bad l _ _ he, Option.bind_some, if_neg he]
      exact J3_bad l _ _ he ..
    · rw [if_neg hk, tnum_bad l _ _ he, Option.bind_some, tnum_bad l _ _ he, Option.bind_some]
      exact J3_bad l _ _ he ..
end Go.Proofs.Ytddnlnjmikcgfaa.PC
end
section
set_option linter.unusedVariables false
set_option linter.unusedSimpArgs false
namespace Go.Proofs.Ytddnlnjmikcgfaa.PC
open Go.RowKit Go.WB.PrintWords Go.WB.PrintLast Go.WB.PrintMore
def kindQ (l : List Int) : (Int × ((Int × Int) × Rest)) × Int × Int := lL lG (fun k => lL aZ (fun _ => iU k)) l
def vecQ (l : List Int) : (List Int × Int × ((Int × Int) × Rest)) × Int × Int := lL fw (fun _ => lL lG (fun k => lL aZ (fun _ => iU k))) l
theorem kind_key (l : List Int) (hb : eO l) (k : Int) (h : 0 ≤ k ∧ k ≤ l.length) : ne kindQ l k 0 = (if ne iy l k 0 = 0 then (if c12_l (nv iy l k) = true then ne (iW (nv iy l k)) l (nk iy l k 0) 0 else 1) else ne iy l k 0) := by
  unfold ne nv nk kindQ lL lG onlyP
  simp only [if_true]
  by_cases hn : (iy (l.drop k.toNat)).2.2 = 0
  · by_cases hc : c12_l (iy (l.drop k.toNat)).1 = true
    · have hc' : ((iy (l.drop k.toNat)).1 == 1 || (iy (l.drop k.toNat)).1 == 2) = true := hc
      have hq := num_ran _ (hb.drop k.toNat)
      have hq1 : 0 ≤ (iy (l.drop k.toNat)).2.1 := hq.1
      simp only [if_pos hn, hc, hc', if_true]
      rw [List.drop_drop, show (k + (iy (l.drop k.toNat)).2.1).toNat = k.toNat + (iy (l.drop k.toNat)).2.1.toNat by omega]
      rfl
    · have hc' : ¬ ((iy (l.drop k.toNat)).1 == 1 || (iy (l.drop k.toNat)).1 == 2) = true := hc
      simp only [if_pos hn, if_neg hc, if_neg hc', if_neg (show ¬ ((1 : Int) = 0) by decide)]
  · simp only [if_neg hn]
theorem ran_kind : Ran lG := by
  intro l hb
  have := num_ran l hb
  unfold lG onlyP
  split
  · split
    · exact this
    · exact ⟨Int.le_refl 0, by show (0 : Int) ≤ l.length; omega⟩
  · exact this
theorem opP_e (l : List Int) : ne opP l 0 0 = (opP l).2.2 := by unfold ne; simp
theorem op_vals (l : List Int) (hb : eO l) (h0 : (opP l).2.2 = 0) : ne aZ l 0 0 = 0 ∧ ne fw l (nk aZ l 0 0) 0 = 0 ∧
    (opP l).1 = (nv aZ l 0, nv fw l (nk aZ l 0 0), nv iy l (nk fw l (nk aZ l 0 0) 0), nv (iW (nv iy l (nk fw l (nk aZ l 0 0) 0))) l (nk iy l (nk fw l (nk aZ l 0 0) 0) 0)) ∧
    (opP l).2.1 = nk (iW (nv iy l (nk fw l (nk aZ l 0 0) 0))) l (nk iy l (nk fw l (nk aZ l 0 0) 0) 0) 0 := by
  have h : (0 : Int) ≤ 0 ∧ (0 : Int) ≤ l.length := by omega
  have h1 := nk_ran ib hb (e := 0) h
  have h2 := nk_ran ran_vec hb (e := 0) h1
  rw [← opP_e] at h0
  obtain ⟨b1, b2, b3⟩ := chain_v (q := fun _ => vecQ) ib hb h h0
  have a1 : ne vecQ l (nk aZ l 0 0) (ne aZ l 0 0) = ne opP l 0 0 := chain_e (q := fun _ => vecQ) ib hb h
  rw [b1, h0] at a1
  obtain ⟨d1, d2, d3⟩ := chain_v (q := fun _ => kindQ) ran_vec hb h1 a1
  have a2 : ne kindQ l (nk fw l (nk aZ l 0 0) 0) (ne fw l (nk aZ l 0 0) 0) = ne vecQ l (nk aZ l 0 0) 0 := chain_e (q := fun _ => kindQ) ran_vec hb h1
  rw [d1, a1] at a2
  have a3 := kind_key l hb _ h2
  rw [a2] at a3
  generalize hkk : nv iy l (nk fw l (nk aZ l 0 0) 0) = kk at *
  have n0 : ne iy l (nk fw l (nk aZ l 0 0) 0) 0 = 0 := by
    by_cases hn : ne iy l (nk fw l (nk aZ l 0 0) 0) 0 = 0
    · exact hn
    · rw [if_neg hn] at a3; exact absurd a3.symm hn
  rw [if_pos n0] at a3
  have cc : c12_l kk = true := by
    by_cases hc : c12_l kk = true
    · exact hc
    · rw [if_neg hc] at a3; exact absurd a3 (by decide)
  have hkind : lG (l.drop (nk fw l (nk aZ l 0 0) 0).toNat) = iy (l.drop (nk fw l (nk aZ l 0 0) 0).toNat) := by
    unfold lG onlyP
    have e1 : (iy (l.drop (nk fw l (nk aZ l 0 0) 0).toNat)).2.2 = 0 := by have := n0; unfold ne at this; simpa using this
    have e2 : ((iy (l.drop (nk fw l (nk aZ l 0 0) 0).toNat)).1 == 1 || (iy (l.drop (nk fw l (nk aZ l 0 0) 0).toNat)).1 == 2) = true := by
      have : nv iy l (nk fw l (nk aZ l 0 0) 0) = kk := hkk
      unfold nv at this
      rw [this]; exact cc
    rw [if_pos e1, if_pos e2]
  have hv : nv lG l (nk fw l (nk aZ l 0 0) 0) = kk := by
    show (lG (l.drop (nk fw l (nk aZ l 0 0) 0).toNat)).1 = kk
    rw [hkind]
    exact hkk
  have hkn : nk lG l (nk fw l (nk aZ l 0 0) 0) 0 = nk iy l (nk fw l (nk aZ l 0 0) 0) 0 := by
    show (if (0 : Int) = 0 then nk fw l (nk aZ l 0 0) 0 + (lG (l.drop (nk fw l (nk aZ l 0 0) 0).toNat)).2.1 else _) = _
    rw [hkind]
    rfl
  obtain ⟨f1, f2, f3⟩ := chain_v (p := lG) (q := fun k => lL aZ (fun _ => iU k)) ran_kind hb h2 a2
  rw [hv, hkn] at f2 f3
  refine ⟨b1, d1, ?_, ?_⟩
  · have : (opP l).1 = nv opP l 0 := by unfold nv; simp
    rw [this]
    refine b3.trans ?_
    have d3' : nv vecQ l (nk aZ l 0 0) = (nv fw l (nk aZ l 0 0), nv kindQ l (nk fw l (nk aZ l 0 0) 0)) := d3
    rw [d3']
    have f3' : nv kindQ l (nk fw l (nk aZ l 0 0) 0) = (kk, nv (iW kk) l (nk iy l (nk fw l (nk aZ l 0 0) 0) 0)) := f3
    rw [f3']
  · have : (opP l).2.1 = nk opP l 0 0 := by unfold nk; simp
    rw [this]
    exact (f2.trans (d2.trans b2)).symm
theorem J1_bad (x l : List Int) (k e : Int) (h : e ≠ 0) (a b c : Int) (d : List Int) (f g i j m : Int) (s : ByteArray) (o p : Int) : af.J1 x false l k e a b c d f g i j m s o p = some (zeroOp e) := by
  rw [af.J1_eq, if_neg (by decide)]
  exact J2_bad x l k e h ..
theorem J0_bad' (x l : List Int) (k e : Int) (h : e ≠ 0) (a b c : Int) (d : List Int) (f g i j m : Int) (s : ByteArray) (o p : Int) : af.J0 x l k e a b c d f g i j m s o p = some (zeroOp e) := by
  rw [af.J0_eq, tnum_bad l k e h, Option.bind_some, if_neg h]
  exact J1_bad x l k e h ..
theorem tkOp_bad {l : List Int} (h : (opP l).2.2 ≠ 0) : tkOp l = zeroOp (opP l).2.2 := by unfold tkOp; rw [if_neg h]
theorem refTakeOp (l : List Int) (hb : eO l) (hl : l.length < 4611686018427387904) : af.F l = some (tkOp l) := by
  have h : (0 : Int) ≤ 0 ∧ (0 : Int) ≤ l.length := by omega
  have h1 := nk_ran ib hb (e := 0) h
  have h2 := nk_ran ran_vec hb (e := 0) h1
  have a1 : ne vecQ l (nk aZ l 0 0) (ne aZ l 0 0) = ne opP l 0 0 := chain_e (q := fun _ => vecQ) ib hb h
  have a2 : ne kindQ l (nk fw l (nk aZ l 0 0) 0) (ne fw l (nk aZ l 0 0) 0) = ne vecQ l (nk aZ l 0 0) 0 := chain_e (q := fun _ => kindQ) ran_vec hb h1
  rw [opP_e] at a1
  rw [af.jQ, tstamp_ok l hb hl 0 h, Option.bind_some]
  simp only
  by_cases e1 : ne aZ l 0 0 = 0
  · rw [e1] at a1
    have hr := vec_ran _ (hb.drop (nk aZ l 0 0).toNat)
    rw [List.length_drop] at hr
    rw [if_pos e1, if_pos h1.1, if_pos h1.2, refTakeVec _ (hb.drop _) (by rw [List.length_drop]; omega), Option.bind_some, lM (by omega) (by omega)]
    have ek : nk aZ l 0 0 + (fw (l.drop (nk aZ l 0 0).toNat)).2.1 = nk fw l (nk aZ l 0 0) 0 := rfl
    have ee : (fw (l.drop (nk aZ l 0 0).toNat)).2.2 = ne fw l (nk aZ l 0 0) 0 := rfl
    have ev : (fw (l.drop (nk aZ l 0 0).toNat)).1 = nv fw l (nk aZ l 0 0) := rfl
    first
      | rw [ek, ee, ev]
      | (rw [ee, ev]; rw [show nk aZ l 0 0 + (fw (l.drop (nk aZ l 0 0).toNat)).2.1 = nk fw l (nk aZ l 0 0) 0 from rfl])
    by_cases e2 : ne fw l (nk aZ l 0 0) 0 = 0
    · rw [e2] at a2 ⊢
      have a3 := kind_key l hb _ h2
      rw [a2, a1] at a3
      have h3 := nk_ran ran_num hb (e := 0) h2
      rw [af.J0_eq, tnum_ok l hb hl _ h2, Option.bind_some]
      simp only
      by_cases e3 : ne iy l (nk fw l (nk aZ l 0 0) 0) 0 = 0
      · rw [if_pos e3] at a3 ⊢
        rw [e3]
        generalize hkk : nv iy l (nk fw l (nk aZ l 0 0) 0) = kk at *
        have hJ : (if kk = 1 then af.J1 l false l (nk iy l (nk fw l (nk aZ l 0 0) 0) 0) 0 (nv aZ l 0).1 (nv aZ l 0).2 0 (nv fw l (nk aZ l 0 0)) kk 0 0 0 0 (⟨#[]⟩ : ByteArray) 0 0
            else af.J1 l (kk != 2) l (nk iy l (nk fw l (nk aZ l 0 0) 0) 0) 0 (nv aZ l 0).1 (nv aZ l 0).2 0 (nv fw l (nk aZ l 0 0)) kk 0 0 0 0 (⟨#[]⟩ : ByteArray) 0 0)
            = af.J1 l (!c12_l kk) l (nk iy l (nk fw l (nk aZ l 0 0) 0) 0) 0 (nv aZ l 0).1 (nv aZ l 0).2 0 (nv fw l (nk aZ l 0 0)) kk 0 0 0 0 (⟨#[]⟩ : ByteArray) 0 0 := by
          unfold c12_l
          by_cases hk1 : kk = 1
          · subst hk1; rfl
          · rw [if_neg hk1]
            have : (kk == 1) = false := by simpa using hk1
            rw [this, Bool.false_or]; rfl
        rw [hJ, af.J1_eq]
        by_cases cc : c12_l kk = true
        · rw [cc, if_neg (by decide), ref_tail l hb hl _ h3]
          rw [if_pos cc] at a3
          rw [← a3]
          by_cases h0 : (opP l).2.2 = 0
          · rw [if_pos h0]
            obtain ⟨_, _, v1, v2⟩ := op_vals l hb h0
            rw [hkk] at v1 v2
            have g := goodOp.was l hb h0
            obtain ⟨⟨g1, g2, _⟩, _⟩ := g
            have q1 := kC g1
            have q2 := isVec_iff.1 g2
            unfold tkOp
            rw [if_pos h0, af.J3_eq, if_pos rfl]
            have i1 : (nv aZ l 0).1 = (opP l).1.1.1 := by rw [v1]
            have i2 : (nv aZ l 0).2 = (opP l).1.1.2 := by rw [v1]
            have i3 : nv fw l (nk aZ l 0 0) = (opP l).1.2.1 := by rw [v1]
            have i4 : kk = (opP l).1.2.2.1 := by rw [v1]
            have i5 : nv (iW kk) l (nk iy l (nk fw l (nk aZ l 0 0) 0) 0) = (opP l).1.2.2.2 := by rw [v1]
            rw [i5, i1, i2, i3, ← v2]
            have hm : ∀ s, af.J4 l (opP l).2.1 0 (opP l).1.1.1 (opP l).1.1.2 s (opP l).1.2.1 kk (opP l).1.2.2.2.1.1 (opP l).1.2.2.2.1.2 (opP l).1.2.2.2.2.1.1 (opP l).1.2.2.2.2.1.2 (opP l).1.2.2.2.2.2.1 (opP l).1.2.2.2.2.2.2.1 (opP l).1.2.2.2.2.2.2.2
                = (if mayOp (opP l).1.1.1 (opP l).1.1.2 s (opP l).1.2.1 kk (opP l).1.2.2.2.1.1 (opP l).1.2.2.2.1.2 (opP l).1.2.2.2.2.1.1 (opP l).1.2.2.2.2.1.2 (opP l).1.2.2.2.2.2.1 (opP l).1.2.2.2.2.2.2.1 (opP l).1.2.2.2.2.2.2.2 = true then some ((opP l).1.1.1, (opP l).1.1.2, s, (opP l).1.2.1, kk, (opP l).1.2.2.2.1.1, (opP l).1.2.2.2.1.2, (opP l).1.2.2.2.2.1.1, (opP l).1.2.2.2.2.1.2, (opP l).1.2.2.2.2.2.1, (opP l).1.2.2.2.2.2.2.1, (opP l).1.2.2.2.2.2.2.2, (opP l).2.1, 0) else some (zeroOp 1)) := by
              intro s
              rw [af.J4_eq, refOp _ _ _ _ _ _ _ _ _ _ _ _ (by omega), Option.bind_some]
              rfl
            by_cases hr2 : (opP l).1.1.2 < ((opP l).1.2.1.length : Int)
            · have hv := vec_rd g2 q1.2.2.1 hr2
              rw [if_pos hr2, if_pos q1.2.2.1, lM (by omega) (by omega), hm]
              unfold takenMay seqOf wholeOp
              rw [i4]
              split <;> rfl
            · rw [if_neg hr2, hm, if_neg, if_neg]
              · intro hm2
                exact hr2 (may_iff.1 hm2).2.2.1
              · intro hm2
                exact hr2 (may_iff.1 hm2).2.2.1
          · rw [if_neg h0, tkOp_bad h0]
        · have cf : c12_l kk = false := by simpa using cc
          rw [if_neg cc] at a3
          rw [cf, if_pos (show (!false) = true from rfl), J2_bad _ _ _ 1 (by decide), tkOp_bad (by rw [a3]; decide), a3]
      · rw [if_neg e3] at a3 ⊢
        rw [J1_bad _ _ _ _ e3, tkOp_bad (by rw [a3]; exact e3), a3]
    · rw [ne_stay _ _ _ e2, a1] at a2
      rw [J0_bad' _ _ _ _ e2, tkOp_bad (by rw [← a2]; exact e2), a2]
  · rw [ne_stay _ _ _ e1] at a1
    rw [if_neg e1, J0_bad' _ _ _ _ e1, tkOp_bad (by rw [← a1]; exact e1), a1]
/-- What is taken is no longer than a vector may be. -/
theorem tkOp_deps (l : List Int) (hb : eO l) : (tkOp l).2.2.2.1.length ≤ 1024 := by
  unfold tkOp
  split
  · rename_i h
    split
    · have g := (goodOp.was l hb h).1.2.1
      have := isVec_iff.1 g
      show (opP l).1.2.1.length ≤ 1024
      omega
    · simp [zeroOp]
  · simp [zeroOp]
theorem eqOp_z (z : T14) (h : z.2.2.2.1.length < 9223372036854775807) : aX.F z.1 z.2.1 z.2.2.1 z.2.2.2.1 z.2.2.2.2.1 z.2.2.2.2.2.1 z.2.2.2.2.2.2.1 z.2.2.2.2.2.2.2.1 z.2.2.2.2.2.2.2.2.1 z.2.2.2.2.2.2.2.2.2.1 z.2.2.2.2.2.2.2.2.2.2.1 z.2.2.2.2.2.2.2.2.2.2.2.1 z.1 z.2.1 z.2.2.1 z.2.2.2.1 z.2.2.2.2.1 z.2.2.2.2.2.1 z.2.2.2.2.2.2.1 z.2.2.2.2.2.2.2.1 z.2.2.2.2.2.2.2.2.1 z.2.2.2.2.2.2.2.2.2.1 z.2.2.2.2.2.2.2.2.2.2.1 z.2.2.2.2.2.2.2.2.2.2.2.1 = some true := eqOp_self _ _ _ _ _ _ _ _ _ _ _ _ h
end Go.Proofs.Ytddnlnjmikcgfaa.PC
end
section
set_option linter.unusedVariables false
set_option linter.unusedSimpArgs false
namespace Go.Proofs.Ytddnlnjmikcgfaa.PC
open Go.RowKit Go.WB.PrintWords Go.WB.PrintLast Go.WB.PrintMore
theorem xor8 (a b : Nat) (ha : a < 256) (hb : b < 256) : bits .xor .u8 a b = ((a ^^^ b : Nat) : Int) := by
  have ha' : a % 2 ^ IntKind.u8.bits = a := Nat.mod_eq_of_lt (Nat.lt_of_lt_of_le ha (by decide))
  have hb' : b % 2 ^ IntKind.u8.bits = b := Nat.mod_eq_of_lt (Nat.lt_of_lt_of_le hb (by decide))
  simp only [bits, BitVec.ofInt_natCast, BitVec.toNat_xor, BitVec.toNat_ofNat, ha', hb']
  have h : a ^^^ b < 2 ^ 8 := Nat.xor_lt_two_pow ha hb
  exact wraps_u8 _ (Int.natCast_nonneg _) (by exact_mod_cast h)
theorem within_l {a n : Int} (h0 : 0 < n) (h1 : n < 9223372036854775808) : ∃ r : Nat, jy.f a n = some (r : Int) ∧ (r : Int) < n := by
  have e : ∀ x, IntKind.u64.wrap x = x % 18446744073709551616 := fun x => by simp [IntKind.wrap, IntKind.bits, IntKind.signed]
  unfold jy.f
  rw [e, e, if_neg (by omega)]
  have e1 : n % 18446744073709551616 = n := by omega
  have h2 : 0 ≤ a % 18446744073709551616 := by omega
  rw [e1, Int.tmod_eq_emod_of_nonneg h2]
  have h3 := Int.emod_nonneg (a % 18446744073709551616) (b := n) (by omega)
  have h4 := Int.emod_lt_of_pos (a % 18446744073709551616) h0
  rw [lM (by omega) (by omega)]
  exact ⟨(a % 18446744073709551616 % n).toNat, by congr 1; omega, by omega⟩
theorem turned_bytes {b : List Int} (hb : eO b) (i : Nat) (r : Nat) (hr : r < 256) (hi : i < b.length) : eO (b.set i (bits .xor .u8 (rd b (i : Int)) (r : Int))) := by
  intro x hx
  rcases List.mem_or_eq_of_mem_set hx with h | h
  · exact hb x h
  · have h1 := hb b[i] (List.getElem_mem hi)
    have e : b[i] = ((b[i].toNat : Nat) : Int) := by omega
    have hlt : b[i].toNat < 256 := by omega
    rw [h, rd_nat b i hi, e, xor8 _ r hlt hr]
    have h2 : b[i].toNat ^^^ r < 2 ^ 8 := Nat.xor_lt_two_pow hlt hr
    omega
theorem kind_L1 (l : List S31) (kk : Int) (i : Nat) (hi : (i : Int) < 12) (b : List Int) (hb : eO b) (hl : b.length ≤ 100000) (next : ae.L0 l kk (wrap64 ((i : Int) + 1)) = some true) :
    ∀ (n j : Nat), j ≤ b.length → b.length - j = n → ae.L1 l kk (i : Int) b (j : Int) = some true := by
  intro n
  induction n with
  | zero =>
    intro j hj hn
    rw [ae.L1_eq, if_neg (by omega)]
    exact next
  | succ n ih =>
    intro j hj hn
    have hjl : j < b.length := by omega
    obtain ⟨r, hr, hr2⟩ := within_l (a := wrap64 ((i : Int) + (j : Int))) (n := 255) (by decide) (by decide)
    have e : (wrap64 (1 + (r : Int))) % 256 = ((r + 1 : Nat) : Int) := by rw [lM (by omega) (by omega)]; omega
    have hy := turned_bytes hb j (r + 1) (by omega) hjl
    have hyl : (b.set j (bits .xor .u8 (rd b (j : Int)) ((r + 1 : Nat) : Int))).length ≤ 100000 := by rw [List.length_set]; exact hl
    rw [ae.L1_eq, if_pos (by omega), copyBytes _ (by omega), Option.bind_some, if_pos (by omega), if_pos (by omega), hr, Option.bind_some, e, Int.toNat_natCast, Option.bind_some]
    generalize b.set j (bits .xor .u8 (rd b (j : Int)) ((r + 1 : Nat) : Int)) = y at *
    have hz := tkOp_deps y hy
    rw [opTake _ hy (by omega), Option.bind_some, refTakeOp _ hy (by omega), Option.bind_some]
    unfold bT.f
    rw [Option.bind_some, if_pos rfl, if_pos rfl, eqOp_z _ (by omega), Option.bind_some, ae.J5_eq, if_neg (by decide), w64s (by omega) (by omega)]
    exact ih (j + 1) (by omega) (by omega)
theorem kind_L0 (l : List S31) (kk : Int) (hl : l.length ≤ 9223372036854775807) (hok : ∀ a ∈ l, ok_T31 a) : ∀ (d i : Nat), i ≤ l.length → l.length - i = d → ae.L0 l kk (i : Int) = some true := by
  intro d
  induction d with
  | zero =>
    intro i hi hd
    rw [ae.ky, if_neg (by omega), ae.J1_eq, if_neg (by simp), wakes10]
    rfl
  | succ d ih =>
    intro i hi hd
    have hil : i < l.length := by omega
    have next : ae.L0 l kk (wrap64 ((i : Int) + 1)) = some true := by
      rw [w64s (by omega) (by omega)]
      exact ih (i + 1) (by omega) (by omega)
    have h2 : (i : Int) < (l.length : Int) := by omega
    rw [ae.ky, if_pos h2, ae.J1_eq]
    by_cases h12 : (i : Int) < 12
    · obtain ⟨⟨_, _, hdep, _, _, _, hkey, _, _⟩, hx⟩ := hok l[i] (List.getElem_mem hil)
      have hdl : l[i].f0.f2.length < 4611686018427387904 := by have := hdep.2.1; omega
      have hkl : l[i].f0.f6.size < 4611686018427387904 := by omega
      rw [if_pos (decide_eq_true h12), if_pos (by omega), if_pos h2, rd31 l i hil, heavy10 _ _ _ _ _ _ _ _ _ _ _ _ _ hdl hkl, Option.bind_some]
      by_cases hv : 1 + l[i].f0.f2.length + l[i].f0.f6.size > 2000 ∨ l[i].f1.length > 3000
      · rw [if_pos (decide_eq_true hv)]
      · rw [if_neg (by simpa using hv)]
        have hJ : ∀ t r s d k nt nr pr pp key p v, ae.J2 l kk (i : Int) true t r s d k nt nr pr pp key p v = some true := by
          intros
          rw [ae.J2_eq, if_pos rfl]
          exact next
        by_cases hk : l[i].f0.f3 = kk
        · rw [if_pos hk, refOp _ _ _ _ _ _ _ _ _ _ _ _ (by omega), Option.bind_some]
          by_cases hm : mayOp l[i].f0.f0.f0 l[i].f0.f0.f1 l[i].f0.f1 l[i].f0.f2 l[i].f0.f3 l[i].f0.f4.f0 l[i].f0.f4.f1 l[i].f0.f5.f0 l[i].f0.f5.f1 l[i].f0.f6 l[i].f0.f7 l[i].f0.f8 = true
          · have hL := opE_length (may_ok hm)
            have hp := tkOp_put hm []
            rw [List.append_nil] at hp
            rw [hm, ae.J2_eq, if_neg (by decide), opBytes _ _ _ _ _ _ _ _ _ _ _ _ (by omega), if_pos hm, Option.bind_some]
            simp only
            rw [opTake _ (opE_bytes _) (by omega), hp, Option.bind_some]
            unfold bT.f
            simp only [Option.bind_some, if_true]
            rw [eqOp_self _ _ _ _ _ _ _ _ _ _ _ _ (by omega), Option.bind_some, if_pos rfl, refOpBytes _ _ _ _ _ _ _ _ _ _ _ _ (may_ok hm), Option.bind_some, eqBytes _ _ (by omega), Option.bind_some, ae.J3_eq, if_neg (by simp)]
            exact kind_L1 l kk i h12 _ (opE_bytes _) hL next _ 0 (by omega) rfl
          · have hm' : mayOp l[i].f0.f0.f0 l[i].f0.f0.f1 l[i].f0.f1 l[i].f0.f2 l[i].f0.f3 l[i].f0.f4.f0 l[i].f0.f4.f1 l[i].f0.f5.f0 l[i].f0.f5.f1 l[i].f0.f6 l[i].f0.f7 l[i].f0.f8 = false := by simpa using hm
            rw [hm']
            exact hJ ..
        · rw [if_neg hk]
          exact hJ ..
    · rw [if_neg (by simpa using h12), wakes10]
      rfl
theorem kind_F' (l : List S31) (kk : Int) (hl : l.length ≤ 9223372036854775807) (hok : ∀ a ∈ l, ok_T31 a) : ae.F l kk = some true := by
  rw [ae.jQ]
  exact kind_L0 l kk hl hok l.length 0 (by omega) (by omega)
theorem cz.proof : cz.Pure := by
  intro l ⟨hm, _, hok⟩
  refine LB.Lim.rounds (cz.bK l) ?_
  rw [cz.jQ, kind_F' l 2 hm hok]
  rfl
end Go.Proofs.Ytddnlnjmikcgfaa.PC
end
section
namespace Go.Proofs.Ytddnlnjmikcgfaa.PC
open Go.RowKit Go.WB.PrintWords Go.WB.PrintLast Go.WB.PrintMore
attribute [local go_sem] dh dm eB eD bZ cu di dn
set_option linter.unusedVariables false
set_option linter.unusedSimpArgs false
open Go.LB (sT sZ sS cells3 aN fH aU)
open Go.SB (rpu rpf rtk rpu0 rpf0 rtk0 rbs rud pS IV rdu lA lC lN lD lT rqu rqf onq goq glq neQ eqQ bsQ kdQ rqt1 l9 mq fI gy iV)
set_option maxHeartbeats 40000000
set_option maxRecDepth 100000
theorem iH.calls (a0_0 a0_1 a0_2 : Int) (A0_3 : Option Addr) (c0_3 : Nat) (l0_3 : List Int) (a0_4 a0_5 a0_6 a0_7 a0_8 : Int) (a0_9 : ByteArray) (a0_10 a0_11 r : Int) (w : World) (hr0_3 : Kd.C (Kd.int .i64) w A0_3 l0_3.length l0_3) (hc0_3 : l0_3.length ≤ c0_3) (h : iH.f a0_0 a0_1 a0_2 l0_3 a0_4 a0_5 a0_6 a0_7 a0_8 a0_9 a0_10 a0_11 = some r) :
  Calls Try.prog 45 #[.agg #[.int .i64 a0_0, .int .i64 a0_1, .int .i64 a0_2, .slice A0_3 l0_3.length c0_3, .int .i64 a0_4, .int .i64 a0_5, .int .i64 a0_6, .int .i64 a0_7, .int .i64 a0_8, .string a0_9, .int .i64 a0_10, .int .i64 a0_11]] w fun e w' => e = .returned (.int .i64 r) ∧ Below w.heap.size w w' := by
 have hu28 := Try.underlying28;have HR0_3 := aa.mk hr0_3;have HC0_3 := aa.mk hc0_3;clear hr0_3 hc0_3;have HB := aa.mk (Below.refl w.heap.size w);have H : (some (wrap64 ((wrap64 (1 + (l0_3.length : Int))) + (a0_9.size : Int)))) = some r := h;clear h;obtain rfl := Option.some.inj H;go_enter Try.func45, Try.ntmps45;go_wp2_with (first | ((with_reducible refine bJ (N := 1) rfl ?_); refine bC ?hg (N := 1) ?hd (cs := #[IV a0_0, IV a0_1, IV a0_2, .slice A0_3 l0_3.length c0_3, IV a0_4, IV a0_5, IV a0_6, IV a0_7, IV a0_8, .string a0_9, IV a0_10, IV a0_11]) (t := 28) ?hr ?_; (case hd => rfl); (case hg => rfl); (case hr => first | (go_simp; done) | (go_simp; rfl)); intro gb101 hg w2 hbox hb; replace hb := rdu (W := w) hb rfl rfl rfl rfl; have n0_ := aa.mk (av HB.out hb); have n1_ := aa.mk (hbox); have n2_ := aa.mk ((by rw [hg]; exact HB.out.size : w.heap.size ≤ gb101)); have n3_ := n2_; clear HB; revert n0_ n1_ n2_ n3_; intro HB BK101 GW101 GE101; clear hb hbox hg; obtain ⟨C3_0, C3_1, C3_2, C3_3, C3_4, C3_5, C3_6, C3_7, C3_8, C3_9, C3_a, C3_b⟩ := LB.aN BK101.out; obtain ⟨F3_0, F3_1, F3_2, F3_3, F3_4, F3_5, F3_6, F3_7, F3_8, F3_9, F3_a, F3_b⟩ := LB.aU BK101.out));go_ret;exact ⟨by first | rfl | (simp <;> rfl) | (simp [*] <;> rfl), by exact rud HB.out rfl rfl rfl rfl⟩
theorem iA.calls (a0_0 a0_1 a0_2 : Int) (A0_3 : Option Addr) (c0_3 : Nat) (l0_3 : List Int) (a0_4 a0_5 a0_6 a0_7 a0_8 : Int) (a0_9 : ByteArray) (a0_10 a0_11 : Int) (A0_12 : Option Addr) (c0_12 : Nat) (l0_12 : List Int) (r : Bool) (w : World) (hr0_3 : Kd.C (Kd.int .i64) w A0_3 l0_3.length l0_3) (hc0_3 : l0_3.length ≤ c0_3) (hr0_12 : Kd.C (Kd.int .u8) w A0_12 l0_12.length l0_12) (hc0_12 : l0_12.length ≤ c0_12) (h : iA.f a0_0 a0_1 a0_2 l0_3 a0_4 a0_5 a0_6 a0_7 a0_8 a0_9 a0_10 a0_11 l0_12 = some r) :
  Calls Try.prog 14 #[.agg #[.int .i64 a0_0, .int .i64 a0_1, .int .i64 a0_2, .slice A0_3 l0_3.length c0_3, .int .i64 a0_4, .int .i64 a0_5, .int .i64 a0_6, .int .i64 a0_7, .int .i64 a0_8, .string a0_9, .int .i64 a0_10, .int .i64 a0_11, .slice A0_12 l0_12.length c0_12]] w fun e w' => e = .returned (.bool r) ∧ Below w.heap.size w w' := by
 have hu31 := Try.underlying31;have hu28 := Try.underlying28;have HR0_3 := aa.mk hr0_3;have HC0_3 := aa.mk hc0_3;clear hr0_3 hc0_3;have HR0_12 := aa.mk hr0_12;have HC0_12 := aa.mk hc0_12;clear hr0_12 hc0_12;have HB := aa.mk (Below.refl w.heap.size w);have H : ((iH.f a0_0 a0_1 a0_2 l0_3 a0_4 a0_5 a0_6 a0_7 a0_8 a0_9 a0_10 a0_11).bind fun t103 => (if t103 > 2000 then (some true) else (some (decide ((l0_12.length : Int) > 3000))))) = some r := h;clear h;replace H := bsQ H;obtain ⟨t103, A20, H⟩ := H;replace H : (if t103 > 2000 then (some true) else (some (decide ((l0_12.length : Int) > 3000)))) = some r := H;have A2 := aa.mk A20;clear A20;by_cases c3 : t103 > 2000
 ·rw [if_pos c3] at H
  have c3b0 : decide (2000 < t103) = true := decide_eq_true c3;clear c3;obtain rfl := Option.some.inj H;go_enter Try.func14, Try.ntmps14;go_wp2_with (first | ((with_reducible refine bJ (N := 1) rfl ?_); (try (refine ig (by rfl) ?_; dsimp only)); refine bC ?hg (N := 1) ?hd (cs := #[IV a0_0, IV a0_1, IV a0_2, .slice A0_3 l0_3.length c0_3, IV a0_4, IV a0_5, IV a0_6, IV a0_7, IV a0_8, .string a0_9, IV a0_10, IV a0_11, .slice A0_12 l0_12.length c0_12]) (t := 31) ?hr ?_; (case hd => rfl); (case hg => rfl); (case hr => first | (go_simp; done) | (go_simp; rfl)); intro gb102 hg w4 hbox hb; replace hb := rdu (W := w) hb rfl rfl rfl rfl; have n0_ := aa.mk (av HB.out hb); have n1_ := aa.mk (hbox); have n2_ := aa.mk ((by rw [hg]; exact HB.out.size : w.heap.size ≤ gb102)); have n3_ := n2_; clear HB; revert n0_ n1_ n2_ n3_; intro HB BK102 GW102 GE102; clear hb hbox hg; obtain ⟨C5_0, C5_1, C5_2, C5_3, C5_4, C5_5, C5_6, C5_7, C5_8, C5_9, C5_a, C5_b, C5_c⟩ := LB.cells13 BK102.out; obtain ⟨F5_0, F5_1, F5_2, F5_3, F5_4, F5_5, F5_6, F5_7, F5_8, F5_9, F5_a, F5_b, F5_c⟩ := LB.frozen13 BK102.out) | ((with_reducible refine aA (f := 45) rfl ?_); refine glq (some 5) Try.func45 #[.agg #[IV a0_0, IV a0_1, IV a0_2, .slice A0_3 l0_3.length c0_3, IV a0_4, IV a0_5, IV a0_6, IV a0_7, IV a0_8, .string a0_9, IV a0_10, IV a0_11]] ?_; (with_reducible refine (iH.calls a0_0 a0_1 a0_2 _ _ l0_3 a0_4 a0_5 a0_6 a0_7 a0_8 a0_9 a0_10 a0_11 t103 _ ?side1 ?side2 A2.out).mono ?_); (case side1 => repeat (first | exact (Kd.df HR0_3.out HB.out) | with_reducible first | refine Kd.bO ?_ _ | refine Kd.bL ?_ _ | refine Kd.cO ?_)); (case side2 => exact HC0_3.out); rintro e w6 ⟨rfl, hb⟩; refine ⟨_, rfl, ?_⟩; replace hb := rdu (W := w4) hb rfl rfl rfl rfl; have n0_ := aa.mk (aW BK102.out hb); have n1_ := aa.mk (av HB.out hb); clear BK102 HB; revert n0_ n1_; intro BK102 HB));go_ret;exact ⟨by first | rfl | (simp <;> rfl) | (simp [*] <;> rfl), by exact rud HB.out rfl rfl rfl rfl⟩
 ·rw [if_neg c3] at H
  have c3b0 : decide (2000 < t103) = false := decide_eq_false c3;clear c3;obtain rfl := Option.some.inj H;go_enter Try.func14, Try.ntmps14;go_wp2_with (first | ((with_reducible refine bJ (N := 1) rfl ?_); (try (refine ig (by rfl) ?_; dsimp only)); refine bC ?hg (N := 1) ?hd (cs := #[IV a0_0, IV a0_1, IV a0_2, .slice A0_3 l0_3.length c0_3, IV a0_4, IV a0_5, IV a0_6, IV a0_7, IV a0_8, .string a0_9, IV a0_10, IV a0_11, .slice A0_12 l0_12.length c0_12]) (t := 31) ?hr ?_; (case hd => rfl); (case hg => rfl); (case hr => first | (go_simp; done) | (go_simp; rfl)); intro gb102 hg w7 hbox hb; replace hb := rdu (W := w) hb rfl rfl rfl rfl; have n0_ := aa.mk (av HB.out hb); have n1_ := aa.mk (hbox); have n2_ := aa.mk ((by rw [hg]; exact HB.out.size : w.heap.size ≤ gb102)); have n3_ := n2_; clear HB; revert n0_ n1_ n2_ n3_; intro HB BK102 GW102 GE102; clear hb hbox hg; obtain ⟨C8_0, C8_1, C8_2, C8_3, C8_4, C8_5, C8_6, C8_7, C8_8, C8_9, C8_a, C8_b, C8_c⟩ := LB.cells13 BK102.out; obtain ⟨F8_0, F8_1, F8_2, F8_3, F8_4, F8_5, F8_6, F8_7, F8_8, F8_9, F8_a, F8_b, F8_c⟩ := LB.frozen13 BK102.out) | ((with_reducible refine aA (f := 45) rfl ?_); refine glq (some 5) Try.func45 #[.agg #[IV a0_0, IV a0_1, IV a0_2, .slice A0_3 l0_3.length c0_3, IV a0_4, IV a0_5, IV a0_6, IV a0_7, IV a0_8, .string a0_9, IV a0_10, IV a0_11]] ?_; (with_reducible refine (iH.calls a0_0 a0_1 a0_2 _ _ l0_3 a0_4 a0_5 a0_6 a0_7 a0_8 a0_9 a0_10 a0_11 t103 _ ?side1 ?side2 A2.out).mono ?_); (case side1 => repeat (first | exact (Kd.df HR0_3.out HB.out) | with_reducible first | refine Kd.bO ?_ _ | refine Kd.bL ?_ _ | refine Kd.cO ?_)); (case side2 => exact HC0_3.out); rintro e w9 ⟨rfl, hb⟩; refine ⟨_, rfl, ?_⟩; replace hb := rdu (W := w7) hb rfl rfl rfl rfl; have n0_ := aa.mk (aW BK102.out hb); have n1_ := aa.mk (av HB.out hb); clear BK102 HB; revert n0_ n1_; intro BK102 HB; obtain ⟨Ca_0, Ca_1, Ca_2, Ca_3, Ca_4, Ca_5, Ca_6, Ca_7, Ca_8, Ca_9, Ca_a, Ca_b, Ca_c⟩ := LB.cells13 BK102.out; obtain ⟨Fa_0, Fa_1, Fa_2, Fa_3, Fa_4, Fa_5, Fa_6, Fa_7, Fa_8, Fa_9, Fa_a, Fa_b, Fa_c⟩ := LB.frozen13 BK102.out));go_ret;exact ⟨by first | rfl | (simp <;> rfl) | (simp [*] <;> rfl), by exact rud HB.out rfl rfl rfl rfl⟩
theorem az.calls (k : Nat) (A0 : Option Addr) (c0 : Nat) (l0 r : List Int) (w : World) (hr0 : Kd.C (Kd.int .u8) w A0 l0.length l0) (hc0 : l0.length ≤ c0) (h : az.f k l0 = some r) :
  Calls Try.prog 15 #[.slice A0 l0.length c0] w fun e w' => ∃ v0_ : Value, e = .returned (v0_) ∧ Kd.R (Kd.int .u8) 5 w' w.heap.size (fun _ => True) v0_ r ∧ Below w.heap.size w w' := by
 have HR0 := aa.mk hr0;have HC0 := aa.mk hc0;clear hr0 hc0;have HB := aa.mk (Below.refl w.heap.size w);have H : (az.l0 k l0 ([] : List Int) 0) = some r := h;clear h;have H' := aa.mk H;clear H;go_enter Try.func15, Try.ntmps15;go_wp2;go_loopg [3, 4] k (fun kq v3 v4 w' => ∃ (x3_1 : List Int) (x4_1 : Int), v4 = IV x4_1 ∧ aa (az.l0 kq l0 x3_1 x4_1 = some r) ∧ aa (kq ≤ k) ∧ aa (Kd.R (Kd.int .u8) 5 w' w.heap.size (fun _ => True) v3 x3_1) ∧ aa (Below w.heap.size w w'))
 case atStart => exact ⟨(([] : List Int)), (0), (by first | rfl | (simp; done) | (simp [*]; done)), H', ⟨Nat.le_refl _⟩, ⟨by first | exact Kd.R_nil _ _ _ _ _ | exact Kd.N_nil _ _ _ _ _ | exact Kd.V_nil _ _ _ _ _ | exact Kd.Q_nil _ _ _ _ _ | exact Kd.S_nil _ _ _ _ _⟩, ⟨by exact rud HB.out rfl rfl rfl rfl⟩⟩
 case round =>
  clear H';(try clear c1);obtain ⟨x3_1, x4_1, rfl, HA, HK1, HO_3, HB⟩ := hrel;cases gk with
  | zero => exact absurd HA.out (by simp [az.l0])
  | succ k1 =>
   have H := HA.out;clear HA;simp only [az.l0] at H;by_cases c2 : x4_1 < (l0.length : Int)
   ·rw [if_pos c2] at H
    have c2b0 : decide (x4_1 < (l0.length : Int)) = true := decide_eq_true c2;clear c2;by_cases c3 : 0 ≤ x4_1
    ·rw [if_pos c3] at H
     have c3b0 : decide (0 ≤ x4_1) = true := decide_eq_true c3;clear c3;by_cases c4 : x3_1.length < 140737488355328
     ·rw [if_pos c4] at H
      have LMc4 := aa.mk c4;clear c4;obtain ⟨y105, hy105⟩ : ∃ y_ : List Int, y_ = (x3_1 ++ [rd l0 x4_1]) := ⟨_, rfl⟩
      replace H : (az.l0 k1 l0 y105 (wrap64 (x4_1 + 1))) = some r := by first | (rw [hy105]; with_reducible exact H) | (have H2_ := (Option.bind_some _ _).symm.trans H; rw [hy105]; with_reducible exact H2_) | (have H2_ := (Option.bind_some _ _).symm.trans H; with_reducible exact H2_) | with_reducible exact H | (rw [hy105]; exact H) | exact H
      have Ny105 := aa.mk hy105;clear hy105;have H' := aa.mk H;clear H;have p104 : 0 ≤ (x4_1 : Int) := of_decide_eq_true (by first | (with_reducible assumption) | assumption);have q104 : x4_1 < (l0.length : Int) := of_decide_eq_true (by first | (with_reducible assumption) | assumption);obtain ⟨ad104, e104, hx104_0⟩ := Kd.iJ HR0.out x4_1 p104 q104;cases e104
      replace hx104_0 := (HB.out.cell (World.block_lt_of_cell? w _ hx104_0)).trans hx104_0;replace p104 := eq_true p104;replace q104 := eq_true q104;go_wp2_with (first | ((with_reducible refine gM (b := .append) (xs := #[.tmp 11, .tmp 16]) rfl ?_); at_builtin; refine Kd.R_append (Kd.int .u8) (w0 := w) w.heap.size rfl (.tmp 11) (.tmp 16) 29 5 (.int .u8 0) 1 rfl Try.underlying29 info5 rfl (by decide) (by omega) u3 x3_1 (rd l0 x4_1) [.int .u8 (rd l0 x4_1)] (fun _ => True) (fun _ => False) rfl rfl ?aP (fun _ hk => hk.elim) ?aF ?aO ?aB ?aS ?aL ?_; (case aP => exact rfl); (case aB => exact (by exact rud HB.out rfl rfl rfl rfl)); (case aF => exact (fun _ _ => trivial)); (case aO => exact (by have h_ := HO_3.out; exact kdQ)); (case aS => exact (gu (by exact rud HB.out rfl rfl rfl rfl))); (case aL => have := LMc4.out; omega); intro v106 w5 ho hb hg hat; rw [← Ny105.out] at ho; have n0_ := aa.mk (hb); have n1_ := aa.mk (ho); clear HB HO_3; revert n0_ n1_; intro HB HO107; clear ho hb hg hat));go_roundg k1
      case measure => have := HK1.out; omega
      case rel => exact ⟨(y105), (wrap64 (x4_1 + 1)), (by first | rfl | (simp; done) | (simp [*]; done)), H', ⟨by have := HK1.out; omega⟩, ⟨by have h_ := HO107.out; exact kdQ⟩, ⟨by exact rud HB.out rfl rfl rfl rfl⟩⟩
     ·rw [if_neg c4] at H
      exact absurd H (by simp)
    ·rw [if_neg c3] at H
     exact absurd H (by simp)
   ·rw [if_neg c2] at H
    have c2b0 : decide (x4_1 < (l0.length : Int)) = false := decide_eq_false c2;clear c2;obtain rfl := Option.some.inj H;go_wp2;go_ret;exact ⟨_, by first | rfl | (simp <;> rfl) | (simp [*] <;> rfl), by have h_ := HO_3.out; exact kdQ, by exact rud HB.out rfl rfl rfl rfl⟩
theorem dx.calls (g : Nat) (s0_0 : List Int) (s0_1 s0_2 a1 a2 r1 r2 : Int) (w0 w : World) (hI : bF w0 w g s0_0 s0_1 s0_2) (hB : Below w0.heap.size w0 w) (h : dx.f s0_0 s0_1 s0_2 a1 a2 = some (r1, r2)) :
  Calls Try.prog 80 #[.pointer (some ⟨g, 0, none⟩), .int .i64 a1, .int .i64 a2] w fun e w' => e = .returned (.tuple #[]) ∧ bF w0 w' g s0_0 r1 r2 ∧ Below w0.heap.size w0 w' ∧ bG w w' g none := by
 have HI0 := aa.mk hI;have HK := aa.mk (bG.refl w g none);have HL := aa.mk hB.size;clear hI;have HW0 := aa.mk hB.size;have HB := aa.mk hB;clear hB;have H : (if s0_2 = 0 then (some (wrap64 (s0_1 + a1), a2)) else (some (s0_1, s0_2))) = some (r1, r2) := h;clear h;by_cases c4 : s0_2 = 0
 ·rw [if_pos c4] at H
  obtain ⟨c4b0, c4b1⟩ := eqQ c4;clear c4;simp only [Option.some.injEq, Prod.mk.injEq] at H;obtain ⟨rfl, rfl⟩ := H;obtain ⟨ASz5_0, cSz5_0, HGz5, hgz5, HSz5_0, HcSz5_0⟩ := HI0.out;have C5_0 := kT HGz5;have C5_1 := kU HGz5;have C5_2 := kV HGz5;have F5_1 := ax HGz5 1;have F5_2 := ax HGz5 2;clear HGz5 hgz5;go_enter Try.func80, Try.ntmps80;go_wp2;first | go_end0 | ((try simp only [Exit.inBlock, Exit.then]); refine bodyPost_ret (results_none rfl _ _ _) rfl ?_)
  exact ⟨by first | rfl | (simp <;> rfl) | (simp [*] <;> rfl), by repeat (first | (with_reducible first | exact HI0.out | apply bF.alloc | apply bF.drewN | apply bF.drew | apply bF.ku | apply bF.kv) | exact HI0.out), by repeat (first | (with_reducible first | exact HB.out | apply aY | apply aH | apply aC | refine aI ?_ (bF.ge HI0.out)) | exact HB.out), by repeat (first | (with_reducible first | exact HK.out | apply bG.set_ | apply jc | apply iO | apply jb) | exact HK.out)⟩
 ·rw [if_neg c4] at H
  obtain ⟨c4b0, c4b1⟩ := neQ c4;simp only [Option.some.injEq, Prod.mk.injEq] at H;obtain ⟨rfl, rfl⟩ := H;obtain ⟨ASz6_0, cSz6_0, HGz6, hgz6, HSz6_0, HcSz6_0⟩ := HI0.out;have C6_0 := kT HGz6;have C6_1 := kU HGz6;have C6_2 := kV HGz6;have F6_1 := ax HGz6 1;have F6_2 := ax HGz6 2;clear HGz6 hgz6;go_enter Try.func80, Try.ntmps80;go_wp2;first | go_end0 | ((try simp only [Exit.inBlock, Exit.then]); refine bodyPost_ret (results_none rfl _ _ _) rfl ?_)
  exact ⟨by first | rfl | (simp <;> rfl) | (simp [*] <;> rfl), by exact HI0.out, by exact rud HB.out rfl rfl rfl rfl, by exact HK.out⟩
theorem ak.calls (k : Nat) (A0 : Option Addr) (c0 : Nat) (l0 : List Int) (r1 r2 r3 : Int) (w : World) (hr0 : Kd.C (Kd.int .u8) w A0 l0.length l0) (hc0 : l0.length ≤ c0) (h : ak.f k l0 = some (r1, r2, r3)) :
  Calls Try.prog 102 #[.slice A0 l0.length c0] w fun e w' => e = .returned (.tuple #[.int .i64 r1, .int .i64 r2, .int .i64 r3]) ∧ bv w w' := by
 have HR0 := aa.mk hr0;have HC0 := aa.mk hc0;clear hr0 hc0;have H : (ak.l0 k l0 0 0) = some (r1, r2, r3) := h;clear h;have H' := aa.mk H;clear H;go_enter Try.func102, Try.ntmps102;go_wp2;refine LB.wp_scope_two 1 0 rfl rfl ?_;intro G1_ G0_ hG1_ hG0_;go_wp2;refine LB.wp_label_ghost (fun t_ d_ kq a_ w' => ∃ (u2 u3 u4 u5 u6 u7 u8 u9 u10 u11 u12 u13 u14 u15 u16 u17 u18 u19 u20 u21 u22 u23 u24 u25 u26 u27 u28 u29 u30 u31 u32 u33 u34 u35 u36 u37 u38 u39 u40 u41 u42 u43 u44 u45 u46 u47 u48 u49 u50 u51 u52 : Value), (∃ (x2_1 : Int) (x5_1 : Int), u2 = IV x2_1 ∧ u5 = IV x5_1 ∧ aa (ak.l0 kq l0 x2_1 x5_1 = some (r1, r2, r3)) ∧ aa (kq ≤ k) ∧ bv w w') ∧ a_ = ⟨#[LB.tget t_ 0, LB.tget t_ 1, u2, u3, u4, u5, u6, u7, u8, u9, u10, u11, u12, u13, u14, u15, u16, u17, u18, u19, u20, u21, u22, u23, u24, u25, u26, u27, u28, u29, u30, u31, u32, u33, u34, u35, u36, u37, u38, u39, u40, u41, u42, u43, u44, u45, u46, u47, u48, u49, u50, u51, u52], d_⟩) k ‹_› hG0_ ?atStart ?round
 case atStart =>
  (try dsimp only);(repeat apply Exists.intro);refine ⟨?rel0, rfl⟩;exact ⟨(0), (0), (by first | rfl | (simp; done) | (simp [*]; done)), (by first | rfl | (simp; done) | (simp [*]; done)), H', ⟨Nat.le_refl _⟩, by repeat (first | exact bv.refl _ | apply bv.step)⟩
 case round =>
  intro gk a_ wr hinv;(try dsimp only at hinv);obtain ⟨u2, u3, u4, u5, u6, u7, u8, u9, u10, u11, u12, u13, u14, u15, u16, u17, u18, u19, u20, u21, u22, u23, u24, u25, u26, u27, u28, u29, u30, u31, u32, u33, u34, u35, u36, u37, u38, u39, u40, u41, u42, u43, u44, u45, u46, u47, u48, u49, u50, u51, u52, hrel, rfl⟩ := hinv;intro J_ hJ_ hGJ_;clear hG0_;dsimp only [LB.tget, List.getD_cons_succ, List.getD_cons_zero] at hJ_ ⊢;clear H';(try clear c1);obtain ⟨x2_1, x5_1, rfl, rfl, HA, HK1, ⟨m1, rfl⟩⟩ := hrel;cases gk with
  | zero => exact absurd HA.out (by simp [ak.l0])
  | succ k1 =>
   have H := HA.out;clear HA;simp only [ak.l0] at H;by_cases c2 : x5_1 = (l0.length : Int)
   ·rw [if_pos c2] at H
    obtain ⟨c2b0, c2b1⟩ := eqQ c2;clear c2;simp only [Option.some.injEq, Prod.mk.injEq] at H;obtain ⟨rfl, rfl, rfl⟩ := H;go_wp2;(try simp only [Exit.then, Exit.inBlock, LB.Goes.here, LB.Goes.ret, Exit.noGoto_ret]);go_ret3;exact ⟨by first | rfl | (simp; done) | (simp [*]; done), by repeat (first | exact bv.refl _ | apply bv.step)⟩
   rw [if_neg c2] at H;obtain ⟨c2b0, c2b1⟩ := neQ c2;have HC3 := aa.mk H;clear H;go_upto_region 4 with (fail);go_cut [18] (fun v18 wc => ∃ (kq : Nat) (x18_2 : Bool), v18 = .bool x18_2 ∧ aa (ak.j1 kq l0 x2_1 x5_1 x18_2 = some (r1, r2, r3)) ∧ aa (kq ≤ k1) ∧ bv w wc)
   case first =>
    have H := HC3.out;clear HC3;by_cases c4 : 0 ≤ x5_1;rotate_left
    ·rw [if_neg c4] at H
     exact absurd H (by simp)
    rw [if_pos c4] at H;have c4b0 : decide (0 ≤ x5_1) = true := decide_eq_true c4;clear c4;(first | rw [c4b0] | (simp only [jN, jY]; rw [c4b0]) | skip);by_cases c5 : x5_1 < (l0.length : Int);rotate_left
    ·rw [if_neg c5] at H
     exact absurd H (by simp)
    rw [if_pos c5] at H;have c5b0 : decide (x5_1 < (l0.length : Int)) = true := decide_eq_true c5;clear c5;by_cases c6 : (rd l0 x5_1) ≥ 128
    ·rw [if_pos c6] at H
     have c6b0 : decide (128 ≤ (rd l0 x5_1)) = true := decide_eq_true c6;clear c6;have H' := aa.mk H;clear H;have p108 : 0 ≤ (x5_1 : Int) := of_decide_eq_true (by first | (with_reducible assumption) | assumption);have q108 : x5_1 < (l0.length : Int) := of_decide_eq_true (by first | (with_reducible assumption) | assumption);obtain ⟨ad108, e108, hx108_0⟩ := Kd.iJ HR0.out x5_1 p108 q108;cases e108
     replace p108 := eq_true p108;replace q108 := eq_true q108;go_wp2;go_meet
     case rel => exact ⟨_, ((x5_1 == 8)), (by first | rfl | (simp; done) | (simp [*]; done)), H', ⟨by have := HK1.out; first | omega | exact Nat.le_refl _⟩, by repeat (first | exact bv.refl _ | apply bv.step)⟩
    rw [if_neg c6] at H;have c6b0 : decide (128 ≤ (rd l0 x5_1)) = false := decide_eq_false c6;clear c6;have H' := aa.mk H;clear H;have p108 : 0 ≤ (x5_1 : Int) := of_decide_eq_true (by first | (with_reducible assumption) | assumption);have q108 : x5_1 < (l0.length : Int) := of_decide_eq_true (by first | (with_reducible assumption) | assumption);obtain ⟨ad108, e108, hx108_0⟩ := Kd.iJ HR0.out x5_1 p108 q108;cases e108
    replace p108 := eq_true p108;replace q108 := eq_true q108;go_wp2;go_meet
    case rel => exact ⟨_, (false), (by first | rfl | (simp; done) | (simp [*]; done)), H', ⟨by have := HK1.out; first | omega | exact Nat.le_refl _⟩, by repeat (first | exact bv.refl _ | apply bv.step)⟩
   case rest =>
    clear HC3;(try clear c1 p1 q1 hx1 c2 c2b0 c2b1 p2 c4 c4b0 c5 c5b0 c6 c6b0 hx108_0 p108 q108);obtain ⟨kq, x18_2, rfl, HA, HJ2, ⟨mc2, rfl⟩⟩ := hcut;cases kq with
    | zero => exact absurd HA.out (by simp [ak.j1])
    | succ kj2 =>
     have H := HA.out;clear HA;simp only [ak.j1] at H;by_cases c7 : x18_2 = true
     ·subst c7
      have H1 : (some (0, 0, 1)) = some (r1, r2, r3) := by rw [if_pos rfl] at H; exact H
      clear H;have H := H1;clear H1;simp only [Option.some.injEq, Prod.mk.injEq] at H;obtain ⟨rfl, rfl, rfl⟩ := H;go_wp2;go_step3;(try simp only [Exit.then, Exit.inBlock]);(first | simp only [LB.Goes.here] | (rw [LB.Goes.there (by decide)]; simp only [LB.Goes.here]));refine hG1_ _ _ ?_;go_wp2;(try simp only [Exit.then, Exit.inBlock, LB.Goes.here, LB.Goes.ret, Exit.noGoto_ret]);go_ret3;exact ⟨by first | rfl | (simp; done) | (simp [*]; done), by repeat (first | exact bv.refl _ | apply bv.step)⟩
     replace c7 := Bool.eq_false_iff.mpr c7;subst c7;have H1 : (if 0 ≤ x5_1 then (if x5_1 < (l0.length : Int) then (if 0 ≤ (wrap64 (7 * x5_1)) then (if (rd l0 x5_1) ≥ 128 then (ak.l0 kj2 l0 (Go.bits .or .i64 x2_1 (shl .i64 (wrap64 (Go.bits .and .u8 (rd l0 x5_1) 127)) (wrap64 (7 * x5_1)))) (wrap64 (x5_1 + 1))) else (if (rd l0 x5_1) = 0 then (if x5_1 > 0 then (ak.j2 kj2 (Go.bits .or .i64 x2_1 (shl .i64 (wrap64 (Go.bits .and .u8 (rd l0 x5_1) 127)) (wrap64 (7 * x5_1)))) x5_1 true) else (ak.j2 kj2 (Go.bits .or .i64 x2_1 (shl .i64 (wrap64 (Go.bits .and .u8 (rd l0 x5_1) 127)) (wrap64 (7 * x5_1)))) x5_1 (decide ((Go.bits .or .i64 x2_1 (shl .i64 (wrap64 (Go.bits .and .u8 (rd l0 x5_1) 127)) (wrap64 (7 * x5_1)))) > 4611686018427387904)))) else (ak.j2 kj2 (Go.bits .or .i64 x2_1 (shl .i64 (wrap64 (Go.bits .and .u8 (rd l0 x5_1) 127)) (wrap64 (7 * x5_1)))) x5_1 (decide ((Go.bits .or .i64 x2_1 (shl .i64 (wrap64 (Go.bits .and .u8 (rd l0 x5_1) 127)) (wrap64 (7 * x5_1)))) > 4611686018427387904))))) else (none)) else (none)) else (none)) = some (r1, r2, r3) := by rw [if_neg (show ¬ (false = true) by decide)] at H; exact H
     clear H;have H := H1;clear H1;by_cases c8 : 0 ≤ x5_1;rotate_left
     ·rw [if_neg c8] at H
      exact absurd H (by simp)
     rw [if_pos c8] at H;have c8b0 : decide (0 ≤ x5_1) = true := decide_eq_true c8;clear c8;by_cases c9 : x5_1 < (l0.length : Int);rotate_left
     ·rw [if_neg c9] at H
      exact absurd H (by simp)
     rw [if_pos c9] at H;have c9b0 : decide (x5_1 < (l0.length : Int)) = true := decide_eq_true c9;clear c9;obtain ⟨ji10, hji10⟩ : ∃ j_ : Int, (wrap64 (7 * x5_1)) = j_ := ⟨_, rfl⟩
     replace H : (if 0 ≤ (ji10) then (if (rd l0 x5_1) ≥ 128 then (ak.l0 kj2 l0 (Go.bits .or .i64 x2_1 (shl .i64 (wrap64 (Go.bits .and .u8 (rd l0 x5_1) 127)) (ji10))) (wrap64 (x5_1 + 1))) else (if (rd l0 x5_1) = 0 then (if x5_1 > 0 then (ak.j2 kj2 (Go.bits .or .i64 x2_1 (shl .i64 (wrap64 (Go.bits .and .u8 (rd l0 x5_1) 127)) (ji10))) x5_1 true) else (ak.j2 kj2 (Go.bits .or .i64 x2_1 (shl .i64 (wrap64 (Go.bits .and .u8 (rd l0 x5_1) 127)) (ji10))) x5_1 (decide ((Go.bits .or .i64 x2_1 (shl .i64 (wrap64 (Go.bits .and .u8 (rd l0 x5_1) 127)) (ji10))) > 4611686018427387904)))) else (ak.j2 kj2 (Go.bits .or .i64 x2_1 (shl .i64 (wrap64 (Go.bits .and .u8 (rd l0 x5_1) 127)) (ji10))) x5_1 (decide ((Go.bits .or .i64 x2_1 (shl .i64 (wrap64 (Go.bits .and .u8 (rd l0 x5_1) 127)) (ji10))) > 4611686018427387904))))) else (none)) = some (r1, r2, r3) := by first | (rw [hji10] at H; exact H) | (simp only [hji10] at H ⊢; exact H)
     have hji10w : (IntKind.i64.wrap (7 * x5_1)) = ji10 := (jN _).trans hji10;by_cases c11 : 0 ≤ (ji10);rotate_left
     ·rw [if_neg c11] at H
      exact absurd H (by simp)
     rw [if_pos c11] at H;have c11b0 := eq_true c11;have c11b1 : decide (0 ≤ (ji10)) = true := decide_eq_true c11;clear c11;obtain ⟨ji12, hji12⟩ : ∃ j_ : Int, (shl .i64 (wrap64 (Go.bits .and .u8 (rd l0 x5_1) 127)) (ji10)) = j_ := ⟨_, rfl⟩
     replace H : (if (rd l0 x5_1) ≥ 128 then (ak.l0 kj2 l0 (Go.bits .or .i64 x2_1 (ji12)) (wrap64 (x5_1 + 1))) else (if (rd l0 x5_1) = 0 then (if x5_1 > 0 then (ak.j2 kj2 (Go.bits .or .i64 x2_1 (ji12)) x5_1 true) else (ak.j2 kj2 (Go.bits .or .i64 x2_1 (ji12)) x5_1 (decide ((Go.bits .or .i64 x2_1 (ji12)) > 4611686018427387904)))) else (ak.j2 kj2 (Go.bits .or .i64 x2_1 (ji12)) x5_1 (decide ((Go.bits .or .i64 x2_1 (ji12)) > 4611686018427387904))))) = some (r1, r2, r3) := by first | (rw [hji12] at H; exact H) | (simp only [hji12] at H ⊢; exact H)
     have hji12_ : (IntKind.i64.wrap ((wrap64 (Go.bits .and .u8 (rd l0 x5_1) 127)) * 2 ^ min (ji10).toNat 64)) = ji12 := hji12;have hji12z : (ji10) ≤ 64 → (IntKind.i64.wrap ((wrap64 (Go.bits .and .u8 (rd l0 x5_1) 127)) * 2 ^ (ji10).toNat)) = ji12 := shl_small hji12;have hji12y : (wrap64 ((wrap64 (Go.bits .and .u8 (rd l0 x5_1) 127)) * 2 ^ min (ji10).toNat 64)) = ji12 := (jN _).symm.trans hji12_;have hji12x : (ji10) ≤ 64 → (wrap64 ((wrap64 (Go.bits .and .u8 (rd l0 x5_1) 127)) * 2 ^ (ji10).toNat)) = ji12 := fun h_ => (jN _).symm.trans (hji12z h_)
     by_cases c13 : (rd l0 x5_1) ≥ 128
     ·rw [if_pos c13] at H
      have c13b0 : decide (128 ≤ (rd l0 x5_1)) = true := decide_eq_true c13;clear c13;have H' := aa.mk H;clear H;have p109 : 0 ≤ (x5_1 : Int) := of_decide_eq_true (by first | (with_reducible assumption) | assumption);have q109 : x5_1 < (l0.length : Int) := of_decide_eq_true (by first | (with_reducible assumption) | assumption);obtain ⟨ad109, e109, hx109_0⟩ := Kd.iJ HR0.out x5_1 p109 q109;cases e109
      replace p109 := eq_true p109;replace q109 := eq_true q109;have p110 : 0 ≤ (x5_1 : Int) := of_decide_eq_true (by first | (with_reducible assumption) | assumption);have q110 : x5_1 < (l0.length : Int) := of_decide_eq_true (by first | (with_reducible assumption) | assumption);obtain ⟨ad110, e110, hx110_0⟩ := Kd.iJ HR0.out x5_1 p110 q110;obtain rfl : ad109 = ad110 := (by injection e110)
      replace p110 := eq_true p110;replace q110 := eq_true q110;go_wp2;go_step3;(try simp only [Exit.then, Exit.inBlock]);(first | simp only [LB.Goes.here] | (rw [LB.Goes.there (by decide)]; simp only [LB.Goes.here]));go_step;go_roundg kj2
      case measure => have := HK1.out; have := HJ2.out; omega
      case rel => exact ⟨(Go.bits .or .i64 x2_1 (ji12)), (wrap64 (x5_1 + 1)), (by first | rfl | (simp; done) | (simp only [← hji12] <;> (first | rfl | simp)) | (simp [*]; done)), (by first | rfl | (simp; done) | (simp [*]; done)), H', ⟨by have := HK1.out; have := HJ2.out; omega⟩, by repeat (first | exact bv.refl _ | apply bv.step)⟩
     rw [if_neg c13] at H;have c13b0 : decide (128 ≤ (rd l0 x5_1)) = false := decide_eq_false c13;clear c13;have HC14 := aa.mk H;clear H;have p109 : 0 ≤ (x5_1 : Int) := of_decide_eq_true (by first | (with_reducible assumption) | assumption);have q109 : x5_1 < (l0.length : Int) := of_decide_eq_true (by first | (with_reducible assumption) | assumption);obtain ⟨ad109, e109, hx109_0⟩ := Kd.iJ HR0.out x5_1 p109 q109;cases e109
     replace p109 := eq_true p109;replace q109 := eq_true q109;have p110 : 0 ≤ (x5_1 : Int) := of_decide_eq_true (by first | (with_reducible assumption) | assumption);have q110 : x5_1 < (l0.length : Int) := of_decide_eq_true (by first | (with_reducible assumption) | assumption);obtain ⟨ad110, e110, hx110_0⟩ := Kd.iJ HR0.out x5_1 p110 q110;obtain rfl : ad109 = ad110 := (by injection e110)
     replace p110 := eq_true p110;replace q110 := eq_true q110;go_upto_region 8 with (fail);go_cut [49] (fun v49 wc => ∃ (kq : Nat) (x49_13 : Bool), v49 = .bool x49_13 ∧ aa (ak.j2 kq (Go.bits .or .i64 x2_1 (ji12)) x5_1 x49_13 = some (r1, r2, r3)) ∧ aa (kq ≤ kj2) ∧ bv w wc)
     case first =>
      have H := HC14.out;clear HC14;by_cases c15 : (rd l0 x5_1) = 0;rotate_left
      ·rw [if_neg c15] at H
       obtain ⟨c15b0, c15b1⟩ := neQ c15;(first | rw [c15b0] | (simp only [jN, jY]; rw [c15b0]) | skip);have H' := aa.mk H;clear H;have p111 : 0 ≤ (x5_1 : Int) := of_decide_eq_true (by first | (with_reducible assumption) | assumption);have q111 : x5_1 < (l0.length : Int) := of_decide_eq_true (by first | (with_reducible assumption) | assumption);obtain ⟨ad111, e111, hx111_0⟩ := Kd.iJ HR0.out x5_1 p111 q111;obtain rfl : ad109 = ad111 := (by injection e111)
       replace p111 := eq_true p111;replace q111 := eq_true q111;go_wp2;go_meet
       case rel => exact ⟨_, (decide ((Go.bits .or .i64 x2_1 (ji12)) > 4611686018427387904)), (by first | rfl | (simp; done) | (simp only [← hji12] <;> (first | rfl | simp)) | (simp [*]; done)), H', ⟨by have := HK1.out; have := HJ2.out; first | omega | exact Nat.le_refl _⟩, by repeat (first | exact bv.refl _ | apply bv.step)⟩
      rw [if_pos c15] at H;obtain ⟨c15b0, c15b1⟩ := eqQ c15;clear c15;(first | rw [c15b0] | (simp only [jN, jY]; rw [c15b0]) | skip);by_cases c16 : x5_1 > 0
      ·rw [if_pos c16] at H
       have c16b0 : decide (0 < x5_1) = true := decide_eq_true c16;clear c16;have H' := aa.mk H;clear H;have p111 : 0 ≤ (x5_1 : Int) := of_decide_eq_true (by first | (with_reducible assumption) | assumption);have q111 : x5_1 < (l0.length : Int) := of_decide_eq_true (by first | (with_reducible assumption) | assumption);obtain ⟨ad111, e111, hx111_0⟩ := Kd.iJ HR0.out x5_1 p111 q111;obtain rfl : ad109 = ad111 := (by injection e111)
       replace p111 := eq_true p111;replace q111 := eq_true q111;go_wp2;go_meet
       case rel => exact ⟨_, (true), (by first | rfl | (simp; done) | (simp [*]; done)), H', ⟨by have := HK1.out; have := HJ2.out; first | omega | exact Nat.le_refl _⟩, by repeat (first | exact bv.refl _ | apply bv.step)⟩
      rw [if_neg c16] at H;have c16b0 : decide (0 < x5_1) = false := decide_eq_false c16;clear c16;have H' := aa.mk H;clear H;have p111 : 0 ≤ (x5_1 : Int) := of_decide_eq_true (by first | (with_reducible assumption) | assumption);have q111 : x5_1 < (l0.length : Int) := of_decide_eq_true (by first | (with_reducible assumption) | assumption);obtain ⟨ad111, e111, hx111_0⟩ := Kd.iJ HR0.out x5_1 p111 q111;obtain rfl : ad109 = ad111 := (by injection e111)
      replace p111 := eq_true p111;replace q111 := eq_true q111;go_wp2;go_meet
      case rel => exact ⟨_, (decide ((Go.bits .or .i64 x2_1 (ji12)) > 4611686018427387904)), (by first | rfl | (simp; done) | (simp only [← hji12] <;> (first | rfl | simp)) | (simp [*]; done)), H', ⟨by have := HK1.out; have := HJ2.out; first | omega | exact Nat.le_refl _⟩, by repeat (first | exact bv.refl _ | apply bv.step)⟩
     case rest =>
      clear HC14;(try clear c1 p1 q1 hx1 c2 c2b0 c2b1 p2 p3 c4 c4b0 c5 c5b0 c6 c6b0 p6 c7 c8 c8b0 c9 c9b0 c10 p10 q10 hx10 c11 c11b0 c11b1 p11 q11 hx11 c13 c13b0 c15 c15b0 c15b1 c16 c16b0 hx108_0 hx109_0 hx110_0 hx111_0 p1 p108 p109 p110 p111 p2 q1 q108 q109 q110 q111);obtain ⟨kq, x49_13, rfl, HA, HJ13, ⟨mc13, rfl⟩⟩ := hcut;cases kq with
      | zero => exact absurd HA.out (by simp [ak.j2])
      | succ kj13 =>
       have H := HA.out;clear HA;simp only [ak.j2] at H;by_cases c17 : x49_13 = true;rotate_left
       ·replace c17 := Bool.eq_false_iff.mpr c17
        subst c17;have H1 : (some ((Go.bits .or .i64 x2_1 (ji12)), wrap64 (x5_1 + 1), 0)) = some (r1, r2, r3) := by rw [if_neg (show ¬ (false = true) by decide)] at H; exact H
        clear H;have H := H1;clear H1;simp only [Option.some.injEq, Prod.mk.injEq] at H;obtain ⟨rfl, rfl, rfl⟩ := H;go_wp2;(try simp only [Exit.then, Exit.inBlock, LB.Goes.here, LB.Goes.ret, Exit.noGoto_ret]);go_ret3;exact ⟨by first | rfl | (simp; done) | (simp only [← hji10, ← hji12] <;> (first | rfl | simp)) | (simp [*]; done), by repeat (first | exact bv.refl _ | apply bv.step)⟩
       subst c17;have H1 : (some (0, 0, 1)) = some (r1, r2, r3) := by rw [if_pos rfl] at H; exact H
       clear H;have H := H1;clear H1;simp only [Option.some.injEq, Prod.mk.injEq] at H;obtain ⟨rfl, rfl, rfl⟩ := H;go_wp2;go_step3;(try simp only [Exit.then, Exit.inBlock]);(first | simp only [LB.Goes.here] | (rw [LB.Goes.there (by decide)]; simp only [LB.Goes.here]));refine hG1_ _ _ ?_;go_wp2;(try simp only [Exit.then, Exit.inBlock, LB.Goes.here, LB.Goes.ret, Exit.noGoto_ret]);go_ret3;exact ⟨by first | rfl | (simp; done) | (simp only [← hji10, ← hji12] <;> (first | rfl | simp)) | (simp [*]; done), by repeat (first | exact bv.refl _ | apply bv.step)⟩
end Go.Proofs.Ytddnlnjmikcgfaa.PC
end
section
namespace Go.Proofs.Ytddnlnjmikcgfaa.PC
open Go.RowKit Go.WB.PrintWords Go.WB.PrintLast Go.WB.PrintMore
attribute [local go_sem] dh dm eB eD bZ cu di dn
set_option linter.unusedVariables false
set_option linter.unusedSimpArgs false
set_option maxHeartbeats 40000000
set_option maxRecDepth 100000
theorem eqA25 (d : Nat) (w : World) (x0 y0 x1 y1 : Int) :
    (Op.equalIn (d + 2) 25 (.agg #[.int .i64 x0, .int .i64 x1]) (.agg #[.int .i64 y0, .int .i64 y1])).run Try.prog w = .ok (x0 == y0 && (x1 == y1)) w := by
  refine eqA_of Try.underlying25 (by kernel_rfl) ?_
  refine eqf_cons (by rfl) (by go_simp; rfl) (by go_simp; rfl) (by go_simp) ?_
  exact eqf_last (by rfl) (by go_simp; rfl) (by go_simp; rfl) (by go_simp)
end Go.Proofs.Ytddnlnjmikcgfaa.PC
end
section
namespace Go.Proofs.Ytddnlnjmikcgfaa.PC
open Go.RowKit Go.WB.PrintWords Go.WB.PrintLast Go.WB.PrintMore
attribute [local go_sem] dh dm eB eD bZ cu di dn
set_option linter.unusedVariables false
set_option linter.unusedSimpArgs false
open Go.LB (sT sZ sS cells3 aN fH aU)
open Go.SB (rpu rpf rtk rpu0 rpf0 rtk0 rbs rud pS IV rdu lA lC lN lD lT rqu rqf onq goq glq neQ eqQ bsQ kdQ rqt1 l9 mq fI gy iV)
set_option maxHeartbeats 40000000
set_option maxRecDepth 100000
theorem iX.calls (a0_0 a0_1 : Int) (r : Bool) (w : World) (h : iX.f a0_0 a0_1 = some r) :
  Calls Try.prog 83 #[.agg #[.int .i64 a0_0, .int .i64 a0_1]] w fun e w' => e = .returned (.bool r) ∧ Below w.heap.size w w' := by
 have hu25 := Try.underlying25;have HB := aa.mk (Below.refl w.heap.size w);have H : (if a0_0 ≥ 1 then (if a0_0 ≤ 1099511627776 then (if a0_1 ≥ 0 then (some (decide (a0_1 < 16))) else (some false)) else (some false)) else (some false)) = some r := h;clear h;by_cases c2 : a0_0 ≥ 1
 ·rw [if_pos c2] at H
  have c2b0 : decide (1 ≤ a0_0) = true := decide_eq_true c2;clear c2;by_cases c3 : a0_0 ≤ 1099511627776
  ·rw [if_pos c3] at H
   have c3b0 : decide (a0_0 ≤ 1099511627776) = true := decide_eq_true c3;clear c3;by_cases c4 : a0_1 ≥ 0
   ·rw [if_pos c4] at H
    have c4b0 : decide (0 ≤ a0_1) = true := decide_eq_true c4;clear c4;obtain rfl := Option.some.inj H;go_enter Try.func83, Try.ntmps83;go_wp2_with (first | ((with_reducible refine bJ (N := 1) rfl ?_); refine bC ?hg (N := 1) ?hd (cs := #[IV a0_0, IV a0_1]) (t := 25) ?hr ?_; (case hd => rfl); (case hg => rfl); (case hr => first | (go_simp; done) | (go_simp; rfl)); intro gb112 hg w5 hbox hb; replace hb := rdu (W := w) hb rfl rfl rfl rfl; have n0_ := aa.mk (av HB.out hb); have n1_ := aa.mk (hbox); have n2_ := aa.mk ((by rw [hg]; exact HB.out.size : w.heap.size ≤ gb112)); have n3_ := n2_; clear HB; revert n0_ n1_ n2_ n3_; intro HB BK112 GW112 GE112; clear hb hbox hg; have C6_0 : w5.cell? ⟨gb112, 0, none⟩ = some (IV a0_0) := (ai BK112.out 0).trans rfl; have C6_1 : w5.cell? ⟨gb112, 1, none⟩ = some (IV a0_1) := (ai BK112.out 1).trans rfl; have F6_0 := ax BK112.out 0; have F6_1 := ax BK112.out 1));go_ret;exact ⟨by first | rfl | (simp <;> rfl) | (simp [*] <;> rfl), by exact rud HB.out rfl rfl rfl rfl⟩
   ·rw [if_neg c4] at H
    have c4b0 : decide (0 ≤ a0_1) = false := decide_eq_false c4;clear c4;obtain rfl := Option.some.inj H;go_enter Try.func83, Try.ntmps83;go_wp2_with (first | ((with_reducible refine bJ (N := 1) rfl ?_); refine bC ?hg (N := 1) ?hd (cs := #[IV a0_0, IV a0_1]) (t := 25) ?hr ?_; (case hd => rfl); (case hg => rfl); (case hr => first | (go_simp; done) | (go_simp; rfl)); intro gb112 hg w7 hbox hb; replace hb := rdu (W := w) hb rfl rfl rfl rfl; have n0_ := aa.mk (av HB.out hb); have n1_ := aa.mk (hbox); have n2_ := aa.mk ((by rw [hg]; exact HB.out.size : w.heap.size ≤ gb112)); have n3_ := n2_; clear HB; revert n0_ n1_ n2_ n3_; intro HB BK112 GW112 GE112; clear hb hbox hg; have C8_0 : w7.cell? ⟨gb112, 0, none⟩ = some (IV a0_0) := (ai BK112.out 0).trans rfl; have C8_1 : w7.cell? ⟨gb112, 1, none⟩ = some (IV a0_1) := (ai BK112.out 1).trans rfl; have F8_0 := ax BK112.out 0; have F8_1 := ax BK112.out 1));go_ret;exact ⟨by first | rfl | (simp <;> rfl) | (simp [*] <;> rfl), by exact rud HB.out rfl rfl rfl rfl⟩
  ·rw [if_neg c3] at H
   have c3b0 : decide (a0_0 ≤ 1099511627776) = false := decide_eq_false c3;clear c3;obtain rfl := Option.some.inj H;go_enter Try.func83, Try.ntmps83;go_wp2_with (first | ((with_reducible refine bJ (N := 1) rfl ?_); refine bC ?hg (N := 1) ?hd (cs := #[IV a0_0, IV a0_1]) (t := 25) ?hr ?_; (case hd => rfl); (case hg => rfl); (case hr => first | (go_simp; done) | (go_simp; rfl)); intro gb112 hg w9 hbox hb; replace hb := rdu (W := w) hb rfl rfl rfl rfl; have n0_ := aa.mk (av HB.out hb); have n1_ := aa.mk (hbox); have n2_ := aa.mk ((by rw [hg]; exact HB.out.size : w.heap.size ≤ gb112)); have n3_ := n2_; clear HB; revert n0_ n1_ n2_ n3_; intro HB BK112 GW112 GE112; clear hb hbox hg; have Ca_0 : w9.cell? ⟨gb112, 0, none⟩ = some (IV a0_0) := (ai BK112.out 0).trans rfl; have Ca_1 : w9.cell? ⟨gb112, 1, none⟩ = some (IV a0_1) := (ai BK112.out 1).trans rfl; have Fa_0 := ax BK112.out 0; have Fa_1 := ax BK112.out 1));go_ret;exact ⟨by first | rfl | (simp <;> rfl) | (simp [*] <;> rfl), by exact rud HB.out rfl rfl rfl rfl⟩
 ·rw [if_neg c2] at H
  have c2b0 : decide (1 ≤ a0_0) = false := decide_eq_false c2;clear c2;obtain rfl := Option.some.inj H;go_enter Try.func83, Try.ntmps83;go_wp2_with (first | ((with_reducible refine bJ (N := 1) rfl ?_); refine bC ?hg (N := 1) ?hd (cs := #[IV a0_0, IV a0_1]) (t := 25) ?hr ?_; (case hd => rfl); (case hg => rfl); (case hr => first | (go_simp; done) | (go_simp; rfl)); intro gb112 hg w11 hbox hb; replace hb := rdu (W := w) hb rfl rfl rfl rfl; have n0_ := aa.mk (av HB.out hb); have n1_ := aa.mk (hbox); have n2_ := aa.mk ((by rw [hg]; exact HB.out.size : w.heap.size ≤ gb112)); have n3_ := n2_; clear HB; revert n0_ n1_ n2_ n3_; intro HB BK112 GW112 GE112; clear hb hbox hg; have Cc_0 : w11.cell? ⟨gb112, 0, none⟩ = some (IV a0_0) := (ai BK112.out 0).trans rfl; have Cc_1 : w11.cell? ⟨gb112, 1, none⟩ = some (IV a0_1) := (ai BK112.out 1).trans rfl; have Fc_0 := ax BK112.out 0; have Fc_1 := ax BK112.out 1));go_ret;exact ⟨by first | rfl | (simp <;> rfl) | (simp [*] <;> rfl), by exact rud HB.out rfl rfl rfl rfl⟩
end Go.Proofs.Ytddnlnjmikcgfaa.PC
end
section
namespace Go.Proofs.Ytddnlnjmikcgfaa.PC
open Go.RowKit Go.WB.PrintWords Go.WB.PrintLast Go.WB.PrintMore
attribute [local go_sem] dh dm eB eD bZ cu di dn
set_option linter.unusedVariables false
set_option linter.unusedSimpArgs false
set_option maxHeartbeats 40000000
set_option maxRecDepth 100000
theorem jd.calls  (r1 r2 : Int) (w : World) (h : jd.f  = some (r1, r2)) :
  Calls Try.prog 106 #[] w fun e w' => e = .returned (.agg #[.int .i64 r1, .int .i64 r2]) ∧ Below w.heap.size w w' := by
 have hu25 := Try.underlying25;have HB := aa.mk (Below.refl w.heap.size w);have H : (some (0, 0)) = some (r1, r2) := h;clear h;simp only [Option.some.injEq, Prod.mk.injEq] at H;obtain ⟨rfl, rfl⟩ := H;go_enter Try.func106, Try.ntmps106;go_wp2_with (first | ((with_reducible refine bJ (N := 0) rfl ?_); refine bC ?hg (N := 0) ?hd (cs := #[SB.IV 0, SB.IV 0]) (t := 25) ?hr ?_; (case hd => rfl); (case hg => rfl); (case hr => first | (go_simp; done) | (go_simp; rfl)); intro gb113 hg w1 hbox hb; replace hb := SB.rdu (W := w) hb rfl rfl rfl rfl; have n0_ := aa.mk (av HB.out hb); have n1_ := aa.mk (hbox); have n2_ := aa.mk ((by rw [hg]; exact HB.out.size : w.heap.size ≤ gb113)); have n3_ := aa.mk ((by rw [hg]; exact HB.out.size : w.heap.size ≤ gb113)); clear HB; revert n0_ n1_ n2_ n3_; intro HB BK113 GW113 GE113; clear hb hbox hg; have C2_0 : w1.cell? ⟨gb113, 0, none⟩ = some (SB.IV 0) := (ai BK113.out 0).trans rfl; have C2_1 : w1.cell? ⟨gb113, 1, none⟩ = some (SB.IV 0) := (ai BK113.out 1).trans rfl; have F2_0 := ax BK113.out 0; have F2_1 := ax BK113.out 1));refine bodyPost_ret (results_cell_row rfl _ _ gb113 25 #[SB.IV 0, SB.IV 0] (0, 0) _ rfl (by exact LB.put2 BK113.out) Try.underlying25 rfl (by kernel_rfl)) rfl ?_;exact ⟨by first | rfl | (simp <;> rfl) | (simp [*] <;> rfl), by repeat (first | (with_reducible first | exact HB.out | apply aY | apply aH | apply aC | refine aI ?_ GE113.out) | exact HB.out)⟩
theorem kX.calls  (r1 r2 : Int) (w : World) (h : kX.f  = some (r1, r2)) :
  Calls Try.prog 108 #[] w fun e w' => e = .returned (.agg #[.int .i64 r1, .int .i64 r2]) ∧ Below w.heap.size w w' := by
 have hu25 := Try.underlying25;have HB := aa.mk (Below.refl w.heap.size w);have H : (some (0, 1)) = some (r1, r2) := h;clear h;simp only [Option.some.injEq, Prod.mk.injEq] at H;obtain ⟨rfl, rfl⟩ := H;go_enter Try.func108, Try.ntmps108;go_wp2_with (first | ((with_reducible refine bJ (N := 0) rfl ?_); refine bC ?hg (N := 0) ?hd (cs := #[SB.IV 0, SB.IV 0]) (t := 25) ?hr ?_; (case hd => rfl); (case hg => rfl); (case hr => first | (go_simp; done) | (go_simp; rfl)); intro gb114 hg w1 hbox hb; replace hb := SB.rdu (W := w) hb rfl rfl rfl rfl; have n0_ := aa.mk (av HB.out hb); have n1_ := aa.mk (hbox); have n2_ := aa.mk ((by rw [hg]; exact HB.out.size : w.heap.size ≤ gb114)); have n3_ := aa.mk ((by rw [hg]; exact HB.out.size : w.heap.size ≤ gb114)); clear HB; revert n0_ n1_ n2_ n3_; intro HB BK114 GW114 GE114; clear hb hbox hg; have C2_0 : w1.cell? ⟨gb114, 0, none⟩ = some (SB.IV 0) := (ai BK114.out 0).trans rfl; have C2_1 : w1.cell? ⟨gb114, 1, none⟩ = some (SB.IV 0) := (ai BK114.out 1).trans rfl; have F2_0 := ax BK114.out 0; have F2_1 := ax BK114.out 1));refine bodyPost_ret (results_cell_row rfl _ _ gb114 25 #[SB.IV 0, SB.IV 1] (0, 0) _ rfl (by exact LB.put2 BK114.out) Try.underlying25 rfl (by kernel_rfl)) rfl ?_;exact ⟨by first | rfl | (simp <;> rfl) | (simp [*] <;> rfl), by repeat (first | (with_reducible first | exact HB.out | apply aY | apply aH | apply aC | refine aI ?_ GE114.out) | exact HB.out)⟩
end Go.Proofs.Ytddnlnjmikcgfaa.PC
end
section
namespace Go.Proofs.Ytddnlnjmikcgfaa.PC
open Go.RowKit Go.WB.PrintWords Go.WB.PrintLast Go.WB.PrintMore
attribute [local go_sem] dh dm eB eD bZ cu di dn
set_option linter.unusedVariables false
set_option linter.unusedSimpArgs false
attribute [local go_sem high] eqA25
open Go.LB (sT sZ sS cells3 aN fH aU)
open Go.SB (rpu rpf rtk rpu0 rpf0 rtk0 rbs rud pS IV rdu lA lC lN lD lT rqu rqf onq goq glq neQ eqQ bsQ kdQ rqt1 l9 mq fI gy iV)
set_option maxHeartbeats 40000000
set_option maxRecDepth 100000
def fq.T1 : Bool × List (List Nat × List Nat) := (true, [([], []), ([0], [0]), ([1, 1], [1]), ([2], [2]), ([2, 2], [2]), ([3, 4, 2], [2, 3, 4]), ([2, 5], [2, 5]), ([6, 4], [6]), ([7], [7]), ([7, 7], [7]), ([8, 9, 7], [7, 8, 9]), ([7, 10], [7, 10]), ([11, 9, 0, 1, 2, 3, 4, 5, 6, 7, 8, 9, 10, 11], [11])])
def fq.B1 : List Nat := [0, 1, 3, 7, 7, 31, 63, 127, 255, 255, 1023, 2047, 4095]
theorem fq.tab1 : rtab .any (opsOf Try.f103 1) = fq.T1 := by kernel_rfl
theorem fq.bits1 : gY fq.T1.2 fq.B1 = true := by kernel_rfl
theorem fq.calls (a0_0 a0_1 : Int) (r : Bool) (w : World) (h : fq.f a0_0 a0_1 = some r) :
  Calls Try.prog 103 #[.agg #[.int .i64 a0_0, .int .i64 a0_1]] w fun e w' => e = .returned (.bool r) ∧ Below w.heap.size w w' := by
 have hu25 := Try.underlying25;have HB := aa.mk (Below.refl w.heap.size w);have H : ((iX.f a0_0 a0_1).bind fun t116 => (if t116 = true then (some true) else ((jd.f).bind fun bt117 => (if (a0_0 == bt117.1 && (a0_1 == bt117.2)) = true then (some true) else ((kX.f).bind fun bt119 => (some (a0_0 == bt119.1 && (a0_1 == bt119.2)))))))) = some r := h;clear h;replace H := bsQ H;obtain ⟨t116, A20, H⟩ := H;(try dsimp only at H);have A2 := aa.mk A20;clear A20;by_cases c3 : t116 = true
 ·subst c3
  have H1 : (some true) = some r := by rw [if_pos rfl] at H; exact H
  clear H;have H := H1;clear H1;obtain rfl := Option.some.inj H;go_enter Try.func103, Try.ntmps103;try go_wp2_with (first | ((with_reducible refine bJ (N := 1) rfl ?_); refine bC ?hg (N := 1) ?hd (cs := #[IV a0_0, IV a0_1]) (t := 25) ?hr ?_; (case hd => rfl); (case hg => rfl); (case hr => first | (go_simp; done) | (go_simp; rfl)); intro gb115 hg w4 hbox hb; replace hb := rdu (W := w) hb rfl rfl rfl rfl; have n0_ := aa.mk (av HB.out hb); have n1_ := aa.mk (hbox); have n2_ := aa.mk ((by rw [hg]; exact HB.out.size : w.heap.size ≤ gb115)); have n3_ := n2_; clear HB; revert n0_ n1_ n2_ n3_; intro HB jH GW115 GE115; clear hb hbox hg))
  have n0_ := aa.mk (dW jH.out);have n1_ := aa.mk (aC HB.out);clear jH HB;revert n0_ n1_;intro jH HB;refine gW (n := 13) (S := fun w' => w'.cell? ⟨gb115, 0, none⟩ = some (IV a0_0) ∧ w'.cell? ⟨gb115, 1, none⟩ = some (IV a0_1)) (ds := []) (rbs 13 0) (by kernel_rfl) rfl rfl ⟨(ai jH.out 0).trans rfl, (ai jH.out 1).trans rfl⟩ (fun hHeld => ?_); refine dQ fq.tab1 fq.bits1 (fun HT_ HW_ => ?_);generalize w4.drew = w5 at jH HB hHeld ⊢;apply l9 0 3 13 1;refine onq 1 (some 4) 13 3 (fun K hK => ?_);refine goq Try.func83 #[.agg #[IV a0_0, IV a0_1]] ?_;with_reducible refine (iX.calls a0_0 a0_1 true _ A2.out).mono ?_
  rintro e w6 ⟨rfl, hb⟩;refine ⟨_, rfl, ?_⟩;replace hb := rdu (W := w5) hb rfl rfl rfl rfl;have n0_ := aa.mk (aW jH.out hb);have n1_ := aa.mk (av HB.out hb);clear jH HB;revert n0_ n1_;intro jH HB;refine hK.out _ _ ⟨(ai jH.out 0).trans rfl, (ai jH.out 1).trans rfl⟩ (fun hHeld => ?_);clear hK K;refine gF (a' := ?_) ?_ ?_;rotate_left
  ·show Act.put _ (some 4) _ = _
   simp only [pS];rfl
  apply rqu 2 5 13 7;apply rqf 3 6 13 15;apply rqf 4 7 13 31;apply rqf 5 8 13 63;apply rqu 6 9 13 127;apply rqu 7 10 13 255;apply rqf 8 11 13 511;apply rqf 9 12 13 1023;apply rqf 10 13 13 2047;apply rqu 11 14 13 4095;apply rqu 12 2 13 8191;refine jR (gm HT_.out (by kernel_rfl)) ?_;try go_wp2
  go_ret;exact ⟨by first | rfl | (simp <;> rfl) | (simp [*] <;> rfl), by exact rud HB.out rfl rfl rfl rfl⟩
 replace c3 := Bool.eq_false_iff.mpr c3;subst c3;have H1 : ((jd.f).bind fun bt117 => (if (a0_0 == bt117.1 && (a0_1 == bt117.2)) = true then (some true) else ((kX.f).bind fun bt119 => (some (a0_0 == bt119.1 && (a0_1 == bt119.2)))))) = some r := by rw [if_neg (show ¬ (false = true) by decide)] at H; exact H
 clear H;have H := H1;clear H1;replace H := bsQ H;obtain ⟨⟨t117, t118⟩, A70, H⟩ := H;replace H : (if (a0_0 == t117 && (a0_1 == t118)) = true then (some true) else ((kX.f).bind fun bt119 => (some (a0_0 == bt119.1 && (a0_1 == bt119.2))))) = some r := H;have A7 := aa.mk A70;clear A70;by_cases c8 : (a0_0 == t117 && (a0_1 == t118)) = true
 ·rw [if_pos c8] at H
  have c8b0 : (a0_0 == t117 && (a0_1 == t118)) = true := c8;(try (have c8b1 : decide (a0_0 = t117 && (a0_1 == t118)) = true := by simpa using c8));(try (have c8b2 : (a0_0 == t117 && (a0_1 == t118)) = true := by simpa using c8));clear c8;obtain rfl := Option.some.inj H;go_enter Try.func103, Try.ntmps103;try go_wp2_with (first | ((with_reducible refine bJ (N := 1) rfl ?_); refine bC ?hg (N := 1) ?hd (cs := #[IV a0_0, IV a0_1]) (t := 25) ?hr ?_; (case hd => rfl); (case hg => rfl); (case hr => first | (go_simp; done) | (go_simp; rfl)); intro gb115 hg w9 hbox hb; replace hb := rdu (W := w) hb rfl rfl rfl rfl; have n0_ := aa.mk (av HB.out hb); have n1_ := aa.mk (hbox); have n2_ := aa.mk ((by rw [hg]; exact HB.out.size : w.heap.size ≤ gb115)); have n3_ := n2_; clear HB; revert n0_ n1_ n2_ n3_; intro HB jH GW115 GE115; clear hb hbox hg))
  have n0_ := aa.mk (dW jH.out);have n1_ := aa.mk (aC HB.out);clear jH HB;revert n0_ n1_;intro jH HB;refine gW (n := 13) (S := fun w' => w'.cell? ⟨gb115, 0, none⟩ = some (IV a0_0) ∧ w'.cell? ⟨gb115, 1, none⟩ = some (IV a0_1)) (ds := []) (rbs 13 0) (by kernel_rfl) rfl rfl ⟨(ai jH.out 0).trans rfl, (ai jH.out 1).trans rfl⟩ (fun hHeld => ?_); refine dQ fq.tab1 fq.bits1 (fun HT_ HW_ => ?_);generalize w9.drew = w10 at jH HB hHeld ⊢;apply l9 0 3 13 1;refine onq 1 (some 4) 13 3 (fun K hK => ?_);refine goq Try.func83 #[.agg #[IV a0_0, IV a0_1]] ?_;with_reducible refine (iX.calls a0_0 a0_1 false _ A2.out).mono ?_
  rintro e w11 ⟨rfl, hb⟩;refine ⟨_, rfl, ?_⟩;replace hb := rdu (W := w10) hb rfl rfl rfl rfl;have n0_ := aa.mk (aW jH.out hb);have n1_ := aa.mk (av HB.out hb);clear jH HB;revert n0_ n1_;intro jH HB;refine hK.out _ _ ⟨(ai jH.out 0).trans rfl, (ai jH.out 1).trans rfl⟩ (fun hHeld => ?_);clear hK K;refine gF (a' := ?_) ?_ ?_;rotate_left
  ·show Act.put _ (some 4) _ = _
   simp only [pS];rfl
  apply rqu 2 5 13 7;apply l9 3 6 13 15;refine onq 4 (some 7) 13 31 (fun K hK => ?_);refine goq Try.func106 #[] ?_;with_reducible refine (jd.calls  t117 t118 _ A7.out).mono ?_
  rintro e w12 ⟨rfl, hb⟩;refine ⟨_, rfl, ?_⟩;replace hb := rdu (W := w11) hb rfl rfl rfl rfl;have n0_ := aa.mk (aW jH.out hb);have n1_ := aa.mk (av HB.out hb);clear jH HB;revert n0_ n1_;intro jH HB;refine hK.out _ _ ⟨(ai jH.out 0).trans rfl, (ai jH.out 1).trans rfl⟩ (fun hHeld => ?_);clear hK K;refine gF (a' := ?_) ?_ ?_;rotate_left
  ·show Act.put _ (some 7) _ = _
   simp only [pS];rfl
  apply rqu 5 8 13 63;apply rqu 6 9 13 127;apply rqu 7 10 13 255;apply rqf 8 11 13 511;apply rqf 9 12 13 1023;apply rqf 10 13 13 2047;apply rqu 11 14 13 4095;apply rqu 12 2 13 8191;refine jR (gm HT_.out (by kernel_rfl)) ?_;try go_wp2
  go_ret;exact ⟨by first | rfl | (simp <;> rfl) | (simp [*] <;> rfl), by exact rud HB.out rfl rfl rfl rfl⟩
 rw [if_neg c8] at H;have c8b0 : (a0_0 == t117 && (a0_1 == t118)) = false := by simpa using c8
 (try (have c8b1 : decide (a0_0 = t117 && (a0_1 == t118)) = false := by simpa using c8));(try (have c8b2 : (a0_0 == t117 && (a0_1 == t118)) = false := by simpa using c8));(try (have c8b3 : ¬ (a0_0 = t117 && (a0_1 == t118)) := by simpa using c8));clear c8;replace H := bsQ H;obtain ⟨⟨t119, t120⟩, A130, H⟩ := H;replace H : (some (a0_0 == t119 && (a0_1 == t120))) = some r := H;have A13 := aa.mk A130;clear A130;obtain rfl := Option.some.inj H;go_enter Try.func103, Try.ntmps103;try go_wp2_with (first | ((with_reducible refine bJ (N := 1) rfl ?_); refine bC ?hg (N := 1) ?hd (cs := #[IV a0_0, IV a0_1]) (t := 25) ?hr ?_; (case hd => rfl); (case hg => rfl); (case hr => first | (go_simp; done) | (go_simp; rfl)); intro gb115 hg w14 hbox hb; replace hb := rdu (W := w) hb rfl rfl rfl rfl; have n0_ := aa.mk (av HB.out hb); have n1_ := aa.mk (hbox); have n2_ := aa.mk ((by rw [hg]; exact HB.out.size : w.heap.size ≤ gb115)); have n3_ := n2_; clear HB; revert n0_ n1_ n2_ n3_; intro HB jH GW115 GE115; clear hb hbox hg))
 have n0_ := aa.mk (dW jH.out);have n1_ := aa.mk (aC HB.out);clear jH HB;revert n0_ n1_;intro jH HB;refine gW (n := 13) (S := fun w' => w'.cell? ⟨gb115, 0, none⟩ = some (IV a0_0) ∧ w'.cell? ⟨gb115, 1, none⟩ = some (IV a0_1)) (ds := []) (rbs 13 0) (by kernel_rfl) rfl rfl ⟨(ai jH.out 0).trans rfl, (ai jH.out 1).trans rfl⟩ (fun hHeld => ?_); refine dQ fq.tab1 fq.bits1 (fun HT_ HW_ => ?_);generalize w14.drew = w15 at jH HB hHeld ⊢;apply l9 0 3 13 1;refine onq 1 (some 4) 13 3 (fun K hK => ?_);refine goq Try.func83 #[.agg #[IV a0_0, IV a0_1]] ?_;with_reducible refine (iX.calls a0_0 a0_1 false _ A2.out).mono ?_
 rintro e w16 ⟨rfl, hb⟩;refine ⟨_, rfl, ?_⟩;replace hb := rdu (W := w15) hb rfl rfl rfl rfl;have n0_ := aa.mk (aW jH.out hb);have n1_ := aa.mk (av HB.out hb);clear jH HB;revert n0_ n1_;intro jH HB;refine hK.out _ _ ⟨(ai jH.out 0).trans rfl, (ai jH.out 1).trans rfl⟩ (fun hHeld => ?_);clear hK K;refine gF (a' := ?_) ?_ ?_;rotate_left
 ·show Act.put _ (some 4) _ = _
  simp only [pS];rfl
 apply rqu 2 5 13 7;apply l9 3 6 13 15;refine onq 4 (some 7) 13 31 (fun K hK => ?_);refine goq Try.func106 #[] ?_;with_reducible refine (jd.calls  t117 t118 _ A7.out).mono ?_
 rintro e w17 ⟨rfl, hb⟩;refine ⟨_, rfl, ?_⟩;replace hb := rdu (W := w16) hb rfl rfl rfl rfl;have n0_ := aa.mk (aW jH.out hb);have n1_ := aa.mk (av HB.out hb);clear jH HB;revert n0_ n1_;intro jH HB;refine hK.out _ _ ⟨(ai jH.out 0).trans rfl, (ai jH.out 1).trans rfl⟩ (fun hHeld => ?_);clear hK K;refine gF (a' := ?_) ?_ ?_;rotate_left
 ·show Act.put _ (some 7) _ = _
  simp only [pS];rfl
 apply rqu 5 8 13 63;apply rqu 6 9 13 127;apply rqu 7 10 13 255;apply l9 8 11 13 511;refine onq 9 (some 12) 13 1023 (fun K hK => ?_);refine goq Try.func108 #[] ?_;with_reducible refine (kX.calls  t119 t120 _ A13.out).mono ?_
 rintro e w18 ⟨rfl, hb⟩;refine ⟨_, rfl, ?_⟩;replace hb := rdu (W := w17) hb rfl rfl rfl rfl;have n0_ := aa.mk (aW jH.out hb);have n1_ := aa.mk (av HB.out hb);clear jH HB;revert n0_ n1_;intro jH HB;refine hK.out _ _ ⟨(ai jH.out 0).trans rfl, (ai jH.out 1).trans rfl⟩ (fun hHeld => ?_);clear hK K;refine gF (a' := ?_) ?_ ?_;rotate_left
 ·show Act.put _ (some 12) _ = _
  simp only [pS];rfl
 apply rqu 10 13 13 2047;apply rqu 11 14 13 4095;apply rqu 12 2 13 8191;refine jR (gm HT_.out (by kernel_rfl)) ?_;try go_wp2
 go_ret;exact ⟨by first | rfl | (simp <;> rfl) | (simp [*] <;> rfl), by exact rud HB.out rfl rfl rfl rfl⟩
end Go.Proofs.Ytddnlnjmikcgfaa.PC
end
section
namespace Go.Proofs.Ytddnlnjmikcgfaa.PC
open Go.RowKit Go.WB.PrintWords Go.WB.PrintLast Go.WB.PrintMore
attribute [local go_sem] dh dm eB eD bZ cu di dn
set_option linter.unusedVariables false
set_option linter.unusedSimpArgs false
open Go.LB (sT sZ sS cells3 aN fH aU)
open Go.SB (rpu rpf rtk rpu0 rpf0 rtk0 rbs rud pS IV rdu lA lC lN lD lT rqu rqf onq goq glq neQ eqQ bsQ kdQ rqt1 l9 mq fI gy iV)
set_option maxHeartbeats 40000000
set_option maxRecDepth 100000
theorem fZ.calls (k : Nat) (A0 : Option Addr) (c0 : Nat) (l0 : List Int) (r1 r2 r3 r4 : Int) (w : World) (hr0 : Kd.C (Kd.int .u8) w A0 l0.length l0) (hc0 : l0.length ≤ c0) (h : fZ.f k l0 = some (r1, r2, r3, r4)) :
  Calls Try.prog 100 #[.slice A0 l0.length c0] w fun e w' => e = .returned (.tuple #[.agg #[.int .i64 r1, .int .i64 r2], .int .i64 r3, .int .i64 r4]) ∧ Below w.heap.size w w' := by
 have hu25 := Try.underlying25;have HR0 := aa.mk hr0;have HC0 := aa.mk hc0;clear hr0 hc0;have HB := aa.mk (Below.refl w.heap.size w);have H : ((ak.f k l0).bind fun bt122 => (if bt122.2.2 = 0 then (if 0 ≤ bt122.2.1 then (if bt122.2.1 ≤ (l0.length : Int) then ((ak.f k (l0.drop (bt122.2.1 : Int).toNat)).bind fun bt126 => (if bt126.2.2 = 0 then ((fq.f bt122.1 bt126.1).bind fun t129 => (if t129 = true then (some (bt122.1, bt126.1, wrap64 (bt122.2.1 + bt126.2.1), 0)) else (some (0, 0, 0, 1)))) else (some (0, 0, 0, bt126.2.2)))) else (none)) else (none)) else (some (0, 0, 0, bt122.2.2)))) = some (r1, r2, r3, r4) := h;clear h;replace H := bsQ H;obtain ⟨⟨t122, t123, t124⟩, A20, H⟩ := H;(try dsimp only at H);have A2 := aa.mk A20;clear A20;by_cases c3 : t124 = 0;rotate_left
 ·rw [if_neg c3] at H
  obtain ⟨c3b0, c3b1⟩ := neQ c3;simp only [Option.some.injEq, Prod.mk.injEq] at H;obtain ⟨rfl, rfl, rfl, rfl⟩ := H;go_enter Try.func100, Try.ntmps100;go_wp2_with (first | ((with_reducible refine bJ (N := 2) rfl ?_); refine bC ?hg (N := 2) ?hd (cs := #[IV 0, IV 0]) (t := 25) ?hr ?_; (case hd => rfl); (case hg => rfl); (case hr => first | (go_simp; done) | (go_simp; rfl)); intro lH hg w23 hbox hb; replace hb := rdu (W := w) hb rfl rfl rfl rfl; have n0_ := aa.mk (av HB.out hb); have n1_ := aa.mk (hbox); have n2_ := aa.mk ((by rw [hg]; exact HB.out.size : w.heap.size ≤ lH)); have n3_ := n2_; clear HB; revert n0_ n1_ n2_ n3_; intro HB iR GW121 GE121; clear hb hbox hg) | ((with_reducible refine aA (f := 102) rfl ?_); refine glq (some 10) Try.func102 #[.slice A0 l0.length c0] ?_; (with_reducible refine (ak.calls k _ _ l0 t122 t123 t124 _ ?side1 ?side2 A2.out).mono ?_); (case side1 => repeat (first | exact (Kd.df HR0.out HB.out) | with_reducible first | refine Kd.bO ?_ _ | refine Kd.bL ?_ _ | refine Kd.cO ?_)); (case side2 => exact HC0.out); rintro e w' ⟨rfl, ⟨nd, rfl⟩⟩; refine ⟨_, rfl, ?_⟩; (try (rw [iZ w23]; generalize hq_ : World.drewN w23 _ = w23; have n0_ : aa (w23.heap[lH]? = some (.cells #[IV 0, IV 0] 25 (0, 0))) := ⟨by rw [← hq_]; exact (by exact iR.out)⟩; have n1_ : aa (Below w.heap.size w w23) := ⟨by rw [← hq_]; exact (by exact rud HB.out rfl rfl rfl rfl)⟩; clear iR HB hq_; revert n0_ n1_; intro iR HB)); have Co_0 : w23.cell? ⟨lH, 0, none⟩ = some (IV 0) := (ai iR.out 0).trans rfl; have Co_1 : w23.cell? ⟨lH, 1, none⟩ = some (IV 0) := (ai iR.out 1).trans rfl; have Fo_0 := ax iR.out 0; have Fo_1 := ax iR.out 1));refine bodyPost_ret (iC rfl _ _ lH 25 #[IV 0, IV 0] (0, 0) _ rfl (by exact LB.put2 iR.out) Try.underlying25 rfl (by kernel_rfl)) rfl ?_;exact ⟨by first | rfl | (simp <;> rfl) | (simp [*] <;> rfl), by repeat (first | (with_reducible first | exact HB.out | apply aY | apply aH | apply aC | refine aI ?_ GE121.out) | exact HB.out)⟩
 rw [if_pos c3] at H;obtain ⟨c3b0, c3b1⟩ := eqQ c3;clear c3;by_cases c4 : 0 ≤ t123;rotate_left
 ·rw [if_neg c4] at H
  exact absurd H (by simp)
 rw [if_pos c4] at H;have c4b0 := eq_true c4;have c4b1 : decide (0 ≤ t123) = true := decide_eq_true c4;clear c4;by_cases c5 : t123 ≤ (l0.length : Int);rotate_left
 ·rw [if_neg c5] at H
  exact absurd H (by simp)
 rw [if_pos c5] at H;have c5b0 := eq_true c5;have c5b1 : decide (t123 ≤ (l0.length : Int)) = true := decide_eq_true c5;clear c5;replace H := bsQ H;obtain ⟨⟨t126, t127, t128⟩, A60, H⟩ := H;(try dsimp only at H);have A6 := aa.mk A60;clear A60;by_cases c7 : t128 = 0;rotate_left
 ·rw [if_neg c7] at H
  obtain ⟨c7b0, c7b1⟩ := neQ c7;simp only [Option.some.injEq, Prod.mk.injEq] at H;obtain ⟨rfl, rfl, rfl, rfl⟩ := H;go_enter Try.func100, Try.ntmps100;go_wp2_with (first | ((with_reducible refine bJ (N := 2) rfl ?_); refine bC ?hg (N := 2) ?hd (cs := #[IV 0, IV 0]) (t := 25) ?hr ?_; (case hd => rfl); (case hg => rfl); (case hr => first | (go_simp; done) | (go_simp; rfl)); intro lH hg w20 hbox hb; replace hb := rdu (W := w) hb rfl rfl rfl rfl; have n0_ := aa.mk (av HB.out hb); have n1_ := aa.mk (hbox); have n2_ := aa.mk ((by rw [hg]; exact HB.out.size : w.heap.size ≤ lH)); have n3_ := n2_; clear HB; revert n0_ n1_ n2_ n3_; intro HB iR GW121 GE121; clear hb hbox hg) | ((with_reducible refine aA (f := 102) rfl ?_); refine glq (some 10) Try.func102 #[.slice A0 l0.length c0] ?_; (with_reducible refine (ak.calls k _ _ l0 t122 t123 t124 _ ?side1 ?side2 A2.out).mono ?_); (case side1 => repeat (first | exact (Kd.df HR0.out HB.out) | with_reducible first | refine Kd.bO ?_ _ | refine Kd.bL ?_ _ | refine Kd.cO ?_)); (case side2 => exact HC0.out); rintro e w' ⟨rfl, ⟨nd, rfl⟩⟩; refine ⟨_, rfl, ?_⟩; (try (rw [iZ w20]; generalize hq_ : World.drewN w20 _ = w20; have n0_ : aa (w20.heap[lH]? = some (.cells #[IV 0, IV 0] 25 (0, 0))) := ⟨by rw [← hq_]; exact (by exact iR.out)⟩; have n1_ : aa (Below w.heap.size w w20) := ⟨by rw [← hq_]; exact (by exact rud HB.out rfl rfl rfl rfl)⟩; clear iR HB hq_; revert n0_ n1_; intro iR HB)); obtain ⟨i021, hi021, _, hsz21, _⟩ := info_parts info5; obtain ⟨A21, hcut21, hA21, hC21⟩ := fV (P := Try.prog) (Value.int .u8) 0 29 5 .i64 Try.underlying29 hi021 hsz21 A0 c0 l0 t123 (of_decide_eq_true (by first | (with_reducible assumption) | assumption)) (of_decide_eq_true (by first | (with_reducible assumption) | assumption)) HC0.out; have HR125 := aa.mk (Kd.gQ (h1 := fun _ => rfl) (hA21 _ (Kd.gG HR0.out))); have HC125 := aa.mk hC21; clear hA21 hC21 hi021 hsz21) | ((with_reducible refine aA (f := 102) rfl ?_); refine goesL_ (some 22) rfl rfl Try.func102 (by kernel_rfl) rfl #[.slice A21 (l0.drop (t123 : Int).toNat).length (c0 - t123.toNat)] rfl (by (try simp only [lA, lC, lN]); first | done | (rw [show (l0.drop (t123 : Int).toNat).length = (l0.length - t123.toNat) from List.length_drop] <;> rfl) | rfl | (simp only [lD, lT]; rfl)) ?_; (with_reducible refine (ak.calls k _ _ (l0.drop (t123 : Int).toNat) t126 t127 t128 _ ?side1 ?side2 A6.out).mono ?_); (case side1 => repeat (first | exact (Kd.df HR125.out HB.out) | with_reducible first | refine Kd.bO ?_ _ | refine Kd.bL ?_ _ | refine Kd.cO ?_)); (case side2 => exact HC125.out); rintro e w' ⟨rfl, ⟨nd, rfl⟩⟩; refine ⟨_, rfl, ?_⟩; (try (rw [iZ w20]; generalize hq_ : World.drewN w20 _ = w20; have n0_ : aa (w20.heap[lH]? = some (.cells #[IV 0, IV 0] 25 (0, 0))) := ⟨by rw [← hq_]; exact (by exact iR.out)⟩; have n1_ : aa (Below w.heap.size w w20) := ⟨by rw [← hq_]; exact (by exact rud HB.out rfl rfl rfl rfl)⟩; clear iR HB hq_; revert n0_ n1_; intro iR HB)); have Cm_0 : w20.cell? ⟨lH, 0, none⟩ = some (IV 0) := (ai iR.out 0).trans rfl; have Cm_1 : w20.cell? ⟨lH, 1, none⟩ = some (IV 0) := (ai iR.out 1).trans rfl; have Fm_0 := ax iR.out 0; have Fm_1 := ax iR.out 1));refine bodyPost_ret (iC rfl _ _ lH 25 #[IV 0, IV 0] (0, 0) _ rfl (by exact LB.put2 iR.out) Try.underlying25 rfl (by kernel_rfl)) rfl ?_;exact ⟨by first | rfl | (simp <;> rfl) | (simp [*] <;> rfl), by repeat (first | (with_reducible first | exact HB.out | apply aY | apply aH | apply aC | refine aI ?_ GE121.out) | exact HB.out)⟩
 rw [if_pos c7] at H;obtain ⟨c7b0, c7b1⟩ := eqQ c7;clear c7;replace H := bsQ H;obtain ⟨t129, A80, H⟩ := H;replace H : (if t129 = true then (some (t122, t126, wrap64 (t123 + t127), 0)) else (some (0, 0, 0, 1))) = some (r1, r2, r3, r4) := H;have A8 := aa.mk A80;clear A80;by_cases c9 : t129 = true
 ·subst c9
  have H1 : (some (t122, t126, wrap64 (t123 + t127), 0)) = some (r1, r2, r3, r4) := by rw [if_pos rfl] at H; exact H
  clear H;have H := H1;clear H1;simp only [Option.some.injEq, Prod.mk.injEq] at H;obtain ⟨rfl, rfl, rfl, rfl⟩ := H;go_enter Try.func100, Try.ntmps100;go_wp2_with (first | ((with_reducible refine bJ (N := 2) rfl ?_); refine bC ?hg (N := 2) ?hd (cs := #[IV 0, IV 0]) (t := 25) ?hr ?_; (case hd => rfl); (case hg => rfl); (case hr => first | (go_simp; done) | (go_simp; rfl)); intro lH hg w10 hbox hb; replace hb := rdu (W := w) hb rfl rfl rfl rfl; have n0_ := aa.mk (av HB.out hb); have n1_ := aa.mk (hbox); have n2_ := aa.mk ((by rw [hg]; exact HB.out.size : w.heap.size ≤ lH)); have n3_ := n2_; clear HB; revert n0_ n1_ n2_ n3_; intro HB iR GW121 GE121; clear hb hbox hg) | ((with_reducible refine aA (f := 102) rfl ?_); refine glq (some 10) Try.func102 #[.slice A0 l0.length c0] ?_; (with_reducible refine (ak.calls k _ _ l0 t122 t123 t124 _ ?side1 ?side2 A2.out).mono ?_); (case side1 => repeat (first | exact (Kd.df HR0.out HB.out) | with_reducible first | refine Kd.bO ?_ _ | refine Kd.bL ?_ _ | refine Kd.cO ?_)); (case side2 => exact HC0.out); rintro e w' ⟨rfl, ⟨nd, rfl⟩⟩; refine ⟨_, rfl, ?_⟩; (try (rw [iZ w10]; generalize hq_ : World.drewN w10 _ = w10; have n0_ : aa (w10.heap[lH]? = some (.cells #[IV 0, IV 0] 25 (0, 0))) := ⟨by rw [← hq_]; exact (by exact iR.out)⟩; have n1_ : aa (Below w.heap.size w w10) := ⟨by rw [← hq_]; exact (by exact rud HB.out rfl rfl rfl rfl)⟩; clear iR HB hq_; revert n0_ n1_; intro iR HB)); obtain ⟨i011, hi011, _, hsz11, _⟩ := info_parts info5; obtain ⟨A11, hcut11, hA11, hC11⟩ := fV (P := Try.prog) (Value.int .u8) 0 29 5 .i64 Try.underlying29 hi011 hsz11 A0 c0 l0 t123 (of_decide_eq_true (by first | (with_reducible assumption) | assumption)) (of_decide_eq_true (by first | (with_reducible assumption) | assumption)) HC0.out; have HR125 := aa.mk (Kd.gQ (h1 := fun _ => rfl) (hA11 _ (Kd.gG HR0.out))); have HC125 := aa.mk hC11; clear hA11 hC11 hi011 hsz11) | ((with_reducible refine aA (f := 102) rfl ?_); refine goesL_ (some 22) rfl rfl Try.func102 (by kernel_rfl) rfl #[.slice A11 (l0.drop (t123 : Int).toNat).length (c0 - t123.toNat)] rfl (by (try simp only [lA, lC, lN]); first | done | (rw [show (l0.drop (t123 : Int).toNat).length = (l0.length - t123.toNat) from List.length_drop] <;> rfl) | rfl | (simp only [lD, lT]; rfl)) ?_; (with_reducible refine (ak.calls k _ _ (l0.drop (t123 : Int).toNat) t126 t127 t128 _ ?side1 ?side2 A6.out).mono ?_); (case side1 => repeat (first | exact (Kd.df HR125.out HB.out) | with_reducible first | refine Kd.bO ?_ _ | refine Kd.bL ?_ _ | refine Kd.cO ?_)); (case side2 => exact HC125.out); rintro e w' ⟨rfl, ⟨nd, rfl⟩⟩; refine ⟨_, rfl, ?_⟩; (try (rw [iZ w10]; generalize hq_ : World.drewN w10 _ = w10; have n0_ : aa (w10.heap[lH]? = some (.cells #[IV 0, IV 0] 25 (0, 0))) := ⟨by rw [← hq_]; exact (by exact iR.out)⟩; have n1_ : aa (Below w.heap.size w w10) := ⟨by rw [← hq_]; exact (by exact rud HB.out rfl rfl rfl rfl)⟩; clear iR HB hq_; revert n0_ n1_; intro iR HB)); have Cc_0 : w10.cell? ⟨lH, 0, none⟩ = some (IV 0) := (ai iR.out 0).trans rfl; have Cc_1 : w10.cell? ⟨lH, 1, none⟩ = some (IV 0) := (ai iR.out 1).trans rfl; have Fc_0 := ax iR.out 0; have Fc_1 := ax iR.out 1) | ((with_reducible refine aA (f := 103) rfl ?_); refine glq (some 34) Try.func103 #[.agg #[IV t122, IV t126]] ?_; (with_reducible refine (fq.calls t122 t126 true _ A8.out).mono ?_); rintro e w13 ⟨rfl, hb⟩; refine ⟨_, rfl, ?_⟩; have n0_ := aa.mk (aW (g := lH) (o := .cells #[IV t122, IV t126] 25 (0, 0)) (by exact LB.put2 iR.out) hb); have n1_ := aa.mk (av (by repeat (first | (with_reducible first | exact HB.out | apply aY | apply aH | apply aC | refine aI ?_ GE121.out) | exact HB.out)) hb); clear iR HB; revert n0_ n1_; intro iR HB; have Ce_0 : w13.cell? ⟨lH, 0, none⟩ = some (IV t122) := (ai iR.out 0).trans rfl; have Ce_1 : w13.cell? ⟨lH, 1, none⟩ = some (IV t126) := (ai iR.out 1).trans rfl; have Fe_0 := ax iR.out 0; have Fe_1 := ax iR.out 1));refine bodyPost_ret (iC rfl _ _ lH 25 #[IV t122, IV t126] (0, 0) _ rfl (by exact LB.put2 iR.out) Try.underlying25 rfl (by kernel_rfl)) rfl ?_;exact ⟨by first | rfl | (simp <;> rfl) | (simp [*] <;> rfl), by repeat (first | (with_reducible first | exact HB.out | apply aY | apply aH | apply aC | refine aI ?_ GE121.out) | exact HB.out)⟩
 replace c9 := Bool.eq_false_iff.mpr c9;subst c9;have H1 : (some (0, 0, 0, 1)) = some (r1, r2, r3, r4) := by rw [if_neg (show ¬ (false = true) by decide)] at H; exact H
 clear H;have H := H1;clear H1;simp only [Option.some.injEq, Prod.mk.injEq] at H;obtain ⟨rfl, rfl, rfl, rfl⟩ := H;go_enter Try.func100, Try.ntmps100;go_wp2_with (first | ((with_reducible refine bJ (N := 2) rfl ?_); refine bC ?hg (N := 2) ?hd (cs := #[IV 0, IV 0]) (t := 25) ?hr ?_; (case hd => rfl); (case hg => rfl); (case hr => first | (go_simp; done) | (go_simp; rfl)); intro lH hg w15 hbox hb; replace hb := rdu (W := w) hb rfl rfl rfl rfl; have n0_ := aa.mk (av HB.out hb); have n1_ := aa.mk (hbox); have n2_ := aa.mk ((by rw [hg]; exact HB.out.size : w.heap.size ≤ lH)); have n3_ := n2_; clear HB; revert n0_ n1_ n2_ n3_; intro HB iR GW121 GE121; clear hb hbox hg) | ((with_reducible refine aA (f := 102) rfl ?_); refine glq (some 10) Try.func102 #[.slice A0 l0.length c0] ?_; (with_reducible refine (ak.calls k _ _ l0 t122 t123 t124 _ ?side1 ?side2 A2.out).mono ?_); (case side1 => repeat (first | exact (Kd.df HR0.out HB.out) | with_reducible first | refine Kd.bO ?_ _ | refine Kd.bL ?_ _ | refine Kd.cO ?_)); (case side2 => exact HC0.out); rintro e w' ⟨rfl, ⟨nd, rfl⟩⟩; refine ⟨_, rfl, ?_⟩; (try (rw [iZ w15]; generalize hq_ : World.drewN w15 _ = w15; have n0_ : aa (w15.heap[lH]? = some (.cells #[IV 0, IV 0] 25 (0, 0))) := ⟨by rw [← hq_]; exact (by exact iR.out)⟩; have n1_ : aa (Below w.heap.size w w15) := ⟨by rw [← hq_]; exact (by exact rud HB.out rfl rfl rfl rfl)⟩; clear iR HB hq_; revert n0_ n1_; intro iR HB)); obtain ⟨i016, hi016, _, hsz16, _⟩ := info_parts info5; obtain ⟨A16, hcut16, hA16, hC16⟩ := fV (P := Try.prog) (Value.int .u8) 0 29 5 .i64 Try.underlying29 hi016 hsz16 A0 c0 l0 t123 (of_decide_eq_true (by first | (with_reducible assumption) | assumption)) (of_decide_eq_true (by first | (with_reducible assumption) | assumption)) HC0.out; have HR125 := aa.mk (Kd.gQ (h1 := fun _ => rfl) (hA16 _ (Kd.gG HR0.out))); have HC125 := aa.mk hC16; clear hA16 hC16 hi016 hsz16) | ((with_reducible refine aA (f := 102) rfl ?_); refine goesL_ (some 22) rfl rfl Try.func102 (by kernel_rfl) rfl #[.slice A16 (l0.drop (t123 : Int).toNat).length (c0 - t123.toNat)] rfl (by (try simp only [lA, lC, lN]); first | done | (rw [show (l0.drop (t123 : Int).toNat).length = (l0.length - t123.toNat) from List.length_drop] <;> rfl) | rfl | (simp only [lD, lT]; rfl)) ?_; (with_reducible refine (ak.calls k _ _ (l0.drop (t123 : Int).toNat) t126 t127 t128 _ ?side1 ?side2 A6.out).mono ?_); (case side1 => repeat (first | exact (Kd.df HR125.out HB.out) | with_reducible first | refine Kd.bO ?_ _ | refine Kd.bL ?_ _ | refine Kd.cO ?_)); (case side2 => exact HC125.out); rintro e w' ⟨rfl, ⟨nd, rfl⟩⟩; refine ⟨_, rfl, ?_⟩; (try (rw [iZ w15]; generalize hq_ : World.drewN w15 _ = w15; have n0_ : aa (w15.heap[lH]? = some (.cells #[IV 0, IV 0] 25 (0, 0))) := ⟨by rw [← hq_]; exact (by exact iR.out)⟩; have n1_ : aa (Below w.heap.size w w15) := ⟨by rw [← hq_]; exact (by exact rud HB.out rfl rfl rfl rfl)⟩; clear iR HB hq_; revert n0_ n1_; intro iR HB)); have Ch_0 : w15.cell? ⟨lH, 0, none⟩ = some (IV 0) := (ai iR.out 0).trans rfl; have Ch_1 : w15.cell? ⟨lH, 1, none⟩ = some (IV 0) := (ai iR.out 1).trans rfl; have Fh_0 := ax iR.out 0; have Fh_1 := ax iR.out 1) | ((with_reducible refine aA (f := 103) rfl ?_); refine glq (some 34) Try.func103 #[.agg #[IV t122, IV t126]] ?_; (with_reducible refine (fq.calls t122 t126 false _ A8.out).mono ?_); rintro e w18 ⟨rfl, hb⟩; refine ⟨_, rfl, ?_⟩; have n0_ := aa.mk (aW (g := lH) (o := .cells #[IV t122, IV t126] 25 (0, 0)) (by exact LB.put2 iR.out) hb); have n1_ := aa.mk (av (by repeat (first | (with_reducible first | exact HB.out | apply aY | apply aH | apply aC | refine aI ?_ GE121.out) | exact HB.out)) hb); clear iR HB; revert n0_ n1_; intro iR HB; have Cj_0 : w18.cell? ⟨lH, 0, none⟩ = some (IV t122) := (ai iR.out 0).trans rfl; have Cj_1 : w18.cell? ⟨lH, 1, none⟩ = some (IV t126) := (ai iR.out 1).trans rfl; have Fj_0 := ax iR.out 0; have Fj_1 := ax iR.out 1));refine bodyPost_ret (iC rfl _ _ lH 25 #[IV 0, IV 0] (0, 0) _ rfl (by exact LB.put2 iR.out) Try.underlying25 rfl (by kernel_rfl)) rfl ?_;exact ⟨by first | rfl | (simp <;> rfl) | (simp [*] <;> rfl), by repeat (first | (with_reducible first | exact HB.out | apply aY | apply aH | apply aC | refine aI ?_ GE121.out) | exact HB.out)⟩
def bD.T1 : Bool × List (List Nat × List Nat) := (true, [([], []), ([0], [0]), ([1], [1]), ([2], [2]), ([], []), ([4], [4]), ([5], [5]), ([6], [6]), ([3, 7], [3, 7]), ([8], [8]), ([9], [9]), ([10], [10]), ([10], [10]), ([10], [10]), ([], []), ([14, 11, 9, 0, 1, 2, 3, 4, 5, 6, 7, 8, 9, 10, 11, 14], [11, 14]), ([12, 15, 0, 1, 2, 3, 4, 5, 6, 7, 8, 9, 10, 11, 12, 14, 15], [12]), ([13, 16, 0, 1, 2, 3, 4, 5, 6, 7, 8, 9, 10, 11, 12, 13, 14, 15, 16], [13])])
def bD.B1 : List Nat := [0, 1, 3, 7, 0, 16, 48, 112, 255, 511, 1023, 2047, 2047, 2047, 0, 20479, 57343, 131071]
theorem bD.tab1 : rtab .any (opsOf Try.f78 1) = bD.T1 := by kernel_rfl
theorem bD.bits1 : gY bD.T1.2 bD.B1 = true := by kernel_rfl
theorem bD.calls (k g : Nat) (s0_0 : List Int) (s0_1 s0_2 r1 r2 r3 r4 : Int) (w0 w : World) (hI : bF w0 w g s0_0 s0_1 s0_2) (hB : Below w0.heap.size w0 w) (h : bD.f k s0_0 s0_1 s0_2 = some (r1, r2, r3, r4)) :
  Calls Try.prog 78 #[.pointer (some ⟨g, 0, none⟩)] w fun e w' => e = .returned (.agg #[.int .i64 r1, .int .i64 r2]) ∧ bF w0 w' g s0_0 r3 r4 ∧ Below w0.heap.size w0 w' ∧ bG w w' g none := by
 have hu25 := Try.underlying25;have HI0 := aa.mk hI;have HK := aa.mk (bG.refl w g none);have HL := aa.mk hB.size;clear hI;have HW0 := aa.mk hB.size;have HB := aa.mk hB;clear hB;have H : (if 0 ≤ s0_1 then (if s0_1 ≤ (s0_0.length : Int) then ((fZ.f k (s0_0.drop (s0_1 : Int).toNat)).bind fun bt132 => ((dx.f s0_0 s0_1 s0_2 bt132.2.2.1 bt132.2.2.2).bind fun bt137 => (some (bt132.1, bt132.2.1, bt137.1, bt137.2)))) else (none)) else (none)) = some (r1, r2, r3, r4) := h;clear h;by_cases c2 : 0 ≤ s0_1;rotate_left
 ·rw [if_neg c2] at H
  exact absurd H (by simp)
 rw [if_pos c2] at H;have c2b0 := eq_true c2;have c2b1 : decide (0 ≤ s0_1) = true := decide_eq_true c2;clear c2;by_cases c3 : s0_1 ≤ (s0_0.length : Int);rotate_left
 ·rw [if_neg c3] at H
  exact absurd H (by simp)
 rw [if_pos c3] at H;have c3b0 := eq_true c3;have c3b1 : decide (s0_1 ≤ (s0_0.length : Int)) = true := decide_eq_true c3;clear c3;replace H := bsQ H;obtain ⟨⟨t132, t133, t134, t135⟩, A40, H⟩ := H;replace H : ((dx.f s0_0 s0_1 s0_2 t134 t135).bind fun bt137 => (some (t132, t133, bt137.1, bt137.2))) = some (r1, r2, r3, r4) := H;have A4 := aa.mk A40;clear A40;replace H := bsQ H;obtain ⟨⟨t137, t138⟩, A50, H⟩ := H;replace H : (some (t132, t133, t137, t138)) = some (r1, r2, r3, r4) := H;have A5 := aa.mk A50;clear A50;simp only [Option.some.injEq, Prod.mk.injEq] at H;obtain ⟨rfl, rfl, rfl, rfl⟩ := H;go_enter Try.func78, Try.ntmps78;try go_wp2_with (first | ((with_reducible refine bJ (N := 2) rfl ?_); refine bC ?hg (N := 2) ?hd (cs := #[IV 0, IV 0]) (t := 25) ?hr ?_; (case hd => rfl); (case hg => rfl); (case hr => first | (go_simp; done) | (go_simp; rfl)); intro gb130 hg w6 hbox hb; replace hb := rdu (W := w) hb rfl rfl rfl rfl; have n0_ := aa.mk (bF.below HI0.out hb); have n1_ := aa.mk (bG.trans HK.out (bG.of_below hb g none) (.inl rfl)); have n2_ := aa.mk (av HB.out hb); have n3_ := aa.mk (hbox); have n4_ := aa.mk ((by rw [hg]; exact (jv (w := w) (g := g) (row := none) HK.out) : w.heap.size ≤ gb130)); have n5_ := aa.mk ((Nat.le_trans HW0.out (by rw [hg]; exact (jv (w := w) (g := g) (row := none) HK.out) : w.heap.size ≤ gb130) : w0.heap.size ≤ gb130)); have n6_ := aa.mk ((by rw [hg]; exact Nat.ne_of_lt (bF.lt (show bF w0 _ g s0_0 s0_1 s0_2 from by exact HI0.out)) : g ≠ gb130)); have n7_ := aa.mk (Ne.symm n6_.out); clear HI0 HK HB; revert n0_ n1_ n2_ n3_ n4_ n5_ n6_ n7_; intro HI0 HK HB mD GW130 GE130 NB0_130 NB130_0; clear hb hbox hg))
 have n0_ := aa.mk (dW mD.out);have n1_ := aa.mk (bF.drew HI0.out);have n2_ := aa.mk (iO HK.out);have n3_ := aa.mk (aC HB.out);clear mD HI0 HK HB;revert n0_ n1_ n2_ n3_;intro mD HI0 HK HB;obtain ⟨ASz8_0, cSz8_0, HGz8, hgz8, HSz8_0, HcSz8_0⟩ := HI0.out;have C8_0 := kT HGz8;have C8_1 := kU HGz8;have C8_2 := kV HGz8;have F8_1 := ax HGz8 1;have F8_2 := ax HGz8 2;clear HGz8 hgz8;have hx98_0 := C8_0;clear C8_0;have hx98_1 := C8_1;clear C8_1;have hx98_2 := C8_2;clear C8_2;have HRSz8_0 := aa.mk HSz8_0;have HCSz8_0 := aa.mk HcSz8_0;obtain ⟨i09, hi09, _, hsz9, _⟩ := info_parts info5;obtain ⟨A9, hcut9, hA9, hC9⟩ := fV (P := Try.prog) (Value.int .u8) 0 29 5 .i64 Try.underlying29 hi09 hsz9 ASz8_0 cSz8_0 s0_0 s0_1 (of_decide_eq_true (by first | (with_reducible assumption) | assumption)) (of_decide_eq_true (by first | (with_reducible assumption) | assumption)) HCSz8_0.out;have HR131 := aa.mk (Kd.gQ (h1 := fun _ => rfl) (hA9 _ (Kd.gG HRSz8_0.out)));have HC131 := aa.mk hC9;clear hA9 hC9 hi09 hsz9;refine gW (n := 18) (S := fun w' => w'.cell? ⟨g, 0, none⟩ = some (.slice ASz8_0 s0_0.length cSz8_0) ∧ w'.cell? ⟨g, 1, none⟩ = some (IV s0_1) ∧ w'.cell? ⟨g, 2, none⟩ = some (IV s0_2)) (ds := []) (rbs 18 0) (by kernel_rfl) rfl rfl ⟨hx98_0, hx98_1, hx98_2⟩ (fun hHeld => ?_); refine dQ bD.tab1 bD.bits1 (fun HT_ HW_ => ?_);generalize w6.drew = w7 at mD HI0 HK HB HR131 hx98_0 hx98_1 hx98_2 hHeld ⊢;apply rqu 0 7 18 1;apply rqu 1 8 18 3;apply rqu 2 9 18 7;apply rqu 4 11 18 23;apply rqu 5 12 18 55;apply rqu 6 13 18 119;apply mq 3 10 18 127;apply mq 7 14 18 255;apply rqu 8 15 18 511;refine join_ (σ := Nat) 3 (rbs 18 32767) (fun s_ => [(16, .tuple #[.agg #[IV t132, IV t133], IV t134, IV t135]), (3, .pointer (some ⟨s_, 0, none⟩)), (6, .tuple #[.agg #[IV t132, IV t133], IV t134, IV t135]), (17, .agg #[IV t132, IV t133]), (18, IV t134), (19, IV t135)]) (fun s_ w' => (w'.cell? ⟨g, 0, none⟩ = some (.slice ASz8_0 s0_0.length cSz8_0) ∧ w'.cell? ⟨g, 1, none⟩ = some (IV s0_1) ∧ w'.cell? ⟨g, 2, none⟩ = some (IV s0_2)) ∧ (w'.heap[gb130]? = some (.cells #[IV 0, IV 0] 25 (0, 0))) ∧ (w'.heap[s_]? = some (.cells #[IV 0, IV 0] 25 (0, 0))) ∧ (w.heap.size ≤ s_) ∧ (w0.heap.size ≤ s_) ∧ (g ≠ s_) ∧ (s_ ≠ g) ∧ (gb130 ≠ s_) ∧ (s_ ≠ gb130) ∧ (bF w0 w' g s0_0 s0_1 s0_2) ∧ (bG w w' g none) ∧ (Below w0.heap.size w0 w')) ?_ ?_;rotate_left
 ·intro hCont
  refine two_ (i := 9) (j := 14) (Ni := some 16) (Nj := some 3) (rbs 18 1023) (rbs 18 16895) rfl rfl rfl rfl (two_of HT_.out (by kernel_rfl)) (by decide) (by decide) (fun K hK => ?_) (fun K hK => ?_)
  ·skip
   refine goes_ Try.func100 (by kernel_rfl) rfl #[.slice A9 (s0_0.drop (s0_1 : Int).toNat).length (cSz8_0 - s0_1.toNat)] (by rfl) rfl rfl (by (try simp only [lA, lC, lN]); first | done | (rw [show (s0_0.drop (s0_1 : Int).toNat).length = (s0_0.length - s0_1.toNat) from List.length_drop] <;> rfl) | rfl | (simp only [lD, lT]; rfl)) ?_;with_reducible refine (fZ.calls k _ _ (s0_0.drop (s0_1 : Int).toNat) t132 t133 t134 t135 _ ?side1 ?side2 A4.out).mono ?_
   (case side1 => exact Kd.df HR131.out (by exact rud HB.out rfl rfl rfl rfl));(case side2 => exact HC131.out);rintro e w10 ⟨rfl, hb⟩;have HS0_ := (hb.cell (World.block_lt_of_cell? _ _ (hHeld.1))).trans (hHeld.1);have HS1_ := (hb.cell (World.block_lt_of_cell? _ _ (hHeld.2.1))).trans (hHeld.2.1);have HS2_ := (hb.cell (World.block_lt_of_cell? _ _ (hHeld.2.2))).trans (hHeld.2.2);refine ⟨_, rfl, ?_⟩;replace hb := rdu (W := w7) hb rfl rfl rfl rfl;have n0_ := aa.mk (bF.below HI0.out hb);have n1_ := aa.mk (aW mD.out hb);have n2_ := aa.mk (bG.trans HK.out (bG.of_below hb g none) (.inl rfl));have n3_ := aa.mk (av HB.out hb);clear HI0 mD HK HB;revert n0_ n1_ n2_ n3_;intro HI0 mD HK HB;refine hK.out _ _ ⟨HS0_, HS1_, HS2_⟩ (fun hHeld => ?_);clear hK K;refine gF (a' := ?_) ?_ ?_;rotate_left
   ·show Act.put _ (some 16) _ = _
    simp only [pS];rfl
   apply rqu 10 6 18 2047;apply rqu 11 17 18 4095;apply rqu 12 18 18 8191;apply rqu 13 19 18 16383;refine onq 14 (some 3) 18 32767 (fun K hK => ?_);refine box_step ?hg (N := 3) ?hd (cs := #[IV 0, IV 0]) (t := 25) ?hr ?_; (case hd => rfl); (case hg => rfl); (case hr => first | (go_simp; done) | (go_simp; rfl));intro mE hg w11 hbox hb;have HS0_ := (hb.cell (World.block_lt_of_cell? _ _ (hHeld.1))).trans (hHeld.1);have HS1_ := (hb.cell (World.block_lt_of_cell? _ _ (hHeld.2.1))).trans (hHeld.2.1);have HS2_ := (hb.cell (World.block_lt_of_cell? _ _ (hHeld.2.2))).trans (hHeld.2.2);replace hb := rdu (W := w10) hb rfl rfl rfl rfl;have n0_ := aa.mk (bF.below HI0.out hb);have n1_ := aa.mk (aW mD.out hb);have n2_ := aa.mk (bG.trans HK.out (bG.of_below hb g none) (.inl rfl));have n3_ := aa.mk (av HB.out hb);have n4_ := aa.mk (hbox);have n5_ := aa.mk ((by rw [hg]; exact (jv (w := w) (g := g) (row := none) HK.out) : w.heap.size ≤ mE));have n6_ := aa.mk ((Nat.le_trans HW0.out (by rw [hg]; exact (jv (w := w) (g := g) (row := none) HK.out) : w.heap.size ≤ mE) : w0.heap.size ≤ mE));have n7_ := aa.mk ((by rw [hg]; exact Nat.ne_of_lt (iK mD.out) : gb130 ≠ mE));have n8_ := aa.mk (Ne.symm n7_.out);have n9_ := aa.mk ((by rw [hg]; exact Nat.ne_of_lt (bF.lt (show bF w0 _ g s0_0 s0_1 s0_2 from by exact HI0.out)) : g ≠ mE));have n10_ := aa.mk (Ne.symm n9_.out);clear HI0 mD HK HB;revert n0_ n1_ n2_ n3_ n4_ n5_ n6_ n7_ n8_ n9_ n10_;intro HI0 mD HK HB BK136 GW136 GE136 NB130_136 NB136_130 kz NB136_0;clear hb hbox hg;refine hK.out _ _ ⟨HS0_, HS1_, HS2_⟩ (fun hHeld => ?_);clear hK K;refine gF (a' := ?_) ?_ ?_;rotate_left
   ·show Act.put _ (some 3) _ = _
    simp only [pS];rfl
   exact gF (by simp only [putAll, Act.put, sT, sZ, sS]) (hCont (mE) _ ⟨hHeld, (by exact mD.out), (by exact BK136.out), GW136.out, GE136.out, kz.out, NB136_0.out, NB130_136.out, NB136_130.out, (by exact HI0.out), (by exact HK.out), (by exact rud HB.out rfl rfl rfl rfl)⟩)
  skip;refine box_step ?hg (N := 3) ?hd (cs := #[IV 0, IV 0]) (t := 25) ?hr ?_; (case hd => rfl); (case hg => rfl); (case hr => first | (go_simp; done) | (go_simp; rfl));intro mE hg w10 hbox hb;have HS0_ := (hb.cell (World.block_lt_of_cell? _ _ (hHeld.1))).trans (hHeld.1);have HS1_ := (hb.cell (World.block_lt_of_cell? _ _ (hHeld.2.1))).trans (hHeld.2.1);have HS2_ := (hb.cell (World.block_lt_of_cell? _ _ (hHeld.2.2))).trans (hHeld.2.2);replace hb := rdu (W := w7) hb rfl rfl rfl rfl;have n0_ := aa.mk (bF.below HI0.out hb);have n1_ := aa.mk (aW mD.out hb);have n2_ := aa.mk (bG.trans HK.out (bG.of_below hb g none) (.inl rfl));have n3_ := aa.mk (av HB.out hb);have n4_ := aa.mk (hbox);have n5_ := aa.mk ((by rw [hg]; exact (jv (w := w) (g := g) (row := none) HK.out) : w.heap.size ≤ mE));have n6_ := aa.mk ((Nat.le_trans HW0.out (by rw [hg]; exact (jv (w := w) (g := g) (row := none) HK.out) : w.heap.size ≤ mE) : w0.heap.size ≤ mE));have n7_ := aa.mk ((by rw [hg]; exact Nat.ne_of_lt (iK mD.out) : gb130 ≠ mE));have n8_ := aa.mk (Ne.symm n7_.out);have n9_ := aa.mk ((by rw [hg]; exact Nat.ne_of_lt (bF.lt (show bF w0 _ g s0_0 s0_1 s0_2 from by exact HI0.out)) : g ≠ mE));have n10_ := aa.mk (Ne.symm n9_.out);clear HI0 mD HK HB;revert n0_ n1_ n2_ n3_ n4_ n5_ n6_ n7_ n8_ n9_ n10_;intro HI0 mD HK HB BK136 GW136 GE136 NB130_136 NB136_130 kz NB136_0;clear hb hbox hg;refine hK.out _ _ ⟨HS0_, HS1_, HS2_⟩ (fun hHeld => ?_);clear hK K;refine gF (a' := ?_) ?_ ?_;rotate_left
  ·show Act.put _ (some 3) _ = _
   simp only [pS];rfl
  refine onq 9 (some 16) 18 17407 (fun K hK => ?_);refine goes_ Try.func100 (by kernel_rfl) rfl #[.slice A9 (s0_0.drop (s0_1 : Int).toNat).length (cSz8_0 - s0_1.toNat)] (by rfl) rfl rfl (by (try simp only [lA, lC, lN]); first | done | (rw [show (s0_0.drop (s0_1 : Int).toNat).length = (s0_0.length - s0_1.toNat) from List.length_drop] <;> rfl) | rfl | (simp only [lD, lT]; rfl)) ?_;with_reducible refine (fZ.calls k _ _ (s0_0.drop (s0_1 : Int).toNat) t132 t133 t134 t135 _ ?side1 ?side2 A4.out).mono ?_
  (case side1 => exact Kd.df HR131.out (by exact rud HB.out rfl rfl rfl rfl));(case side2 => exact HC131.out);rintro e w11 ⟨rfl, hb⟩;have HS0_ := (hb.cell (World.block_lt_of_cell? _ _ (hHeld.1))).trans (hHeld.1);have HS1_ := (hb.cell (World.block_lt_of_cell? _ _ (hHeld.2.1))).trans (hHeld.2.1);have HS2_ := (hb.cell (World.block_lt_of_cell? _ _ (hHeld.2.2))).trans (hHeld.2.2);refine ⟨_, rfl, ?_⟩;replace hb := rdu (W := w10) hb rfl rfl rfl rfl;have n0_ := aa.mk (bF.below HI0.out hb);have n1_ := aa.mk (aW mD.out hb);have n2_ := aa.mk (aW BK136.out hb);have n3_ := aa.mk (bG.trans HK.out (bG.of_below hb g none) (.inl rfl));have n4_ := aa.mk (av HB.out hb);clear HI0 mD BK136 HK HB;revert n0_ n1_ n2_ n3_ n4_;intro HI0 mD BK136 HK HB;refine hK.out _ _ ⟨HS0_, HS1_, HS2_⟩ (fun hHeld => ?_);clear hK K;refine gF (a' := ?_) ?_ ?_;rotate_left
  ·show Act.put _ (some 16) _ = _
   simp only [pS];rfl
  apply rqu 10 6 18 18431;apply rqu 11 17 18 20479;apply rqu 12 18 18 24575;apply rqu 13 19 18 32767;exact gF (by simp only [putAll, Act.put, sT, sZ, sS]) (hCont (mE) _ ⟨hHeld, (by exact mD.out), (by exact BK136.out), GW136.out, GE136.out, kz.out, NB136_0.out, NB130_136.out, NB136_130.out, (by exact HI0.out), (by exact HK.out), (by exact rud HB.out rfl rfl rfl rfl)⟩)
 rintro mE w12 ⟨hS_, h0_, h1_, h2_, h3_, h4_, h5_, h6_, h7_, h8_, h9_, h10_⟩;have n0_ : aa (w12.heap[gb130]? = some (.cells #[IV 0, IV 0] 25 (0, 0))) := ⟨h0_⟩
 have n1_ : aa (w12.heap[mE]? = some (.cells #[IV 0, IV 0] 25 (0, 0))) := ⟨h1_⟩
 have n2_ : aa (w.heap.size ≤ mE) := ⟨h2_⟩
 have n3_ : aa (w0.heap.size ≤ mE) := ⟨h3_⟩
 have n4_ : aa (g ≠ mE) := ⟨h4_⟩
 have n5_ : aa (mE ≠ g) := ⟨h5_⟩
 have n6_ : aa (gb130 ≠ mE) := ⟨h6_⟩
 have n7_ : aa (mE ≠ gb130) := ⟨h7_⟩
 have n8_ : aa (bF w0 w12 g s0_0 s0_1 s0_2) := ⟨h8_⟩
 have n9_ : aa (bG w w12 g none) := ⟨h9_⟩
 have n10_ : aa (Below w0.heap.size w0 w12) := ⟨h10_⟩
 clear mD HI0 HK HB h0_ h1_ h2_ h3_ h4_ h5_ h6_ h7_ h8_ h9_ h10_;revert n0_ n1_ n2_ n3_ n4_ n5_ n6_ n7_ n8_ n9_ n10_;intro mD BK136 GW136 GE136 kz NB136_0 NB130_136 NB136_130 HI0 HK HB;have hHeld : w12.cell? ⟨g, 0, none⟩ = some (.slice ASz8_0 s0_0.length cSz8_0) ∧ w12.cell? ⟨g, 1, none⟩ = some (IV s0_1) ∧ w12.cell? ⟨g, 2, none⟩ = some (IV s0_2) := hS_;refine gF (a' := ?_) ?_ ?_;rotate_left
 ·simp only [putAll, Act.put, sT, sZ, sS]
  rfl
 refine onq 15 none 18 65535 (fun K hK => ?_);have hs13 : w12.cell? ⟨mE, 0, none⟩ = some (IV 0) := (ai BK136.out 0).trans rfl;have hfs13 := ax BK136.out 0;have hns13_0 := NB130_136.out;have hms13_0 := NB136_130.out;have hs14 : w12.cell? ⟨mE, 1, none⟩ = some (IV 0) := (ai BK136.out 1).trans rfl;have hfs14 := ax BK136.out 1;have hns14_0 := NB130_136.out;have hms14_0 := NB136_130.out;refine skip_ (w1 := ?_) (by rfl) rfl ?_ ?_;rotate_left
 ·go_simp
  rfl
 refine hK.out _ _ ⟨((LB.far2 (g := mE) (by first | exact kz.out | (rw [add_block]; exact kz.out) | (show (Addr.add _ _).block ≠ _; rw [add_block]; exact kz.out) | (dsimp only; exact kz.out))).trans (hHeld.1)), ((LB.far2 (g := mE) (by first | exact kz.out | (rw [add_block]; exact kz.out) | (show (Addr.add _ _).block ≠ _; rw [add_block]; exact kz.out) | (dsimp only; exact kz.out))).trans (hHeld.2.1)), ((LB.far2 (g := mE) (by first | exact kz.out | (rw [add_block]; exact kz.out) | (show (Addr.add _ _).block ≠ _; rw [add_block]; exact kz.out) | (dsimp only; exact kz.out))).trans (hHeld.2.2))⟩ (fun hHeld => ?_);clear hK K;apply rqu 16 4 18 131071;apply rqu 17 5 18 262143;refine jR (gm HT_.out (by kernel_rfl)) ?_;try go_wp2_with (first | ((with_reducible refine aA (f := 80) rfl ?_); refine glq (some 23) Try.func80 #[.pointer (some ⟨g, 0, none⟩), IV t134, IV t135] ?_; (with_reducible refine (dx.calls g s0_0 s0_1 s0_2 t134 t135 t137 t138 w0 _ ?side1 ?side2 A5.out).mono ?_); (case side1 => repeat (first | (with_reducible first | exact HI0.out | apply bF.alloc | apply bF.drewN | apply bF.drew | apply bF.ku | apply bF.kv | apply bF.far (hne := NB0_130.out) | apply bF.far (hne := kz.out)) | exact HI0.out)); (case side2 => repeat (first | (with_reducible first | exact HB.out | apply aY | apply aH | apply aC | refine aI ?_ (bF.ge HI0.out) | refine aI ?_ GE130.out | refine aI ?_ GE136.out) | exact HB.out)); rintro e w15 ⟨rfl, hi, hb, hk⟩; refine ⟨_, rfl, ?_⟩; have n0_ := aa.mk (bG.blk hk (g' := gb130) (o := .cells #[IV 0, IV 0] 25 (0, 0)) (by refine LB.bfar2 (sb := mE) ?_ NB130_136.out; exact mD.out) NB130_0.out (by simp)); have n1_ := aa.mk (bG.blk hk (g' := mE) (o := .cells #[IV t132, IV t133] 25 (0, 0)) (by exact LB.put2 BK136.out) NB136_0.out (by simp)); have n2_ := aa.mk (bG.trans (by repeat (first | (with_reducible first | exact HK.out | apply bG.set_ | apply jc | apply iO | apply jb | refine kg ?_ GW130.out _ | refine kg ?_ GW136.out _) | exact HK.out)) hk (.inl rfl)); have n3_ := aa.mk (hb); have n4_ := aa.mk (hi); clear mD BK136 HK HB HI0; revert n0_ n1_ n2_ n3_ n4_; intro mD BK136 HK HB HI0; have hnb16 := NB136_130.out; have hnc16 := NB130_136.out; have hnb17 := NB136_0.out; have hnc17 := kz.out; have Ci_0 : w15.cell? ⟨mE, 0, none⟩ = some (IV t132) := (ai BK136.out 0).trans rfl; have Ci_1 : w15.cell? ⟨mE, 1, none⟩ = some (IV t133) := (ai BK136.out 1).trans rfl; have Fi_0 := ax BK136.out 0; have Fi_1 := ax BK136.out 1; have hnb19 := NB130_0.out; have hnc19 := NB0_130.out; have Ck_0 : w15.cell? ⟨gb130, 0, none⟩ = some (IV 0) := (ai mD.out 0).trans rfl; have Ck_1 : w15.cell? ⟨gb130, 1, none⟩ = some (IV 0) := (ai mD.out 1).trans rfl; have Fk_0 := ax mD.out 0; have Fk_1 := ax mD.out 1))
 refine bodyPost_ret (results_cell_row rfl _ _ gb130 25 #[IV t132, IV t133] (0, 0) _ rfl (by exact LB.put2 mD.out) Try.underlying25 rfl (by kernel_rfl)) rfl ?_;exact ⟨by first | rfl | (simp <;> rfl) | (simp [*] <;> rfl), by repeat (first | (with_reducible first | exact HI0.out | apply bF.alloc | apply bF.drewN | apply bF.drew | apply bF.ku | apply bF.kv | apply bF.far (hne := NB0_130.out) | apply bF.far (hne := kz.out)) | exact HI0.out), by repeat (first | (with_reducible first | exact HB.out | apply aY | apply aH | apply aC | refine aI ?_ (bF.ge HI0.out) | refine aI ?_ GE130.out | refine aI ?_ GE136.out) | exact HB.out), by repeat (first | (with_reducible first | exact HK.out | apply bG.set_ | apply jc | apply iO | apply jb | refine kg ?_ GW130.out _ | refine kg ?_ GW136.out _) | exact HK.out)⟩
theorem dP.calls (k : Nat) (A0 : Option Addr) (c0 : Nat) (l0 : List Int) (r : Bool) (w : World) (hr0 : Kd.C (Kd.int .i64) w A0 l0.length l0) (hc0 : l0.length ≤ c0) (h : dP.f k l0 = some r) :
  Calls Try.prog 84 #[.slice A0 l0.length c0] w fun e w' => e = .returned (.bool r) ∧ bv w w' := by
 have HR0 := aa.mk hr0;have HC0 := aa.mk hc0;clear hr0 hc0;have H : (dP.l0 k l0 0) = some r := h;clear h;have H' := aa.mk H;clear H;go_enter Try.func84, Try.ntmps84;go_wp2;refine LB.mr 0 rfl ?_;intro G0_ hG0_;go_wp2;refine LB.wp_label_ghost (fun t_ d_ kq a_ w' => ∃ (u2 u3 u4 u5 u6 u7 u8 u9 u10 u11 u12 u13 u14 u15 u16 u17 u18 u19 u20 u21 u22 u23 u24 u25 u26 u27 : Value), (∃ (x3_1 : Int), u3 = IV x3_1 ∧ aa (dP.l0 kq l0 x3_1 = some r) ∧ aa (kq ≤ k) ∧ bv w w') ∧ a_ = ⟨#[LB.tget t_ 0, LB.tget t_ 1, u2, u3, u4, u5, u6, u7, u8, u9, u10, u11, u12, u13, u14, u15, u16, u17, u18, u19, u20, u21, u22, u23, u24, u25, u26, u27], d_⟩) k ‹_› hG0_ ?atStart ?round
 case atStart =>
  (try dsimp only);(repeat apply Exists.intro);refine ⟨?rel0, rfl⟩;exact ⟨(0), (by first | rfl | (simp; done) | (simp [*]; done)), H', ⟨Nat.le_refl _⟩, by repeat (first | exact bv.refl _ | apply bv.step)⟩
 case round =>
  intro gk a_ wr hinv;(try dsimp only at hinv);obtain ⟨u2, u3, u4, u5, u6, u7, u8, u9, u10, u11, u12, u13, u14, u15, u16, u17, u18, u19, u20, u21, u22, u23, u24, u25, u26, u27, hrel, rfl⟩ := hinv;intro J_ hJ_ hGJ_;clear hG0_;dsimp only [LB.tget, List.getD_cons_succ, List.getD_cons_zero] at hJ_ ⊢;clear H';obtain ⟨x3_1, rfl, HA, HK1, ⟨m1, rfl⟩⟩ := hrel;cases gk with
  | zero => exact absurd HA.out (by simp [dP.l0])
  | succ k1 =>
   have H := HA.out;clear HA;simp only [dP.l0] at H;by_cases c2 : x3_1 = (l0.length : Int)
   ·rw [if_pos c2] at H
    obtain ⟨c2b0, c2b1⟩ := eqQ c2;clear c2;by_cases c3 : x3_1 ≥ 1
    ·rw [if_pos c3] at H
     have c3b0 : decide (1 ≤ x3_1) = true := decide_eq_true c3;clear c3;obtain rfl := Option.some.inj H;go_wp2;(try simp only [Exit.then, Exit.inBlock, LB.Goes.here, LB.Goes.ret, Exit.noGoto_ret]);go_ret;exact ⟨by first | rfl | (simp; done) | (simp [*]; done), by repeat (first | exact bv.refl _ | apply bv.step)⟩
    ·rw [if_neg c3] at H
     have c3b0 : decide (1 ≤ x3_1) = false := decide_eq_false c3;clear c3;obtain rfl := Option.some.inj H;go_wp2;(try simp only [Exit.then, Exit.inBlock, LB.Goes.here, LB.Goes.ret, Exit.noGoto_ret]);go_ret;exact ⟨by first | rfl | (simp; done) | (simp [*]; done), by repeat (first | exact bv.refl _ | apply bv.step)⟩
   ·rw [if_neg c2] at H
    obtain ⟨c2b0, c2b1⟩ := neQ c2;by_cases c4 : 0 ≤ x3_1
    ·rw [if_pos c4] at H
     have c4b0 : decide (0 ≤ x3_1) = true := decide_eq_true c4;clear c4;by_cases c5 : x3_1 < (l0.length : Int)
     ·rw [if_pos c5] at H
      have c5b0 : decide (x3_1 < (l0.length : Int)) = true := decide_eq_true c5;clear c5;by_cases c6 : (rd l0 x3_1) ≥ 0
      ·rw [if_pos c6] at H
       have c6b0 : decide (0 ≤ (rd l0 x3_1)) = true := decide_eq_true c6;clear c6;by_cases c7 : (rd l0 x3_1) ≤ 1099511627776
       ·rw [if_pos c7] at H
        have c7b0 : decide ((rd l0 x3_1) ≤ 1099511627776) = true := decide_eq_true c7;clear c7;have H' := aa.mk H;clear H;have p139 : 0 ≤ (x3_1 : Int) := of_decide_eq_true (by first | (with_reducible assumption) | assumption);have q139 : x3_1 < (l0.length : Int) := of_decide_eq_true (by first | (with_reducible assumption) | assumption);obtain ⟨ad139, e139, hx139_0⟩ := Kd.iJ HR0.out x3_1 p139 q139;cases e139
        replace p139 := eq_true p139;replace q139 := eq_true q139;have p140 : 0 ≤ (x3_1 : Int) := of_decide_eq_true (by first | (with_reducible assumption) | assumption);have q140 : x3_1 < (l0.length : Int) := of_decide_eq_true (by first | (with_reducible assumption) | assumption);obtain ⟨ad140, e140, hx140_0⟩ := Kd.iJ HR0.out x3_1 p140 q140;obtain rfl : ad139 = ad140 := (by injection e140)
        replace p140 := eq_true p140;replace q140 := eq_true q140;go_wp2;go_step3;(try simp only [Exit.then, Exit.inBlock]);(first | simp only [LB.Goes.here] | (rw [LB.Goes.there (by decide)]; simp only [LB.Goes.here]));go_step;go_roundg k1
        case measure => have := HK1.out; omega
        case rel => exact ⟨(wrap64 (x3_1 + 1)), (by first | rfl | (simp; done) | (simp [*]; done)), H', ⟨by have := HK1.out; omega⟩, by repeat (first | exact bv.refl _ | apply bv.step)⟩
       ·rw [if_neg c7] at H
        have c7b0 : decide ((rd l0 x3_1) ≤ 1099511627776) = false := decide_eq_false c7;clear c7;obtain rfl := Option.some.inj H;have p139 : 0 ≤ (x3_1 : Int) := of_decide_eq_true (by first | (with_reducible assumption) | assumption);have q139 : x3_1 < (l0.length : Int) := of_decide_eq_true (by first | (with_reducible assumption) | assumption);obtain ⟨ad139, e139, hx139_0⟩ := Kd.iJ HR0.out x3_1 p139 q139;cases e139
        replace p139 := eq_true p139;replace q139 := eq_true q139;have p140 : 0 ≤ (x3_1 : Int) := of_decide_eq_true (by first | (with_reducible assumption) | assumption);have q140 : x3_1 < (l0.length : Int) := of_decide_eq_true (by first | (with_reducible assumption) | assumption);obtain ⟨ad140, e140, hx140_0⟩ := Kd.iJ HR0.out x3_1 p140 q140;obtain rfl : ad139 = ad140 := (by injection e140)
        replace p140 := eq_true p140;replace q140 := eq_true q140;go_wp2;(try simp only [Exit.then, Exit.inBlock, LB.Goes.here, LB.Goes.ret, Exit.noGoto_ret]);go_ret;exact ⟨by first | rfl | (simp; done) | (simp [*]; done), by repeat (first | exact bv.refl _ | apply bv.step)⟩
      ·rw [if_neg c6] at H
       have c6b0 : decide (0 ≤ (rd l0 x3_1)) = false := decide_eq_false c6;clear c6;obtain rfl := Option.some.inj H;have p139 : 0 ≤ (x3_1 : Int) := of_decide_eq_true (by first | (with_reducible assumption) | assumption);have q139 : x3_1 < (l0.length : Int) := of_decide_eq_true (by first | (with_reducible assumption) | assumption);obtain ⟨ad139, e139, hx139_0⟩ := Kd.iJ HR0.out x3_1 p139 q139;cases e139
       replace p139 := eq_true p139;replace q139 := eq_true q139;go_wp2;(try simp only [Exit.then, Exit.inBlock, LB.Goes.here, LB.Goes.ret, Exit.noGoto_ret]);go_ret;exact ⟨by first | rfl | (simp; done) | (simp [*]; done), by repeat (first | exact bv.refl _ | apply bv.step)⟩
     ·rw [if_neg c5] at H
      exact absurd H (by simp)
    ·rw [if_neg c4] at H
     exact absurd H (by simp)
theorem bB.calls (k : Nat) (A0 : Option Addr) (c0 : Nat) (l0 r1 : List Int) (r2 r3 : Int) (w : World) (hr0 : Kd.C (Kd.int .u8) w A0 l0.length l0) (hc0 : l0.length ≤ c0) (h : bB.f k l0 = some (r1, r2, r3)) :
  Calls Try.prog 101 #[.slice A0 l0.length c0] w fun e w' => ∃ v0_ : Value, e = .returned (.tuple #[v0_, .int .i64 r2, .int .i64 r3]) ∧ Kd.R (Kd.int .i64) 3 w' w.heap.size (fun _ => True) v0_ r1 ∧ Below w.heap.size w w' := by
 have HR0 := aa.mk hr0;have HC0 := aa.mk hc0;clear hr0 hc0;have HB := aa.mk (Below.refl w.heap.size w);have H : ((ak.f k l0).bind fun bt141 => (if bt141.2.2 = 0 then (if bt141.1 > 1024 then (some (([] : List Int), 0, 1)) else (bB.l0 k l0 ([] : List Int) bt141.2.1 bt141.1 0)) else (some (([] : List Int), 0, bt141.2.2)))) = some (r1, r2, r3) := h;clear h;replace H := bsQ H;obtain ⟨⟨t141, t142, t143⟩, A20, H⟩ := H;(try dsimp only at H);have A2 := aa.mk A20;clear A20;by_cases c3 : t143 = 0
 ·rw [if_pos c3] at H
  obtain ⟨c3b0, c3b1⟩ := eqQ c3;clear c3;by_cases c4 : t141 > 1024
  ·rw [if_pos c4] at H
   have c4b0 : decide (1024 < t141) = true := decide_eq_true c4;clear c4;simp only [Option.some.injEq, Prod.mk.injEq] at H;obtain ⟨rfl, rfl, rfl⟩ := H;go_enter Try.func101, Try.ntmps101;go_wp2_with (first | ((with_reducible refine aA (f := 102) rfl ?_); refine glq (some 11) Try.func102 #[.slice A0 l0.length c0] ?_; (with_reducible refine (ak.calls k _ _ l0 t141 t142 t143 _ ?side1 ?side2 A2.out).mono ?_); (case side1 => repeat (first | exact HR0.out | with_reducible first | refine Kd.bO ?_ _ | refine Kd.bL ?_ _ | refine Kd.cO ?_)); (case side2 => exact HC0.out); rintro e w' ⟨rfl, ⟨nd, rfl⟩⟩; refine ⟨_, rfl, ?_⟩));go_ret3;exact ⟨_, by first | rfl | (simp <;> rfl) | (simp [*] <;> rfl), by first | exact Kd.R_nil _ _ _ _ _ | exact Kd.N_nil _ _ _ _ _ | exact Kd.V_nil _ _ _ _ _ | exact Kd.Q_nil _ _ _ _ _ | exact Kd.S_nil _ _ _ _ _, by exact rud HB.out rfl rfl rfl rfl⟩
  ·rw [if_neg c4] at H
   have c4b0 : decide (1024 < t141) = false := decide_eq_false c4;clear c4;have H' := aa.mk H;clear H;go_enter Try.func101, Try.ntmps101;go_wp2_with (first | ((with_reducible refine aA (f := 102) rfl ?_); refine glq (some 11) Try.func102 #[.slice A0 l0.length c0] ?_; (with_reducible refine (ak.calls k _ _ l0 t141 t142 t143 _ ?side1 ?side2 A2.out).mono ?_); (case side1 => repeat (first | exact HR0.out | with_reducible first | refine Kd.bO ?_ _ | refine Kd.bL ?_ _ | refine Kd.cO ?_)); (case side2 => exact HC0.out); rintro e w' ⟨rfl, ⟨nd, rfl⟩⟩; refine ⟨_, rfl, ?_⟩));go_loopg [2, 3, 21] k (fun kq v2 v3 v21 w' => ∃ (x2_1 : List Int) (x3_1 : Int) (x21_1 : Int), v3 = IV x3_1 ∧ v21 = IV x21_1 ∧ aa (bB.l0 kq l0 x2_1 x3_1 t141 x21_1 = some (r1, r2, r3)) ∧ aa (kq ≤ k) ∧ aa (Kd.R (Kd.int .i64) 3 w' w.heap.size (fun _ => True) v2 x2_1) ∧ aa (Below w.heap.size w w'))
   case atStart => exact ⟨(([] : List Int)), (t142), (0), (by first | rfl | (simp; done) | (simp [*]; done)), (by first | rfl | (simp; done) | (simp [*]; done)), H', ⟨Nat.le_refl _⟩, ⟨by first | exact Kd.R_nil _ _ _ _ _ | exact Kd.N_nil _ _ _ _ _ | exact Kd.V_nil _ _ _ _ _ | exact Kd.Q_nil _ _ _ _ _ | exact Kd.S_nil _ _ _ _ _⟩, ⟨by exact rud HB.out rfl rfl rfl rfl⟩⟩
   case round =>
    clear H';(try clear c1 p2 c3 c3b0 c3b1 c4 c4b0);obtain ⟨x2_1, x3_1, x21_1, rfl, rfl, HA, HK1, HO_2, HB⟩ := hrel;cases gk with
    | zero => exact absurd HA.out (by simp [bB.l0])
    | succ k1 =>
     have H := HA.out;clear HA;simp only [bB.l0] at H;by_cases c5 : x21_1 < t141
     ·rw [if_pos c5] at H
      have c5b0 : decide (x21_1 < t141) = true := decide_eq_true c5;clear c5;by_cases c6 : 0 ≤ x3_1
      ·rw [if_pos c6] at H
       have c6b0 := eq_true c6;have c6b1 : decide (0 ≤ x3_1) = true := decide_eq_true c6;clear c6;by_cases c7 : x3_1 ≤ (l0.length : Int)
       ·rw [if_pos c7] at H
        have c7b0 := eq_true c7;have c7b1 : decide (x3_1 ≤ (l0.length : Int)) = true := decide_eq_true c7;clear c7;replace H := bsQ H;obtain ⟨⟨t145, t146, t147⟩, A80, H⟩ := H;(try dsimp only at H);have A8 := aa.mk A80;clear A80;by_cases c9 : t147 = 0
        ·rw [if_pos c9] at H
         obtain ⟨c9b0, c9b1⟩ := eqQ c9;clear c9;by_cases c10 : x2_1.length < 17592186044416
         ·rw [if_pos c10] at H
          have LMc10 := aa.mk c10;clear c10;obtain ⟨y148, hy148⟩ : ∃ y_ : List Int, y_ = (x2_1 ++ [t145]) := ⟨_, rfl⟩
          replace H : (bB.l0 k1 l0 y148 (wrap64 (x3_1 + t146)) t141 (wrap64 (x21_1 + 1))) = some (r1, r2, r3) := by first | (rw [hy148]; with_reducible exact H) | (have H2_ := (Option.bind_some _ _).symm.trans H; rw [hy148]; with_reducible exact H2_) | (have H2_ := (Option.bind_some _ _).symm.trans H; with_reducible exact H2_) | with_reducible exact H | (rw [hy148]; exact H) | exact H
          have Ny148 := aa.mk hy148;clear hy148;have H' := aa.mk H;clear H;obtain ⟨i011, hi011, _, hsz11, _⟩ := info_parts info5;obtain ⟨A11, hcut11, hA11, hC11⟩ := fV (P := Try.prog) (Value.int .u8) 0 29 5 .i64 Try.underlying29 hi011 hsz11 A0 c0 l0 x3_1 (of_decide_eq_true (by first | (with_reducible assumption) | assumption)) (of_decide_eq_true (by first | (with_reducible assumption) | assumption)) HC0.out;have HR144 := aa.mk (Kd.gQ (h1 := fun _ => rfl) (hA11 _ (Kd.gG HR0.out)));have HC144 := aa.mk hC11;clear hA11 hC11 hi011 hsz11;go_wp2_with (first | ((with_reducible refine aA (f := 102) rfl ?_); refine goesL_ (some 27) rfl rfl Try.func102 (by kernel_rfl) rfl #[.slice A11 (l0.drop (x3_1 : Int).toNat).length (c0 - x3_1.toNat)] rfl (by (try simp only [lA, lC, lN]); first | done | (rw [show (l0.drop (x3_1 : Int).toNat).length = (l0.length - x3_1.toNat) from List.length_drop] <;> rfl) | rfl | (simp only [lD, lT]; rfl)) ?_; (with_reducible refine (ak.calls k1 _ _ (l0.drop (x3_1 : Int).toNat) t145 t146 t147 _ ?side1 ?side2 A8.out).mono ?_); (case side1 => repeat (first | exact (Kd.df HR144.out HB.out) | with_reducible first | refine Kd.bO ?_ _ | refine Kd.bL ?_ _ | refine Kd.cO ?_)); (case side2 => exact HC144.out); rintro e w' ⟨rfl, ⟨nd, rfl⟩⟩; refine ⟨_, rfl, ?_⟩) | ((with_reducible refine gM (b := .append) (xs := #[.tmp 34, .tmp 36]) rfl ?_); at_builtin; refine Kd.R_append (Kd.int .i64) (w0 := w) w.heap.size rfl (.tmp 34) (.tmp 36) 26 3 (IV 0) 8 rfl Try.underlying26 info3 rfl (by decide) (by omega) u2 x2_1 t145 [IV t145] (fun _ => True) (fun _ => False) rfl rfl ?aP (fun _ hk => hk.elim) ?aF ?aO ?aB ?aS ?aL ?_; (case aP => exact rfl); (case aB => exact (by exact rud HB.out rfl rfl rfl rfl)); (case aF => exact (fun _ _ => trivial)); (case aO => exact (by have h_ := HO_2.out; exact kdQ)); (case aS => exact (gu (by exact rud HB.out rfl rfl rfl rfl))); (case aL => have := LMc10.out; omega); intro v149 w12 ho hb hg hat; rw [← Ny148.out] at ho; have n0_ := aa.mk (hb); have n1_ := aa.mk (ho); clear HB HO_2; revert n0_ n1_; intro HB HO150; clear ho hb hg hat));go_roundg k1
          case measure => have := HK1.out; omega
          case rel => exact ⟨(y148), (wrap64 (x3_1 + t146)), (wrap64 (x21_1 + 1)), (by first | rfl | (simp; done) | (simp [*]; done)), (by first | rfl | (simp; done) | (simp [*]; done)), H', ⟨by have := HK1.out; omega⟩, ⟨by have h_ := HO150.out; exact kdQ⟩, ⟨by exact rud HB.out rfl rfl rfl rfl⟩⟩
         ·rw [if_neg c10] at H
          exact absurd H (by simp)
        ·rw [if_neg c9] at H
         obtain ⟨c9b0, c9b1⟩ := neQ c9;simp only [Option.some.injEq, Prod.mk.injEq] at H;obtain ⟨rfl, rfl, rfl⟩ := H;obtain ⟨i013, hi013, _, hsz13, _⟩ := info_parts info5;obtain ⟨A13, hcut13, hA13, hC13⟩ := fV (P := Try.prog) (Value.int .u8) 0 29 5 .i64 Try.underlying29 hi013 hsz13 A0 c0 l0 x3_1 (of_decide_eq_true (by first | (with_reducible assumption) | assumption)) (of_decide_eq_true (by first | (with_reducible assumption) | assumption)) HC0.out;have HR144 := aa.mk (Kd.gQ (h1 := fun _ => rfl) (hA13 _ (Kd.gG HR0.out)));have HC144 := aa.mk hC13;clear hA13 hC13 hi013 hsz13;go_wp2_with (first | ((with_reducible refine aA (f := 102) rfl ?_); refine goesL_ (some 27) rfl rfl Try.func102 (by kernel_rfl) rfl #[.slice A13 (l0.drop (x3_1 : Int).toNat).length (c0 - x3_1.toNat)] rfl (by (try simp only [lA, lC, lN]); first | done | (rw [show (l0.drop (x3_1 : Int).toNat).length = (l0.length - x3_1.toNat) from List.length_drop] <;> rfl) | rfl | (simp only [lD, lT]; rfl)) ?_; (with_reducible refine (ak.calls k1 _ _ (l0.drop (x3_1 : Int).toNat) t145 t146 t147 _ ?side1 ?side2 A8.out).mono ?_); (case side1 => repeat (first | exact (Kd.df HR144.out HB.out) | with_reducible first | refine Kd.bO ?_ _ | refine Kd.bL ?_ _ | refine Kd.cO ?_)); (case side2 => exact HC144.out); rintro e w' ⟨rfl, ⟨nd, rfl⟩⟩; refine ⟨_, rfl, ?_⟩));go_ret3;exact ⟨_, by first | rfl | (simp <;> rfl) | (simp [*] <;> rfl), by first | exact Kd.R_nil _ _ _ _ _ | exact Kd.N_nil _ _ _ _ _ | exact Kd.V_nil _ _ _ _ _ | exact Kd.Q_nil _ _ _ _ _ | exact Kd.S_nil _ _ _ _ _, by exact rud HB.out rfl rfl rfl rfl⟩
       ·rw [if_neg c7] at H
        exact absurd H (by simp)
      ·rw [if_neg c6] at H
       exact absurd H (by simp)
     ·rw [if_neg c5] at H
      have c5b0 : decide (x21_1 < t141) = false := decide_eq_false c5;clear c5;simp only [Option.some.injEq, Prod.mk.injEq] at H;obtain ⟨rfl, rfl, rfl⟩ := H;go_wp2;go_ret3;exact ⟨_, by first | rfl | (simp <;> rfl) | (simp [*] <;> rfl), by have h_ := HO_2.out; exact kdQ, by exact rud HB.out rfl rfl rfl rfl⟩
 ·rw [if_neg c3] at H
  obtain ⟨c3b0, c3b1⟩ := neQ c3;simp only [Option.some.injEq, Prod.mk.injEq] at H;obtain ⟨rfl, rfl, rfl⟩ := H;go_enter Try.func101, Try.ntmps101;go_wp2_with (first | ((with_reducible refine aA (f := 102) rfl ?_); refine glq (some 11) Try.func102 #[.slice A0 l0.length c0] ?_; (with_reducible refine (ak.calls k _ _ l0 t141 t142 t143 _ ?side1 ?side2 A2.out).mono ?_); (case side1 => repeat (first | exact HR0.out | with_reducible first | refine Kd.bO ?_ _ | refine Kd.bL ?_ _ | refine Kd.cO ?_)); (case side2 => exact HC0.out); rintro e w' ⟨rfl, ⟨nd, rfl⟩⟩; refine ⟨_, rfl, ?_⟩));go_ret3;exact ⟨_, by first | rfl | (simp <;> rfl) | (simp [*] <;> rfl), by first | exact Kd.R_nil _ _ _ _ _ | exact Kd.N_nil _ _ _ _ _ | exact Kd.V_nil _ _ _ _ _ | exact Kd.Q_nil _ _ _ _ _ | exact Kd.S_nil _ _ _ _ _, by exact rud HB.out rfl rfl rfl rfl⟩
theorem fT.calls (k : Nat) (A0 : Option Addr) (c0 : Nat) (l0 r1 : List Int) (r2 r3 : Int) (w : World) (hr0 : Kd.C (Kd.int .u8) w A0 l0.length l0) (hc0 : l0.length ≤ c0) (h : fT.f k l0 = some (r1, r2, r3)) :
  Calls Try.prog 79 #[.slice A0 l0.length c0] w fun e w' => ∃ v0_ : Value, e = .returned (.tuple #[v0_, .int .i64 r2, .int .i64 r3]) ∧ Kd.R (Kd.int .i64) 3 w' w.heap.size (fun _ => True) v0_ r1 ∧ Below w.heap.size w w' := by
 have HR0 := aa.mk hr0;have HC0 := aa.mk hc0;clear hr0 hc0;have HB := aa.mk (Below.refl w.heap.size w);have H : ((bB.f k l0).bind fun bt151 => (if bt151.2.2 = 0 then ((dP.f k bt151.1).bind fun t156 => (if t156 = true then (some (bt151.1, bt151.2.1, 0)) else (some (([] : List Int), 0, 1)))) else (some (([] : List Int), 0, bt151.2.2)))) = some (r1, r2, r3) := h;clear h;replace H := bsQ H;obtain ⟨⟨t151, t152, t153⟩, A20, H⟩ := H;(try dsimp only at H);have A2 := aa.mk A20;clear A20;by_cases c3 : t153 = 0
 ·rw [if_pos c3] at H
  obtain ⟨c3b0, c3b1⟩ := eqQ c3;clear c3;replace H := bsQ H;obtain ⟨t156, A40, H⟩ := H;replace H : (if t156 = true then (some (t151, t152, 0)) else (some (([] : List Int), 0, 1))) = some (r1, r2, r3) := H;have A4 := aa.mk A40;clear A40;by_cases c5 : t156 = true
  ·subst c5
   have H1 : (some (t151, t152, 0)) = some (r1, r2, r3) := by rw [if_pos rfl] at H; exact H
   clear H;have H := H1;clear H1;simp only [Option.some.injEq, Prod.mk.injEq] at H;obtain ⟨rfl, rfl, rfl⟩ := H;go_enter Try.func79, Try.ntmps79;go_wp2_with (first | ((with_reducible refine aA (f := 101) rfl ?_); refine glq (some 7) Try.func101 #[.slice A0 l0.length c0] ?_; (with_reducible refine (bB.calls k _ _ l0 t151 t152 t153 _ ?side1 ?side2 A2.out).mono ?_); (case side1 => repeat (first | exact HR0.out | with_reducible first | refine Kd.bO ?_ _ | refine Kd.bL ?_ _ | refine Kd.cO ?_)); (case side2 => exact HC0.out); rintro e w6 ⟨v154, rfl, ho0, hb⟩; refine ⟨_, rfl, ?_⟩; replace hb := rdu (W := w) hb rfl rfl rfl rfl; have n0_ := aa.mk (Kd.fJ ho0 HB.out.size); have n1_ := aa.mk (av HB.out hb); clear HB; revert n0_ n1_; intro HO155 HB; obtain ⟨Ao7, co7, eo7⟩ := Kd.eY HO155.out; subst eo7) | ((with_reducible refine aA (f := 84) rfl ?_); refine glq (some 17) Try.func84 #[.slice Ao7 t151.length co7] ?_; (with_reducible refine (dP.calls k _ _ t151 true _ ?side1 ?side2 A4.out).mono ?_); (case side1 => repeat (first | exact (Kd.bW HO155.out).2.2 | with_reducible first | refine Kd.bO ?_ _ | refine Kd.bL ?_ _ | refine Kd.cO ?_)); (case side2 => exact (Kd.bW HO155.out).2.1); rintro e w' ⟨rfl, ⟨nd, rfl⟩⟩; refine ⟨_, rfl, ?_⟩));go_ret3;exact ⟨_, by first | rfl | (simp <;> rfl) | (simp [*] <;> rfl), by have h_ := HO155.out; exact kdQ, by exact rud HB.out rfl rfl rfl rfl⟩
  ·replace c5 := Bool.eq_false_iff.mpr c5
   subst c5;have H1 : (some (([] : List Int), 0, 1)) = some (r1, r2, r3) := by rw [if_neg (show ¬ (false = true) by decide)] at H; exact H
   clear H;have H := H1;clear H1;simp only [Option.some.injEq, Prod.mk.injEq] at H;obtain ⟨rfl, rfl, rfl⟩ := H;go_enter Try.func79, Try.ntmps79;go_wp2_with (first | ((with_reducible refine aA (f := 101) rfl ?_); refine glq (some 7) Try.func101 #[.slice A0 l0.length c0] ?_; (with_reducible refine (bB.calls k _ _ l0 t151 t152 t153 _ ?side1 ?side2 A2.out).mono ?_); (case side1 => repeat (first | exact HR0.out | with_reducible first | refine Kd.bO ?_ _ | refine Kd.bL ?_ _ | refine Kd.cO ?_)); (case side2 => exact HC0.out); rintro e w8 ⟨v154, rfl, ho0, hb⟩; refine ⟨_, rfl, ?_⟩; replace hb := rdu (W := w) hb rfl rfl rfl rfl; have n0_ := aa.mk (Kd.fJ ho0 HB.out.size); have n1_ := aa.mk (av HB.out hb); clear HB; revert n0_ n1_; intro HO155 HB; obtain ⟨Ao9, co9, eo9⟩ := Kd.eY HO155.out; subst eo9) | ((with_reducible refine aA (f := 84) rfl ?_); refine glq (some 17) Try.func84 #[.slice Ao9 t151.length co9] ?_; (with_reducible refine (dP.calls k _ _ t151 false _ ?side1 ?side2 A4.out).mono ?_); (case side1 => repeat (first | exact (Kd.bW HO155.out).2.2 | with_reducible first | refine Kd.bO ?_ _ | refine Kd.bL ?_ _ | refine Kd.cO ?_)); (case side2 => exact (Kd.bW HO155.out).2.1); rintro e w' ⟨rfl, ⟨nd, rfl⟩⟩; refine ⟨_, rfl, ?_⟩));go_ret3;exact ⟨_, by first | rfl | (simp <;> rfl) | (simp [*] <;> rfl), by first | exact Kd.R_nil _ _ _ _ _ | exact Kd.N_nil _ _ _ _ _ | exact Kd.V_nil _ _ _ _ _ | exact Kd.Q_nil _ _ _ _ _ | exact Kd.S_nil _ _ _ _ _, by exact rud HB.out rfl rfl rfl rfl⟩
 ·rw [if_neg c3] at H
  obtain ⟨c3b0, c3b1⟩ := neQ c3;simp only [Option.some.injEq, Prod.mk.injEq] at H;obtain ⟨rfl, rfl, rfl⟩ := H;go_enter Try.func79, Try.ntmps79;go_wp2_with (first | ((with_reducible refine aA (f := 101) rfl ?_); refine glq (some 7) Try.func101 #[.slice A0 l0.length c0] ?_; (with_reducible refine (bB.calls k _ _ l0 t151 t152 t153 _ ?side1 ?side2 A2.out).mono ?_); (case side1 => repeat (first | exact HR0.out | with_reducible first | refine Kd.bO ?_ _ | refine Kd.bL ?_ _ | refine Kd.cO ?_)); (case side2 => exact HC0.out); rintro e w10 ⟨v154, rfl, ho0, hb⟩; refine ⟨_, rfl, ?_⟩; replace hb := rdu (W := w) hb rfl rfl rfl rfl; have n0_ := aa.mk (Kd.fJ ho0 HB.out.size); have n1_ := aa.mk (av HB.out hb); clear HB; revert n0_ n1_; intro HO155 HB));go_ret3;exact ⟨_, by first | rfl | (simp <;> rfl) | (simp [*] <;> rfl), by first | exact Kd.R_nil _ _ _ _ _ | exact Kd.N_nil _ _ _ _ _ | exact Kd.V_nil _ _ _ _ _ | exact Kd.Q_nil _ _ _ _ _ | exact Kd.S_nil _ _ _ _ _, by exact rud HB.out rfl rfl rfl rfl⟩
theorem bH.calls (k g : Nat) (s0_0 : List Int) (s0_1 s0_2 r1 r2 r3 : Int) (w0 w : World) (hI : bF w0 w g s0_0 s0_1 s0_2) (hB : Below w0.heap.size w0 w) (h : bH.f k s0_0 s0_1 s0_2 = some (r1, r2, r3)) :
  Calls Try.prog 81 #[.pointer (some ⟨g, 0, none⟩)] w fun e w' => e = .returned (.int .i64 r1) ∧ bF w0 w' g s0_0 r2 r3 ∧ Below w0.heap.size w0 w' ∧ bG w w' g none := by
 have HI0 := aa.mk hI;have HK := aa.mk (bG.refl w g none);have HL := aa.mk hB.size;clear hI;have HW0 := aa.mk hB.size;have HB := aa.mk hB;clear hB;have H : (if 0 ≤ s0_1 then (if s0_1 ≤ (s0_0.length : Int) then ((ak.f k (s0_0.drop (s0_1 : Int).toNat)).bind fun bt158 => ((dx.f s0_0 s0_1 s0_2 bt158.2.1 bt158.2.2).bind fun bt161 => (some (bt158.1, bt161.1, bt161.2)))) else (none)) else (none)) = some (r1, r2, r3) := h;clear h;by_cases c2 : 0 ≤ s0_1
 ·rw [if_pos c2] at H
  have c2b0 := eq_true c2;have c2b1 : decide (0 ≤ s0_1) = true := decide_eq_true c2;clear c2;by_cases c3 : s0_1 ≤ (s0_0.length : Int)
  ·rw [if_pos c3] at H
   have c3b0 := eq_true c3;have c3b1 : decide (s0_1 ≤ (s0_0.length : Int)) = true := decide_eq_true c3;clear c3;replace H := bsQ H;obtain ⟨⟨t158, t159, t160⟩, A40, H⟩ := H;replace H : ((dx.f s0_0 s0_1 s0_2 t159 t160).bind fun bt161 => (some (t158, bt161.1, bt161.2))) = some (r1, r2, r3) := H;have A4 := aa.mk A40;clear A40;replace H := bsQ H;obtain ⟨⟨t161, t162⟩, A50, H⟩ := H;replace H : (some (t158, t161, t162)) = some (r1, r2, r3) := H;have A5 := aa.mk A50;clear A50;simp only [Option.some.injEq, Prod.mk.injEq] at H;obtain ⟨rfl, rfl, rfl⟩ := H;obtain ⟨ASz6_0, cSz6_0, HGz6, hgz6, HSz6_0, HcSz6_0⟩ := HI0.out;have C6_0 := kT HGz6;have C6_1 := kU HGz6;have C6_2 := kV HGz6;have F6_1 := ax HGz6 1;have F6_2 := ax HGz6 2;clear HGz6 hgz6;have HRSz6_0 := aa.mk HSz6_0;have HCSz6_0 := aa.mk HcSz6_0;obtain ⟨i07, hi07, _, hsz7, _⟩ := info_parts info5;obtain ⟨A7, hcut7, hA7, hC7⟩ := fV (P := Try.prog) (Value.int .u8) 0 29 5 .i64 Try.underlying29 hi07 hsz7 ASz6_0 cSz6_0 s0_0 s0_1 (of_decide_eq_true (by first | (with_reducible assumption) | assumption)) (of_decide_eq_true (by first | (with_reducible assumption) | assumption)) HCSz6_0.out;have HR157 := aa.mk (Kd.gQ (h1 := fun _ => rfl) (hA7 _ (Kd.gG HRSz6_0.out)));have HC157 := aa.mk hC7;clear hA7 hC7 hi07 hsz7;go_enter Try.func81, Try.ntmps81;go_wp2_with (first | (go_at_call 102; refine l8 (args' := #[.slice A7 (s0_0.drop (s0_1 : Int).toNat).length (cSz6_0 - s0_1.toNat)]) (by first | (rw [show (s0_0.drop (s0_1 : Int).toNat).length = (s0_0.length - s0_1.toNat) from List.length_drop] <;> rfl) | rfl) ?_; (with_reducible refine (ak.calls k _ _ (s0_0.drop (s0_1 : Int).toNat) t158 t159 t160 _ ?side1 ?side2 A4.out).mono ?_); (case side1 => exact Kd.df HR157.out (by exact rud HB.out rfl rfl rfl rfl)); (case side2 => exact HC157.out); rintro e w' ⟨rfl, ⟨nd, rfl⟩⟩; (try first | exact ⟨rfl, _, World.drewN_drewN _ _ _⟩ | exact ⟨rfl, _, Eq.trans (World.drewN_drewN _ _ _) (congrArg (World.drewN _) (Nat.add_assoc _ _ _))⟩)) | (go_at_call 80; (with_reducible refine (dx.calls g s0_0 s0_1 s0_2 t159 t160 t161 t162 w0 _ ?side1 ?side2 A5.out).mono ?_); (case side1 => exact HI0.out); (case side2 => exact rud HB.out rfl rfl rfl rfl); rintro e w8 ⟨rfl, hi, hb, hk⟩; have n0_ := aa.mk (bG.trans (by exact HK.out) hk (.inl rfl)); have n1_ := aa.mk (hb); have n2_ := aa.mk (hi); clear HK HB HI0; revert n0_ n1_ n2_; intro HK HB HI0));repeat (go_quiet (first | (go_at_call 102; refine l8 (args' := #[.slice A7 (s0_0.drop (s0_1 : Int).toNat).length (cSz6_0 - s0_1.toNat)]) (by first | (rw [show (s0_0.drop (s0_1 : Int).toNat).length = (s0_0.length - s0_1.toNat) from List.length_drop] <;> rfl) | rfl) ?_; (with_reducible refine (ak.calls k _ _ (s0_0.drop (s0_1 : Int).toNat) t158 t159 t160 _ ?side1 ?side2 A4.out).mono ?_); (case side1 => exact Kd.df HR157.out (by exact rud HB.out rfl rfl rfl rfl)); (case side2 => exact HC157.out); rintro e w' ⟨rfl, ⟨nd, rfl⟩⟩; (try first | exact ⟨rfl, _, World.drewN_drewN _ _ _⟩ | exact ⟨rfl, _, Eq.trans (World.drewN_drewN _ _ _) (congrArg (World.drewN _) (Nat.add_assoc _ _ _))⟩)) | (go_at_call 80; (with_reducible refine (dx.calls g s0_0 s0_1 s0_2 t159 t160 t161 t162 w0 _ ?side1 ?side2 A5.out).mono ?_); (case side1 => exact HI0.out); (case side2 => exact rud HB.out rfl rfl rfl rfl); rintro e w8 ⟨rfl, hi, hb, hk⟩; have n0_ := aa.mk (bG.trans (by exact HK.out) hk (.inl rfl)); have n1_ := aa.mk (hb); have n2_ := aa.mk (hi); clear HK HB HI0; revert n0_ n1_ n2_; intro HK HB HI0)); try go_wp2_with (first | (go_at_call 102; refine l8 (args' := #[.slice A7 (s0_0.drop (s0_1 : Int).toNat).length (cSz6_0 - s0_1.toNat)]) (by first | (rw [show (s0_0.drop (s0_1 : Int).toNat).length = (s0_0.length - s0_1.toNat) from List.length_drop] <;> rfl) | rfl) ?_; (with_reducible refine (ak.calls k _ _ (s0_0.drop (s0_1 : Int).toNat) t158 t159 t160 _ ?side1 ?side2 A4.out).mono ?_); (case side1 => exact Kd.df HR157.out (by exact rud HB.out rfl rfl rfl rfl)); (case side2 => exact HC157.out); rintro e w' ⟨rfl, ⟨nd, rfl⟩⟩; (try first | exact ⟨rfl, _, World.drewN_drewN _ _ _⟩ | exact ⟨rfl, _, Eq.trans (World.drewN_drewN _ _ _) (congrArg (World.drewN _) (Nat.add_assoc _ _ _))⟩)) | (go_at_call 80; (with_reducible refine (dx.calls g s0_0 s0_1 s0_2 t159 t160 t161 t162 w0 _ ?side1 ?side2 A5.out).mono ?_); (case side1 => exact HI0.out); (case side2 => exact rud HB.out rfl rfl rfl rfl); rintro e w8 ⟨rfl, hi, hb, hk⟩; have n0_ := aa.mk (bG.trans (by exact HK.out) hk (.inl rfl)); have n1_ := aa.mk (hb); have n2_ := aa.mk (hi); clear HK HB HI0; revert n0_ n1_ n2_; intro HK HB HI0)))
   go_ret;exact ⟨by first | rfl | (simp <;> rfl) | (simp [*] <;> rfl), by exact HI0.out, by exact rud HB.out rfl rfl rfl rfl, by exact HK.out⟩
  ·rw [if_neg c3] at H
   exact absurd H (by simp)
 ·rw [if_neg c2] at H
  exact absurd H (by simp)
theorem d9.calls (k : Nat) (A0 : Option Addr) (c0 : Nat) (l0 : List Int) (r1 : ByteArray) (r2 r3 : Int) (w : World) (hr0 : Kd.C (Kd.int .u8) w A0 l0.length l0) (hc0 : l0.length ≤ c0) (h : d9.f k l0 = some (r1, r2, r3)) :
  Calls Try.prog 82 #[.slice A0 l0.length c0] w fun e w' => e = .returned (.tuple #[.string r1, .int .i64 r2, .int .i64 r3]) ∧ bv w w' := by
 have HR0 := aa.mk hr0;have HC0 := aa.mk hc0;clear hr0 hc0;have H : ((ak.f k l0).bind fun bt163 => (if bt163.2.2 = 0 then (if bt163.1 > 65536 then (some ((⟨#[]⟩ : ByteArray), 0, 1)) else (if bt163.1 > (wrap64 ((l0.length : Int) - bt163.2.1)) then (some ((⟨#[]⟩ : ByteArray), 0, 7)) else (if 0 ≤ bt163.2.1 then (if bt163.2.1 ≤ (wrap64 (bt163.2.1 + bt163.1)) then (if (wrap64 (bt163.2.1 + bt163.1)) ≤ (l0.length : Int) then (some (strOfNums ((l0.take ((wrap64 (bt163.2.1 + bt163.1)) : Int).toNat).drop (bt163.2.1 : Int).toNat), wrap64 (bt163.2.1 + bt163.1), 0)) else (none)) else (none)) else (none)))) else (some ((⟨#[]⟩ : ByteArray), 0, bt163.2.2)))) = some (r1, r2, r3) := h;clear h;replace H := bsQ H;obtain ⟨⟨t163, t164, t165⟩, A20, H⟩ := H;(try dsimp only at H);have A2 := aa.mk A20;clear A20;by_cases c3 : t165 = 0
 ·rw [if_pos c3] at H
  obtain ⟨c3b0, c3b1⟩ := eqQ c3;clear c3;by_cases c4 : t163 > 65536
  ·rw [if_pos c4] at H
   have c4b0 : decide (65536 < t163) = true := decide_eq_true c4;clear c4;simp only [Option.some.injEq, Prod.mk.injEq] at H;obtain ⟨rfl, rfl, rfl⟩ := H;go_enter Try.func82, Try.ntmps82;go_wp2_with (first | ((with_reducible refine aA (f := 102) rfl ?_); refine glq (some 8) Try.func102 #[.slice A0 l0.length c0] ?_; (with_reducible refine (ak.calls k _ _ l0 t163 t164 t165 _ ?side1 ?side2 A2.out).mono ?_); (case side1 => repeat (first | exact HR0.out | with_reducible first | refine Kd.bO ?_ _ | refine Kd.bL ?_ _ | refine Kd.cO ?_)); (case side2 => exact HC0.out); rintro e w' ⟨rfl, ⟨nd, rfl⟩⟩; refine ⟨_, rfl, ?_⟩));go_ret3;exact ⟨by first | rfl | (simp; done) | (simp [*]; done), by repeat (first | exact bv.refl _ | apply bv.step)⟩
  ·rw [if_neg c4] at H
   have c4b0 : decide (65536 < t163) = false := decide_eq_false c4;clear c4;by_cases c5 : t163 > (wrap64 ((l0.length : Int) - t164))
   ·rw [if_pos c5] at H
    have c5b0 : decide ((wrap64 ((l0.length : Int) - t164)) < t163) = true := decide_eq_true c5;clear c5;simp only [Option.some.injEq, Prod.mk.injEq] at H;obtain ⟨rfl, rfl, rfl⟩ := H;go_enter Try.func82, Try.ntmps82;go_wp2_with (first | ((with_reducible refine aA (f := 102) rfl ?_); refine glq (some 8) Try.func102 #[.slice A0 l0.length c0] ?_; (with_reducible refine (ak.calls k _ _ l0 t163 t164 t165 _ ?side1 ?side2 A2.out).mono ?_); (case side1 => repeat (first | exact HR0.out | with_reducible first | refine Kd.bO ?_ _ | refine Kd.bL ?_ _ | refine Kd.cO ?_)); (case side2 => exact HC0.out); rintro e w' ⟨rfl, ⟨nd, rfl⟩⟩; refine ⟨_, rfl, ?_⟩));go_ret3;exact ⟨by first | rfl | (simp; done) | (simp [*]; done), by repeat (first | exact bv.refl _ | apply bv.step)⟩
   ·rw [if_neg c5] at H
    have c5b0 : decide ((wrap64 ((l0.length : Int) - t164)) < t163) = false := decide_eq_false c5;clear c5;by_cases c6 : 0 ≤ t164
    ·rw [if_pos c6] at H
     have c6b0 := eq_true c6;have c6b1 : decide (0 ≤ t164) = true := decide_eq_true c6;clear c6;by_cases c7 : t164 ≤ (wrap64 (t164 + t163))
     ·rw [if_pos c7] at H
      have c7b0 := eq_true c7;have c7b1 : decide (t164 ≤ (wrap64 (t164 + t163))) = true := decide_eq_true c7;by_cases c8 : (wrap64 (t164 + t163)) ≤ (l0.length : Int)
      ·rw [if_pos c8] at H
       have c8b0 := eq_true c8;have c8b1 : decide ((wrap64 (t164 + t163)) ≤ (l0.length : Int)) = true := decide_eq_true c8;simp only [Option.some.injEq, Prod.mk.injEq] at H;obtain ⟨rfl, rfl, rfl⟩ := H;go_enter Try.func82, Try.ntmps82;go_wp2_with (first | ((with_reducible refine aA (f := 102) rfl ?_); refine glq (some 8) Try.func102 #[.slice A0 l0.length c0] ?_; (with_reducible refine (ak.calls k _ _ l0 t163 t164 t165 _ ?side1 ?side2 A2.out).mono ?_); (case side1 => repeat (first | exact HR0.out | with_reducible first | refine Kd.bO ?_ _ | refine Kd.bL ?_ _ | refine Kd.cO ?_)); (case side2 => exact HC0.out); rintro e w' ⟨rfl, ⟨nd, rfl⟩⟩; refine ⟨_, rfl, ?_⟩; obtain ⟨i09, hi09, _, hsz9, _⟩ := info_parts info5; obtain ⟨A9, hcut9, hA9, hC9⟩ := print_mid_of (P := Try.prog) (Value.int .u8) 0 29 5 .i64 .i64 Try.underlying29 hi09 hsz9 A0 c0 l0 t164 (wrap64 (t164 + t163)) (of_decide_eq_true (by first | (with_reducible assumption) | assumption)) (by first | omega | exact of_decide_eq_true (by first | (with_reducible assumption) | assumption)) (of_decide_eq_true (by first | (with_reducible assumption) | assumption)) HC0.out; have HR166 := aa.mk (Kd.gQ (h1 := fun _ => rfl) (hA9 _ (Kd.gG HR0.out))); have HC166 := aa.mk hC9; clear hA9 hC9 hi09 hsz9; have hcv10 := Kd.C_string (P := Try.prog) (A := A9) (c := (c0 - t164.toNat)) Try.underlying29 Try.underlying5 Try.underlying9 HR166.out; have hcw11 := fun (m_ : Nat) => LB.C_string_as (P := Try.prog) (A := A9) (n' := _) (c := (c0 - t164.toNat)) Try.underlying29 Try.underlying5 Try.underlying9 (Kd.bL (HR166.out) m_) rfl; have hcw12 := LB.C_string_as (P := Try.prog) (A := A9) (n' := ((wrap64 (t164 + t163)).toNat - t164.toNat)) (c := (c0 - t164.toNat)) Try.underlying29 Try.underlying5 Try.underlying9 (HR166.out) (show ((l0.take ((wrap64 (t164 + t163)) : Int).toNat).drop (t164 : Int).toNat).length = ((wrap64 (t164 + t163)).toNat - t164.toNat) from (by rw [List.length_drop, List.length_take]; have h_ : ((wrap64 (t164 + t163)) : Int) ≤ (l0.length : Int) := of_decide_eq_true (by first | (with_reducible assumption) | assumption); omega)); have hcw13 := fun (m_ : Nat) => LB.C_string_as (P := Try.prog) (A := A9) (n' := ((wrap64 (t164 + t163)).toNat - t164.toNat)) (c := (c0 - t164.toNat)) Try.underlying29 Try.underlying5 Try.underlying9 (Kd.bL (HR166.out) m_) (show ((l0.take ((wrap64 (t164 + t163)) : Int).toNat).drop (t164 : Int).toNat).length = ((wrap64 (t164 + t163)).toNat - t164.toNat) from (by rw [List.length_drop, List.length_take]; have h_ : ((wrap64 (t164 + t163)) : Int) ≤ (l0.length : Int) := of_decide_eq_true (by first | (with_reducible assumption) | assumption); omega))));go_ret3;exact ⟨by first | rfl | (simp; done) | (simp [*]; done), by repeat (first | exact bv.refl _ | apply bv.step)⟩
      ·rw [if_neg c8] at H
       exact absurd H (by simp)
     ·rw [if_neg c7] at H
      exact absurd H (by simp)
    ·rw [if_neg c6] at H
     exact absurd H (by simp)
 ·rw [if_neg c3] at H
  obtain ⟨c3b0, c3b1⟩ := neQ c3;simp only [Option.some.injEq, Prod.mk.injEq] at H;obtain ⟨rfl, rfl, rfl⟩ := H;go_enter Try.func82, Try.ntmps82;go_wp2_with (first | ((with_reducible refine aA (f := 102) rfl ?_); refine glq (some 8) Try.func102 #[.slice A0 l0.length c0] ?_; (with_reducible refine (ak.calls k _ _ l0 t163 t164 t165 _ ?side1 ?side2 A2.out).mono ?_); (case side1 => repeat (first | exact HR0.out | with_reducible first | refine Kd.bO ?_ _ | refine Kd.bL ?_ _ | refine Kd.cO ?_)); (case side2 => exact HC0.out); rintro e w' ⟨rfl, ⟨nd, rfl⟩⟩; refine ⟨_, rfl, ?_⟩));go_ret3;exact ⟨by first | rfl | (simp; done) | (simp [*]; done), by repeat (first | exact bv.refl _ | apply bv.step)⟩
def ay.T2 : Bool × List (List Nat × List Nat) := (true, [([], []), ([0], [0]), ([1], [1]), ([2], [2]), ([], []), ([4], [4]), ([5], [5]), ([6], [6]), ([3, 7], [3, 7]), ([8], [8]), ([9], [9]), ([10], [10]), ([10], [10]), ([10], [10]), ([11, 9, 0, 1, 2, 3, 4, 5, 6, 7, 8, 9, 10, 11], [11]), ([12, 14, 0, 1, 2, 3, 4, 5, 6, 7, 8, 9, 10, 11, 12, 14], [12]), ([13, 15, 0, 1, 2, 3, 4, 5, 6, 7, 8, 9, 10, 11, 12, 13, 14, 15], [13])])
def ay.B2 : List Nat := [0, 1, 3, 7, 0, 16, 48, 112, 255, 511, 1023, 2047, 2047, 2047, 4095, 24575, 65535]
theorem ay.tab2 : rtab .any (opsOf Try.f46 2) = ay.T2 := by kernel_rfl
theorem ay.bits2 : gY ay.T2.2 ay.B2 = true := by kernel_rfl
def ay.T11 : Bool × List (List Nat × List Nat) := (true, [([], []), ([0], [0]), ([1], [1]), ([2], [2]), ([], []), ([4], [4]), ([5], [5]), ([6], [6]), ([3, 7], [3, 7]), ([8], [8]), ([9], [9]), ([10], [10]), ([10], [10]), ([10], [10]), ([11, 9, 0, 1, 2, 3, 4, 5, 6, 7, 8, 9, 10, 11], [11]), ([12, 14, 0, 1, 2, 3, 4, 5, 6, 7, 8, 9, 10, 11, 12, 14], [12]), ([13, 15, 0, 1, 2, 3, 4, 5, 6, 7, 8, 9, 10, 11, 12, 13, 14, 15], [13])])
def ay.B11 : List Nat := [0, 1, 3, 7, 0, 16, 48, 112, 255, 511, 1023, 2047, 2047, 2047, 4095, 24575, 65535]
theorem ay.tab11 : rtab .any (opsOf Try.f46 11) = ay.T11 := by kernel_rfl
theorem ay.bits11 : gY ay.T11.2 ay.B11 = true := by kernel_rfl
theorem ay.calls (k g : Nat) (s0_0 : List Int) (s0_1 s0_2 r1 r2 r3 : Int) (r4 : List Int) (r5 r6 r7 r8 r9 : Int) (r10 : ByteArray) (r11 r12 r13 r14 : Int) (w0 w : World) (hI : bF w0 w g s0_0 s0_1 s0_2) (hB : Below w0.heap.size w0 w) (h : ay.f k s0_0 s0_1 s0_2 = some (r1, r2, r3, r4, r5, r6, r7, r8, r9, r10, r11, r12, r13, r14)) :
  Calls Try.prog 46 #[.pointer (some ⟨g, 0, none⟩)] w fun e w' => ∃ v3_ : Value, e = .returned (.agg #[.int .i64 r1, .int .i64 r2, .int .i64 r3, v3_, .int .i64 r5, .int .i64 r6, .int .i64 r7, .int .i64 r8, .int .i64 r9, .string r10, .int .i64 r11, .int .i64 r12]) ∧ Kd.R (Kd.int .i64) 3 w' w.heap.size (fun _ => True) v3_ r4 ∧ bF w0 w' g s0_0 r13 r14 ∧ Below w0.heap.size w0 w' ∧ bG w w' g none := by
 have hu28 := Try.underlying28;have hu25 := Try.underlying25;have HI0 := aa.mk hI;have HK := aa.mk (bG.refl w g none);have HL := aa.mk hB.size;clear hI;have HW0 := aa.mk hB.size;have HB := aa.mk hB;clear hB;have H : ((bD.f k s0_0 s0_1 s0_2).bind fun bt168 => (if 0 ≤ bt168.2.2.1 then (if bt168.2.2.1 ≤ (s0_0.length : Int) then ((fT.f k (s0_0.drop (bt168.2.2.1 : Int).toNat)).bind fun bt173 => ((dx.f s0_0 bt168.2.2.1 bt168.2.2.2 bt173.2.1 bt173.2.2).bind fun bt178 => ((bH.f k s0_0 bt178.1 bt178.2).bind fun bt180 => (if bt180.1 = 1 then (ay.j0 k false s0_0 bt180.2.1 bt180.2.2 bt168.1 bt168.2.1 0 bt173.1 bt180.1 0 0 0 0 (⟨#[]⟩ : ByteArray) 0 0) else (ay.j0 k (bt180.1 != 2) s0_0 bt180.2.1 bt180.2.2 bt168.1 bt168.2.1 0 bt173.1 bt180.1 0 0 0 0 (⟨#[]⟩ : ByteArray) 0 0))))) else (none)) else (none))) = some (r1, r2, r3, r4, r5, r6, r7, r8, r9, r10, r11, r12, r13, r14) := h;clear h;replace H := bsQ H;obtain ⟨⟨t168, t169, t170, t171⟩, A20, H⟩ := H;(try dsimp only at H);have A2 := aa.mk A20;clear A20;by_cases c3 : 0 ≤ t170;rotate_left
 ·rw [if_neg c3] at H
  exact absurd H (by simp)
 rw [if_pos c3] at H;have c3b0 := eq_true c3;have c3b1 : decide (0 ≤ t170) = true := decide_eq_true c3;clear c3;by_cases c4 : t170 ≤ (s0_0.length : Int);rotate_left
 ·rw [if_neg c4] at H
  exact absurd H (by simp)
 rw [if_pos c4] at H;have c4b0 := eq_true c4;have c4b1 : decide (t170 ≤ (s0_0.length : Int)) = true := decide_eq_true c4;clear c4;replace H := bsQ H;obtain ⟨⟨t173, t174, t175⟩, A50, H⟩ := H;(try dsimp only at H);have A5 := aa.mk A50;clear A50;replace H := bsQ H;obtain ⟨⟨t178, t179⟩, A60, H⟩ := H;(try dsimp only at H);have A6 := aa.mk A60;clear A60;replace H := bsQ H;obtain ⟨⟨t180, t181, t182⟩, A70, H⟩ := H;(try dsimp only at H);have A7 := aa.mk A70;clear A70;have HC8 := aa.mk H;clear H;go_enter Try.func46, Try.ntmps46;try go_wp2_with (first | ((with_reducible refine bJ (N := 2) rfl ?_); refine bC ?hg (N := 2) ?hd (cs := #[IV 0, IV 0, IV 0, .slice none 0 0, IV 0, IV 0, IV 0, IV 0, IV 0, .string (⟨#[]⟩ : ByteArray), IV 0, IV 0]) (t := 28) ?hr ?_; (case hd => rfl); (case hg => rfl); (case hr => first | (go_simp; done) | (go_simp; rfl)); intro iB hg w9 hbox hb; replace hb := rdu (W := w) hb rfl rfl rfl rfl; have n0_ := aa.mk (bF.below HI0.out hb); have n1_ := aa.mk (bG.trans HK.out (bG.of_below hb g none) (.inl rfl)); have n2_ := aa.mk (av HB.out hb); have n3_ := aa.mk (hbox); have n4_ := aa.mk ((by rw [hg]; exact (jv (w := w) (g := g) (row := none) HK.out) : w.heap.size ≤ iB)); have n5_ := aa.mk ((Nat.le_trans HW0.out (by rw [hg]; exact (jv (w := w) (g := g) (row := none) HK.out) : w.heap.size ≤ iB) : w0.heap.size ≤ iB)); have n6_ := aa.mk ((by rw [hg]; exact Nat.ne_of_lt (bF.lt (show bF w0 _ g s0_0 s0_1 s0_2 from by exact HI0.out)) : g ≠ iB)); have n7_ := aa.mk (Ne.symm n6_.out); clear HI0 HK HB; revert n0_ n1_ n2_ n3_ n4_ n5_ n6_ n7_; intro HI0 HK HB fU GW167 GE167 kH lI; clear hb hbox hg) | ((with_reducible refine aA (f := 78) rfl ?_); refine glq (some 10) Try.func78 #[.pointer (some ⟨g, 0, none⟩)] ?_; (with_reducible refine (bD.calls k g s0_0 s0_1 s0_2 t168 t169 t170 t171 w0 _ ?side1 ?side2 A2.out).mono ?_); (case side1 => exact HI0.out); (case side2 => exact rud HB.out rfl rfl rfl rfl); rintro e w10 ⟨rfl, hi, hb, hk⟩; refine ⟨_, rfl, ?_⟩; have n0_ := aa.mk (bG.blk hk (g' := iB) (o := .cells #[IV 0, IV 0, IV 0, .slice none 0 0, IV 0, IV 0, IV 0, IV 0, IV 0, .string (⟨#[]⟩ : ByteArray), IV 0, IV 0] 28 (0, 0)) (by exact fU.out) lI.out (by simp)); have n1_ := aa.mk (bG.trans (by exact HK.out) hk (.inl rfl)); have n2_ := aa.mk (hb); have n3_ := aa.mk (hi); clear fU HK HB HI0; revert n0_ n1_ n2_ n3_; intro fU HK HB HI0; have hnb11 := lI.out; have hnc11 := kH.out; obtain ⟨Cc_0, Cc_1, Cc_2, Cc_3, Cc_4, Cc_5, Cc_6, Cc_7, Cc_8, Cc_9, Cc_a, Cc_b⟩ := LB.aN fU.out; obtain ⟨Fc_0, Fc_1, Fc_2, Fc_3, Fc_4, Fc_5, Fc_6, Fc_7, Fc_8, Fc_9, Fc_a, Fc_b⟩ := LB.aU fU.out))
 generalize hq_ : ((w10.setCell ⟨iB, 0, none⟩ (IV t168)).setCell ⟨iB, 1, none⟩ (IV t169)) = w13;have n0_ : aa (w13.heap[iB]? = some (.cells #[IV t168, IV t169, IV 0, .slice none 0 0, IV 0, IV 0, IV 0, IV 0, IV 0, .string (⟨#[]⟩ : ByteArray), IV 0, IV 0] 28 (0, 0))) := ⟨by rw [← hq_]; exact by refine bS (cs := #[IV t168, IV 0, IV 0, .slice none 0 0, IV 0, IV 0, IV 0, IV 0, IV 0, .string (⟨#[]⟩ : ByteArray), IV 0, IV 0]) ?_ 1 _ rfl; refine bS (cs := #[IV 0, IV 0, IV 0, .slice none 0 0, IV 0, IV 0, IV 0, IV 0, IV 0, .string (⟨#[]⟩ : ByteArray), IV 0, IV 0]) ?_ 0 _ rfl; exact fU.out⟩
 have n1_ : aa (bF w0 w13 g s0_0 t170 t171) := ⟨by rw [← hq_]; exact by repeat (first | (with_reducible first | exact HI0.out | apply bF.alloc | apply bF.drewN | apply bF.drew | apply bF.ku | apply bF.kv | apply bF.far (hne := kH.out)) | exact HI0.out)⟩
 have n2_ : aa (bG w w13 g none) := ⟨by rw [← hq_]; exact by repeat (first | (with_reducible first | exact HK.out | apply bG.set_ | apply jc | apply iO | apply jb | refine kg ?_ GW167.out _) | exact HK.out)⟩
 have n3_ : aa (Below w0.heap.size w0 w13) := ⟨by rw [← hq_]; exact by repeat (first | (with_reducible first | exact HB.out | apply aY | apply aH | apply aC | refine aI ?_ (bF.ge HI0.out) | refine aI ?_ GE167.out) | exact HB.out)⟩
 clear hq_;(try clear fU HI0 HK HB);revert n0_ n1_ n2_ n3_;intro fU HI0 HK HB;have n0_ := aa.mk (dW fU.out);have n1_ := aa.mk (bF.drew HI0.out);have n2_ := aa.mk (iO HK.out);have n3_ := aa.mk (aC HB.out);clear fU HI0 HK HB;revert n0_ n1_ n2_ n3_;intro fU HI0 HK HB;obtain ⟨ASz15_0, cSz15_0, HGz15, hgz15, HSz15_0, HcSz15_0⟩ := HI0.out;have Cf_0 := kT HGz15;have Cf_1 := kU HGz15;have Cf_2 := kV HGz15;have Ff_1 := ax HGz15 1;have Ff_2 := ax HGz15 2;clear HGz15 hgz15;have hx915_0 := Cf_0;clear Cf_0;have hx915_1 := Cf_1;clear Cf_1;have hx915_2 := Cf_2;clear Cf_2;have HRSz15_0 := aa.mk HSz15_0;have HCSz15_0 := aa.mk HcSz15_0;obtain ⟨i016, hi016, _, hsz16, _⟩ := info_parts info5;obtain ⟨A16, hcut16, hA16, hC16⟩ := fV (P := Try.prog) (Value.int .u8) 0 29 5 .i64 Try.underlying29 hi016 hsz16 ASz15_0 cSz15_0 s0_0 t170 (of_decide_eq_true (by first | (with_reducible assumption) | assumption)) (of_decide_eq_true (by first | (with_reducible assumption) | assumption)) HCSz15_0.out;have HR172 := aa.mk (Kd.gQ (h1 := fun _ => rfl) (hA16 _ (Kd.gG HRSz15_0.out)));have HC172 := aa.mk hC16;clear hA16 hC16 hi016 hsz16;refine gW (n := 17) (S := fun w' => w'.cell? ⟨g, 0, none⟩ = some (.slice ASz15_0 s0_0.length cSz15_0) ∧ w'.cell? ⟨g, 1, none⟩ = some (IV t170) ∧ w'.cell? ⟨g, 2, none⟩ = some (IV t171)) (ds := []) (rbs 17 0) (by kernel_rfl) rfl rfl ⟨hx915_0, hx915_1, hx915_2⟩ (fun hHeld => ?_); refine dQ ay.tab2 ay.bits2 (fun HT_ HW_ => ?_);generalize w13.drew = w14 at fU HI0 HK HB HR172 hx915_0 hx915_1 hx915_2 hHeld ⊢;apply rqu 0 13 17 1;apply rqu 1 14 17 3;apply rqu 2 15 17 7;apply rqu 4 17 17 23;apply rqu 5 18 17 55;apply rqu 6 19 17 119;apply mq 3 16 17 127;apply mq 7 20 17 255;apply rqu 8 21 17 511;refine onq 9 (some 22) 17 1023 (fun K hK => ?_);refine goes_ Try.func79 (by kernel_rfl) rfl #[.slice A16 (s0_0.drop (t170 : Int).toNat).length (cSz15_0 - t170.toNat)] (by rfl) rfl rfl (by (try simp only [lA, lC, lN]); first | done | (rw [show (s0_0.drop (t170 : Int).toNat).length = (s0_0.length - t170.toNat) from List.length_drop] <;> rfl) | rfl | (simp only [lD, lT]; rfl)) ?_;with_reducible refine (fT.calls k _ _ (s0_0.drop (t170 : Int).toNat) t173 t174 t175 _ ?side1 ?side2 A5.out).mono ?_
 (case side1 => exact Kd.df HR172.out (by exact rud HB.out rfl rfl rfl rfl));(case side2 => exact HC172.out);rintro e w17 ⟨v176, rfl, ho0, hb⟩;have HS0_ := (hb.cell (World.block_lt_of_cell? _ _ (hHeld.1))).trans (hHeld.1);have HS1_ := (hb.cell (World.block_lt_of_cell? _ _ (hHeld.2.1))).trans (hHeld.2.1);have HS2_ := (hb.cell (World.block_lt_of_cell? _ _ (hHeld.2.2))).trans (hHeld.2.2);refine ⟨_, rfl, ?_⟩;replace hb := rdu (W := w14) hb rfl rfl rfl rfl;have n0_ := aa.mk (Kd.fJ ho0 (jv (w := w) (g := g) (row := none) HK.out));have n1_ := aa.mk (bF.below HI0.out hb);have n2_ := aa.mk (aW fU.out hb);have n3_ := aa.mk (bG.trans HK.out (bG.of_below hb g none) (.inl rfl));have n4_ := aa.mk (av HB.out hb);clear HI0 fU HK HB;revert n0_ n1_ n2_ n3_ n4_;intro HO177 HI0 fU HK HB;refine hK.out _ _ ⟨HS0_, HS1_, HS2_⟩ (fun hHeld => ?_);clear hK K;refine gF (a' := ?_) ?_ ?_;rotate_left
 ·show Act.put _ (some 22) _ = _
  simp only [pS];rfl
 apply rqu 10 12 17 2047;apply rqu 11 23 17 4095;apply rqu 12 24 17 8191;apply rqu 13 25 17 16383;apply rqu 14 3 17 32767;apply rqu 15 4 17 65535;apply rqu 16 5 17 131071;refine jR (gm HT_.out (by kernel_rfl)) ?_;go_upto_region 6 with (first | ((with_reducible refine aA (f := 80) rfl ?_); refine glq (some 29) Try.func80 #[.pointer (some ⟨g, 0, none⟩), IV t174, IV t175] ?_; (with_reducible refine (dx.calls g s0_0 t170 t171 t174 t175 t178 t179 w0 _ ?side1 ?side2 A6.out).mono ?_); (case side1 => exact HI0.out); (case side2 => exact rud HB.out rfl rfl rfl rfl); rintro e w18 ⟨rfl, hi, hb, hk⟩; refine ⟨_, rfl, ?_⟩; have n0_ := aa.mk (bG.blk hk (g' := iB) (o := .cells #[IV t168, IV t169, IV 0, .slice none 0 0, IV 0, IV 0, IV 0, IV 0, IV 0, .string (⟨#[]⟩ : ByteArray), IV 0, IV 0] 28 (0, 0)) (by exact fU.out) lI.out (by simp)); have n1_ := aa.mk (Kd.bQ (Kd.R_keep (bF.apart (show bF w0 _ g s0_0 t170 t171 from by exact HI0.out) (by have h_ := HO177.out; exact kdQ) (by decide)) hk (fun _ h => h.2)) (fun _ h => h.1)); have n2_ := aa.mk (bG.trans (by exact HK.out) hk (.inl rfl)); have n3_ := aa.mk (hb); have n4_ := aa.mk (hi); clear fU HO177 HK HB HI0; revert n0_ n1_ n2_ n3_ n4_; intro fU HO177 HK HB HI0; obtain ⟨Ao19, co19, eo19⟩ := Kd.eY HO177.out; subst eo19; obtain ⟨Ck_0, Ck_1, Ck_2, Ck_3, Ck_4, Ck_5, Ck_6, Ck_7, Ck_8, Ck_9, Ck_a, Ck_b⟩ := LB.aN fU.out; obtain ⟨Fk_0, Fk_1, Fk_2, Fk_3, Fk_4, Fk_5, Fk_6, Fk_7, Fk_8, Fk_9, Fk_a, Fk_b⟩ := LB.aU fU.out) | ((with_reducible refine aA (f := 81) rfl ?_); refine glq (some 33) Try.func81 #[.pointer (some ⟨g, 0, none⟩)] ?_; (with_reducible refine (bH.calls k g s0_0 t178 t179 t180 t181 t182 w0 _ ?side1 ?side2 A7.out).mono ?_); (case side1 => repeat (first | (with_reducible first | exact HI0.out | apply bF.alloc | apply bF.drewN | apply bF.drew | apply bF.ku | apply bF.kv | apply bF.far (hne := kH.out)) | exact HI0.out)); (case side2 => repeat (first | (with_reducible first | exact HB.out | apply aY | apply aH | apply aC | refine aI ?_ (bF.ge HI0.out) | refine aI ?_ GE167.out) | exact HB.out)); rintro e w21 ⟨rfl, hi, hb, hk⟩; refine ⟨_, rfl, ?_⟩; have n0_ := aa.mk (bG.blk hk (g' := iB) (o := .cells #[IV t168, IV t169, IV 0, .slice Ao19 t173.length co19, IV 0, IV 0, IV 0, IV 0, IV 0, .string (⟨#[]⟩ : ByteArray), IV 0, IV 0] 28 (0, 0)) (by refine bS (cs := #[IV t168, IV t169, IV 0, .slice none 0 0, IV 0, IV 0, IV 0, IV 0, IV 0, .string (⟨#[]⟩ : ByteArray), IV 0, IV 0]) ?_ 3 _ rfl; exact fU.out) lI.out (by simp)); have n1_ := aa.mk (Kd.bQ (Kd.R_keep (bF.apart (show bF w0 _ g s0_0 t178 t179 from by repeat (first | (with_reducible first | exact HI0.out | apply bF.alloc | apply bF.drewN | apply bF.drew | apply bF.ku | apply bF.kv | apply bF.far (hne := kH.out)) | exact HI0.out)) (by (with_reducible repeat (first | apply Kd.bP | apply Kd.bM | apply Kd.bU)); exact (Kd.bQ (Kd.l6 (p := ⟨iB, 3, none⟩) (Kd.fu HO177.out fU.out (by decide)) (fun _ hk => hk.2) (.slice Ao19 t173.length co19)) (fun _ h_ => h_.1))) (by decide)) hk (fun _ h => h.2)) (fun _ h => h.1)); have n2_ := aa.mk (bG.trans (by repeat (first | (with_reducible first | exact HK.out | apply bG.set_ | apply jc | apply iO | apply jb | refine kg ?_ GW167.out _) | exact HK.out)) hk (.inl rfl)); have n3_ := aa.mk (hb); have n4_ := aa.mk (hi); clear fU HO177 HK HB HI0; revert n0_ n1_ n2_ n3_ n4_; intro fU HO177 HK HB HI0; obtain ⟨Cm_0, Cm_1, Cm_2, Cm_3, Cm_4, Cm_5, Cm_6, Cm_7, Cm_8, Cm_9, Cm_a, Cm_b⟩ := LB.aN fU.out; obtain ⟨Fm_0, Fm_1, Fm_2, Fm_3, Fm_4, Fm_5, Fm_6, Fm_7, Fm_8, Fm_9, Fm_a, Fm_b⟩ := LB.aU fU.out));generalize hq_ : (w21.setCell ⟨iB, 4, none⟩ (IV t180)) = w23;have n0_ : aa (Kd.R (Kd.int .i64) 3 w23 w.heap.size (fun _ => True) (.slice Ao19 t173.length co19) t173) := ⟨by rw [← hq_]; exact by (with_reducible repeat (first | apply Kd.bP | apply Kd.bM | apply Kd.bU)); exact Kd.bQ (Kd.l6 (p := ⟨iB, 4, none⟩) (Kd.fu HO177.out fU.out (by decide)) (fun _ hk => hk.2) (IV t180)) (fun _ hk => trivial)⟩
 have n1_ : aa (w23.heap[iB]? = some (.cells #[IV t168, IV t169, IV 0, .slice Ao19 t173.length co19, IV t180, IV 0, IV 0, IV 0, IV 0, .string (⟨#[]⟩ : ByteArray), IV 0, IV 0] 28 (0, 0))) := ⟨by rw [← hq_]; exact by refine bS (cs := #[IV t168, IV t169, IV 0, .slice Ao19 t173.length co19, IV 0, IV 0, IV 0, IV 0, IV 0, .string (⟨#[]⟩ : ByteArray), IV 0, IV 0]) ?_ 4 _ rfl; exact fU.out⟩
 have n2_ : aa (bF w0 w23 g s0_0 t181 t182) := ⟨by rw [← hq_]; exact by repeat (first | (with_reducible first | exact HI0.out | apply bF.alloc | apply bF.drewN | apply bF.drew | apply bF.ku | apply bF.kv | apply bF.far (hne := kH.out)) | exact HI0.out)⟩
 have n3_ : aa (bG w w23 g none) := ⟨by rw [← hq_]; exact by repeat (first | (with_reducible first | exact HK.out | apply bG.set_ | apply jc | apply iO | apply jb | refine kg ?_ GW167.out _) | exact HK.out)⟩
 have n4_ : aa (Below w0.heap.size w0 w23) := ⟨by rw [← hq_]; exact by repeat (first | (with_reducible first | exact HB.out | apply aY | apply aH | apply aC | refine aI ?_ (bF.ge HI0.out) | refine aI ?_ GE167.out) | exact HB.out)⟩
 clear hq_;(try clear HO177 fU HI0 HK HB);revert n0_ n1_ n2_ n3_ n4_;intro HO177 fU HI0 HK HB;(try simp only [pS]);go_cut [42] (fun v42 wc => ∃ (kq : Nat) (x42_7 : Bool), v42 = .bool x42_7 ∧ aa (ay.j0 kq x42_7 s0_0 t181 t182 t168 t169 0 t173 t180 0 0 0 0 (⟨#[]⟩ : ByteArray) 0 0 = some (r1, r2, r3, r4, r5, r6, r7, r8, r9, r10, r11, r12, r13, r14)) ∧ aa (kq ≤ k) ∧ aa (Kd.R (Kd.int .i64) 3 wc w.heap.size (fun _ => True) (.slice Ao19 t173.length co19) t173) ∧ aa (wc.heap[iB]? = some (.cells #[IV t168, IV t169, IV 0, (.slice Ao19 t173.length co19), IV t180, IV 0, IV 0, IV 0, IV 0, .string (⟨#[]⟩ : ByteArray), IV 0, IV 0] 28 (0, 0))) ∧ aa (bF w0 wc g s0_0 t181 t182) ∧ aa (bG w wc g none) ∧ aa (Below w0.heap.size w0 wc))
 case first =>
  have H := HC8.out;clear HC8;by_cases c24 : t180 = 1;rotate_left
  ·rw [if_neg c24] at H
   obtain ⟨c24b0, c24b1⟩ := neQ c24;(first | rw [c24b0] | (simp only [jN, jY]; rw [c24b0]) | skip);have H' := aa.mk H;clear H;have hnb27 := lI.out;have hnc27 := kH.out;obtain ⟨Cs_0, Cs_1, Cs_2, Cs_3, Cs_4, Cs_5, Cs_6, Cs_7, Cs_8, Cs_9, Cs_a, Cs_b⟩ := LB.aN fU.out;obtain ⟨Fs_0, Fs_1, Fs_2, Fs_3, Fs_4, Fs_5, Fs_6, Fs_7, Fs_8, Fs_9, Fs_a, Fs_b⟩ := LB.aU fU.out;go_wp2;go_meet
   case rel => exact ⟨_, ((t180 != 2)), (by first | rfl | (simp; done) | (simp [*]; done)), H', ⟨by first | omega | exact Nat.le_refl _⟩, ⟨by have h_ := HO177.out; exact kdQ⟩, ⟨by exact fU.out⟩, ⟨by exact HI0.out⟩, ⟨by exact HK.out⟩, ⟨by exact rud HB.out rfl rfl rfl rfl⟩⟩
  rw [if_pos c24] at H;obtain ⟨c24b0, c24b1⟩ := eqQ c24;clear c24;(first | rw [c24b0] | (simp only [jN, jY]; rw [c24b0]) | skip);have H' := aa.mk H;clear H;have hnb25 := lI.out;have hnc25 := kH.out;obtain ⟨Cq_0, Cq_1, Cq_2, Cq_3, Cq_4, Cq_5, Cq_6, Cq_7, Cq_8, Cq_9, Cq_a, Cq_b⟩ := LB.aN fU.out;obtain ⟨Fq_0, Fq_1, Fq_2, Fq_3, Fq_4, Fq_5, Fq_6, Fq_7, Fq_8, Fq_9, Fq_a, Fq_b⟩ := LB.aU fU.out;go_wp2;go_meet
  case rel => exact ⟨_, (false), (by first | rfl | (simp; done) | (simp [*]; done)), H', ⟨by first | omega | exact Nat.le_refl _⟩, ⟨by have h_ := HO177.out; exact kdQ⟩, ⟨by exact fU.out⟩, ⟨by exact HI0.out⟩, ⟨by exact HK.out⟩, ⟨by exact rud HB.out rfl rfl rfl rfl⟩⟩
 case rest =>
  clear HC8;(try clear c1 c2 p2 c3 c3b0 c3b1 c4 c4b0 c4b1 c7 c8 hx9 c11 c24 c24b0 c24b1 c25 c27 Cc_0 Cc_1 Cc_a Cc_b Cc_2 Cc_3 Cc_4 Cc_5 Cc_6 Cc_7 Cc_8 Cc_9 Cf_0 Cf_1 Cf_2 Ck_0 Ck_1 Ck_a Ck_b Ck_2 Ck_3 Ck_4 Ck_5 Ck_6 Ck_7 Ck_8 Ck_9 Cm_0 Cm_1 Cm_a Cm_b Cm_2 Cm_3 Cm_4 Cm_5 Cm_6 Cm_7 Cm_8 Cm_9 Cq_0 Cq_1 Cq_a Cq_b Cq_2 Cq_3 Cq_4 Cq_5 Cq_6 Cq_7 Cq_8 Cq_9 Cs_0 Cs_1 Cs_a Cs_b Cs_2 Cs_3 Cs_4 Cs_5 Cs_6 Cs_7 Cs_8 Cs_9 Fc_0 Fc_1 Fc_a Fc_b Fc_2 Fc_3 Fc_4 Fc_5 Fc_6 Fc_7 Fc_8 Fc_9 Ff_1 Ff_2 Fk_0 Fk_1 Fk_a Fk_b Fk_2 Fk_3 Fk_4 Fk_5 Fk_6 Fk_7 Fk_8 Fk_9 Fm_0 Fm_1 Fm_a Fm_b Fm_2 Fm_3 Fm_4 Fm_5 Fm_6 Fm_7 Fm_8 Fm_9 Fq_0 Fq_1 Fq_a Fq_b Fq_2 Fq_3 Fq_4 Fq_5 Fq_6 Fq_7 Fq_8 Fq_9 Fs_0 Fs_1 Fs_a Fs_b Fs_2 Fs_3 Fs_4 Fs_5 Fs_6 Fs_7 Fs_8 Fs_9 hx915_0 hx915_1 hx915_2);obtain ⟨kq, x42_7, rfl, HA, HJ7, fo, fU, HI0, HK, HB⟩ := hcut;cases kq with
  | zero => exact absurd HA.out (by simp [ay.j0])
  | succ kj7 =>
   have H := HA.out;clear HA;simp only [ay.j0] at H;have HC29 := aa.mk H;clear H;go_upto_if 42 with (fail);go_cut [] (fun wc => ∃ (kq : Nat) (x1001_28 : Int) (x1002_28 : Int), aa (ay.j1 kq s0_0 x1001_28 x1002_28 t168 t169 0 t173 t180 0 0 0 0 (⟨#[]⟩ : ByteArray) 0 0 = some (r1, r2, r3, r4, r5, r6, r7, r8, r9, r10, r11, r12, r13, r14)) ∧ aa (kq ≤ kj7) ∧ aa (Kd.R (Kd.int .i64) 3 wc w.heap.size (fun _ => True) (.slice Ao19 t173.length co19) t173) ∧ aa (wc.heap[iB]? = some (.cells #[IV t168, IV t169, IV 0, (.slice Ao19 t173.length co19), IV t180, IV 0, IV 0, IV 0, IV 0, .string (⟨#[]⟩ : ByteArray), IV 0, IV 0] 28 (0, 0))) ∧ aa (bF w0 wc g s0_0 x1001_28 x1002_28) ∧ aa (bG w wc g none) ∧ aa (Below w0.heap.size w0 wc))
   case first =>
    have H := HC29.out;clear HC29;by_cases c30 : x42_7 = true;rotate_left
    ·replace c30 := Bool.eq_false_iff.mpr c30
     subst c30;have H1 : (ay.j1 kj7 s0_0 t181 t182 t168 t169 0 t173 t180 0 0 0 0 (⟨#[]⟩ : ByteArray) 0 0) = some (r1, r2, r3, r4, r5, r6, r7, r8, r9, r10, r11, r12, r13, r14) := by rw [if_neg (show ¬ (false = true) by decide)] at H; exact H
     clear H;have H := H1;clear H1;have H' := aa.mk H;clear H;go_wp2;go_meet
     case rel => exact ⟨_, (t181), (t182), H', ⟨by have := HJ7.out; first | omega | exact Nat.le_refl _⟩, ⟨by have h_ := fo.out; exact kdQ⟩, ⟨by exact fU.out⟩, ⟨by exact HI0.out⟩, ⟨by exact HK.out⟩, ⟨by exact rud HB.out rfl rfl rfl rfl⟩⟩
    subst c30;have H1 : ((dx.f s0_0 t181 t182 0 1).bind fun bt183 => (ay.j1 kj7 s0_0 bt183.1 bt183.2 t168 t169 0 t173 t180 0 0 0 0 (⟨#[]⟩ : ByteArray) 0 0)) = some (r1, r2, r3, r4, r5, r6, r7, r8, r9, r10, r11, r12, r13, r14) := by rw [if_pos rfl] at H; exact H
    clear H;have H := H1;clear H1;replace H := bsQ H;obtain ⟨⟨t183, t184⟩, A310, H⟩ := H;replace H : (ay.j1 kj7 s0_0 t183 t184 t168 t169 0 t173 t180 0 0 0 0 (⟨#[]⟩ : ByteArray) 0 0) = some (r1, r2, r3, r4, r5, r6, r7, r8, r9, r10, r11, r12, r13, r14) := H;have A31 := aa.mk A310;clear A310;have H' := aa.mk H;clear H;go_wp2_with (first | ((with_reducible refine aA (f := 80) rfl ?_); refine glq (some 44) Try.func80 #[.pointer (some ⟨g, 0, none⟩), IV 0, IV 1] ?_; (with_reducible refine (dx.calls g s0_0 t181 t182 0 1 t183 t184 w0 _ ?side1 ?side2 A31.out).mono ?_); (case side1 => exact HI0.out); (case side2 => exact rud HB.out rfl rfl rfl rfl); rintro e w32 ⟨rfl, hi, hb, hk⟩; refine ⟨_, rfl, ?_⟩; have n0_ := aa.mk (Kd.bQ (Kd.R_keep (bF.apart (show bF w0 _ g s0_0 t181 t182 from by exact HI0.out) (by have h_ := fo.out; exact kdQ) (by decide)) hk (fun _ h => h.2)) (fun _ h => h.1)); have n1_ := aa.mk (bG.blk hk (g' := iB) (o := .cells #[IV t168, IV t169, IV 0, .slice Ao19 t173.length co19, IV t180, IV 0, IV 0, IV 0, IV 0, .string (⟨#[]⟩ : ByteArray), IV 0, IV 0] 28 (0, 0)) (by exact fU.out) lI.out (by simp)); have n2_ := aa.mk (bG.trans (by exact HK.out) hk (.inl rfl)); have n3_ := aa.mk (hb); have n4_ := aa.mk (hi); clear fo fU HK HB HI0; revert n0_ n1_ n2_ n3_ n4_; intro fo fU HK HB HI0));go_meet
    case rel => exact ⟨_, (t183), (t184), H', ⟨by have := HJ7.out; first | omega | exact Nat.le_refl _⟩, ⟨by have h_ := fo.out; exact kdQ⟩, ⟨by exact fU.out⟩, ⟨by exact HI0.out⟩, ⟨by exact HK.out⟩, ⟨by exact rud HB.out rfl rfl rfl rfl⟩⟩
   case rest =>
    clear HC29;(try clear c1 c2 p2 c3 c3b0 c3b1 c4 c4b0 c4b1 c7 c8 hx9 c11 c24 c24b0 c24b1 c25 c27 c30 Cc_0 Cc_1 Cc_a Cc_b Cc_2 Cc_3 Cc_4 Cc_5 Cc_6 Cc_7 Cc_8 Cc_9 Cf_0 Cf_1 Cf_2 Ck_0 Ck_1 Ck_a Ck_b Ck_2 Ck_3 Ck_4 Ck_5 Ck_6 Ck_7 Ck_8 Ck_9 Cm_0 Cm_1 Cm_a Cm_b Cm_2 Cm_3 Cm_4 Cm_5 Cm_6 Cm_7 Cm_8 Cm_9 Cq_0 Cq_1 Cq_a Cq_b Cq_2 Cq_3 Cq_4 Cq_5 Cq_6 Cq_7 Cq_8 Cq_9 Cs_0 Cs_1 Cs_a Cs_b Cs_2 Cs_3 Cs_4 Cs_5 Cs_6 Cs_7 Cs_8 Cs_9 Fc_0 Fc_1 Fc_a Fc_b Fc_2 Fc_3 Fc_4 Fc_5 Fc_6 Fc_7 Fc_8 Fc_9 Ff_1 Ff_2 Fk_0 Fk_1 Fk_a Fk_b Fk_2 Fk_3 Fk_4 Fk_5 Fk_6 Fk_7 Fk_8 Fk_9 Fm_0 Fm_1 Fm_a Fm_b Fm_2 Fm_3 Fm_4 Fm_5 Fm_6 Fm_7 Fm_8 Fm_9 Fq_0 Fq_1 Fq_a Fq_b Fq_2 Fq_3 Fq_4 Fq_5 Fq_6 Fq_7 Fq_8 Fq_9 Fs_0 Fs_1 Fs_a Fs_b Fs_2 Fs_3 Fs_4 Fs_5 Fs_6 Fs_7 Fs_8 Fs_9 hx915_0 hx915_1 hx915_2 p2);obtain ⟨kq, x1001_28, x1002_28, HA, HJ28, fo, fU, HI0, HK, HB⟩ := hcut;cases kq with
    | zero => exact absurd HA.out (by simp [ay.j1])
    | succ kj28 =>
     have H := HA.out;clear HA;simp only [ay.j1] at H;replace H := bsQ H;obtain ⟨⟨t185, t186, t187, t188⟩, A330, H⟩ := H;(try dsimp only at H);have A33 := aa.mk A330;clear A330;by_cases c34 : t180 = 1;rotate_left
     ·rw [if_neg c34] at H
      obtain ⟨c34b0, c34b1⟩ := neQ c34;replace H := bsQ H;obtain ⟨⟨t199, t200, t201⟩, A520, H⟩ := H;(try dsimp only at H);have A52 := aa.mk A520;clear A520;replace H := bsQ H;obtain ⟨⟨t202, t203, t204⟩, A530, H⟩ := H;replace H : (some (t168, t169, 0, t173, t180, t185, t186, 0, 0, (⟨#[]⟩ : ByteArray), t199, wrap64 (t202 - 1), t203, t204)) = some (r1, r2, r3, r4, r5, r6, r7, r8, r9, r10, r11, r12, r13, r14) := H;have A53 := aa.mk A530;clear A530;simp only [Option.some.injEq, Prod.mk.injEq] at H;obtain ⟨rfl, rfl, rfl, rfl, rfl, rfl, rfl, rfl, rfl, rfl, rfl, rfl, rfl, rfl⟩ := H;go_wp2_with (first | ((with_reducible refine aA (f := 78) rfl ?_); refine glq (some 46) Try.func78 #[.pointer (some ⟨g, 0, none⟩)] ?_; (with_reducible refine (bD.calls kj28 g s0_0 x1001_28 x1002_28 t185 t186 t187 t188 w0 _ ?side1 ?side2 A33.out).mono ?_); (case side1 => exact HI0.out); (case side2 => exact rud HB.out rfl rfl rfl rfl); rintro e w54 ⟨rfl, hi, hb, hk⟩; refine ⟨_, rfl, ?_⟩; have n0_ := aa.mk (Kd.bQ (Kd.R_keep (bF.apart (show bF w0 _ g s0_0 x1001_28 x1002_28 from by exact HI0.out) (by have h_ := fo.out; exact kdQ) (by decide)) hk (fun _ h => h.2)) (fun _ h => h.1)); have n1_ := aa.mk (bG.blk hk (g' := iB) (o := .cells #[IV t168, IV t169, IV 0, .slice Ao19 t173.length co19, IV t180, IV 0, IV 0, IV 0, IV 0, .string (⟨#[]⟩ : ByteArray), IV 0, IV 0] 28 (0, 0)) (by exact fU.out) lI.out (by simp)); have n2_ := aa.mk (bG.trans (by exact HK.out) hk (.inl rfl)); have n3_ := aa.mk (hb); have n4_ := aa.mk (hi); clear fo fU HK HB HI0; revert n0_ n1_ n2_ n3_ n4_; intro fo fU HK HB HI0; have hnb55 := lI.out; have hnc55 := kH.out; obtain ⟨C1k_0, C1k_1, C1k_2, C1k_3, C1k_4, C1k_5, C1k_6, C1k_7, C1k_8, C1k_9, C1k_a, C1k_b⟩ := LB.aN fU.out; obtain ⟨F1k_0, F1k_1, F1k_2, F1k_3, F1k_4, F1k_5, F1k_6, F1k_7, F1k_8, F1k_9, F1k_a, F1k_b⟩ := LB.aU fU.out) | ((with_reducible refine aA (f := 81) rfl ?_); refine glq (some 76) Try.func81 #[.pointer (some ⟨g, 0, none⟩)] ?_; (with_reducible refine (bH.calls kj28 g s0_0 t187 t188 t199 t200 t201 w0 _ ?side1 ?side2 A52.out).mono ?_); (case side1 => repeat (first | (with_reducible first | exact HI0.out | apply bF.alloc | apply bF.drewN | apply bF.drew | apply bF.ku | apply bF.kv | apply bF.far (hne := kH.out)) | exact HI0.out)); (case side2 => repeat (first | (with_reducible first | exact HB.out | apply aY | apply aH | apply aC | refine aI ?_ (bF.ge HI0.out) | refine aI ?_ GE167.out) | exact HB.out)); rintro e w57 ⟨rfl, hi, hb, hk⟩; refine ⟨_, rfl, ?_⟩; have n0_ := aa.mk (Kd.bQ (Kd.R_keep (bF.apart (show bF w0 _ g s0_0 t187 t188 from by repeat (first | (with_reducible first | exact HI0.out | apply bF.alloc | apply bF.drewN | apply bF.drew | apply bF.ku | apply bF.kv | apply bF.far (hne := kH.out)) | exact HI0.out)) (by (with_reducible repeat (first | apply Kd.bP | apply Kd.bM | apply Kd.bU)); exact (Kd.bQ (LB.Rfar2 (sb := iB) (Kd.fu fo.out fU.out (by decide)) (fun _ hk => hk.2)) (fun _ h_ => h_.1))) (by decide)) hk (fun _ h => h.2)) (fun _ h => h.1)); have n1_ := aa.mk (bG.blk hk (g' := iB) (o := .cells #[IV t168, IV t169, IV 0, .slice Ao19 t173.length co19, IV t180, IV t185, IV t186, IV 0, IV 0, .string (⟨#[]⟩ : ByteArray), IV 0, IV 0] 28 (0, 0)) (by refine bS (cs := #[IV t168, IV t169, IV 0, .slice Ao19 t173.length co19, IV t180, IV t185, IV 0, IV 0, IV 0, .string (⟨#[]⟩ : ByteArray), IV 0, IV 0]) ?_ 6 _ rfl; refine bS (cs := #[IV t168, IV t169, IV 0, .slice Ao19 t173.length co19, IV t180, IV 0, IV 0, IV 0, IV 0, .string (⟨#[]⟩ : ByteArray), IV 0, IV 0]) ?_ 5 _ rfl; exact fU.out) lI.out (by simp)); have n2_ := aa.mk (bG.trans (by repeat (first | (with_reducible first | exact HK.out | apply bG.set_ | apply jc | apply iO | apply jb | refine kg ?_ GW167.out _) | exact HK.out)) hk (.inl rfl)); have n3_ := aa.mk (hb); have n4_ := aa.mk (hi); clear fo fU HK HB HI0; revert n0_ n1_ n2_ n3_ n4_; intro fo fU HK HB HI0; obtain ⟨C1m_0, C1m_1, C1m_2, C1m_3, C1m_4, C1m_5, C1m_6, C1m_7, C1m_8, C1m_9, C1m_a, C1m_b⟩ := LB.aN fU.out; obtain ⟨F1m_0, F1m_1, F1m_2, F1m_3, F1m_4, F1m_5, F1m_6, F1m_7, F1m_8, F1m_9, F1m_a, F1m_b⟩ := LB.aU fU.out) | ((with_reducible refine aA (f := 81) rfl ?_); refine glq (some 79) Try.func81 #[.pointer (some ⟨g, 0, none⟩)] ?_; (with_reducible refine (bH.calls kj28 g s0_0 t200 t201 t202 t203 t204 w0 _ ?side1 ?side2 A53.out).mono ?_); (case side1 => repeat (first | (with_reducible first | exact HI0.out | apply bF.alloc | apply bF.drewN | apply bF.drew | apply bF.ku | apply bF.kv | apply bF.far (hne := kH.out)) | exact HI0.out)); (case side2 => repeat (first | (with_reducible first | exact HB.out | apply aY | apply aH | apply aC | refine aI ?_ (bF.ge HI0.out) | refine aI ?_ GE167.out) | exact HB.out)); rintro e w59 ⟨rfl, hi, hb, hk⟩; refine ⟨_, rfl, ?_⟩; have n0_ := aa.mk (Kd.bQ (Kd.R_keep (bF.apart (show bF w0 _ g s0_0 t200 t201 from by repeat (first | (with_reducible first | exact HI0.out | apply bF.alloc | apply bF.drewN | apply bF.drew | apply bF.ku | apply bF.kv | apply bF.far (hne := kH.out)) | exact HI0.out)) (by (with_reducible repeat (first | apply Kd.bP | apply Kd.bM | apply Kd.bU)); exact (Kd.bQ (Kd.l6 (p := ⟨iB, 10, none⟩) (Kd.fu fo.out fU.out (by decide)) (fun _ hk => hk.2) (IV t199)) (fun _ h_ => h_.1))) (by decide)) hk (fun _ h => h.2)) (fun _ h => h.1)); have n1_ := aa.mk (bG.blk hk (g' := iB) (o := .cells #[IV t168, IV t169, IV 0, .slice Ao19 t173.length co19, IV t180, IV t185, IV t186, IV 0, IV 0, .string (⟨#[]⟩ : ByteArray), IV t199, IV 0] 28 (0, 0)) (by refine bS (cs := #[IV t168, IV t169, IV 0, .slice Ao19 t173.length co19, IV t180, IV t185, IV t186, IV 0, IV 0, .string (⟨#[]⟩ : ByteArray), IV 0, IV 0]) ?_ 10 _ rfl; exact fU.out) lI.out (by simp)); have n2_ := aa.mk (bG.trans (by repeat (first | (with_reducible first | exact HK.out | apply bG.set_ | apply jc | apply iO | apply jb | refine kg ?_ GW167.out _) | exact HK.out)) hk (.inl rfl)); have n3_ := aa.mk (hb); have n4_ := aa.mk (hi); clear fo fU HK HB HI0; revert n0_ n1_ n2_ n3_ n4_; intro fo fU HK HB HI0; obtain ⟨C1o_0, C1o_1, C1o_2, C1o_3, C1o_4, C1o_5, C1o_6, C1o_7, C1o_8, C1o_9, C1o_a, C1o_b⟩ := LB.aN fU.out; obtain ⟨F1o_0, F1o_1, F1o_2, F1o_3, F1o_4, F1o_5, F1o_6, F1o_7, F1o_8, F1o_9, F1o_a, F1o_b⟩ := LB.aU fU.out) | ((with_reducible refine fC (t := 28) (p := 2) rfl ?_); refine eQ (t := 28) (p := 2) (v := ?vo_w61) (w1 := (((((((((((((w59.setCell ⟨iB, 11, none⟩ (IV (wrap64 (t202 - 1)))).setCell ⟨iB, 0, none⟩ (IV t168)).setCell ⟨iB, 1, none⟩ (IV t169)).setCell ⟨iB, 2, none⟩ (IV 0)).setCell ⟨iB, 3, none⟩ (.slice Ao19 t173.length co19)).setCell ⟨iB, 4, none⟩ (IV t180)).setCell ⟨iB, 5, none⟩ (IV t185)).setCell ⟨iB, 6, none⟩ (IV t186)).setCell ⟨iB, 7, none⟩ (IV 0)).setCell ⟨iB, 8, none⟩ (IV 0)).setCell ⟨iB, 9, none⟩ (.string (⟨#[]⟩ : ByteArray))).setCell ⟨iB, 10, none⟩ (IV t199)).setCell ⟨iB, 11, none⟩ (IV (wrap64 (t202 - 1))))) ?hg ?ho ?hn ?hr ?_; (case ho => rfl); (case hg => rfl); (case hn => rfl); (case hr => first | (go_simp; done) | (go_simp; rfl)); intro w61 hw; have n0_ : aa (Kd.R (Kd.int .i64) 3 w61 w.heap.size (fun _ => True) (.slice Ao19 t173.length co19) t173) := ⟨(by rw [hw]; exact (by (with_reducible repeat (first | apply Kd.bP | apply Kd.bM | apply Kd.bU)); exact Kd.bQ (Kd.l6 (p := ⟨iB, 11, none⟩) (LB.ji (sb := iB) (Kd.fu fo.out fU.out (by decide)) (fun _ hk => hk.2)) (fun _ hk => hk.2) (IV (wrap64 (t202 - 1)))) (fun _ hk => trivial)))⟩; have n1_ : aa (w61.heap[iB]? = some (.cells #[IV t168, IV t169, IV 0, .slice Ao19 t173.length co19, IV t180, IV t185, IV t186, IV 0, IV 0, .string (⟨#[]⟩ : ByteArray), IV t199, IV (wrap64 (t202 - 1))] 28 (0, 0))) := ⟨(by rw [hw]; exact (by refine bS (cs := #[IV t168, IV t169, IV 0, .slice Ao19 t173.length co19, IV t180, IV t185, IV t186, IV 0, IV 0, .string (⟨#[]⟩ : ByteArray), IV t199, IV (wrap64 (t202 - 1))]) ?_ 11 _ rfl; refine bS (cs := #[IV t168, IV t169, IV 0, .slice Ao19 t173.length co19, IV t180, IV t185, IV t186, IV 0, IV 0, .string (⟨#[]⟩ : ByteArray), IV t199, IV (wrap64 (t202 - 1))]) ?_ 10 _ rfl; refine bS (cs := #[IV t168, IV t169, IV 0, .slice Ao19 t173.length co19, IV t180, IV t185, IV t186, IV 0, IV 0, .string (⟨#[]⟩ : ByteArray), IV t199, IV (wrap64 (t202 - 1))]) ?_ 9 _ rfl; refine bS (cs := #[IV t168, IV t169, IV 0, .slice Ao19 t173.length co19, IV t180, IV t185, IV t186, IV 0, IV 0, .string (⟨#[]⟩ : ByteArray), IV t199, IV (wrap64 (t202 - 1))]) ?_ 8 _ rfl; refine bS (cs := #[IV t168, IV t169, IV 0, .slice Ao19 t173.length co19, IV t180, IV t185, IV t186, IV 0, IV 0, .string (⟨#[]⟩ : ByteArray), IV t199, IV (wrap64 (t202 - 1))]) ?_ 7 _ rfl; refine bS (cs := #[IV t168, IV t169, IV 0, .slice Ao19 t173.length co19, IV t180, IV t185, IV t186, IV 0, IV 0, .string (⟨#[]⟩ : ByteArray), IV t199, IV (wrap64 (t202 - 1))]) ?_ 6 _ rfl; refine bS (cs := #[IV t168, IV t169, IV 0, .slice Ao19 t173.length co19, IV t180, IV t185, IV t186, IV 0, IV 0, .string (⟨#[]⟩ : ByteArray), IV t199, IV (wrap64 (t202 - 1))]) ?_ 5 _ rfl; refine bS (cs := #[IV t168, IV t169, IV 0, .slice Ao19 t173.length co19, IV t180, IV t185, IV t186, IV 0, IV 0, .string (⟨#[]⟩ : ByteArray), IV t199, IV (wrap64 (t202 - 1))]) ?_ 4 _ rfl; refine bS (cs := #[IV t168, IV t169, IV 0, .slice Ao19 t173.length co19, IV t180, IV t185, IV t186, IV 0, IV 0, .string (⟨#[]⟩ : ByteArray), IV t199, IV (wrap64 (t202 - 1))]) ?_ 3 _ rfl; refine bS (cs := #[IV t168, IV t169, IV 0, .slice Ao19 t173.length co19, IV t180, IV t185, IV t186, IV 0, IV 0, .string (⟨#[]⟩ : ByteArray), IV t199, IV (wrap64 (t202 - 1))]) ?_ 2 _ rfl; refine bS (cs := #[IV t168, IV t169, IV 0, .slice Ao19 t173.length co19, IV t180, IV t185, IV t186, IV 0, IV 0, .string (⟨#[]⟩ : ByteArray), IV t199, IV (wrap64 (t202 - 1))]) ?_ 1 _ rfl; refine bS (cs := #[IV t168, IV t169, IV 0, .slice Ao19 t173.length co19, IV t180, IV t185, IV t186, IV 0, IV 0, .string (⟨#[]⟩ : ByteArray), IV t199, IV (wrap64 (t202 - 1))]) ?_ 0 _ rfl; refine bS (cs := #[IV t168, IV t169, IV 0, .slice Ao19 t173.length co19, IV t180, IV t185, IV t186, IV 0, IV 0, .string (⟨#[]⟩ : ByteArray), IV t199, IV 0]) ?_ 11 _ rfl; exact fU.out))⟩; have n2_ : aa (bF w0 w61 g s0_0 t203 t204) := ⟨(by rw [hw]; exact (by repeat (first | (with_reducible first | exact HI0.out | apply bF.alloc | apply bF.drewN | apply bF.drew | apply bF.ku | apply bF.kv | apply bF.far (hne := kH.out)) | exact HI0.out)))⟩; have n3_ : aa (bG w w61 g none) := ⟨(by rw [hw]; exact (by repeat (first | (with_reducible first | exact HK.out | apply bG.set_ | apply jc | apply iO | apply jb | refine kg ?_ GW167.out _) | exact HK.out)))⟩; have n4_ : aa (Below w0.heap.size w0 w61) := ⟨(by rw [hw]; exact (by repeat (first | (with_reducible first | exact HB.out | apply aY | apply aH | apply aC | refine aI ?_ (bF.ge HI0.out) | refine aI ?_ GE167.out) | exact HB.out)))⟩; clear hw fo fU HI0 HK HB; revert n0_ n1_ n2_ n3_ n4_; intro fo fU HI0 HK HB));refine bodyPost_ret (results_cell_row rfl _ _ iB 28 #[IV t168, IV t169, IV 0, .slice Ao19 t173.length co19, IV t180, IV t185, IV t186, IV 0, IV 0, .string (⟨#[]⟩ : ByteArray), IV t199, IV (wrap64 (t202 - 1))] (0, 0) _ rfl (by exact fU.out) Try.underlying28 rfl (by kernel_rfl)) rfl ?_;exact ⟨_, by first | rfl | (simp <;> rfl) | (simp [*] <;> rfl), by have h_ := fo.out; exact kdQ, by exact HI0.out, by exact rud HB.out rfl rfl rfl rfl, by exact HK.out⟩
     rw [if_pos c34] at H;obtain ⟨c34b0, c34b1⟩ := eqQ c34;clear c34;replace H := bsQ H;obtain ⟨⟨t189, t190, t191, t192⟩, A350, H⟩ := H;(try dsimp only at H);have A35 := aa.mk A350;clear A350;by_cases c36 : 0 ≤ t191;rotate_left
     ·rw [if_neg c36] at H
      exact absurd H (by simp)
     rw [if_pos c36] at H;have c36b0 := eq_true c36;have c36b1 : decide (0 ≤ t191) = true := decide_eq_true c36;clear c36;by_cases c37 : t191 ≤ (s0_0.length : Int);rotate_left
     ·rw [if_neg c37] at H
      exact absurd H (by simp)
     rw [if_pos c37] at H;have c37b0 := eq_true c37;have c37b1 : decide (t191 ≤ (s0_0.length : Int)) = true := decide_eq_true c37;clear c37;replace H := bsQ H;obtain ⟨⟨t194, t195, t196⟩, A380, H⟩ := H;replace H : ((dx.f s0_0 t191 t192 t195 t196).bind fun bt197 => (some (t168, t169, 0, t173, t180, t185, t186, t189, t190, t194, 0, 0, bt197.1, bt197.2))) = some (r1, r2, r3, r4, r5, r6, r7, r8, r9, r10, r11, r12, r13, r14) := H;have A38 := aa.mk A380;clear A380;replace H := bsQ H;obtain ⟨⟨t197, t198⟩, A390, H⟩ := H;replace H : (some (t168, t169, 0, t173, t180, t185, t186, t189, t190, t194, 0, 0, t197, t198)) = some (r1, r2, r3, r4, r5, r6, r7, r8, r9, r10, r11, r12, r13, r14) := H;have A39 := aa.mk A390;clear A390;simp only [Option.some.injEq, Prod.mk.injEq] at H;obtain ⟨rfl, rfl, rfl, rfl, rfl, rfl, rfl, rfl, rfl, rfl, rfl, rfl, rfl, rfl⟩ := H;try go_wp2_with (first | ((with_reducible refine aA (f := 78) rfl ?_); refine glq (some 46) Try.func78 #[.pointer (some ⟨g, 0, none⟩)] ?_; (with_reducible refine (bD.calls kj28 g s0_0 x1001_28 x1002_28 t185 t186 t187 t188 w0 _ ?side1 ?side2 A33.out).mono ?_); (case side1 => exact HI0.out); (case side2 => exact rud HB.out rfl rfl rfl rfl); rintro e w40 ⟨rfl, hi, hb, hk⟩; refine ⟨_, rfl, ?_⟩; have n0_ := aa.mk (Kd.bQ (Kd.R_keep (bF.apart (show bF w0 _ g s0_0 x1001_28 x1002_28 from by exact HI0.out) (by have h_ := fo.out; exact kdQ) (by decide)) hk (fun _ h => h.2)) (fun _ h => h.1)); have n1_ := aa.mk (bG.blk hk (g' := iB) (o := .cells #[IV t168, IV t169, IV 0, .slice Ao19 t173.length co19, IV t180, IV 0, IV 0, IV 0, IV 0, .string (⟨#[]⟩ : ByteArray), IV 0, IV 0] 28 (0, 0)) (by exact fU.out) lI.out (by simp)); have n2_ := aa.mk (bG.trans (by exact HK.out) hk (.inl rfl)); have n3_ := aa.mk (hb); have n4_ := aa.mk (hi); clear fo fU HK HB HI0; revert n0_ n1_ n2_ n3_ n4_; intro fo fU HK HB HI0; have hnb41 := lI.out; have hnc41 := kH.out; obtain ⟨C16_0, C16_1, C16_2, C16_3, C16_4, C16_5, C16_6, C16_7, C16_8, C16_9, C16_a, C16_b⟩ := LB.aN fU.out; obtain ⟨F16_0, F16_1, F16_2, F16_3, F16_4, F16_5, F16_6, F16_7, F16_8, F16_9, F16_a, F16_b⟩ := LB.aU fU.out) | ((with_reducible refine aA (f := 78) rfl ?_); refine glq (some 52) Try.func78 #[.pointer (some ⟨g, 0, none⟩)] ?_; (with_reducible refine (bD.calls kj28 g s0_0 t187 t188 t189 t190 t191 t192 w0 _ ?side1 ?side2 A35.out).mono ?_); (case side1 => repeat (first | (with_reducible first | exact HI0.out | apply bF.alloc | apply bF.drewN | apply bF.drew | apply bF.ku | apply bF.kv | apply bF.far (hne := kH.out)) | exact HI0.out)); (case side2 => repeat (first | (with_reducible first | exact HB.out | apply aY | apply aH | apply aC | refine aI ?_ (bF.ge HI0.out) | refine aI ?_ GE167.out) | exact HB.out)); rintro e w43 ⟨rfl, hi, hb, hk⟩; refine ⟨_, rfl, ?_⟩; have n0_ := aa.mk (Kd.bQ (Kd.R_keep (bF.apart (show bF w0 _ g s0_0 t187 t188 from by repeat (first | (with_reducible first | exact HI0.out | apply bF.alloc | apply bF.drewN | apply bF.drew | apply bF.ku | apply bF.kv | apply bF.far (hne := kH.out)) | exact HI0.out)) (by (with_reducible repeat (first | apply Kd.bP | apply Kd.bM | apply Kd.bU)); exact (Kd.bQ (LB.Rfar2 (sb := iB) (Kd.fu fo.out fU.out (by decide)) (fun _ hk => hk.2)) (fun _ h_ => h_.1))) (by decide)) hk (fun _ h => h.2)) (fun _ h => h.1)); have n1_ := aa.mk (bG.blk hk (g' := iB) (o := .cells #[IV t168, IV t169, IV 0, .slice Ao19 t173.length co19, IV t180, IV t185, IV t186, IV 0, IV 0, .string (⟨#[]⟩ : ByteArray), IV 0, IV 0] 28 (0, 0)) (by refine bS (cs := #[IV t168, IV t169, IV 0, .slice Ao19 t173.length co19, IV t180, IV t185, IV 0, IV 0, IV 0, .string (⟨#[]⟩ : ByteArray), IV 0, IV 0]) ?_ 6 _ rfl; refine bS (cs := #[IV t168, IV t169, IV 0, .slice Ao19 t173.length co19, IV t180, IV 0, IV 0, IV 0, IV 0, .string (⟨#[]⟩ : ByteArray), IV 0, IV 0]) ?_ 5 _ rfl; exact fU.out) lI.out (by simp)); have n2_ := aa.mk (bG.trans (by repeat (first | (with_reducible first | exact HK.out | apply bG.set_ | apply jc | apply iO | apply jb | refine kg ?_ GW167.out _) | exact HK.out)) hk (.inl rfl)); have n3_ := aa.mk (hb); have n4_ := aa.mk (hi); clear fo fU HK HB HI0; revert n0_ n1_ n2_ n3_ n4_; intro fo fU HK HB HI0; obtain ⟨C18_0, C18_1, C18_2, C18_3, C18_4, C18_5, C18_6, C18_7, C18_8, C18_9, C18_a, C18_b⟩ := LB.aN fU.out; obtain ⟨F18_0, F18_1, F18_2, F18_3, F18_4, F18_5, F18_6, F18_7, F18_8, F18_9, F18_a, F18_b⟩ := LB.aU fU.out))
     generalize hq_ : ((w43.setCell ⟨iB, 7, none⟩ (IV t189)).setCell ⟨iB, 8, none⟩ (IV t190)) = w45;have n0_ : aa (Kd.R (Kd.int .i64) 3 w45 w.heap.size (fun _ => True) (.slice Ao19 t173.length co19) t173) := ⟨by rw [← hq_]; exact by (with_reducible repeat (first | apply Kd.bP | apply Kd.bM | apply Kd.bU)); exact Kd.bQ (LB.Rfar2 (sb := iB) (Kd.fu fo.out fU.out (by decide)) (fun _ hk => hk.2)) (fun _ hk => trivial)⟩
     have n1_ : aa (w45.heap[iB]? = some (.cells #[IV t168, IV t169, IV 0, .slice Ao19 t173.length co19, IV t180, IV t185, IV t186, IV t189, IV t190, .string (⟨#[]⟩ : ByteArray), IV 0, IV 0] 28 (0, 0))) := ⟨by rw [← hq_]; exact by refine bS (cs := #[IV t168, IV t169, IV 0, .slice Ao19 t173.length co19, IV t180, IV t185, IV t186, IV t189, IV 0, .string (⟨#[]⟩ : ByteArray), IV 0, IV 0]) ?_ 8 _ rfl; refine bS (cs := #[IV t168, IV t169, IV 0, .slice Ao19 t173.length co19, IV t180, IV t185, IV t186, IV 0, IV 0, .string (⟨#[]⟩ : ByteArray), IV 0, IV 0]) ?_ 7 _ rfl; exact fU.out⟩
     have n2_ : aa (bF w0 w45 g s0_0 t191 t192) := ⟨by rw [← hq_]; exact by repeat (first | (with_reducible first | exact HI0.out | apply bF.alloc | apply bF.drewN | apply bF.drew | apply bF.ku | apply bF.kv | apply bF.far (hne := kH.out)) | exact HI0.out)⟩
     have n3_ : aa (bG w w45 g none) := ⟨by rw [← hq_]; exact by repeat (first | (with_reducible first | exact HK.out | apply bG.set_ | apply jc | apply iO | apply jb | refine kg ?_ GW167.out _) | exact HK.out)⟩
     have n4_ : aa (Below w0.heap.size w0 w45) := ⟨by rw [← hq_]; exact by repeat (first | (with_reducible first | exact HB.out | apply aY | apply aH | apply aC | refine aI ?_ (bF.ge HI0.out) | refine aI ?_ GE167.out) | exact HB.out)⟩
     clear hq_;(try clear fo fU HI0 HK HB);revert n0_ n1_ n2_ n3_ n4_;intro fo fU HI0 HK HB;have n0_ := aa.mk (Kd.bU fo.out);have n1_ := aa.mk (dW fU.out);have n2_ := aa.mk (bF.drew HI0.out);have n3_ := aa.mk (iO HK.out);have n4_ := aa.mk (aC HB.out);clear fo fU HI0 HK HB;revert n0_ n1_ n2_ n3_ n4_;intro fo fU HI0 HK HB;obtain ⟨ASz47_0, cSz47_0, HGz47, hgz47, HSz47_0, HcSz47_0⟩ := HI0.out;have C1b_0 := kT HGz47;have C1b_1 := kU HGz47;have C1b_2 := kV HGz47;have F1b_1 := ax HGz47 1;have F1b_2 := ax HGz47 2;clear HGz47 hgz47;have hx947_0 := C1b_0;clear C1b_0;have hx947_1 := C1b_1;clear C1b_1;have hx947_2 := C1b_2;clear C1b_2;have HRSz47_0 := aa.mk HSz47_0;have HCSz47_0 := aa.mk HcSz47_0;obtain ⟨i048, hi048, _, hsz48, _⟩ := info_parts info5;obtain ⟨A48, hcut48, hA48, hC48⟩ := fV (P := Try.prog) (Value.int .u8) 0 29 5 .i64 Try.underlying29 hi048 hsz48 ASz47_0 cSz47_0 s0_0 t191 (of_decide_eq_true (by first | (with_reducible assumption) | assumption)) (of_decide_eq_true (by first | (with_reducible assumption) | assumption)) HCSz47_0.out;have HR193 := aa.mk (Kd.gQ (h1 := fun _ => rfl) (hA48 _ (Kd.gG HRSz47_0.out)));have HC193 := aa.mk hC48;clear hA48 hC48 hi048 hsz48;refine gW (n := 17) (S := fun w' => w'.cell? ⟨g, 0, none⟩ = some (.slice ASz47_0 s0_0.length cSz47_0) ∧ w'.cell? ⟨g, 1, none⟩ = some (IV t191) ∧ w'.cell? ⟨g, 2, none⟩ = some (IV t192)) (ds := []) (rbs 17 0) (by kernel_rfl) rfl rfl ⟨hx947_0, hx947_1, hx947_2⟩ (fun hHeld => ?_); refine dQ ay.tab11 ay.bits11 (fun HT_ HW_ => ?_);generalize w45.drew = w46 at fo fU HI0 HK HB HR193 hx947_0 hx947_1 hx947_2 hHeld ⊢;apply rqu 0 55 17 1;apply rqu 1 56 17 3;apply rqu 2 57 17 7;apply rqu 4 59 17 23;apply rqu 5 60 17 55;apply rqu 6 61 17 119;apply mq 3 58 17 127;apply mq 7 62 17 255;apply rqu 8 63 17 511;refine onq 9 (some 64) 17 1023 (fun K hK => ?_);refine goes_ Try.func82 (by kernel_rfl) rfl #[.slice A48 (s0_0.drop (t191 : Int).toNat).length (cSz47_0 - t191.toNat)] (by rfl) rfl rfl (by (try simp only [lA, lC, lN]); first | done | (rw [show (s0_0.drop (t191 : Int).toNat).length = (s0_0.length - t191.toNat) from List.length_drop] <;> rfl) | rfl | (simp only [lD, lT]; rfl)) ?_;with_reducible refine (d9.calls kj28 _ _ (s0_0.drop (t191 : Int).toNat) t194 t195 t196 _ ?side1 ?side2 A38.out).mono ?_
     (case side1 => exact Kd.df HR193.out (by exact rud HB.out rfl rfl rfl rfl));(case side2 => exact HC193.out);rintro e w' ⟨rfl, ⟨nd, rfl⟩⟩;refine ⟨_, rfl, ?_⟩;refine hK.out _ _ ⟨hHeld.1, hHeld.2.1, hHeld.2.2⟩ (fun hHeld => ?_);clear hK K;refine gF (a' := ?_) ?_ ?_;rotate_left
     ·show Act.put _ (some 64) _ = _
      simp only [pS];rfl
     apply rqu 10 54 17 2047;apply rqu 11 65 17 4095;apply rqu 12 66 17 8191;apply rqu 13 67 17 16383;apply rqu 14 6 17 32767;apply rqu 15 7 17 65535;apply rqu 16 8 17 131071;refine jR (gm HT_.out (by kernel_rfl)) ?_;try go_wp2_with (first | ((with_reducible refine aA (f := 80) rfl ?_); refine glq (some 71) Try.func80 #[.pointer (some ⟨g, 0, none⟩), IV t195, IV t196] ?_; (with_reducible refine (dx.calls g s0_0 t191 t192 t195 t196 t197 t198 w0 _ ?side1 ?side2 A39.out).mono ?_); (case side1 => exact HI0.out); (case side2 => exact rud HB.out rfl rfl rfl rfl); rintro e w49 ⟨rfl, hi, hb, hk⟩; refine ⟨_, rfl, ?_⟩; have n0_ := aa.mk (Kd.bQ (Kd.R_keep (bF.apart (show bF w0 _ g s0_0 t191 t192 from by exact HI0.out) (by have h_ := fo.out; exact kdQ) (by decide)) hk (fun _ h => h.2)) (fun _ h => h.1)); have n1_ := aa.mk (bG.blk hk (g' := iB) (o := .cells #[IV t168, IV t169, IV 0, .slice Ao19 t173.length co19, IV t180, IV t185, IV t186, IV t189, IV t190, .string (⟨#[]⟩ : ByteArray), IV 0, IV 0] 28 (0, 0)) (by exact fU.out) lI.out (by simp)); have n2_ := aa.mk (bG.trans (by exact HK.out) hk (.inl rfl)); have n3_ := aa.mk (hb); have n4_ := aa.mk (hi); clear fo fU HK HB HI0; revert n0_ n1_ n2_ n3_ n4_; intro fo fU HK HB HI0; obtain ⟨C1e_0, C1e_1, C1e_2, C1e_3, C1e_4, C1e_5, C1e_6, C1e_7, C1e_8, C1e_9, C1e_a, C1e_b⟩ := LB.aN fU.out; obtain ⟨F1e_0, F1e_1, F1e_2, F1e_3, F1e_4, F1e_5, F1e_6, F1e_7, F1e_8, F1e_9, F1e_a, F1e_b⟩ := LB.aU fU.out) | ((with_reducible refine fC (t := 28) (p := 2) rfl ?_); refine eQ (t := 28) (p := 2) (v := ?vo_w51) (w1 := (((((((((((((w49.setCell ⟨iB, 9, none⟩ (.string t194)).setCell ⟨iB, 0, none⟩ (IV t168)).setCell ⟨iB, 1, none⟩ (IV t169)).setCell ⟨iB, 2, none⟩ (IV 0)).setCell ⟨iB, 3, none⟩ (.slice Ao19 t173.length co19)).setCell ⟨iB, 4, none⟩ (IV t180)).setCell ⟨iB, 5, none⟩ (IV t185)).setCell ⟨iB, 6, none⟩ (IV t186)).setCell ⟨iB, 7, none⟩ (IV t189)).setCell ⟨iB, 8, none⟩ (IV t190)).setCell ⟨iB, 9, none⟩ (.string t194)).setCell ⟨iB, 10, none⟩ (IV 0)).setCell ⟨iB, 11, none⟩ (IV 0))) ?hg ?ho ?hn ?hr ?_; (case ho => rfl); (case hg => rfl); (case hn => rfl); (case hr => first | (go_simp; done) | (go_simp; rfl)); intro w51 hw; have n0_ : aa (Kd.R (Kd.int .i64) 3 w51 w.heap.size (fun _ => True) (.slice Ao19 t173.length co19) t173) := ⟨(by rw [hw]; exact (by (with_reducible repeat (first | apply Kd.bP | apply Kd.bM | apply Kd.bU)); exact Kd.bQ (Kd.l6 (p := ⟨iB, 11, none⟩) (LB.ji (sb := iB) (Kd.fu fo.out fU.out (by decide)) (fun _ hk => hk.2)) (fun _ hk => hk.2) (IV 0)) (fun _ hk => trivial)))⟩; have n1_ : aa (w51.heap[iB]? = some (.cells #[IV t168, IV t169, IV 0, .slice Ao19 t173.length co19, IV t180, IV t185, IV t186, IV t189, IV t190, .string t194, IV 0, IV 0] 28 (0, 0))) := ⟨(by rw [hw]; exact (by refine bS (cs := #[IV t168, IV t169, IV 0, .slice Ao19 t173.length co19, IV t180, IV t185, IV t186, IV t189, IV t190, .string t194, IV 0, IV 0]) ?_ 11 _ rfl; refine bS (cs := #[IV t168, IV t169, IV 0, .slice Ao19 t173.length co19, IV t180, IV t185, IV t186, IV t189, IV t190, .string t194, IV 0, IV 0]) ?_ 10 _ rfl; refine bS (cs := #[IV t168, IV t169, IV 0, .slice Ao19 t173.length co19, IV t180, IV t185, IV t186, IV t189, IV t190, .string t194, IV 0, IV 0]) ?_ 9 _ rfl; refine bS (cs := #[IV t168, IV t169, IV 0, .slice Ao19 t173.length co19, IV t180, IV t185, IV t186, IV t189, IV t190, .string t194, IV 0, IV 0]) ?_ 8 _ rfl; refine bS (cs := #[IV t168, IV t169, IV 0, .slice Ao19 t173.length co19, IV t180, IV t185, IV t186, IV t189, IV t190, .string t194, IV 0, IV 0]) ?_ 7 _ rfl; refine bS (cs := #[IV t168, IV t169, IV 0, .slice Ao19 t173.length co19, IV t180, IV t185, IV t186, IV t189, IV t190, .string t194, IV 0, IV 0]) ?_ 6 _ rfl; refine bS (cs := #[IV t168, IV t169, IV 0, .slice Ao19 t173.length co19, IV t180, IV t185, IV t186, IV t189, IV t190, .string t194, IV 0, IV 0]) ?_ 5 _ rfl; refine bS (cs := #[IV t168, IV t169, IV 0, .slice Ao19 t173.length co19, IV t180, IV t185, IV t186, IV t189, IV t190, .string t194, IV 0, IV 0]) ?_ 4 _ rfl; refine bS (cs := #[IV t168, IV t169, IV 0, .slice Ao19 t173.length co19, IV t180, IV t185, IV t186, IV t189, IV t190, .string t194, IV 0, IV 0]) ?_ 3 _ rfl; refine bS (cs := #[IV t168, IV t169, IV 0, .slice Ao19 t173.length co19, IV t180, IV t185, IV t186, IV t189, IV t190, .string t194, IV 0, IV 0]) ?_ 2 _ rfl; refine bS (cs := #[IV t168, IV t169, IV 0, .slice Ao19 t173.length co19, IV t180, IV t185, IV t186, IV t189, IV t190, .string t194, IV 0, IV 0]) ?_ 1 _ rfl; refine bS (cs := #[IV t168, IV t169, IV 0, .slice Ao19 t173.length co19, IV t180, IV t185, IV t186, IV t189, IV t190, .string t194, IV 0, IV 0]) ?_ 0 _ rfl; refine bS (cs := #[IV t168, IV t169, IV 0, .slice Ao19 t173.length co19, IV t180, IV t185, IV t186, IV t189, IV t190, .string (⟨#[]⟩ : ByteArray), IV 0, IV 0]) ?_ 9 _ rfl; exact fU.out))⟩; have n2_ : aa (bF w0 w51 g s0_0 t197 t198) := ⟨(by rw [hw]; exact (by repeat (first | (with_reducible first | exact HI0.out | apply bF.alloc | apply bF.drewN | apply bF.drew | apply bF.ku | apply bF.kv | apply bF.far (hne := kH.out)) | exact HI0.out)))⟩; have n3_ : aa (bG w w51 g none) := ⟨(by rw [hw]; exact (by repeat (first | (with_reducible first | exact HK.out | apply bG.set_ | apply jc | apply iO | apply jb | refine kg ?_ GW167.out _) | exact HK.out)))⟩; have n4_ : aa (Below w0.heap.size w0 w51) := ⟨(by rw [hw]; exact (by repeat (first | (with_reducible first | exact HB.out | apply aY | apply aH | apply aC | refine aI ?_ (bF.ge HI0.out) | refine aI ?_ GE167.out) | exact HB.out)))⟩; clear hw fo fU HI0 HK HB; revert n0_ n1_ n2_ n3_ n4_; intro fo fU HI0 HK HB))
     refine bodyPost_ret (results_cell_row rfl _ _ iB 28 #[IV t168, IV t169, IV 0, .slice Ao19 t173.length co19, IV t180, IV t185, IV t186, IV t189, IV t190, .string t194, IV 0, IV 0] (0, 0) _ rfl (by exact fU.out) Try.underlying28 rfl (by kernel_rfl)) rfl ?_;exact ⟨_, by first | rfl | (simp <;> rfl) | (simp [*] <;> rfl), by have h_ := fo.out; exact kdQ, by exact HI0.out, by exact rud HB.out rfl rfl rfl rfl, by exact HK.out⟩
theorem key_Is.calls (a0 : ByteArray) (r : Bool) (w : World) (h : key_Is.f a0 = some r) :
  Calls Try.prog 104 #[.string a0] w fun e w' => e = .returned (.bool r) ∧ bv w w' := by
 have H : (if (a0.size : Int) ≥ 1 then (if (a0.size : Int) ≤ 64 then (if 0 ≤ (wrap64 ((a0.size : Int) - 1)) then (if (wrap64 ((a0.size : Int) - 1)) < (a0.size : Int) then (some ((bt a0 (wrap64 ((a0.size : Int) - 1))) != 0)) else (none)) else (none)) else (some false)) else (some false)) = some r := h;clear h;by_cases c2 : (a0.size : Int) ≥ 1
 ·rw [if_pos c2] at H
  have c2b0 : decide (1 ≤ (a0.size : Int)) = true := decide_eq_true c2;have c2b1 : decide (1 ≤ a0.size) = true := decide_eq_true (by omega);clear c2;by_cases c3 : (a0.size : Int) ≤ 64
  ·rw [if_pos c3] at H
   have c3b0 : decide ((a0.size : Int) ≤ 64) = true := decide_eq_true c3;have c3b1 : decide (a0.size ≤ 64) = true := decide_eq_true (by omega);clear c3;obtain ⟨ji4, hji4⟩ : ∃ j_ : Int, (wrap64 ((a0.size : Int) - 1)) = j_ := ⟨_, rfl⟩
   replace H : (if 0 ≤ (ji4) then (if (ji4) < (a0.size : Int) then (some ((bt a0 (ji4)) != 0)) else (none)) else (none)) = some r := by first | (rw [hji4] at H; exact H) | (simp only [hji4] at H ⊢; exact H)
   have hji4w : (IntKind.i64.wrap ((a0.size : Int) - 1)) = ji4 := (jN _).trans hji4;by_cases c5 : 0 ≤ (ji4)
   ·rw [if_pos c5] at H
    have c5b0 : decide (0 ≤ (ji4)) = true := decide_eq_true c5;clear c5;by_cases c6 : (ji4) < (a0.size : Int)
    ·rw [if_pos c6] at H
     have c6b0 : decide ((ji4) < (a0.size : Int)) = true := decide_eq_true c6;clear c6;obtain rfl := Option.some.inj H;have p7 : 0 ≤ ((ji4) : Int) := of_decide_eq_true (by first | (with_reducible assumption) | assumption);have q7 : (ji4) < (a0.size : Int) := of_decide_eq_true (by first | (with_reducible assumption) | assumption);have hx7 := bt_at a0 (ji4);replace p7 := eq_true p7;replace q7 := eq_true q7;go_enter Try.func104, Try.ntmps104;go_wp2;go_ret;exact ⟨by first | rfl | (simp; done) | (simp only [← hji4] <;> (first | rfl | simp)) | (simp [*]; done), by repeat (first | exact bv.refl _ | apply bv.step)⟩
    ·rw [if_neg c6] at H
     exact absurd H (by simp)
   ·rw [if_neg c5] at H
    exact absurd H (by simp)
  ·rw [if_neg c3] at H
   have c3b0 : decide ((a0.size : Int) ≤ 64) = false := decide_eq_false c3;have c3b1 : decide (a0.size ≤ 64) = false := decide_eq_false (by omega);clear c3;obtain rfl := Option.some.inj H;go_enter Try.func104, Try.ntmps104;go_wp2;go_ret;exact ⟨by first | rfl | (simp; done) | (simp [*]; done), by repeat (first | exact bv.refl _ | apply bv.step)⟩
 ·rw [if_neg c2] at H
  have c2b0 : decide (1 ≤ (a0.size : Int)) = false := decide_eq_false c2;have c2b1 : decide (1 ≤ a0.size) = false := decide_eq_false (by omega);clear c2;obtain rfl := Option.some.inj H;go_enter Try.func104, Try.ntmps104;go_wp2;go_ret;exact ⟨by first | rfl | (simp; done) | (simp [*]; done), by repeat (first | exact bv.refl _ | apply bv.step)⟩
end Go.Proofs.Ytddnlnjmikcgfaa.PC
end
section
namespace Go.Proofs.Ytddnlnjmikcgfaa.PC
open Go.RowKit Go.WB.PrintWords Go.WB.PrintLast Go.WB.PrintMore
attribute [local go_sem] dh dm eB eD bZ cu di dn
set_option linter.unusedVariables false
set_option linter.unusedSimpArgs false
set_option maxHeartbeats 40000000
set_option maxRecDepth 100000
theorem prop_Is.calls (a0 : Int) (r : Bool) (w : World) (h : prop_Is.f a0 = some r) :
  Calls Try.prog 109 #[.int .i64 a0] w fun e w' => e = .returned (.bool r) ∧ bv w w' := by
 have H : (if a0 ≥ 0 then (some (decide (a0 < 19))) else (some false)) = some r := h;clear h;by_cases c2 : a0 ≥ 0
 ·rw [if_pos c2] at H
  have c2b0 : decide (0 ≤ a0) = true := decide_eq_true c2;clear c2;obtain rfl := Option.some.inj H;go_enter Try.func109, Try.ntmps109;go_wp2;go_ret;exact ⟨by first | rfl | (simp; done) | (simp [*]; done), by repeat (first | exact bv.refl _ | apply bv.step)⟩
 ·rw [if_neg c2] at H
  have c2b0 : decide (0 ≤ a0) = false := decide_eq_false c2;clear c2;obtain rfl := Option.some.inj H;go_enter Try.func109, Try.ntmps109;go_wp2;go_ret;exact ⟨by first | rfl | (simp; done) | (simp [*]; done), by repeat (first | exact bv.refl _ | apply bv.step)⟩
end Go.Proofs.Ytddnlnjmikcgfaa.PC
end
section
namespace Go.Proofs.Ytddnlnjmikcgfaa.PC
open Go.RowKit Go.WB.PrintWords Go.WB.PrintLast Go.WB.PrintMore
attribute [local go_sem] dh dm eB eD bZ cu di dn
set_option linter.unusedVariables false
set_option linter.unusedSimpArgs false
open Go.LB (sT sZ sS cells3 aN fH aU)
open Go.SB (rpu rpf rtk rpu0 rpf0 rtk0 rbs rud pS IV rdu lA lC lN lD lT rqu rqf onq goq glq neQ eqQ bsQ kdQ rqt1 l9 mq fI gy iV)
set_option maxHeartbeats 40000000
set_option maxRecDepth 100000
theorem aD.calls (k : Nat) (a0 r1 r2 r3 : Int) (r4 : Bool) (w : World) (h : aD.f k a0 = some (r1, r2, r3, r4)) :
  Calls Try.prog 110 #[.int .i64 a0] w fun e w' => e = .returned (.agg #[.int .i64 r1, .int .i64 r2, .int .i64 r3, .bool r4]) ∧ Below w.heap.size w w' := by
 have hu136 := Try.underlying136;have HB := aa.mk (Below.refl w.heap.size w);have H : (if a0 = 0 then (some (0, 2, 0, false)) else (if a0 = 1 then (aD.j0 k a0 (a0 == 1)) else (aD.j0 k a0 (a0 == 2)))) = some (r1, r2, r3, r4) := h;clear h;by_cases c2 : a0 = 0
 ·rw [if_pos c2] at H
  obtain ⟨c2b0, c2b1⟩ := eqQ c2;clear c2;simp only [Option.some.injEq, Prod.mk.injEq] at H;obtain ⟨rfl, rfl, rfl, rfl⟩ := H;go_enter Try.func110, Try.ntmps110;go_wp2_with (first | ((with_reducible refine bJ (N := 2) rfl ?_); refine bC ?hg (N := 2) ?hd (cs := #[IV 0, IV 0, IV 0, .bool false]) (t := 136) ?hr ?_; (case hd => rfl); (case hg => rfl); (case hr => first | (go_simp; done) | (go_simp; rfl)); intro gU hg w3 hbox hb; replace hb := rdu (W := w) hb rfl rfl rfl rfl; have n0_ := aa.mk (av HB.out hb); have n1_ := aa.mk (hbox); have n2_ := aa.mk ((by rw [hg]; exact HB.out.size : w.heap.size ≤ gU)); have n3_ := n2_; clear HB; revert n0_ n1_ n2_ n3_; intro HB gH GW205 GE205; clear hb hbox hg; obtain ⟨C4_0, C4_1, C4_2, C4_3⟩ := LB.cells4 gH.out; obtain ⟨F4_0, F4_1, F4_2, F4_3⟩ := LB.frozen4 gH.out) | ((with_reducible refine fC (t := 136) (p := 2) rfl ?_); refine eQ (t := 136) (p := 2) (v := ?vo_w5) (w1 := ((((w3.setCell ⟨gU, 0, none⟩ (IV 0)).setCell ⟨gU, 1, none⟩ (IV 2)).setCell ⟨gU, 2, none⟩ (IV 0)).setCell ⟨gU, 3, none⟩ (.bool false))) ?hg ?ho ?hn ?hr ?_; (case ho => rfl); (case hg => rfl); (case hn => rfl); (case hr => first | (go_simp; done) | (go_simp; rfl)); intro w5 hw; have n0_ : aa (w5.heap[gU]? = some (.cells #[IV 0, IV 2, IV 0, .bool false] 136 (0, 0))) := ⟨(by rw [hw]; exact (by refine bS (cs := #[IV 0, IV 2, IV 0, .bool false]) ?_ 3 _ rfl; refine bS (cs := #[IV 0, IV 2, IV 0, .bool false]) ?_ 2 _ rfl; refine bS (cs := #[IV 0, IV 0, IV 0, .bool false]) ?_ 1 _ rfl; refine bS (cs := #[IV 0, IV 0, IV 0, .bool false]) ?_ 0 _ rfl; exact gH.out))⟩; have n1_ : aa (Below w.heap.size w w5) := ⟨(by rw [hw]; exact (by repeat (first | (with_reducible first | exact HB.out | apply aY | apply aH | apply aC | refine aI ?_ GE205.out) | exact HB.out)))⟩; clear hw gH HB; revert n0_ n1_; intro gH HB));refine bodyPost_ret (results_cell_row rfl _ _ gU 136 #[IV 0, IV 2, IV 0, .bool false] (0, 0) _ rfl (by exact gH.out) Try.underlying136 rfl (by kernel_rfl)) rfl ?_;exact ⟨by first | rfl | (simp <;> rfl) | (simp [*] <;> rfl), by exact rud HB.out rfl rfl rfl rfl⟩
 rw [if_neg c2] at H;obtain ⟨c2b0, c2b1⟩ := neQ c2;have HC6 := aa.mk H;clear H;go_enter Try.func110, Try.ntmps110;go_upto_if 7 with (first | ((with_reducible refine bJ (N := 2) rfl ?_); refine bC ?hg (N := 2) ?hd (cs := #[IV 0, IV 0, IV 0, .bool false]) (t := 136) ?hr ?_; (case hd => rfl); (case hg => rfl); (case hr => first | (go_simp; done) | (go_simp; rfl)); intro gU hg w7 hbox hb; replace hb := rdu (W := w) hb rfl rfl rfl rfl; have n0_ := aa.mk (av HB.out hb); have n1_ := aa.mk (hbox); have n2_ := aa.mk ((by rw [hg]; exact HB.out.size : w.heap.size ≤ gU)); have n3_ := n2_; clear HB; revert n0_ n1_ n2_ n3_; intro HB gH GW205 GE205; clear hb hbox hg));(try simp only [pS]);go_cut [7] (fun v7 wc => ∃ (kq : Nat) (x7_5 : Bool), v7 = .bool x7_5 ∧ aa (aD.j0 kq a0 x7_5 = some (r1, r2, r3, r4)) ∧ aa (kq ≤ k) ∧ aa (wc.heap[gU]? = some (.cells #[IV 0, IV 0, IV 0, .bool false] 136 (0, 0))) ∧ aa (Below w.heap.size w wc))
 case first =>
  have H := HC6.out;clear HC6;by_cases c8 : a0 = 1;rotate_left
  ·rw [if_neg c8] at H
   obtain ⟨c8b0, c8b1⟩ := neQ c8;(first | rw [c8b0] | (simp only [jN, jY]; rw [c8b0]) | skip);have H' := aa.mk H;clear H;go_wp2;go_meet
   case rel => exact ⟨_, ((a0 == 2)), (by first | rfl | (simp; done) | (simp [*]; done)), H', ⟨by first | omega | exact Nat.le_refl _⟩, ⟨by exact gH.out⟩, ⟨by exact rud HB.out rfl rfl rfl rfl⟩⟩
  rw [if_pos c8] at H;obtain ⟨c8b0, c8b1⟩ := eqQ c8;clear c8;(first | rw [c8b0] | (simp only [jN, jY]; rw [c8b0]) | skip);have H' := aa.mk H;clear H;go_wp2;go_meet
  case rel => exact ⟨_, ((a0 == 1)), (by first | rfl | (simp; done) | (simp [*]; done)), H', ⟨by first | omega | exact Nat.le_refl _⟩, ⟨by exact gH.out⟩, ⟨by exact rud HB.out rfl rfl rfl rfl⟩⟩
 case rest =>
  clear HC6;(try clear c1 c2 c2b0 c2b1 p2 c8 c8b0 c8b1 C4_0 C4_1 C4_2 C4_3 F4_0 F4_1 F4_2 F4_3);obtain ⟨kq, x7_5, rfl, HA, HJ5, gH, HB⟩ := hcut;cases kq with
  | zero => exact absurd HA.out (by simp [aD.j0])
  | succ kj5 =>
   have H := HA.out;clear HA;simp only [aD.j0] at H;by_cases c9 : x7_5 = true
   ·subst c9
    have H1 : (some (0, 1, 0, false)) = some (r1, r2, r3, r4) := by rw [if_pos rfl] at H; exact H
    clear H;have H := H1;clear H1;simp only [Option.some.injEq, Prod.mk.injEq] at H;obtain ⟨rfl, rfl, rfl, rfl⟩ := H;obtain ⟨Ca_0, Ca_1, Ca_2, Ca_3⟩ := LB.cells4 gH.out;obtain ⟨Fa_0, Fa_1, Fa_2, Fa_3⟩ := LB.frozen4 gH.out;go_wp2_with (first | ((with_reducible refine fC (t := 136) (p := 2) rfl ?_); refine eQ (t := 136) (p := 2) (v := ?vo_w11) (w1 := ((((wc.setCell ⟨gU, 0, none⟩ (IV 0)).setCell ⟨gU, 1, none⟩ (IV 1)).setCell ⟨gU, 2, none⟩ (IV 0)).setCell ⟨gU, 3, none⟩ (.bool false))) ?hg ?ho ?hn ?hr ?_; (case ho => rfl); (case hg => rfl); (case hn => rfl); (case hr => first | (go_simp; done) | (go_simp; rfl)); intro w11 hw; have n0_ : aa (w11.heap[gU]? = some (.cells #[IV 0, IV 1, IV 0, .bool false] 136 (0, 0))) := ⟨(by rw [hw]; exact (by refine bS (cs := #[IV 0, IV 1, IV 0, .bool false]) ?_ 3 _ rfl; refine bS (cs := #[IV 0, IV 1, IV 0, .bool false]) ?_ 2 _ rfl; refine bS (cs := #[IV 0, IV 0, IV 0, .bool false]) ?_ 1 _ rfl; refine bS (cs := #[IV 0, IV 0, IV 0, .bool false]) ?_ 0 _ rfl; exact gH.out))⟩; have n1_ : aa (Below w.heap.size w w11) := ⟨(by rw [hw]; exact (by repeat (first | (with_reducible first | exact HB.out | apply aY | apply aH | apply aC | refine aI ?_ GE205.out) | exact HB.out)))⟩; clear hw gH HB; revert n0_ n1_; intro gH HB));refine bodyPost_ret (results_cell_row rfl _ _ gU 136 #[IV 0, IV 1, IV 0, .bool false] (0, 0) _ rfl (by exact gH.out) Try.underlying136 rfl (by kernel_rfl)) rfl ?_;exact ⟨by first | rfl | (simp <;> rfl) | (simp [*] <;> rfl), by exact rud HB.out rfl rfl rfl rfl⟩
   replace c9 := Bool.eq_false_iff.mpr c9;subst c9;have H1 : (if a0 = 3 then (aD.j1 kj5 a0 (a0 == 3)) else (if a0 = 4 then (aD.j1 kj5 a0 (a0 == 4)) else (if a0 = 6 then (aD.j1 kj5 a0 (a0 == 6)) else (if a0 = 8 then (aD.j1 kj5 a0 (a0 == 8)) else (aD.j1 kj5 a0 (a0 == 11)))))) = some (r1, r2, r3, r4) := by rw [if_neg (show ¬ (false = true) by decide)] at H; exact H
   clear H;have H := H1;clear H1;have HC12 := aa.mk H;clear H;go_upto_if 11 with (fail);go_cut [11] (fun v11 wc => ∃ (kq : Nat) (x11_11 : Bool), v11 = .bool x11_11 ∧ aa (aD.j1 kq a0 x11_11 = some (r1, r2, r3, r4)) ∧ aa (kq ≤ kj5) ∧ aa (wc.heap[gU]? = some (.cells #[IV 0, IV 0, IV 0, .bool false] 136 (0, 0))) ∧ aa (Below w.heap.size w wc))
   case first =>
    have H := HC12.out;clear HC12;by_cases c13 : a0 = 3
    ·rw [if_pos c13] at H
     obtain ⟨c13b0, c13b1⟩ := eqQ c13;clear c13;(first | rw [c13b0] | (simp only [jN, jY]; rw [c13b0]) | skip);have H' := aa.mk H;clear H;go_wp2;go_meet
     case rel => exact ⟨_, ((a0 == 3)), (by first | rfl | (simp; done) | (simp [*]; done)), H', ⟨by have := HJ5.out; first | omega | exact Nat.le_refl _⟩, ⟨by exact gH.out⟩, ⟨by exact rud HB.out rfl rfl rfl rfl⟩⟩
    rw [if_neg c13] at H;obtain ⟨c13b0, c13b1⟩ := neQ c13;(first | rw [c13b0] | (simp only [jN, jY]; rw [c13b0]) | skip);by_cases c14 : a0 = 4
    ·rw [if_pos c14] at H
     obtain ⟨c14b0, c14b1⟩ := eqQ c14;clear c14;have H' := aa.mk H;clear H;go_wp2;go_meet
     case rel => exact ⟨_, ((a0 == 4)), (by first | rfl | (simp; done) | (simp [*]; done)), H', ⟨by have := HJ5.out; first | omega | exact Nat.le_refl _⟩, ⟨by exact gH.out⟩, ⟨by exact rud HB.out rfl rfl rfl rfl⟩⟩
    rw [if_neg c14] at H;obtain ⟨c14b0, c14b1⟩ := neQ c14;by_cases c15 : a0 = 6
    ·rw [if_pos c15] at H
     obtain ⟨c15b0, c15b1⟩ := eqQ c15;clear c15;have H' := aa.mk H;clear H;go_wp2;go_meet
     case rel => exact ⟨_, ((a0 == 6)), (by first | rfl | (simp; done) | (simp [*]; done)), H', ⟨by have := HJ5.out; first | omega | exact Nat.le_refl _⟩, ⟨by exact gH.out⟩, ⟨by exact rud HB.out rfl rfl rfl rfl⟩⟩
    rw [if_neg c15] at H;obtain ⟨c15b0, c15b1⟩ := neQ c15;by_cases c16 : a0 = 8;rotate_left
    ·rw [if_neg c16] at H
     obtain ⟨c16b0, c16b1⟩ := neQ c16;have H' := aa.mk H;clear H;go_wp2;go_meet
     case rel => exact ⟨_, ((a0 == 11)), (by first | rfl | (simp; done) | (simp [*]; done)), H', ⟨by have := HJ5.out; first | omega | exact Nat.le_refl _⟩, ⟨by exact gH.out⟩, ⟨by exact rud HB.out rfl rfl rfl rfl⟩⟩
    rw [if_pos c16] at H;obtain ⟨c16b0, c16b1⟩ := eqQ c16;clear c16;have H' := aa.mk H;clear H;go_wp2;go_meet
    case rel => exact ⟨_, ((a0 == 8)), (by first | rfl | (simp; done) | (simp [*]; done)), H', ⟨by have := HJ5.out; first | omega | exact Nat.le_refl _⟩, ⟨by exact gH.out⟩, ⟨by exact rud HB.out rfl rfl rfl rfl⟩⟩
   case rest =>
    clear HC12;(try clear c1 c2 c2b0 c2b1 p2 c8 c8b0 c8b1 c9 c11 c13 c13b0 c13b1 c14 c14b0 c14b1 c15 c15b0 c15b1 c16 c16b0 c16b1 Ca_0 Ca_1 Ca_2 Ca_3 C4_0 C4_1 C4_2 C4_3 Fa_0 Fa_1 Fa_2 Fa_3 F4_0 F4_1 F4_2 F4_3 p2);obtain ⟨kq, x11_11, rfl, HA, HJ11, gH, HB⟩ := hcut;cases kq with
    | zero => exact absurd HA.out (by simp [aD.j1])
    | succ kj11 =>
     have H := HA.out;clear HA;simp only [aD.j1] at H;by_cases c17 : x11_11 = true
     ·subst c17
      have H1 : (some ((-1), 1099511627776, (-1), false)) = some (r1, r2, r3, r4) := by rw [if_pos rfl] at H; exact H
      clear H;have H := H1;clear H1;simp only [Option.some.injEq, Prod.mk.injEq] at H;obtain ⟨rfl, rfl, rfl, rfl⟩ := H;obtain ⟨Ci_0, Ci_1, Ci_2, Ci_3⟩ := LB.cells4 gH.out;obtain ⟨Fi_0, Fi_1, Fi_2, Fi_3⟩ := LB.frozen4 gH.out;go_wp2_with (first | ((with_reducible refine fC (t := 136) (p := 2) rfl ?_); refine eQ (t := 136) (p := 2) (v := ?vo_w19) (w1 := ((((wc.setCell ⟨gU, 0, none⟩ (IV (-1))).setCell ⟨gU, 1, none⟩ (IV 1099511627776)).setCell ⟨gU, 2, none⟩ (IV (-1))).setCell ⟨gU, 3, none⟩ (.bool false))) ?hg ?ho ?hn ?hr ?_; (case ho => rfl); (case hg => rfl); (case hn => rfl); (case hr => first | (go_simp; done) | (go_simp; rfl)); intro w19 hw; have n0_ : aa (w19.heap[gU]? = some (.cells #[IV (-1), IV 1099511627776, IV (-1), .bool false] 136 (0, 0))) := ⟨(by rw [hw]; exact (by refine bS (cs := #[IV (-1), IV 1099511627776, IV (-1), .bool false]) ?_ 3 _ rfl; refine bS (cs := #[IV (-1), IV 1099511627776, IV 0, .bool false]) ?_ 2 _ rfl; refine bS (cs := #[IV (-1), IV 0, IV 0, .bool false]) ?_ 1 _ rfl; refine bS (cs := #[IV 0, IV 0, IV 0, .bool false]) ?_ 0 _ rfl; exact gH.out))⟩; have n1_ : aa (Below w.heap.size w w19) := ⟨(by rw [hw]; exact (by repeat (first | (with_reducible first | exact HB.out | apply aY | apply aH | apply aC | refine aI ?_ GE205.out) | exact HB.out)))⟩; clear hw gH HB; revert n0_ n1_; intro gH HB));refine bodyPost_ret (results_cell_row rfl _ _ gU 136 #[IV (-1), IV 1099511627776, IV (-1), .bool false] (0, 0) _ rfl (by exact gH.out) Try.underlying136 rfl (by kernel_rfl)) rfl ?_;exact ⟨by first | rfl | (simp <;> rfl) | (simp [*] <;> rfl), by exact rud HB.out rfl rfl rfl rfl⟩
     replace c17 := Bool.eq_false_iff.mpr c17;subst c17;have H1 : (if a0 = 5 then (aD.j2 kj11 a0 (a0 == 5)) else (aD.j2 kj11 a0 (a0 == 7))) = some (r1, r2, r3, r4) := by rw [if_neg (show ¬ (false = true) by decide)] at H; exact H
     clear H;have H := H1;clear H1;have HC20 := aa.mk H;clear H;go_upto_if 18 with (fail);go_cut [18] (fun v18 wc => ∃ (kq : Nat) (x18_19 : Bool), v18 = .bool x18_19 ∧ aa (aD.j2 kq a0 x18_19 = some (r1, r2, r3, r4)) ∧ aa (kq ≤ kj11) ∧ aa (wc.heap[gU]? = some (.cells #[IV 0, IV 0, IV 0, .bool false] 136 (0, 0))) ∧ aa (Below w.heap.size w wc))
     case first =>
      have H := HC20.out;clear HC20;by_cases c21 : a0 = 5;rotate_left
      ·rw [if_neg c21] at H
       obtain ⟨c21b0, c21b1⟩ := neQ c21;(first | rw [c21b0] | (simp only [jN, jY]; rw [c21b0]) | skip);have H' := aa.mk H;clear H;go_wp2;go_meet
       case rel => exact ⟨_, ((a0 == 7)), (by first | rfl | (simp; done) | (simp [*]; done)), H', ⟨by have := HJ5.out; have := HJ11.out; first | omega | exact Nat.le_refl _⟩, ⟨by exact gH.out⟩, ⟨by exact rud HB.out rfl rfl rfl rfl⟩⟩
      rw [if_pos c21] at H;obtain ⟨c21b0, c21b1⟩ := eqQ c21;clear c21;(first | rw [c21b0] | (simp only [jN, jY]; rw [c21b0]) | skip);have H' := aa.mk H;clear H;go_wp2;go_meet
      case rel => exact ⟨_, ((a0 == 5)), (by first | rfl | (simp; done) | (simp [*]; done)), H', ⟨by have := HJ5.out; have := HJ11.out; first | omega | exact Nat.le_refl _⟩, ⟨by exact gH.out⟩, ⟨by exact rud HB.out rfl rfl rfl rfl⟩⟩
     case rest =>
      clear HC20;(try clear c1 c2 c2b0 c2b1 p2 c8 c8b0 c8b1 c9 c11 c13 c13b0 c13b1 c14 c14b0 c14b1 c15 c15b0 c15b1 c16 c16b0 c16b1 c17 c21 c21b0 c21b1 Ca_0 Ca_1 Ca_2 Ca_3 Ci_0 Ci_1 Ci_2 Ci_3 C4_0 C4_1 C4_2 C4_3 Fa_0 Fa_1 Fa_2 Fa_3 Fi_0 Fi_1 Fi_2 Fi_3 F4_0 F4_1 F4_2 F4_3 p2);obtain ⟨kq, x18_19, rfl, HA, HJ19, gH, HB⟩ := hcut;cases kq with
      | zero => exact absurd HA.out (by simp [aD.j2])
      | succ kj19 =>
       have H := HA.out;clear HA;simp only [aD.j2] at H;by_cases c22 : x18_19 = true
       ·subst c22
        have H1 : (some (0, 1099511627776, 0, false)) = some (r1, r2, r3, r4) := by rw [if_pos rfl] at H; exact H
        clear H;have H := H1;clear H1;simp only [Option.some.injEq, Prod.mk.injEq] at H;obtain ⟨rfl, rfl, rfl, rfl⟩ := H;obtain ⟨Cn_0, Cn_1, Cn_2, Cn_3⟩ := LB.cells4 gH.out;obtain ⟨Fn_0, Fn_1, Fn_2, Fn_3⟩ := LB.frozen4 gH.out;go_wp2_with (first | ((with_reducible refine fC (t := 136) (p := 2) rfl ?_); refine eQ (t := 136) (p := 2) (v := ?vo_w24) (w1 := ((((wc.setCell ⟨gU, 0, none⟩ (IV 0)).setCell ⟨gU, 1, none⟩ (IV 1099511627776)).setCell ⟨gU, 2, none⟩ (IV 0)).setCell ⟨gU, 3, none⟩ (.bool false))) ?hg ?ho ?hn ?hr ?_; (case ho => rfl); (case hg => rfl); (case hn => rfl); (case hr => first | (go_simp; done) | (go_simp; rfl)); intro w24 hw; have n0_ : aa (w24.heap[gU]? = some (.cells #[IV 0, IV 1099511627776, IV 0, .bool false] 136 (0, 0))) := ⟨(by rw [hw]; exact (by refine bS (cs := #[IV 0, IV 1099511627776, IV 0, .bool false]) ?_ 3 _ rfl; refine bS (cs := #[IV 0, IV 1099511627776, IV 0, .bool false]) ?_ 2 _ rfl; refine bS (cs := #[IV 0, IV 0, IV 0, .bool false]) ?_ 1 _ rfl; refine bS (cs := #[IV 0, IV 0, IV 0, .bool false]) ?_ 0 _ rfl; exact gH.out))⟩; have n1_ : aa (Below w.heap.size w w24) := ⟨(by rw [hw]; exact (by repeat (first | (with_reducible first | exact HB.out | apply aY | apply aH | apply aC | refine aI ?_ GE205.out) | exact HB.out)))⟩; clear hw gH HB; revert n0_ n1_; intro gH HB));refine bodyPost_ret (results_cell_row rfl _ _ gU 136 #[IV 0, IV 1099511627776, IV 0, .bool false] (0, 0) _ rfl (by exact gH.out) Try.underlying136 rfl (by kernel_rfl)) rfl ?_;exact ⟨by first | rfl | (simp <;> rfl) | (simp [*] <;> rfl), by exact rud HB.out rfl rfl rfl rfl⟩
       replace c22 := Bool.eq_false_iff.mpr c22;subst c22;have H1 : (if a0 = 9 then (some (0, 1048576, 0, false)) else (if a0 = 10 then (some (0, 1048576, 1, false)) else (if a0 = 15 then (some (0, 4, 0, false)) else (if a0 = 16 then (some (0, 3, 0, false)) else (if a0 = 17 then (some (0, 16777215, 0, true)) else (if a0 = 18 then (some (64, 64000, 1024, true)) else (some (0, 1073741824, 0, false)))))))) = some (r1, r2, r3, r4) := by rw [if_neg (show ¬ (false = true) by decide)] at H; exact H
       clear H;have H := H1;clear H1;by_cases c25 : a0 = 9
       ·rw [if_pos c25] at H
        obtain ⟨c25b0, c25b1⟩ := eqQ c25;clear c25;simp only [Option.some.injEq, Prod.mk.injEq] at H;obtain ⟨rfl, rfl, rfl, rfl⟩ := H;obtain ⟨Cq_0, Cq_1, Cq_2, Cq_3⟩ := LB.cells4 gH.out;obtain ⟨Fq_0, Fq_1, Fq_2, Fq_3⟩ := LB.frozen4 gH.out;go_wp2_with (first | ((with_reducible refine fC (t := 136) (p := 2) rfl ?_); refine eQ (t := 136) (p := 2) (v := ?vo_w27) (w1 := ((((wc.setCell ⟨gU, 0, none⟩ (IV 0)).setCell ⟨gU, 1, none⟩ (IV 1048576)).setCell ⟨gU, 2, none⟩ (IV 0)).setCell ⟨gU, 3, none⟩ (.bool false))) ?hg ?ho ?hn ?hr ?_; (case ho => rfl); (case hg => rfl); (case hn => rfl); (case hr => first | (go_simp; done) | (go_simp; rfl)); intro w27 hw; have n0_ : aa (w27.heap[gU]? = some (.cells #[IV 0, IV 1048576, IV 0, .bool false] 136 (0, 0))) := ⟨(by rw [hw]; exact (by refine bS (cs := #[IV 0, IV 1048576, IV 0, .bool false]) ?_ 3 _ rfl; refine bS (cs := #[IV 0, IV 1048576, IV 0, .bool false]) ?_ 2 _ rfl; refine bS (cs := #[IV 0, IV 0, IV 0, .bool false]) ?_ 1 _ rfl; refine bS (cs := #[IV 0, IV 0, IV 0, .bool false]) ?_ 0 _ rfl; exact gH.out))⟩; have n1_ : aa (Below w.heap.size w w27) := ⟨(by rw [hw]; exact (by repeat (first | (with_reducible first | exact HB.out | apply aY | apply aH | apply aC | refine aI ?_ GE205.out) | exact HB.out)))⟩; clear hw gH HB; revert n0_ n1_; intro gH HB));refine bodyPost_ret (results_cell_row rfl _ _ gU 136 #[IV 0, IV 1048576, IV 0, .bool false] (0, 0) _ rfl (by exact gH.out) Try.underlying136 rfl (by kernel_rfl)) rfl ?_;exact ⟨by first | rfl | (simp <;> rfl) | (simp [*] <;> rfl), by exact rud HB.out rfl rfl rfl rfl⟩
       rw [if_neg c25] at H;obtain ⟨c25b0, c25b1⟩ := neQ c25;by_cases c28 : a0 = 10
       ·rw [if_pos c28] at H
        obtain ⟨c28b0, c28b1⟩ := eqQ c28;clear c28;simp only [Option.some.injEq, Prod.mk.injEq] at H;obtain ⟨rfl, rfl, rfl, rfl⟩ := H;obtain ⟨Ct_0, Ct_1, Ct_2, Ct_3⟩ := LB.cells4 gH.out;obtain ⟨Ft_0, Ft_1, Ft_2, Ft_3⟩ := LB.frozen4 gH.out;go_wp2_with (first | ((with_reducible refine fC (t := 136) (p := 2) rfl ?_); refine eQ (t := 136) (p := 2) (v := ?vo_w30) (w1 := ((((wc.setCell ⟨gU, 0, none⟩ (IV 0)).setCell ⟨gU, 1, none⟩ (IV 1048576)).setCell ⟨gU, 2, none⟩ (IV 1)).setCell ⟨gU, 3, none⟩ (.bool false))) ?hg ?ho ?hn ?hr ?_; (case ho => rfl); (case hg => rfl); (case hn => rfl); (case hr => first | (go_simp; done) | (go_simp; rfl)); intro w30 hw; have n0_ : aa (w30.heap[gU]? = some (.cells #[IV 0, IV 1048576, IV 1, .bool false] 136 (0, 0))) := ⟨(by rw [hw]; exact (by refine bS (cs := #[IV 0, IV 1048576, IV 1, .bool false]) ?_ 3 _ rfl; refine bS (cs := #[IV 0, IV 1048576, IV 0, .bool false]) ?_ 2 _ rfl; refine bS (cs := #[IV 0, IV 0, IV 0, .bool false]) ?_ 1 _ rfl; refine bS (cs := #[IV 0, IV 0, IV 0, .bool false]) ?_ 0 _ rfl; exact gH.out))⟩; have n1_ : aa (Below w.heap.size w w30) := ⟨(by rw [hw]; exact (by repeat (first | (with_reducible first | exact HB.out | apply aY | apply aH | apply aC | refine aI ?_ GE205.out) | exact HB.out)))⟩; clear hw gH HB; revert n0_ n1_; intro gH HB));refine bodyPost_ret (results_cell_row rfl _ _ gU 136 #[IV 0, IV 1048576, IV 1, .bool false] (0, 0) _ rfl (by exact gH.out) Try.underlying136 rfl (by kernel_rfl)) rfl ?_;exact ⟨by first | rfl | (simp <;> rfl) | (simp [*] <;> rfl), by exact rud HB.out rfl rfl rfl rfl⟩
       rw [if_neg c28] at H;obtain ⟨c28b0, c28b1⟩ := neQ c28;by_cases c31 : a0 = 15
       ·rw [if_pos c31] at H
        obtain ⟨c31b0, c31b1⟩ := eqQ c31;clear c31;simp only [Option.some.injEq, Prod.mk.injEq] at H;obtain ⟨rfl, rfl, rfl, rfl⟩ := H;obtain ⟨Cw_0, Cw_1, Cw_2, Cw_3⟩ := LB.cells4 gH.out;obtain ⟨Fw_0, Fw_1, Fw_2, Fw_3⟩ := LB.frozen4 gH.out;go_wp2_with (first | ((with_reducible refine fC (t := 136) (p := 2) rfl ?_); refine eQ (t := 136) (p := 2) (v := ?vo_w33) (w1 := ((((wc.setCell ⟨gU, 0, none⟩ (IV 0)).setCell ⟨gU, 1, none⟩ (IV 4)).setCell ⟨gU, 2, none⟩ (IV 0)).setCell ⟨gU, 3, none⟩ (.bool false))) ?hg ?ho ?hn ?hr ?_; (case ho => rfl); (case hg => rfl); (case hn => rfl); (case hr => first | (go_simp; done) | (go_simp; rfl)); intro w33 hw; have n0_ : aa (w33.heap[gU]? = some (.cells #[IV 0, IV 4, IV 0, .bool false] 136 (0, 0))) := ⟨(by rw [hw]; exact (by refine bS (cs := #[IV 0, IV 4, IV 0, .bool false]) ?_ 3 _ rfl; refine bS (cs := #[IV 0, IV 4, IV 0, .bool false]) ?_ 2 _ rfl; refine bS (cs := #[IV 0, IV 0, IV 0, .bool false]) ?_ 1 _ rfl; refine bS (cs := #[IV 0, IV 0, IV 0, .bool false]) ?_ 0 _ rfl; exact gH.out))⟩; have n1_ : aa (Below w.heap.size w w33) := ⟨(by rw [hw]; exact (by repeat (first | (with_reducible first | exact HB.out | apply aY | apply aH | apply aC | refine aI ?_ GE205.out) | exact HB.out)))⟩; clear hw gH HB; revert n0_ n1_; intro gH HB));refine bodyPost_ret (results_cell_row rfl _ _ gU 136 #[IV 0, IV 4, IV 0, .bool false] (0, 0) _ rfl (by exact gH.out) Try.underlying136 rfl (by kernel_rfl)) rfl ?_;exact ⟨by first | rfl | (simp <;> rfl) | (simp [*] <;> rfl), by exact rud HB.out rfl rfl rfl rfl⟩
       rw [if_neg c31] at H;obtain ⟨c31b0, c31b1⟩ := neQ c31;by_cases c34 : a0 = 16
       ·rw [if_pos c34] at H
        obtain ⟨c34b0, c34b1⟩ := eqQ c34;clear c34;simp only [Option.some.injEq, Prod.mk.injEq] at H;obtain ⟨rfl, rfl, rfl, rfl⟩ := H;obtain ⟨Cz_0, Cz_1, Cz_2, Cz_3⟩ := LB.cells4 gH.out;obtain ⟨Fz_0, Fz_1, Fz_2, Fz_3⟩ := LB.frozen4 gH.out;go_wp2_with (first | ((with_reducible refine fC (t := 136) (p := 2) rfl ?_); refine eQ (t := 136) (p := 2) (v := ?vo_w36) (w1 := ((((wc.setCell ⟨gU, 0, none⟩ (IV 0)).setCell ⟨gU, 1, none⟩ (IV 3)).setCell ⟨gU, 2, none⟩ (IV 0)).setCell ⟨gU, 3, none⟩ (.bool false))) ?hg ?ho ?hn ?hr ?_; (case ho => rfl); (case hg => rfl); (case hn => rfl); (case hr => first | (go_simp; done) | (go_simp; rfl)); intro w36 hw; have n0_ : aa (w36.heap[gU]? = some (.cells #[IV 0, IV 3, IV 0, .bool false] 136 (0, 0))) := ⟨(by rw [hw]; exact (by refine bS (cs := #[IV 0, IV 3, IV 0, .bool false]) ?_ 3 _ rfl; refine bS (cs := #[IV 0, IV 3, IV 0, .bool false]) ?_ 2 _ rfl; refine bS (cs := #[IV 0, IV 0, IV 0, .bool false]) ?_ 1 _ rfl; refine bS (cs := #[IV 0, IV 0, IV 0, .bool false]) ?_ 0 _ rfl; exact gH.out))⟩; have n1_ : aa (Below w.heap.size w w36) := ⟨(by rw [hw]; exact (by repeat (first | (with_reducible first | exact HB.out | apply aY | apply aH | apply aC | refine aI ?_ GE205.out) | exact HB.out)))⟩; clear hw gH HB; revert n0_ n1_; intro gH HB));refine bodyPost_ret (results_cell_row rfl _ _ gU 136 #[IV 0, IV 3, IV 0, .bool false] (0, 0) _ rfl (by exact gH.out) Try.underlying136 rfl (by kernel_rfl)) rfl ?_;exact ⟨by first | rfl | (simp <;> rfl) | (simp [*] <;> rfl), by exact rud HB.out rfl rfl rfl rfl⟩
       rw [if_neg c34] at H;obtain ⟨c34b0, c34b1⟩ := neQ c34;by_cases c37 : a0 = 17
       ·rw [if_pos c37] at H
        obtain ⟨c37b0, c37b1⟩ := eqQ c37;clear c37;simp only [Option.some.injEq, Prod.mk.injEq] at H;obtain ⟨rfl, rfl, rfl, rfl⟩ := H;obtain ⟨C12_0, C12_1, C12_2, C12_3⟩ := LB.cells4 gH.out;obtain ⟨F12_0, F12_1, F12_2, F12_3⟩ := LB.frozen4 gH.out;go_wp2_with (first | ((with_reducible refine fC (t := 136) (p := 2) rfl ?_); refine eQ (t := 136) (p := 2) (v := ?vo_w39) (w1 := ((((wc.setCell ⟨gU, 0, none⟩ (IV 0)).setCell ⟨gU, 1, none⟩ (IV 16777215)).setCell ⟨gU, 2, none⟩ (IV 0)).setCell ⟨gU, 3, none⟩ (.bool true))) ?hg ?ho ?hn ?hr ?_; (case ho => rfl); (case hg => rfl); (case hn => rfl); (case hr => first | (go_simp; done) | (go_simp; rfl)); intro w39 hw; have n0_ : aa (w39.heap[gU]? = some (.cells #[IV 0, IV 16777215, IV 0, .bool true] 136 (0, 0))) := ⟨(by rw [hw]; exact (by refine bS (cs := #[IV 0, IV 16777215, IV 0, .bool false]) ?_ 3 _ rfl; refine bS (cs := #[IV 0, IV 16777215, IV 0, .bool false]) ?_ 2 _ rfl; refine bS (cs := #[IV 0, IV 0, IV 0, .bool false]) ?_ 1 _ rfl; refine bS (cs := #[IV 0, IV 0, IV 0, .bool false]) ?_ 0 _ rfl; exact gH.out))⟩; have n1_ : aa (Below w.heap.size w w39) := ⟨(by rw [hw]; exact (by repeat (first | (with_reducible first | exact HB.out | apply aY | apply aH | apply aC | refine aI ?_ GE205.out) | exact HB.out)))⟩; clear hw gH HB; revert n0_ n1_; intro gH HB));refine bodyPost_ret (results_cell_row rfl _ _ gU 136 #[IV 0, IV 16777215, IV 0, .bool true] (0, 0) _ rfl (by exact gH.out) Try.underlying136 rfl (by kernel_rfl)) rfl ?_;exact ⟨by first | rfl | (simp <;> rfl) | (simp [*] <;> rfl), by exact rud HB.out rfl rfl rfl rfl⟩
       rw [if_neg c37] at H;obtain ⟨c37b0, c37b1⟩ := neQ c37;by_cases c40 : a0 = 18
       ·rw [if_pos c40] at H
        obtain ⟨c40b0, c40b1⟩ := eqQ c40;clear c40;simp only [Option.some.injEq, Prod.mk.injEq] at H;obtain ⟨rfl, rfl, rfl, rfl⟩ := H;obtain ⟨C15_0, C15_1, C15_2, C15_3⟩ := LB.cells4 gH.out;obtain ⟨F15_0, F15_1, F15_2, F15_3⟩ := LB.frozen4 gH.out;go_wp2_with (first | ((with_reducible refine fC (t := 136) (p := 2) rfl ?_); refine eQ (t := 136) (p := 2) (v := ?vo_w42) (w1 := ((((wc.setCell ⟨gU, 0, none⟩ (IV 64)).setCell ⟨gU, 1, none⟩ (IV 64000)).setCell ⟨gU, 2, none⟩ (IV 1024)).setCell ⟨gU, 3, none⟩ (.bool true))) ?hg ?ho ?hn ?hr ?_; (case ho => rfl); (case hg => rfl); (case hn => rfl); (case hr => first | (go_simp; done) | (go_simp; rfl)); intro w42 hw; have n0_ : aa (w42.heap[gU]? = some (.cells #[IV 64, IV 64000, IV 1024, .bool true] 136 (0, 0))) := ⟨(by rw [hw]; exact (by refine bS (cs := #[IV 64, IV 64000, IV 1024, .bool false]) ?_ 3 _ rfl; refine bS (cs := #[IV 64, IV 64000, IV 0, .bool false]) ?_ 2 _ rfl; refine bS (cs := #[IV 64, IV 0, IV 0, .bool false]) ?_ 1 _ rfl; refine bS (cs := #[IV 0, IV 0, IV 0, .bool false]) ?_ 0 _ rfl; exact gH.out))⟩; have n1_ : aa (Below w.heap.size w w42) := ⟨(by rw [hw]; exact (by repeat (first | (with_reducible first | exact HB.out | apply aY | apply aH | apply aC | refine aI ?_ GE205.out) | exact HB.out)))⟩; clear hw gH HB; revert n0_ n1_; intro gH HB));refine bodyPost_ret (results_cell_row rfl _ _ gU 136 #[IV 64, IV 64000, IV 1024, .bool true] (0, 0) _ rfl (by exact gH.out) Try.underlying136 rfl (by kernel_rfl)) rfl ?_;exact ⟨by first | rfl | (simp <;> rfl) | (simp [*] <;> rfl), by exact rud HB.out rfl rfl rfl rfl⟩
       rw [if_neg c40] at H;obtain ⟨c40b0, c40b1⟩ := neQ c40;simp only [Option.some.injEq, Prod.mk.injEq] at H;obtain ⟨rfl, rfl, rfl, rfl⟩ := H;obtain ⟨C17_0, C17_1, C17_2, C17_3⟩ := LB.cells4 gH.out;obtain ⟨F17_0, F17_1, F17_2, F17_3⟩ := LB.frozen4 gH.out;go_wp2_with (first | ((with_reducible refine fC (t := 136) (p := 2) rfl ?_); refine eQ (t := 136) (p := 2) (v := ?vo_w44) (w1 := ((((wc.setCell ⟨gU, 0, none⟩ (IV 0)).setCell ⟨gU, 1, none⟩ (IV 1073741824)).setCell ⟨gU, 2, none⟩ (IV 0)).setCell ⟨gU, 3, none⟩ (.bool false))) ?hg ?ho ?hn ?hr ?_; (case ho => rfl); (case hg => rfl); (case hn => rfl); (case hr => first | (go_simp; done) | (go_simp; rfl)); intro w44 hw; have n0_ : aa (w44.heap[gU]? = some (.cells #[IV 0, IV 1073741824, IV 0, .bool false] 136 (0, 0))) := ⟨(by rw [hw]; exact (by refine bS (cs := #[IV 0, IV 1073741824, IV 0, .bool false]) ?_ 3 _ rfl; refine bS (cs := #[IV 0, IV 1073741824, IV 0, .bool false]) ?_ 2 _ rfl; refine bS (cs := #[IV 0, IV 0, IV 0, .bool false]) ?_ 1 _ rfl; refine bS (cs := #[IV 0, IV 0, IV 0, .bool false]) ?_ 0 _ rfl; exact gH.out))⟩; have n1_ : aa (Below w.heap.size w w44) := ⟨(by rw [hw]; exact (by repeat (first | (with_reducible first | exact HB.out | apply aY | apply aH | apply aC | refine aI ?_ GE205.out) | exact HB.out)))⟩; clear hw gH HB; revert n0_ n1_; intro gH HB));refine bodyPost_ret (results_cell_row rfl _ _ gU 136 #[IV 0, IV 1073741824, IV 0, .bool false] (0, 0) _ rfl (by exact gH.out) Try.underlying136 rfl (by kernel_rfl)) rfl ?_;exact ⟨by first | rfl | (simp <;> rfl) | (simp [*] <;> rfl), by exact rud HB.out rfl rfl rfl rfl⟩
theorem gX.calls (k : Nat) (a0 a1 : Int) (r : Bool) (w : World) (h : gX.f k a0 a1 = some r) :
  Calls Try.prog 105 #[.int .i64 a0, .int .i64 a1] w fun e w' => e = .returned (.bool r) ∧ Below w.heap.size w w' := by
 have HB := aa.mk (Below.refl w.heap.size w);have H : ((prop_Is.f a0).bind fun t206 => (if t206 = true then ((aD.f k a0).bind fun bt207 => (if a1 ≥ bt207.1 then ((aD.f k a0).bind fun bt211 => (some (decide (a1 ≤ bt211.2.1)))) else (some false))) else (some false))) = some r := h;clear h;replace H := bsQ H;obtain ⟨t206, A30, H⟩ := H;(try dsimp only at H);have A3 := aa.mk A30;clear A30;by_cases c4 : t206 = true
 ·subst c4
  have H1 : ((aD.f k a0).bind fun bt207 => (if a1 ≥ bt207.1 then ((aD.f k a0).bind fun bt211 => (some (decide (a1 ≤ bt211.2.1)))) else (some false))) = some r := by rw [if_pos rfl] at H; exact H
  clear H;have H := H1;clear H1;replace H := bsQ H;obtain ⟨⟨t207, t208, t209, t210⟩, A50, H⟩ := H;replace H : (if a1 ≥ t207 then ((aD.f k a0).bind fun bt211 => (some (decide (a1 ≤ bt211.2.1)))) else (some false)) = some r := H;have A5 := aa.mk A50;clear A50;by_cases c6 : a1 ≥ t207
  ·rw [if_pos c6] at H
   have c6b0 : decide (t207 ≤ a1) = true := decide_eq_true c6;clear c6;replace H := bsQ H;obtain ⟨⟨t211, t212, t213, t214⟩, A70, H⟩ := H;replace H : (some (decide (a1 ≤ t212))) = some r := H;have A7 := aa.mk A70;clear A70;have DD_ := Option.some.inj (A7.out.symm.trans A5.out);have D8 := aa.mk (congrArg (fun z_ => z_.1) DD_ : t211 = t207);have D9 := aa.mk (congrArg (fun z_ => z_.2.1) DD_ : t212 = t208);have D10 := aa.mk (congrArg (fun z_ => z_.2.2.1) DD_ : t213 = t209);have D11 := aa.mk (congrArg (fun z_ => z_.2.2.2) DD_ : t214 = t210);clear DD_;obtain rfl := Option.some.inj H;go_enter Try.func105, Try.ntmps105;have hfd136_0 : ∀ (w : World) (v0_ v1_ v2_ v3_ : Value), (Instr.field 136 (.agg #[v0_, v1_, v2_, v3_]) 0).run Try.prog w = .ok (v0_) w := fun _ _ _ _ _ => by kernel_rfl
   have hfd136_1 : ∀ (w : World) (v0_ v1_ v2_ v3_ : Value), (Instr.field 136 (.agg #[v0_, v1_, v2_, v3_]) 1).run Try.prog w = .ok (v1_) w := fun _ _ _ _ _ => by kernel_rfl
   go_wp2_with (first | ((with_reducible refine aA (f := 109) rfl ?_); refine glq (some 6) Try.func109 #[IV a0] ?_; (with_reducible refine (prop_Is.calls a0 true _ A3.out).mono ?_); rintro e w' ⟨rfl, ⟨nd, rfl⟩⟩; refine ⟨_, rfl, ?_⟩) | (go_at_call 110; (with_reducible refine (aD.calls k a0 t207 t208 t209 t210 _ A5.out).mono ?_); rintro e w12 ⟨rfl, hb⟩; replace hb := rdu (W := w) hb rfl rfl rfl rfl; have n0_ := aa.mk (av HB.out hb); clear HB; revert n0_; intro HB) | (go_at_call 110; (with_reducible refine (aD.calls k a0 t211 t212 t213 t214 _ A7.out).mono ?_); rintro e w13 ⟨rfl, hb⟩; replace hb := rdu (W := w12) hb rfl rfl rfl rfl; have n0_ := aa.mk (av HB.out hb); clear HB; revert n0_; intro HB));go_ret;exact ⟨by first | rfl | (simp <;> rfl) | (simp [*] <;> rfl) | (simp only [D8.out, D9.out, D10.out, D11.out] <;> (first | rfl | simp)), by exact rud HB.out rfl rfl rfl rfl⟩
  ·rw [if_neg c6] at H
   have c6b0 : decide (t207 ≤ a1) = false := decide_eq_false c6;clear c6;obtain rfl := Option.some.inj H;go_enter Try.func105, Try.ntmps105;have hfd136_0 : ∀ (w : World) (v0_ v1_ v2_ v3_ : Value), (Instr.field 136 (.agg #[v0_, v1_, v2_, v3_]) 0).run Try.prog w = .ok (v0_) w := fun _ _ _ _ _ => by kernel_rfl
   have hfd136_1 : ∀ (w : World) (v0_ v1_ v2_ v3_ : Value), (Instr.field 136 (.agg #[v0_, v1_, v2_, v3_]) 1).run Try.prog w = .ok (v1_) w := fun _ _ _ _ _ => by kernel_rfl
   go_wp2_with (first | ((with_reducible refine aA (f := 109) rfl ?_); refine glq (some 6) Try.func109 #[IV a0] ?_; (with_reducible refine (prop_Is.calls a0 true _ A3.out).mono ?_); rintro e w' ⟨rfl, ⟨nd, rfl⟩⟩; refine ⟨_, rfl, ?_⟩) | (go_at_call 110; (with_reducible refine (aD.calls k a0 t207 t208 t209 t210 _ A5.out).mono ?_); rintro e w14 ⟨rfl, hb⟩; replace hb := rdu (W := w) hb rfl rfl rfl rfl; have n0_ := aa.mk (av HB.out hb); clear HB; revert n0_; intro HB));go_ret;exact ⟨by first | rfl | (simp <;> rfl) | (simp [*] <;> rfl), by exact rud HB.out rfl rfl rfl rfl⟩
 ·replace c4 := Bool.eq_false_iff.mpr c4
  subst c4;have H1 : (some false) = some r := by rw [if_neg (show ¬ (false = true) by decide)] at H; exact H
  clear H;have H := H1;clear H1;obtain rfl := Option.some.inj H;go_enter Try.func105, Try.ntmps105;have hfd136_0 : ∀ (w : World) (v0_ v1_ v2_ v3_ : Value), (Instr.field 136 (.agg #[v0_, v1_, v2_, v3_]) 0).run Try.prog w = .ok (v0_) w := fun _ _ _ _ _ => by kernel_rfl
  have hfd136_1 : ∀ (w : World) (v0_ v1_ v2_ v3_ : Value), (Instr.field 136 (.agg #[v0_, v1_, v2_, v3_]) 1).run Try.prog w = .ok (v1_) w := fun _ _ _ _ _ => by kernel_rfl
  go_wp2_with (first | ((with_reducible refine aA (f := 109) rfl ?_); refine glq (some 6) Try.func109 #[IV a0] ?_; (with_reducible refine (prop_Is.calls a0 false _ A3.out).mono ?_); rintro e w' ⟨rfl, ⟨nd, rfl⟩⟩; refine ⟨_, rfl, ?_⟩));go_ret;exact ⟨by first | rfl | (simp <;> rfl) | (simp [*] <;> rfl), by exact rud HB.out rfl rfl rfl rfl⟩
end Go.Proofs.Ytddnlnjmikcgfaa.PC
end
