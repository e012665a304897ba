/- The conditions are sound: loads, stores, addresses, parts. -/
import Derived.Test.YthnhdgcaolgdnaaAnZ
set_option linter.unusedVariables false
set_option linter.unusedSimpArgs false
namespace Go.Proofs.YthnhdgcaolgdnaaAn
open Go
section
variable {P : Program} {ids : Nat → Nat} {s : VS} {h : Hp} {m : T AV} {H : Heap} {K : KO} {o : Oper}
def loadA (P : Program) (t : TypeId) (a : AV) : Option Eff := match a with
  | .p b o => match isAggT P t with
    | some true => (szOf P t).map fun n => .r b o n fun cs => some (.agg cs)
    | some false => some (.r b o 1 fun cs => cs.head?)
    | none => none
  | _ => none
theorem aeff_load {t : TypeId} {a : Operand} {v : AV} (ho : o.op = .load t a) (hv : evA m a = some v) : aeff P (evA m) o = loadA P t v := by
  unfold aeff loadA
  rw [ho]
  simp only [hv]
  cases v <;> rfl
theorem shape_one {t : TypeId} {k : Kd} (hs : shapeOf P t = some (.one k)) : isAggT P t = some false := by
  unfold shapeOf at hs
  split at hs
  · obtain ⟨_, _, he⟩ := map_some' hs; cases he
  · assumption
  · cases hs
theorem shape_agg {t : TypeId} {ks : List Kd} (hs : shapeOf P t = some (.agg ks)) : isAggT P t = some true := by
  unfold shapeOf at hs
  split at hs
  · assumption
  · injection hs with hs; cases hs
  · cases hs
theorem ldE_sound (R : RelV ids s h m H) {t : TypeId} {b q : Nat} (ha : aeff P (evA m) o = loadA P t (.p b q)) (hk : ldE P t b q s h K) : OpS P o ids s h m H K := by
  unfold ldE at hk
  split at hk
  · rename_i k hs
    obtain ⟨cs, hr, hl⟩ := onO_some hk
    obtain ⟨l, rfl, g1, g2, g3, g4⟩ := onL_sound (ids := ids) (nl := s.nl) _ hl
    match l, g3, g4 with
    | [x], _, g4 =>
      obtain ⟨r1, r2⟩ := rd_of R.fits hr
      refine ⟨0, _, H, ids, s, h, some x, .re b q 1, fun n' _ => ⟨by rw [ha]; show (match isAggT P t with | some true => _ | some false => _ | none => _) = _; rw [shape_one hs], ?_⟩, fun y hy => by injection hy with hy; subst hy; exact g1.1, R, Tr.refl _ _ _ _, rfl, .inr ⟨⟨_, rfl⟩, r2⟩, g4⟩
      show (rd H b q 1).bind _ = _
      rw [r1]; rfl
  · rename_i ks n hs hn
    obtain ⟨cs, hr, hl⟩ := onO_some hk
    obtain ⟨l, rfl, g1, g2, g3, g4⟩ := onL_sound (ids := ids) (nl := s.nl) _ hl
    obtain ⟨r1, r2⟩ := rd_of R.fits hr
    refine ⟨0, _, H, ids, s, h, some (.ag l), .re b q n, fun n' _ => ⟨by rw [ha]; show (match isAggT P t with | some true => _ | some false => _ | none => _) = _; rw [shape_agg hs, hn]; rfl, ?_⟩, fun y hy => by injection hy with hy; subst hy; exact g1, R, Tr.refl _ _ _ _, rfl, .inr ⟨⟨_, rfl⟩, r2⟩, g4⟩
    show (rd H b q n).bind _ = _
    rw [r1]; rfl
  · exact hk.elim
theorem ldL_sound (R : RelV ids s h m H) {t : TypeId} {k st id q : Nat} {cs : List SV} (hL : s.L.get k = some (st, id, cs)) (ha : aeff P (evA m) o = loadA P t (.p id q)) (hk : ldL P t k q cs s h K) : OpS P o ids s h m H K := by
  obtain ⟨⟨q1, q2⟩, ⟨q3, q4⟩, q5, q6⟩ := R.loc k st id cs hL
  have hrd : ∀ n, rd H id q n = sub? (SV.avs cs) q n := by intro n; unfold rd; rw [q3]; rfl
  unfold ldL at hk
  split at hk
  · rename_i n hs hn
    split at hk
    · rename_i l hl
      obtain ⟨a1, a2, a3⟩ := avs_sub hl
      refine ⟨0, _, H, ids, s, h, some (.ag l), .rl k q n, fun n' _ => ⟨by rw [ha]; show (match isAggT P t with | some true => _ | some false => _ | none => _) = _; rw [hs, hn]; rfl, ?_⟩, fun y hy => by injection hy with hy; subst hy; exact goods_iff.2 fun x hx => goods_iff.1 q5 x (a3 x hx), R, Tr.refl _ _ _ _, rfl, ⟨⟨_, by rw [← q2]⟩, by rw [hL]; simp, q1⟩, hk⟩
      show (rd H id q n).bind _ = _
      rw [hrd, a1]; rfl
    · exact hk.elim
  · rename_i hs
    split at hk
    · rename_i x hx
      have hx' := avs_nth cs q
      rw [hx] at hx'
      refine ⟨0, _, H, ids, s, h, some x, .rl k q 1, fun n' _ => ⟨by rw [ha]; show (match isAggT P t with | some true => _ | some false => _ | none => _) = _; rw [hs], ?_⟩, fun y hy => by injection hy with hy; subst hy; exact goods_iff.1 q5 _ (nthL_mem hx), R, Tr.refl _ _ _ _, rfl, ⟨⟨_, by rw [← q2]⟩, by rw [hL]; simp, q1⟩, hk⟩
      show (rd H id q 1).bind _ = _
      rw [hrd, sub_nth hx']; rfl
    · exact hk.elim
  · exact hk.elim
theorem ptrV_some {a : AV} {p : Nat × Nat} (h : ptrV a = some p) : a = .p p.1 p.2 := by
  cases a <;> first | (cases h; done) | skip
  injection h with h; subst h; rfl
theorem load_sound (R : RelV ids s h m H) {t : TypeId} {a : SV} (hg : a.Good ids s.nl) (ha : aeff P (evA m) o = loadA P t a.av) (hk : vcLoad P t a s h K) : OpS P o ids s h m H K := by
  unfold vcLoad at hk
  split at hk
  · rename_i k id q
    split at hk
    · rename_i st id' cs hL
      have : id' = id := by rw [(R.loc k st id' cs hL).1.2, hg.2]
      subst this
      exact ldL_sound R hL ha hk
    · exact ldE_sound R ha hk
  · exact ldE_sound R ha hk
  · obtain ⟨p, hp, hk⟩ := onO_some hk
    rename_i a
    have := ptrV_some hp; subst this
    exact ldE_sound R ha hk
  · exact hk.elim

/-! ### stores -/
def storeA (P : Program) (t : TypeId) (a v : AV) : Option Eff := match a with
  | .p b o => (szOf P t).bind fun n => cond (v.one && Nat.beq v.cells.length n && v.cells.all AV.sc) (some (.w b o (.lit v.cells) none)) none
  | _ => none
theorem aeff_store {t : TypeId} {a x : Operand} {u v : AV} (ho : o.op = .store t a x) (hu : evA m a = some u) (hv : evA m x = some v) : aeff P (evA m) o = storeA P t u v := by
  unfold aeff storeA
  rw [ho]
  simp only [hu, hv]
  cases u <;> rfl
theorem one_notTup {x : SV} (h : allOne x.cells = true) : notTup x = true := by
  cases x <;> first | rfl | (simp [SV.cells, allOne, SV.one] at h)
theorem storeA_some {t : TypeId} {x : SV} {n b q : Nat} (hg : x.Good ids s.nl) (hn : szOf P t = some n) (h1 : Nat.beq x.cells.length n = true) (h2 : allOne x.cells = true) : storeA P t (.p b q) x.av = some (.w b q (.lit (SV.avs x.cells)) none) := by
  unfold storeA
  have e := cells_av hg (one_notTup h2)
  simp only [hn, Option.bind_some, e]
  rw [notTup_one hg (one_notTup h2), avs_length, h1, avs_sc (cells_good hg) h2]
  rfl
theorem doEff_w {c : CallA} {H0 H' : Heap} {b q : Nat} {src : Src} {v r : Option AV} (hd : doEff c H0 (.w b q src v) = some (r, H')) : r = v := by
  unfold doEff at hd
  obtain ⟨new, _, a4⟩ := bind_some' hd
  obtain ⟨H1, _, a5⟩ := map_some' a4
  injection a5 with a5 _
  exact a5.symm
theorem stE_sound (R : RelV ids s h m H) {t : TypeId} {x : SV} {n b q : Nat} (hg : x.Good ids s.nl) (hn : szOf P t = some n) (ha : aeff P (evA m) o = storeA P t (.p b q) x.av) (hk : stE n b q x s h K) : OpS P o ids s h m H K := by
  unfold stE at hk
  split at hk
  · rename_i hc
    simp only [Bool.and_eq_true] at hc
    rw [storeA_some hg hn hc.1 hc.2] at ha
    refine opS_esc R hk fun R' _ hnl _ hk => opS_E R' ha (fun c => rfl) (fun _ _ _ _ e => by cases e) ?_
    intro H0 F0
    obtain ⟨v, H', h', a1, a2, a3⟩ := hk H0 F0
    have := doEff_w a1
    subst this
    exact ⟨none, H', h', a1, a2, none, rfl, (fun y hy => by cases hy), a3⟩
  · exact hk.elim
theorem store_sound (R : RelV ids s h m H) {t : TypeId} {a x : SV} (hga : a.Good ids s.nl) (hg : x.Good ids s.nl) (ha : aeff P (evA m) o = storeA P t a.av x.av) (hk : vcStore P t a x s h K) : OpS P o ids s h m H K := by
  unfold vcStore at hk
  split at hk
  · rename_i n hn
    split at hk
    · rename_i k id q
      split at hk
      · rename_i st id' cs hL
        have e : id' = id := by rw [(R.loc k st id' cs hL).1.2, hga.2]
        subst e
        obtain ⟨⟨q1, q2⟩, ⟨q3, q4⟩, q5, q6⟩ := R.loc k st _ cs hL
        split at hk
        · rename_i hc
          simp only [Bool.and_eq_true] at hc
          obtain ⟨⟨c1, c2⟩, c3⟩ := hc
          have hlen := beq_eq' c1
          have hle := ble_le c3
          have ha' := ha.trans (storeA_some (b := id') (q := q) hg hn c1 c2)
          have hgs : SV.Goods ids s.nl (spliceS cs q x.cells) := goods_iff.2 fun y hy => (splice_mem hy).elim (goods_iff.1 q5 y) (goods_iff.1 (cells_good hg) y)
          have hos : allOne (spliceS cs q x.cells) = true := allOne_iff.2 fun y hy => (splice_mem hy).elim (allOne_iff.1 q6 y) (allOne_iff.1 c2 y)
          obtain ⟨R', T'⟩ := R.setL hL hgs hos
          rw [avs_splice] at R' T'
          refine ⟨0, _, _, ids, _, h, none, .wl k q n, fun n' _ => ⟨ha', ?_⟩, (fun y hy => by cases hy), R', T', rfl, ⟨(fun _ _ _ _ e => by cases e), ?_, q1, fun b hb => ?_, fun o' n' hd => ?_⟩, hk⟩
          · have l1 : Nat.ble H.low id' = true := Nat.ble_eq_true_of_le (by rw [R.fits.lo, q2]; exact (R.lt k q1).2)
            have hw : wr H id' q (SV.avs x.cells) = some ⟨H.next, H.m.set id' (some (splice (SV.avs cs) q (SV.avs x.cells))), H.low⟩ := by
              unfold wr
              rw [q3, Option.bind_some, l1, avs_length, avs_length, hlen, c3, avs_sc (cells_good hg) c2]
              rfl
            show (wr H id' q (SV.avs x.cells)).map _ = _
            rw [hw]; rfl
          · rw [show (s.setL k id' (spliceS cs q x.cells)).L.get k = some (s.st, id', spliceS cs q x.cells) from T.get_set_same _ _ _]; simp
          · rw [get_put, if_neg (by rw [q2]; exact hb)]
          · unfold rd
            rw [← q2, get_put, if_pos rfl, q3]
            show sub? (splice (SV.avs cs) q (SV.avs x.cells)) o' n' = sub? (SV.avs cs) o' n'
            have hl : (SV.avs x.cells).length = n := by rw [avs_length, hlen]
            have hcl : q + n ≤ (SV.avs cs).length := by rw [avs_length]; omega
            have hsl : (splice (SV.avs cs) q (SV.avs x.cells)).length = (SV.avs cs).length := by simp [splice, hl]; omega
            unfold sub?
            rw [hsl]
            cases hb : Nat.ble (o' + n') (SV.avs cs).length with
            | false => rfl
            | true =>
              have hb := ble_le hb
              rw [cond_true, cond_true]
              congr 1
              apply List.ext_getElem?
              intro i
              by_cases hi : i < n'
              · rw [List.getElem?_take_of_lt hi, List.getElem?_take_of_lt hi, List.getElem?_drop, List.getElem?_drop]
                unfold splice
                rcases hd with hd | hd
                · rw [List.getElem?_append_right (by simp; omega), List.getElem?_append_right (by simp; omega), List.getElem?_drop]
                  congr 1
                  simp; omega
                · rw [List.getElem?_append_left (by simp; omega), List.getElem?_take_of_lt (by omega)]
              · rw [List.getElem?_eq_none (by simp; omega), List.getElem?_eq_none (by simp; omega)]
        · exact hk.elim
      · exact stE_sound R hg hn ha hk
    · exact stE_sound R hg hn ha hk
    · obtain ⟨p, hp, hk⟩ := onO_some hk
      rename_i a
      have := ptrV_some hp; subst this
      exact stE_sound R hg hn ha hk
    · exact hk.elim
  · exact hk.elim
end
end Go.Proofs.YthnhdgcaolgdnaaAn
