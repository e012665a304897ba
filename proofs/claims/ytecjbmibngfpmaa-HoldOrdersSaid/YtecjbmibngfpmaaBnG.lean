/- A row with elements set in: what its code says, where the capacity is known. -/
import Derived.Test.YtecjbmibngfpmaaBnF
set_option linter.unusedVariables false
set_option linter.unusedSimpArgs false
namespace Go.Proofs.YtecjbmibngfpmaaAn
open Go
section
variable {hk : Hook}
theorem step_alloc {h : Hp} {H : Heap} (F : Fits h H) (cells : List AV) : h.g H.next = none ∧ h.lo ≤ H.next ∧ StepH h H (h.put H.next cells) (alloc H cells) := by
  have hn : h.g H.next = none := by
    cases hg : h.g H.next with
    | none => rfl
    | some c => have := (F.get _ _ hg).2; omega
  refine ⟨hn, by rw [← F.lo]; exact F.low, ⟨⟨fun b cs hb => ?_, F.lo, Nat.le_trans F.low (Nat.le_succ _), fun b hb => ?_⟩, Nat.le_succ _, fun b hb _ => ?_, fun b hb => ?_, rfl⟩⟩
  · by_cases e : b = H.next
    · subst e
      rw [Hp.put_same] at hb
      exact ⟨by rw [get_alloc, if_pos rfl]; exact hb, Nat.lt_succ_self _⟩
    · rw [Hp.put_ne _ _ e] at hb
      exact ⟨by rw [get_alloc, if_neg e]; exact (F.get b cs hb).1, Nat.lt_succ_of_lt (F.get b cs hb).2⟩
  · have hb : H.next + 1 ≤ b := hb
    rw [get_alloc, if_neg (show b ≠ H.next by omega)]
    exact F.fresh b (by omega)
  · rw [get_alloc, if_neg (show b ≠ H.next by omega)]
  · by_cases e : b = H.next
    · exact .inr (by omega)
    · rw [Hp.put_ne _ _ e] at hb; exact .inl hb
theorem beq_of {a b : Nat} (h : a = b) : Nat.beq a b = true := by rw [h]; exact Nat.beq_refl _
theorem beq_ne {a b : Nat} (h : a ≠ b) : Nat.beq a b = false := by
  cases hx : Nat.beq a b with
  | false => rfl
  | true => exact absurd (beq_eq' hx) h
theorem ble_ne {a b : Nat} (h : b < a) : Nat.ble a b = false := by
  cases hx : Nat.ble a b with
  | false => rfl
  | true => have := ble_le hx; omega
/-- appended where the room is -/
theorem wpE.app_in {h : Hp} {b o len lo n sz : Nat} {ex : Bool} {src : Src} {cs new : List AV} {Q : Option AV → Hp → Prop} (hb : h.g b = some cs) (hl : h.lo ≤ b) (hs : srcH h src = some new) (hn : new.length = n * sz) (h0 : 0 < n) (hf : len + n ≤ lo) (hf2 : o + len * sz + new.length ≤ cs.length) (hsc : new.all AV.sc = true) (hbig : len + n < 1000000)
    (k : Q (some (.sl b o (len + n) lo ex sz)) (h.put b (splice cs (o + len * sz) new))) : wpE (.app (.sl b o len lo ex sz) n src sz) Q h := by
  intro H F
  obtain ⟨v, H', h', e1, e2, e3⟩ := (wpE.w (v := none) (Post := fun v h' => v = none ∧ h' = h.put b (splice cs (o + len * sz) new)) hb hl hs hf2 hsc ⟨rfl, rfl⟩) H F
  obtain ⟨rfl, rfl⟩ := e3
  refine ⟨_, H', _, ?_, e2, k⟩
  have e1 : ((rdSrc H src).bind fun new => (wr H b (o + len * sz) new).map fun H' => ((none : Option AV), H')) = some (none, H') := e1
  rw [F.src hs, Option.bind_some] at e1
  obtain ⟨H1, e4, e5⟩ := map_some' e1
  injection e5 with _ e5; subst e5
  show (appA H (.sl b o len lo ex sz) n src sz).map _ = _
  unfold appA
  rw [F.src hs, Option.bind_some, beq_of hn, cond_true]
  simp only [Nat.beq_refl, blt_of hbig, Bool.and_self, cond_true, Nat.ble_eq_true_of_le hf, beq_ne (show n ≠ 0 by omega), cond_false, e4, Option.map_some]
/-- nothing appended -/
theorem wpE.app_0 {h : Hp} {b o len lo sz : Nat} {ex : Bool} {Q : Option AV → Hp → Prop} (hf : len ≤ lo) (hbig : len < 1000000) (k : Q (some (.sl b o len lo ex sz)) h) : wpE (.app (.sl b o len lo ex sz) 0 (.lit []) sz) Q h := by
  intro H F
  refine ⟨_, H, h, ?_, ⟨F, Nat.le_refl _, fun _ _ _ => rfl, fun _ e => .inl e, rfl⟩, k⟩
  show (appA H (.sl b o len lo ex sz) 0 (.lit []) sz).map _ = _
  unfold appA
  show ((cond (Nat.beq 0 (0 * sz)) _ none).map _ : Option (Option AV × Heap)) = _
  rw [beq_of (Nat.zero_mul sz).symm, cond_true]
  simp only [Nat.add_zero, Nat.beq_refl, blt_of hbig, Bool.and_self, cond_true, Nat.ble_eq_true_of_le hf, Option.map_some]
/-- appended where no room is -/
theorem wpE.app_new {h : Hp} {b o len lo n sz : Nat} {src : Src} {old new : List AV} {Q : Option AV → Hp → Prop} (ho : (len = 0 ∧ old = []) ∨ rdH h b o (len * sz) = some old) (hs : srcH h src = some new) (hn : new.length = n * sz) (hf : lo < len + n) (hbig : len + n < 1000000)
    (k : ∀ id, h.g id = none → h.lo ≤ id → Q (some (.sl id 0 (len + n) (len + n) false sz)) (h.put id (old ++ new))) : wpE (.app (.sl b o len lo true sz) n src sz) Q h := by
  intro H F
  obtain ⟨a1, a2, a3⟩ := step_alloc F (old ++ new)
  refine ⟨_, _, _, ?_, a3, k H.next a1 a2⟩
  show (appA H (.sl b o len lo true sz) n src sz).map _ = _
  unfold appA
  rw [F.src hs, Option.bind_some, beq_of hn, cond_true]
  have hold : (cond (Nat.beq len 0) (some []) (rd H b o (len * sz))) = some old := by
    by_cases e : len = 0
    · rw [beq_of e, cond_true]
      rcases ho with ⟨_, h⟩ | h
      · rw [h]
      · subst e
        rw [Nat.zero_mul] at h
        obtain ⟨c, _, h⟩ := bind_some' h
        have := (sub_some h).2
        rw [this]; simp
    · rw [beq_ne e, cond_false]
      rcases ho with ⟨h, _⟩ | h
      · exact absurd h e
      · exact F.rdb h
  simp only [Nat.beq_refl, blt_of hbig, Bool.and_self, cond_true, ble_ne hf, cond_false, hold, Option.bind_some, Option.map_some]
theorem wpE.app_ns {h : Hp} {s : AV} (hsn : s = .ns ∨ ∃ z, s = .e z) {n sz : Nat} {src : Src} {new : List AV} {Q : Option AV → Hp → Prop} (hs : srcH h src = some new) (hn : new.length = n * sz) (h0 : 0 < n) (hbig : n < 1000000)
    (k : ∀ id, h.g id = none → h.lo ≤ id → Q (some (.sl id 0 n n false sz)) (h.put id new)) : wpE (.app s n src sz) Q h := by
  intro H F
  obtain ⟨a1, a2, a3⟩ := step_alloc F new
  refine ⟨_, _, _, ?_, a3, k H.next a1 a2⟩
  show (appA H s n src sz).map _ = _
  unfold appA
  rw [F.src hs, Option.bind_some, beq_of hn, cond_true]
  rcases hsn with rfl | ⟨z, rfl⟩ <;>
  simp only [beq_ne (show n ≠ 0 by omega), cond_false, blt_of hbig, cond_true, Option.map_some]
theorem slV_lo {b o len cap sz i : Nat} {ex : Bool} (h : i ≤ len) (h2 : len ≤ cap) : slV (.sl b o len cap ex sz) (some (.ofNat i)) none none sz = some (.sl b (cond (Nat.beq cap i) o (o + i * sz)) (len - i) (cap - i) ex sz) := by
  show (cond (Nat.beq sz sz) (cond (Nat.ble i len && Nat.ble len cap) _ none) none : Option AV) = _
  rw [Nat.beq_refl, cond_true, Nat.ble_eq_true_of_le h, Nat.ble_eq_true_of_le h2]; rfl
theorem slV_hi {b o len cap sz k : Nat} {ex : Bool} (h : k ≤ cap) : slV (.sl b o len cap ex sz) none (some (.ofNat k)) none sz = some (.sl b o k cap ex sz) := by
  show (cond (Nat.beq sz sz) (cond (Nat.ble 0 k && Nat.ble k cap) (some (.sl b (cond (Nat.beq cap 0) o (o + 0 * sz)) (k - 0) (cap - 0) ex sz)) none) none : Option AV) = _
  rw [Nat.beq_refl, cond_true, Nat.ble_eq_true_of_le (Nat.zero_le _), Nat.ble_eq_true_of_le h, Nat.zero_mul, Nat.add_zero, Nat.sub_zero, Nat.sub_zero]
  cases Nat.beq cap 0 <;> rfl
theorem copyV_mk {b o len lo b2 o2 len2 lo2 sz k : Nat} {ex ex2 : Bool} (h : Nat.min len2 len = k) (h0 : 0 < k) : copyV sz (.sl b o len lo ex sz) (.sl b2 o2 len2 lo2 ex2 sz) = some (k, .w b o (.mem b2 o2 (k * sz)) (some (.i .i64 (.ofNat k)))) := by
  show (cond (Nat.beq sz sz) (cond (Nat.beq (Nat.min len2 len) 0) (some (0, .q (.i .i64 0))) ((cond (Nat.beq sz sz) (some (.mem b2 o2 (Nat.min len2 len * sz))) none : Option Src).map _)) none : Option (Nat × Eff)) = _
  rw [Nat.beq_refl, cond_true, h, beq_ne (show k ≠ 0 by omega), cond_false, cond_true]; rfl
theorem ins_cells1 {c N D : List AV} {p q r : Nat} (hN : N.length = q) (hD : D.length = r) (hl : p + q + r ≤ c.length) : sub? (splice (splice c (p + q) D) p N) 0 (p + q + r) = some (c.take p ++ (N ++ D)) := by
  have e : splice (splice c (p + q) D) p N = c.take p ++ (N ++ (D ++ c.drop (p + q + r))) := by
    unfold splice
    have e1 : (c.take (p + q) ++ (D ++ c.drop (p + q + D.length))).take p = c.take p := by
      rw [List.take_append_of_le_length (by simp; omega), List.take_take, Nat.min_eq_left (by omega)]
    have e2 : (c.take (p + q) ++ (D ++ c.drop (p + q + D.length))).drop (p + N.length) = D ++ c.drop (p + q + r) := by
      rw [List.drop_left' (by simp; omega), hD]
    rw [e1, e2]
  rw [e]
  unfold sub?
  rw [Nat.ble_eq_true_of_le (by simp; omega), cond_true, List.drop_zero]
  congr 1
  rw [← List.append_assoc, ← List.append_assoc, List.take_left' (by simp; omega), List.append_assoc]
theorem ins_cells2 {c N D : List AV} {p q r : Nat} (hN : N.length = q) (hD : D.length = r) (hl : p + q + r ≤ c.length) : sub? (splice (splice c p N) (p + q) D) 0 (p + q + r) = some (c.take p ++ (N ++ D)) := by
  have e : splice (splice c p N) (p + q) D = c.take p ++ (N ++ (D ++ c.drop (p + q + r))) := by
    unfold splice
    have e1 : (c.take p ++ (N ++ c.drop (p + N.length))).take (p + q) = c.take p ++ N := by
      rw [← List.append_assoc, List.take_left' (by simp; omega)]
    have e2 : (c.take p ++ (N ++ c.drop (p + N.length))).drop (p + q + D.length) = c.drop (p + q + r) := by
      rw [← List.append_assoc, List.drop_append, List.drop_eq_nil_of_le (by simp; omega), List.nil_append, List.drop_drop]
      congr 1
      simp; omega
    rw [e1, e2, List.append_assoc]
  rw [e]
  unfold sub?
  rw [Nat.ble_eq_true_of_le (by simp; omega), cond_true, List.drop_zero]
  congr 1
  rw [← List.append_assoc, ← List.append_assoc, List.take_left' (by simp; omega), List.append_assoc]
end
/-- the conditions of a row with elements set in, by the cells of an element, its bytes, its zero -/
def InsVC (sz bt : Nat) (zs : List AV) (s : AV) (i : Int) (v : AV) (h : Hp) (Post : AV → Hp → Prop) : Prop :=
  onO (slV s (some i) none none sz) fun a0 =>
  onO (lenV v) fun p0 =>
    onB (decide ((↑p0 : Int) = 0)) (Post s h)
      (onO (lenV s) fun p1 =>
        onB (decide (i = ↑p1)) (onO (srcV sz v) fun r0 => onC (((4 * r0.fst + 4000) * bt).ble 17179869184) (wpE (Eff.app s r0.fst r0.snd sz) (fun x0 h0 => onO x0 fun a1 => Post a1 h0) h))
          (onO (intO BinOp.add IntKind.i64 ↑p1 ↑p0) fun n0 =>
            onO (capV s) fun p2 =>
              onB (decide ((↑p2 : Int) < n0))
                (onO (slV s none (some i) none sz) fun a2 =>
                  onO (intO BinOp.add IntKind.i64 ↑p1 ↑p0) fun n1 =>
                    onO (intO BinOp.sub IntKind.i64 n1 i) fun n2 =>
                      onO (natI n2) fun p3 =>
                        onC (p3.blt 1000000 && ((4 * p3 + 4000) * bt).ble 17179869184)
                          (wpE (Eff.app a2 p3 (Src.lit (zerosV zs p3)) sz)
                            (fun x1 h1 =>
                              onO x1 fun a3 =>
                                onO (slV a3 (some i) none none sz) fun a4 =>
                                  onO (copyV sz a4 v) fun r1 =>
                                    wpE r1.snd
                                      (fun x2 h2 =>
                                        onO (intO BinOp.add IntKind.i64 i ↑p0) fun n3 =>
                                          onO (slV a3 (some n3) none none sz) fun a5 => onO (slV s (some i) none none sz) fun a6 => onO (copyV sz a5 a6) fun r2 => wpE r2.snd (fun x3 h3 => Post a3 h3) h2)
                                      h1)
                            h))
                (onO (intO BinOp.add IntKind.i64 ↑p1 ↑p0) fun n4 =>
                  onO (slV s none (some n4) none sz) fun a7 =>
                    onO (intO BinOp.add IntKind.i64 i ↑p0) fun n5 =>
                      onO (slV a7 (some n5) none none sz) fun a8 =>
                        onO (ovV [v, a8]) fun r3 =>
                          wpE (Eff.m r3.fst (AV.p r3.snd 0))
                            (fun x4 h4 =>
                              onO (intO BinOp.add IntKind.i64 i ↑p0) fun n6 =>
                                onO (slV a7 (some n6) none none sz) fun a9 =>
                                  onO (slV a7 (some i) none none sz) fun a10 =>
                                    onO (copyV sz a9 a10) fun r4 =>
                                      wpE r4.snd (fun x5 h5 => onO (slV a7 (some i) none none sz) fun a11 => onO (copyV sz a11 v) fun r5 => wpE r5.snd (fun x6 h6 => Post a7 h6) h5) h4)
                            h)))
section
variable {hk : Hook}
theorem ins_sl {sz bt : Nat} {zs : List AV} (hzl : zs.length = sz) (hsz : 0 < sz) (hbt : bt ≤ 4000) {h : Hp} {sb cap len i vb vo vn vl : Nat} {vx : Bool} {cells2 old new : List AV} (hg : h.g sb = some cells2) (hcl : cells2.length = cap * sz) (hlc : len ≤ cap) (hlo : h.lo ≤ sb) (hvlo : h.lo ≤ vb) (hne : vb ≠ sb)
    (hold : sub? cells2 0 (len * sz) = some old) (hnew : rdH h vb vo (vn * sz) = some new) (hos : old.all AV.sc = true) (hns : new.all AV.sc = true) (hi : i ≤ len) (h0 : 0 < vn) (hvl : vn ≤ vl) (hbig : len + vn < 1000000) :
    InsVC sz bt zs (.sl sb 0 len cap true sz) (.ofNat i) (.sl vb vo vn vl vx sz) h (fun v h' => ∃ b3 o3 lo3 ex3, v = .sl b3 o3 (len + vn) lo3 ex3 sz ∧ (b3 = sb ∨ h.g b3 = none) ∧ h'.g vb = h.g vb ∧ rdH h' b3 o3 ((len + vn) * sz) = some (old.take (i * sz) ++ (new ++ old.drop (i * sz)))) := by
  obtain ⟨hol, hold2⟩ := sub_some hold
  rw [List.drop_zero] at hold2
  rw [Nat.zero_add] at hol
  have hlen : old.length = len * sz := by rw [hold2, List.length_take]; omega
  obtain ⟨vcells, hvg, hvs⟩ := bind_some' hnew
  have hnl : new.length = vn * sz := by
    have := sub_some hvs
    rw [this.2, List.length_take, List.length_drop]; omega
  have hbt2 : ∀ n, n < 1000000 → ((4 * n + 4000) * bt).ble 17179869184 = true := fun n hn => Nat.ble_eq_true_of_le (Nat.le_trans (Nat.mul_le_mul (show 4 * n + 4000 ≤ 4004000 by omega) hbt) (by omega))
  have e1 : (len + vn) * sz = len * sz + vn * sz := Nat.add_mul _ _ _
  have e2 : (i + vn) * sz = i * sz + vn * sz := Nat.add_mul _ _ _
  have e3 : len * sz = i * sz + (len - i) * sz := by rw [← Nat.add_mul]; congr 1; omega
  have hod : (old.drop (i * sz)).length = (len - i) * sz := by rw [List.length_drop, hlen]; omega
  unfold InsVC
  refine onO.mk (slV_lo hi hlc) (onO.mk rfl (onB.dec (fun e => by omega) (fun _ => onO.mk rfl (onB.dec (fun e => ?_) (fun e => ?_)))))
  · have e : i = len := by have : (i : Int) = len := e; omega
    subst e
    have htk : old.take (i * sz) = old := List.take_of_length_le (by omega)
    have hdr : old.drop (i * sz) = [] := List.drop_eq_nil_of_le (by omega)
    refine onO.mk (a := (vn, Src.mem vb vo (vn * sz))) ?_ ⟨hbt2 vn (by omega), ?_⟩
    · show (cond (Nat.beq sz sz) (some (vn, cond (Nat.beq vn 0) (Src.lit []) (.mem vb vo (vn * sz)))) none : Option (Nat × Src)) = _
      rw [Nat.beq_refl, cond_true, beq_ne (show vn ≠ 0 by omega), cond_false]
    · by_cases hf : i + vn ≤ cap
      · have hfz : (i + vn) * sz ≤ cap * sz := Nat.mul_le_mul_right _ hf
        refine wpE.app_in hg hlo hnew hnl h0 hf (by omega) hns hbig (onO.mk rfl ⟨sb, 0, cap, true, rfl, .inl rfl, Hp.put_ne _ _ hne, ?_⟩)
        unfold rdH
        rw [Hp.put_same, Option.bind_some, Nat.zero_add, e1, htk, hdr, List.append_nil, ← hnl]
        have := sub_splice (cs := cells2) (old := old) (new := new) (o := 0) (n := i * sz) (by rw [hold]) (by omega)
        rw [Nat.zero_add] at this
        exact this
      · refine wpE.app_new (.inr (by unfold rdH; rw [hg]; exact hold)) hnew hnl (by omega) hbig fun id q1 q2 => onO.mk rfl ⟨id, 0, _, false, rfl, .inr q1, Hp.put_ne _ _ (fun e => by rw [e, q1] at hvg; cases hvg), ?_⟩
        unfold rdH
        rw [Hp.put_same, Option.bind_some, htk, hdr, List.append_nil]
        unfold sub?
        rw [Nat.ble_eq_true_of_le (by rw [List.length_append]; omega), cond_true, List.drop_zero, List.take_of_length_le (by rw [List.length_append]; omega)]
  · have hlt : i < len := by have : ¬ (i : Int) = len := e; omega
    have hcapi : Nat.beq cap i = false := beq_ne (by omega)
    have hszi : 0 < (len - i) * sz := Nat.mul_pos (by omega) hsz
    refine onO.mk (add64 (by omega) (by omega)) (onO.mk rfl (onB.dec (fun hf => ?_) (fun hf => ?_)))
    · have hf : cap < len + vn := by omega
      refine onO.mk (slV_hi (by omega)) (onO.mk (add64 (by omega) (by omega)) (onO.mk (sub64 (by show _ ≤ _ - (i : Int); omega) (by show _ - (i : Int) < _; omega)) ?_))
      have en : ((len : Int) + vn - Int.ofNat i) = Int.ofNat (len + vn - i) := by show (len : Int) + vn - (i : Int) = ((len + vn - i : Nat) : Int); omega
      rw [en]
      refine onO.mk rfl ⟨?_, ?_⟩
      · show (Nat.blt (len + vn - i) 1000000 && _) = true
        rw [blt_of (by omega), hbt2 _ (by omega)]; rfl
      have holdi : rdH h sb 0 (i * sz) = some (old.take (i * sz)) := by
        unfold rdH
        rw [hg, Option.bind_some]
        unfold sub?
        rw [Nat.ble_eq_true_of_le (by omega), cond_true, List.drop_zero, hold2, List.take_take, Nat.min_eq_left (by omega)]
      have hzz : (zerosV zs (len + vn - i)).length = (len + vn - i) * sz := by
        show (zeros zs (len + vn - i)).length = _
        rw [zeros_len, hzl]
      have esum : i + (len + vn - i) = len + vn := by omega
      refine wpE.app_new (.inr holdi) rfl hzz (by omega) (by omega) fun id q1 q2 => onO.mk rfl ?_
      rw [esum]
      have hid : id ≠ sb := fun e => by rw [e, hg] at q1; cases q1
      have hidv : id ≠ vb := fun e => by rw [e, hvg] at q1; cases q1
      have hcn : (old.take (i * sz) ++ zerosV zs (len + vn - i)).length = i * sz + vn * sz + (len - i) * sz := by
        rw [List.length_append, List.length_take, hzz]
        have : (len + vn - i) * sz = vn * sz + (len - i) * sz := by rw [← Nat.add_mul]; congr 1; omega
        omega
      refine onO.mk (slV_lo (by omega) (Nat.le_refl _)) ?_
      rw [beq_ne (show len + vn ≠ i by omega), cond_false]
      refine onO.mk (copyV_mk (k := vn) (Nat.min_eq_left (by omega)) h0) ?_
      refine wpE.w (Hp.put_same _ _ _) q2 (by show rdH _ vb vo (vn * sz) = some new; unfold rdH; rw [Hp.put_ne _ _ (Ne.symm hidv)]; exact hnew) (by omega) hns ?_
      rw [Nat.zero_add]
      refine onO.mk (add64 (by show _ ≤ (i : Int) + _; omega) (by show (i : Int) + _ < _; omega)) ?_
      have en3 : (Int.ofNat i + (vn : Int)) = Int.ofNat (i + vn) := rfl
      rw [en3]
      refine onO.mk (slV_lo (by omega) (Nat.le_refl _)) ?_
      rw [beq_ne (show len + vn ≠ i + vn by omega), cond_false]
      refine onO.mk (slV_lo hi hlc) ?_
      rw [hcapi, cond_false]
      refine onO.mk (copyV_mk (k := len - i) (by rw [show len + vn - (i + vn) = len - i by omega]; exact Nat.min_self _) (by omega)) ?_
      refine wpE.w (Hp.put_same _ _ _) q2 (new := old.drop (i * sz)) ?_ (by rw [splice_len _ _ _ (by omega), hod]; omega) ?_ ?_
      · show rdH _ sb _ _ = _
        unfold rdH
        rw [Hp.put_ne _ _ (Ne.symm hid), Hp.put_ne _ _ (Ne.symm hid), hg, Option.bind_some]
        unfold sub?
        rw [Nat.ble_eq_true_of_le (by omega), cond_true, hold2, Nat.zero_add, List.drop_take, show len * sz - i * sz = (len - i) * sz by omega]
      · rw [List.all_eq_true] at hos ⊢
        exact fun x hx => hos x (List.mem_of_mem_drop hx)
      · refine ⟨id, 0, _, false, rfl, .inr q1, ?_, ?_⟩
        · rw [Hp.put_ne _ _ (Ne.symm hidv), Hp.put_ne _ _ (Ne.symm hidv), Hp.put_ne _ _ (Ne.symm hidv)]
        · unfold rdH
          rw [Hp.put_same, Option.bind_some, Nat.zero_add, e2, e1, e3, show i * sz + (len - i) * sz + vn * sz = i * sz + vn * sz + (len - i) * sz by omega, ins_cells2 hnl hod (by omega), List.take_left' (by rw [List.length_take]; omega)]
    · have hf : len + vn ≤ cap := by omega
      have hfz : (len + vn) * sz ≤ cap * sz := Nat.mul_le_mul_right _ hf
      refine onO.mk (add64 (by omega) (by omega)) ?_
      have en4 : ((len : Int) + (vn : Int)) = Int.ofNat (len + vn) := rfl
      rw [en4]
      refine onO.mk (slV_hi hf) (onO.mk (add64 (by show _ ≤ (i : Int) + _; omega) (by show (i : Int) + _ < _; omega)) ?_)
      have en5 : (Int.ofNat i + (vn : Int)) = Int.ofNat (i + vn) := rfl
      rw [en5]
      refine onO.mk (slV_lo (by omega) hf) ?_
      rw [beq_ne (show cap ≠ i + vn by omega), cond_false]
      refine onO.mk (a := (vb, sb)) ?_ ?_
      · show (cond (!(Nat.beq vb sb) && Nat.blt 0 ((len + vn - (i + vn)) * sz)) (some (vb, sb)) none : Option (Nat × Nat)) = _
        rw [beq_ne hne, blt_of (by rw [show len + vn - (i + vn) = len - i by omega]; exact hszi)]; rfl
      refine wpE.ov hvg hg hvlo hne ?_
      refine onO.mk (add64 (by show _ ≤ (i : Int) + _; omega) (by show (i : Int) + _ < _; omega)) ?_
      rw [en5]
      refine onO.mk (slV_lo (by omega) hf) ?_
      rw [beq_ne (show cap ≠ i + vn by omega), cond_false]
      refine onO.mk (slV_lo (by omega) hf) ?_
      rw [hcapi, cond_false]
      refine onO.mk (copyV_mk (k := len - i) (by rw [show len + vn - (i + vn) = len - i by omega]; exact Nat.min_eq_right (by omega)) (by omega)) ?_
      refine wpE.w hg hlo (new := old.drop (i * sz)) ?_ (by rw [hod]; omega) ?_ ?_
      · show rdH _ sb _ _ = _
        unfold rdH
        rw [hg, Option.bind_some]
        unfold sub?
        rw [Nat.ble_eq_true_of_le (by omega), cond_true, hold2, Nat.zero_add, List.drop_take, show len * sz - i * sz = (len - i) * sz by omega]
      · rw [List.all_eq_true] at hos ⊢
        exact fun x hx => hos x (List.mem_of_mem_drop hx)
      refine onO.mk (slV_lo (by omega) hf) ?_
      rw [hcapi, cond_false]
      refine onO.mk (copyV_mk (k := vn) (Nat.min_eq_left (by omega)) h0) ?_
      refine wpE.w (Hp.put_same _ _ _) hlo (by show rdH _ vb vo (vn * sz) = some new; unfold rdH; rw [Hp.put_ne _ _ hne]; exact hnew) (by rw [splice_len _ _ _ (by rw [hod]; omega)]; omega) hns ?_
      refine ⟨sb, 0, cap, true, rfl, .inl rfl, by rw [Hp.put_ne _ _ hne, Hp.put_ne _ _ hne], ?_⟩
      unfold rdH
      rw [Hp.put_same, Option.bind_some, Nat.zero_add, Nat.zero_add, e2, e1, e3, show i * sz + (len - i) * sz + vn * sz = i * sz + vn * sz + (len - i) * sz by omega, ins_cells1 hnl hod (by omega), hold2, List.take_take, Nat.min_eq_left (by omega)]
theorem ins_ns {s : AV} (hsn : s = .ns ∨ ∃ z, s = .e z) {sz bt : Nat} {zs : List AV} (hbt : bt ≤ 4000) {h : Hp} {vb vo vn vl : Nat} {vx : Bool} {new : List AV} (hnew : rdH h vb vo (vn * sz) = some new) (h0 : 0 < vn) (hbig : vn < 1000000) :
    InsVC sz bt zs s (.ofNat 0) (.sl vb vo vn vl vx sz) h (fun v h' => ∃ b3 o3 lo3 ex3, v = .sl b3 o3 vn lo3 ex3 sz ∧ h.g b3 = none ∧ h'.g vb = h.g vb ∧ rdH h' b3 o3 (vn * sz) = some new) := by
  obtain ⟨vcells, hvg, hvs⟩ := bind_some' hnew
  have hnl : new.length = vn * sz := by
    have := sub_some hvs
    rw [this.2, List.length_take, List.length_drop]; omega
  unfold InsVC
  refine onO.mk (a := s) (by rcases hsn with rfl | ⟨z, rfl⟩ <;> rfl) (onO.mk rfl (onB.dec (fun e => by omega) (fun _ => onO.mk (a := 0) (by rcases hsn with rfl | ⟨z, rfl⟩ <;> rfl) (onB.dec (fun e => ?_) (fun e => absurd rfl e)))))
  refine onO.mk (a := (vn, Src.mem vb vo (vn * sz))) ?_ ⟨Nat.ble_eq_true_of_le (Nat.le_trans (Nat.mul_le_mul (show 4 * vn + 4000 ≤ 4004000 by omega) hbt) (by omega)), ?_⟩
  · show (cond (Nat.beq sz sz) (some (vn, cond (Nat.beq vn 0) (Src.lit []) (.mem vb vo (vn * sz)))) none : Option (Nat × Src)) = _
    rw [Nat.beq_refl, cond_true, beq_ne (show vn ≠ 0 by omega), cond_false]
  refine wpE.app_ns hsn hnew hnl h0 hbig fun id q1 q2 => onO.mk rfl ⟨id, 0, vn, false, rfl, q1, Hp.put_ne _ _ (fun e => by rw [e, q1] at hvg; cases hvg), ?_⟩
  unfold rdH
  rw [Hp.put_same, Option.bind_some]
  unfold sub?
  rw [Nat.ble_eq_true_of_le (by omega), cond_true, List.drop_zero, List.take_of_length_le (by omega)]
end
end Go.Proofs.YtecjbmibngfpmaaAn
