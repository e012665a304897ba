/- What the functions that the law reaches come to, down to the law itself. -/
import Derived.Test.YtnblmjmahcgdaaaCnDiskExactp0
import Derived.Test.YtnblmjmahcgdaaaProg
set_option linter.unusedVariables false
set_option linter.unusedSimpArgs false
set_option maxRecDepth 100000
namespace Go.Proofs.YtnblmjmahcgdaaaAn
open Go
def kChg : Kn DOp := ⟨3, fun h o c => ∃ a, c = [.i .i64 (if o.cut = true then 0 else (o.pos : Int)), .i .i64 (if o.cut = true then (o.pos : Int) else -1), a] ∧ Kn.byte.Row h a o.b,
  fun l ⟨a, h1, h2⟩ => ⟨a, h1, h2.mono l⟩, fun ⟨a, h1, h2⟩ => by rw [h1]; rfl, fun ⟨a, h1, h2⟩ => by rw [h1]; show (true && (true && (a.sc && true))) = true; rw [h2.sc]; rfl⟩
def rfC (a : Nat → AV) (D : Dk) : List AV := [a 0, a 1, a 2, a 3, a 4, a 5, a 6, a 7, a 8, .b D.off, .i .i64 D.left, .b D.armed]
structure RfA (lo : Nat) (F : Hp) (Q : Nat → Hp) (B p : Nat) (a : Nat → AV) (D : Dk) : Prop where
  box : Q B = Hp.one p (rfC a D) lo
  plo : lo ≤ p
  len : D.f.length = 3
  ok : ∀ (n : Nat) f, D.f[n]? = some f → f.ok
  kept : ∀ (n : Nat) f, D.f[n]? = some f → Kn.byte.Row F (a (3 * n)) f.kept
  seen : ∀ (n : Nat) f, D.f[n]? = some f → Kn.byte.Row F (a (3 * n + 1)) f.seen
  ops : ∀ (n : Nat) f, D.f[n]? = some f → RowP kChg F lo (Q (B + (n + 1))) (a (3 * n + 2)) f.ops
  left : D.armed = true → D.off = false → 1 ≤ D.left ∧ D.left < 9223372036854775808
section
variable {lo B p : Nat} {F F' g h h' : Hp} {Q Q' : Nat → Hp} {a a' : Nat → AV} {D D' : Dk} {Post : AV → Hp → Prop} {b r : AV} {l : List (List Nat)} {f f' : List Nat}
theorem app_big {m : List Nat} (ow : Kn.byte.Own g h r f) (rb : Kn.byte.Row h b m) (hm : m.length ≤ 4194304) (hb : f.length + m.length < 32000000) (k : ∀ r' h', Kn.byte.Own g h' r' (f ++ m) → Post r' h') :
    onO (srcV 1 b) fun r3 => onC (((4 * r3.fst + 4000) * 1).ble (OfNat.ofNat 17179869184)) (wpE (Eff.app r r3.fst r3.snd 1) (fun x0 h6 => onO x0 fun a10 => Post a10 h6) h) := by
  obtain ⟨css, r1, r2⟩ := rb
  obtain ⟨s, s1, s2⟩ := r1.src
  have hl := r2.length
  exact onO.mk s1 (onC.mk (Nat.ble_eq_true_of_le (by show (4 * css.length + 4000) * 1 ≤ 17179869184; omega)) (ow.app (sz := 1) rfl byte_flat r2 s2 hl (by omega) fun r' h' o' => onO.mk rfl (k _ _ o')))
theorem c43 {o : DOp} (rb : Kn.byte.Row h b f) (ro : Kn.byte.Row h r o.b) (hp : o.pos ≤ f.length) (hm : (doF f o).length ≤ 4194304) (hf : f.length ≤ 4194304)
    (k : ∀ a' h', Kn.byte.Own h h' a' (doF f o) → Post a' h') : wpC Try.prog 43 [b, .agg [.i .i64 (if o.cut = true then 0 else (o.pos : Int)), .i .i64 (if o.cut = true then (o.pos : Int) else -1), r]] Post h := by
  refine call_sound (args := [.vv b, .ag [.ii .i64 (if o.cut = true then 0 else (o.pos : Int)), .ii .i64 (if o.cut = true then (o.pos : Int) else -1), .vv r]]) (cuts := []) ⟨rb.sc, ⟨trivial, trivial, ro.sc, trivial⟩, trivial⟩ ?_
  rw [vc43]
  intro _
  obtain ⟨r1, e1, e2⟩ := rb.sl rfl (sz := 1) (i := 0) (j := o.pos) (lo := none) (hi := some ((o.pos : Nat) : Int)) (by omega) hp rfl rfl
  have e2 : Kn.byte.Row h r1 (f.take o.pos) := by simpa using e2
  cases hc : o.cut with
  | true =>
    rw [if_pos rfl]
    rw [doF_cut hc] at k
    exact onB.pos (decide_eq_true (by omega)) (onO.mk e1 (c31 e2 (by simp; omega) fun r2 h2 o2 => onRet.r o2.sc (k _ _ o2)))
  | false =>
    have hl := doF_len hc hp
    rw [hl] at hm
    rw [doF_put hc] at k
    rw [if_neg (by simp), if_neg (by simp)]
    refine onB.neg (decide_eq_false (by omega)) (onO.mk e1 (c31 e2 (by simp; omega) fun r2 h2 o2 => onRet.r o2.sc ?_))
    refine app_big (Post := fun a6 h2 => onO (lenV a6) fun p1 => onO (lenV b) fun p2 => onB (decide ((p1 : Int) < p2)) (onO (lenV a6) fun p3 => onO (slV b (some (p3 : Int)) none none 1) fun a7 => onO (srcV 1 a7) fun r1 =>
        onC (((4 * r1.fst + 4000) * 1).ble (OfNat.ofNat 17179869184)) (wpE (Eff.app a6 r1.fst r1.snd 1) (fun x1 h3 => onO x1 fun a8 => Post a8 h3) h2)) (Post a6 h2)) o2 (ro.mono o2.le) (by omega) (by simp only [List.length_take]; omega) fun r3 h3 o3 => ?_
    have hlen : (f.take o.pos ++ o.b).length = o.pos + o.b.length := by simp; omega
    refine onO.mk o3.row.len (onO.mk (rb.mono o3.le).len (onB.dec (fun e => ?_) fun e => ?_))
    · refine onO.mk o3.row.len ?_
      rw [hlen] at e ⊢
      obtain ⟨r4, e4, e5⟩ := (rb.mono o3.le).sl rfl (sz := 1) (i := o.pos + o.b.length) (j := f.length) (lo := some ((o.pos + o.b.length : Nat) : Int)) (hi := none) (by omega) (by omega) rfl rfl
      have e5 : Kn.byte.Row h3 r4 (f.drop (o.pos + o.b.length)) := by rw [List.take_of_length_le (by simp)] at e5; exact e5
      refine onO.mk e4 (app_big (Post := fun a8 h3 => Post a8 h3) o3 e5 (by simp; omega) (by rw [hlen]; simp; omega) fun r5 h5 o5 => k _ _ (by rw [← List.append_assoc]; exact o5))
    · rw [hlen] at e
      refine k _ _ ?_
      rw [List.drop_of_length_le (by omega), List.append_nil]; exact o3
theorem RfA.get (d : RfA lo F Q B p a D) {n : Nat} (hn : n < 3) : ∃ f, D.f[n]? = some f := get_lt (by rw [d.len]; exact hn)
theorem RfA.lt (d : RfA lo F Q B p a D) {n : Nat} {f : DFile} (h : D.f[n]? = some f) : n < 3 := by rw [← d.len]; exact (List.getElem?_eq_some_iff.1 h).1
theorem RfA.fmono (d : RfA lo F Q B p a D) (l : F.le F') : RfA lo F' Q B p a D := ⟨d.box, d.plo, d.len, d.ok, fun n f e => (d.kept n f e).mono l, fun n f e => (d.seen n f e).mono l, fun n f e => (d.ops n f e).mono l, d.left⟩
theorem RfA.same (d : RfA lo F Q B p a D) (e : ∀ j, B ≤ j → j < B + 4 → Q' j = Q j) : RfA lo F Q' B p a D :=
  ⟨by rw [e B (by omega) (by omega)]; exact d.box, d.plo, d.len, d.ok, d.kept, d.seen, fun n f h => by have := d.lt h; rw [e _ (by omega) (by omega)]; exact d.ops n f h, d.left⟩
theorem RfA.put (d : RfA lo F Q B p a D) (e : D'.f = D.f) (l : D'.armed = true → D'.off = false → 1 ≤ D'.left ∧ D'.left < 9223372036854775808) : RfA lo F (updQ Q B (Hp.one p (rfC a D') lo)) B p a D' :=
  ⟨updQ_same, d.plo, by rw [e]; exact d.len, by rw [e]; exact d.ok, by rw [e]; exact d.kept, by rw [e]; exact d.seen, by rw [e]; exact fun n f h => by rw [updQ_ne (by omega)]; exact d.ops n f h, l⟩
theorem RfA.fileD (d : RfA lo F Q B p a D) {n : Nat} (hn : n < 3) : D.f[n]? = some (fileD D (n : Int)) := by
  obtain ⟨f, hf⟩ := d.get hn
  rw [fileD_get hf]; exact hf
theorem rf_cell (s : Sep lo F Q h) (e : Q B = Hp.one p (rfC a D) lo) {n k : Nat} (hn : n < 3) (hk : k < 3) : rdH h p (0 + 0 + n * 3 + k) 1 = some [a (3 * n + k)] := by
  refine rdBox (s.box e) ?_
  match n, k, hn, hk with
  | 0, 0, _, _ => rfl
  | 0, 1, _, _ => rfl
  | 0, 2, _, _ => rfl
  | 1, 0, _, _ => rfl
  | 1, 1, _, _ => rfl
  | 1, 2, _, _ => rfl
  | 2, 0, _, _ => rfl
  | 2, 1, _, _ => rfl
  | 2, 2, _, _ => rfl
theorem rf_splice {n k : Nat} (hn : n < 3) (hk : k < 3) {v : AV} : splice (rfC a D) (0 + 0 + n * 3 + k) [v] = rfC (updA a (3 * n + k) v) D := by
  match n, k, hn, hk with
  | 0, 0, _, _ => rfl
  | 0, 1, _, _ => rfl
  | 0, 2, _, _ => rfl
  | 1, 0, _, _ => rfl
  | 1, 1, _, _ => rfl
  | 1, 2, _, _ => rfl
  | 2, 0, _, _ => rfl
  | 2, 1, _, _ => rfl
  | 2, 2, _, _ => rfl
theorem rf_put (s : Sep lo F Q h) (e : Q B = Hp.one p (rfC a D) lo) (hlo : lo ≤ p) {n k : Nat} (hn : n < 3) (hk : k < 3) {v : AV} (hv : v.sc = true) {Post : Option AV → Hp → Prop}
    (kk : ∀ h', Sep lo F (updQ Q B (Hp.one p (rfC (updA a (3 * n + k) v) D) lo)) h' → Post none h') : wpE (.w p (0 + 0 + n * 3 + k) (.lit [v]) none) Post h := by
  refine wpE.w (s.box e) (by rw [s.hlo]; exact hlo) (new := [v]) rfl (by show _ + 1 ≤ 12; omega) (by simp [hv]) (kk _ ?_)
  rw [rf_splice hn hk]
  exact s.put e _
theorem rf_word (s : Sep lo F Q h) (e : Q B = Hp.one p (rfC a D) lo) : rdH h p (0 + 9) 1 = some [.b D.off] ∧ rdH h p (0 + 10) 1 = some [.i .i64 D.left] ∧ rdH h p (0 + 11) 1 = some [.b D.armed] :=
  ⟨rdBox (s.box e) rfl, rdBox (s.box e) rfl, rdBox (s.box e) rfl⟩
/-- its own words changed, in steps -/
theorem RfA.chg (d : RfA lo F Q B p a D) {D' : Dk} {Q1 : Nat → Hp} (e : D'.f = D.f) (l : D'.armed = true → D'.off = false → 1 ≤ D'.left ∧ D'.left < 9223372036854775808) (e1 : Q1 B = Hp.one p (rfC a D') lo) (e2 : ∀ j, j ≠ B → Q1 j = Q j) : RfA lo F Q1 B p a D' :=
  (d.put e l).same fun j _ _ => by
    by_cases ej : j = B
    · subst ej; rw [updQ_same, e1]
    · rw [updQ_ne ej, e2 j ej]
theorem c42 (s : Sep lo F Q h) (d : RfA lo F Q B p a D) (k : ∀ Q' h', Sep lo F Q' h' → RfA lo F Q' B p a (callD D) → Upd B 4 Q Q' → Post (.b (callD D).off) h') : wpC Try.prog 42 [.p p 0] Post h := by
  refine call_sound (args := [.vv (.p p 0)]) (cuts := []) ⟨rfl, trivial⟩ ?_
  rw [vc42]
  obtain ⟨w1, w2, w3⟩ := rf_word s d.box
  have plo : ∀ {Q : Nat → Hp} {h}, Sep lo F Q h → h.lo ≤ p := fun s => by rw [s.hlo]; exact d.plo
  have hsame : ¬ (D.armed = true ∧ D.off = false) → onO (ptrV (.p p 0)) fun r10 => onO (rdH h r10.fst (r10.snd + 9) 1) fun l7 => onL [Kd.bool] l7 fun lc4 => Post (AV.b lc4) h := fun e => by
    have ec : callD D = D := if_neg e
    rw [ec] at k
    exact onO.mk rfl (onO.mk w1 (onL.b1 (k Q h s d Upd.refl)))
  refine onO.mk rfl (onO.mk w3 (onL.b1 (onB.mk (fun ha => ?_) fun ha => hsame fun e => by rw [ha] at e; cases e.1)))
  refine onO.mk rfl (onO.mk w1 (onL.b1 (onB.not (fun ho => ?_) fun ho => hsame fun e => by rw [ho] at e; cases e.2)))
  have hl := d.left ha ho
  have ec : callD D = { D with left := D.left - 1, off := decide (D.left - 1 < 1) } := if_pos ⟨ha, ho⟩
  refine onO.mk rfl (onO.mk w2 (onL.i1 (onB.dec (fun e => ?_) fun e => ?_)))
  · refine onO.mk rfl (wpE.w (s.box d.box) (plo s) (new := [.b true]) rfl (by show _ + 1 ≤ 12; omega) rfl ?_)
    rw [show splice (rfC a D) (0 + 9) [.b true] = rfC a { D with off := true } from rfl]
    have s1 := s.put d.box (rfC a { D with off := true })
    refine onO.mk rfl (onO.mk (rf_word s1 updQ_same).2.1 (onL.i1 (onO.mk (sub64 (a := D.left) (b := 1) (by omega) (by omega)) (onO.mk rfl (wpE.w (s1.box updQ_same) (plo s1) (new := [.i .i64 (D.left - 1)]) rfl (by show _ + 1 ≤ 12; omega) rfl ?_)))))
    have ec2 : callD D = { D with off := true, left := D.left - 1 } := by rw [ec, decide_eq_true (by omega)]
    rw [show splice (rfC a { D with off := true }) (0 + 10) [.i .i64 (D.left - 1)] = rfC a { D with off := true, left := D.left - 1 } from rfl, ← ec2]
    have s2 := s1.put updQ_same (rfC a (callD D))
    refine onO.mk rfl (onO.mk (rf_word s2 updQ_same).1 (onL.b1 (k _ _ s2 (d.chg callD_f (callD_left d.left) updQ_same fun j ej => by rw [updQ_ne ej, updQ_ne ej]) ((Upd.refl.put0 (by omega)).put0 (by omega)))))
  · refine onO.mk rfl (onO.mk w2 (onL.i1 (onO.mk (sub64 (a := D.left) (b := 1) (by omega) (by omega)) (onO.mk rfl (wpE.w (s.box d.box) (plo s) (new := [.i .i64 (D.left - 1)]) rfl (by show _ + 1 ≤ 12; omega) rfl ?_)))))
    have ec2 : callD D = { D with left := D.left - 1 } := by rw [ec, decide_eq_false (by omega), ← ho]
    rw [show splice (rfC a D) (0 + 10) [.i .i64 (D.left - 1)] = rfC a { D with left := D.left - 1 } from rfl, ← ec2]
    have s2 := s.put d.box (rfC a (callD D))
    exact onO.mk rfl (onO.mk (rf_word s2 updQ_same).1 (onL.b1 (k _ _ s2 (d.chg callD_f (callD_left d.left) updQ_same fun j ej => by rw [updQ_ne ej]) (Upd.refl.put0 (by omega)))))
theorem c26 {n : Int} (s : Sep lo F Q h) (d : RfA lo F Q B p a D) (hn : n < 9223372036854775808)
    (k : ∀ Q' h', Sep lo F Q' h' → RfA lo F Q' B p a (offD D n) → Upd B 4 Q Q' → Post (.tup []) h') : wpC Try.prog 26 [.p p 0, .i .i64 n] Post h := by
  refine call_sound (args := [.vv (.p p 0), .ii .i64 n]) (cuts := []) ⟨rfl, trivial, trivial⟩ ?_
  rw [vc26]
  have plo : ∀ {Q : Nat → Hp} {h}, Sep lo F Q h → h.lo ≤ p := fun s => by rw [s.hlo]; exact d.plo
  refine onO.mk rfl (wpE.w (s.box d.box) (plo s) (new := [.b true]) rfl (by show _ + 1 ≤ 12; omega) rfl ?_)
  have s1 := s.put d.box (rfC a { D with armed := true })
  rw [show splice (rfC a D) (0 + 11) [.b true] = rfC a { D with armed := true } from rfl]
  refine onO.mk rfl (wpE.w (s1.box updQ_same) (plo s1) (new := [.i .i64 n]) rfl (by show _ + 1 ≤ 12; omega) rfl ?_)
  rw [show splice (rfC a { D with armed := true }) (0 + 10) [.i .i64 n] = rfC a { D with armed := true, left := n } from rfl]
  have s2 := s1.put updQ_same (rfC a { D with armed := true, left := n })
  refine onB.dec (fun e => ?_) fun e => ?_
  · refine onO.mk rfl (wpE.w (s2.box updQ_same) (plo s2) (new := [.b true]) rfl (by show _ + 1 ≤ 12; omega) rfl ?_)
    have ec : offD D n = { D with armed := true, left := n, off := true } := by unfold offD; rw [if_pos e]
    rw [show splice (rfC a { D with armed := true, left := n }) (0 + 9) [.b true] = rfC a { D with armed := true, left := n, off := true } from rfl, ← ec]
    refine k _ _ (s2.put updQ_same _) (d.chg rfl (fun _ h => ?_) updQ_same fun j ej => by rw [updQ_ne ej, updQ_ne ej, updQ_ne ej]) (((Upd.refl.put0 (by omega)).put0 (by omega)).put0 (by omega))
    rw [ec] at h; cases h
  · have ec : offD D n = { D with armed := true, left := n } := by unfold offD; rw [if_neg e]
    rw [← ec] at s2 ⊢
    refine k _ _ s2 (d.chg rfl (fun _ _ => ?_) updQ_same fun j ej => by rw [updQ_ne ej, updQ_ne ej]) ((Upd.refl.put0 (by omega)).put0 (by omega))
    rw [ec]; show 1 ≤ n ∧ n < _; omega
theorem c17 {n : Int} (s : Sep lo F Q h) (d : RfA lo F Q B p a D) (k : Post (.tup [.i .i64 (sizeR D n).1, .i .i64 (sizeR D n).2]) h) : wpC Try.prog 17 [.p p 0, .i .i64 n] Post h := by
  refine call_sound (args := [.vv (.p p 0), .ii .i64 n]) (cuts := []) ⟨rfl, trivial, trivial⟩ ?_
  rw [vc17]
  unfold sizeR askR at k
  refine onO.mk rfl (onO.mk (rf_word s d.box).1 (onL.b1 (onB.mk (fun e => ?_) fun e => ?_)))
  · rw [e] at k; exact k
  rw [e] at k
  refine onB.dec (fun c => ?_) fun c => onB.dec (fun lc2 => ?_) fun lc2 => ?_
  · simpa [c] using k
  · have lc3 : 3 ≤ n := by omega
    simpa [c, lc3] using k
  · have lc3 : ¬ 3 ≤ n := by omega
    obtain ⟨m, rfl⟩ := Int.eq_ofNat_of_zero_le (a := n) (by omega)
    have hm : m < 3 := by omega
    have hf := d.fileD hm
    exact onO.mk rfl (onO.mk (natLt_nat hm) (onO.mk (rf_cell s d.box hm (by omega)) (onL.r1 (d.seen m _ hf).sc (onO.mk ((d.seen m _ hf).mono s.fle).len (by simpa [c, lc3] using k)))))
theorem c19 {n at' k' : Int} (s : Sep lo F Q h) (d : RfA lo F Q B p a D) (k : ∀ r h', Kn.byte.Own h h' r (readR' D n at' k').1 → Post (.tup [r, .i .i64 (readR' D n at' k').2]) h') :
    wpC Try.prog 19 [.p p 0, .i .i64 n, .i .i64 at', .i .i64 k'] Post h := by
  refine call_sound (args := [.vv (.p p 0), .ii .i64 n, .ii .i64 at', .ii .i64 k']) (cuts := []) ⟨rfl, trivial, trivial, trivial, trivial⟩ ?_
  rw [vc19]
  unfold readR' askR at k
  have nil := Kn.Own.nil Kn.byte h
  refine onO.mk rfl (onO.mk (rf_word s d.box).1 (onL.b1 (onB.mk (fun e => ?_) fun e => ?_)))
  · rw [e] at k; exact k _ _ nil
  rw [e] at k
  refine onB.dec (fun c => ?_) fun c => onB.dec (fun lc2 => ?_) fun lc2 => ?_
  · simp [c] at k; exact k _ _ nil
  · have lc3 : 3 ≤ n := by omega
    simp [c, lc3] at k; exact k _ _ nil
  have lc3 : ¬ 3 ≤ n := by omega
  simp only [Bool.false_eq_true, if_false, if_neg c, if_neg lc3, if_true] at k
  refine onB.dec (fun c => by rw [if_pos c] at k; exact k _ _ nil) fun c => ?_
  rw [if_neg c] at k
  obtain ⟨m, rfl⟩ := Int.eq_ofNat_of_zero_le (a := n) (by omega)
  have hm : m < 3 := by omega
  have hf := d.fileD hm
  have ok := (d.ok m _ hf).seen
  have row := (d.seen m _ hf).mono s.fle
  refine onO.mk rfl (onO.mk (natLt_nat hm) (onO.mk (rf_cell s d.box hm (by omega)) (onL.r1 row.sc ?_)))
  refine onB.dec (fun lc1 => by rw [if_pos (.inl lc1)] at k; exact k _ _ nil) fun lc1 => ?_
  refine onO.mk row.len (onB.dec (fun lc2 => by rw [if_pos (by omega)] at k; exact k _ _ nil) fun lc2 => ?_)
  refine onO.mk row.len (onO.mk (sub64 (by omega) (by omega)) (onB.dec (fun lc3 => by rw [if_pos (by omega)] at k; exact k _ _ nil) fun lc3 => ?_))
  rw [if_neg (by omega)] at k
  obtain ⟨x, rfl⟩ := Int.eq_ofNat_of_zero_le (a := at') (by omega)
  obtain ⟨y, rfl⟩ := Int.eq_ofNat_of_zero_le (a := k') (by omega)
  obtain ⟨r, e1, e2⟩ := row.sl rfl (sz := 1) (i := x) (j := x + y) (lo := some ((x : Nat) : Int)) (hi := some ((x + y : Nat) : Int)) (by omega) (by omega) rfl rfl
  refine onO.mk (add64 (by omega) (by omega)) (onO.mk (a := r) e1 ?_)
  rw [show x + y - x = y by omega] at e2
  exact c31 e2 (by simp; omega) fun r2 h2 o2 => onRet.r o2.sc (k _ _ o2)
theorem RfA.file {n : Nat} {f f' : DFile} (d : RfA lo F Q B p a D) (fl : F.le F') (hn : D.f[n]? = some f) (bx : Q' B = Hp.one p (rfC a' D) lo) (eq : ∀ j, 0 < j → j < 4 → j ≠ n + 1 → Q' (B + j) = Q (B + j))
    (ea : ∀ j, j ≠ 3 * n → j ≠ 3 * n + 1 → j ≠ 3 * n + 2 → a' j = a j) (ok : f'.ok) (k1 : Kn.byte.Row F' (a' (3 * n)) f'.kept) (k2 : Kn.byte.Row F' (a' (3 * n + 1)) f'.seen)
    (k3 : RowP kChg F' lo (Q' (B + (n + 1))) (a' (3 * n + 2)) f'.ops) : RfA lo F' Q' B p a' { D with f := D.f.set n f' } := by
  have hn3 := d.lt hn
  have d := d.fmono fl
  have key : ∀ (m : Nat) (g : DFile), (D.f.set n f')[m]? = some g → (m = n ∧ g = f') ∨ (m ≠ n ∧ D.f[m]? = some g) := fun m g e => by
    by_cases em : m = n
    · subst em
      rw [List.getElem?_set_self (by rw [d.len]; exact hn3)] at e
      injection e with e
      exact .inl ⟨rfl, e.symm⟩
    · rw [List.getElem?_set_ne (Ne.symm em)] at e
      exact .inr ⟨em, e⟩
  refine ⟨bx, d.plo, by show (D.f.set n f').length = 3; rw [List.length_set]; exact d.len, fun m g e => ?_, fun m g e => ?_, fun m g e => ?_, fun m g e => ?_, d.left⟩
  · rcases key m g e with ⟨rfl, rfl⟩ | ⟨e1, e2⟩
    · exact ok
    · exact d.ok m g e2
  · rcases key m g e with ⟨rfl, rfl⟩ | ⟨e1, e2⟩
    · exact k1
    · rw [ea _ (by omega) (by omega) (by omega)]; exact d.kept m g e2
  · rcases key m g e with ⟨rfl, rfl⟩ | ⟨e1, e2⟩
    · exact k2
    · rw [ea _ (by omega) (by omega) (by omega)]; exact d.seen m g e2
  · rcases key m g e with ⟨rfl, rfl⟩ | ⟨e1, e2⟩
    · exact k3
    · have := d.lt e2
      rw [eq _ (by omega) (by omega) (by omega), ea _ (by omega) (by omega) (by omega)]; exact d.ops m g e2
/-- a change done to what is seen, and noted -/
theorem rf_does {m : Nat} {o : DOp} {r : AV} (s : Sep lo F Q h) (d : RfA lo F Q B p a D) (hm : m < 3) (hb : Few D 31000000) (hp : o.pos ≤ (fileD D m).seen.length) (hl : (doF (fileD D m).seen o).length ≤ 4194304) (ro : Kn.byte.Row F r o.b)
    (k : ∀ F' a' Q' h', F.le F' → Sep lo F' Q' h' → RfA lo F' Q' B p a' (putD D m o) → Upd B 4 Q Q' → Post (.i .i64 0) h') :
    onO (ptrV (.p p 0)) fun r1 => onO (natLt (m : Int) 3) fun p4 => onO (rdH h r1.fst (r1.snd + 0 + p4 * 3 + 1) 1) fun l1 => onL [Kd.ref] l1 fun a4 =>
      wpC Try.prog 43 [a4, AV.agg [.i .i64 (if o.cut = true then 0 else (o.pos : Int)), .i .i64 (if o.cut = true then (o.pos : Int) else -1), r]]
      (fun a5 h2 => onRet [Sh.one Kd.ref] a5 fun a6 => onO (ptrV (.p p 0)) fun r2 => onO (natLt (m : Int) 3) fun p5 =>
       wpE (Eff.w r2.fst (r2.snd + 0 + p5 * 3 + 1) (Src.lit [a6]) none)
       (fun x0 h3 => onO (ptrV (.p p 0)) fun r3 => onO (natLt (m : Int) 3) fun p6 => onO (rdH h3 r3.fst (r3.snd + 0 + p6 * 3 + 2) 1) fun l2 => onL [Kd.ref] l2 fun a7 =>
        ∀ (p7 : Nat), wpE (Eff.app a7 1 (Src.lit [.i .i64 (if o.cut = true then 0 else (o.pos : Int)), .i .i64 (if o.cut = true then (o.pos : Int) else -1), r]) 3)
         (fun x1 h4 => onO x1 fun a8 => onO (ptrV (.p p 0)) fun r4 => onO (natLt (m : Int) 3) fun p8 => wpE (Eff.w r4.fst (r4.snd + 0 + p8 * 3 + 2) (Src.lit [a8]) none) (fun x2 h5 => Post (AV.i IntKind.i64 0) h5) h4)
         h3) h2) h := by
  have hf := d.fileD hm
  have ok := d.ok m _ hf
  have ws := d.seen m _ hf
  refine onO.mk rfl (onO.mk (natLt_nat hm) (onO.mk (rf_cell s d.box hm (by omega)) (onL.r1 ws.sc ?_)))
  refine c43 (o := o) (ws.mono s.fle) (ro.mono s.fle) hp hl ok.seen fun a6 h1 o1 => onRet.r o1.sc ?_
  have fg := s.fgrow o1.le
  have s1 := s.frz o1.le o1.lo
  have ws1 := o1.frozen byte_flat (F := F)
  refine onO.mk rfl (onO.mk (natLt_nat hm) (rf_put s1 d.box d.plo hm (by omega) o1.sc fun h2 s2 => ?_))
  refine onO.mk rfl (onO.mk (natLt_nat hm) (onO.mk (rf_cell s2 updQ_same hm (by omega)) ?_))
  rw [updA_ne (by omega)]
  have rw0 := (d.ops m _ hf).mono fg
  have rw2 : RowP kChg (moreH h h1 F) lo (updQ Q B (Hp.one p (rfC (updA a (3 * m + 1) a6) D) lo) (B + (m + 1))) (a (3 * m + 2)) (fileD D m).ops := by rw [updQ_ne (by omega)]; exact rw0
  have few := hb.get hf
  refine onL.r1 rw0.sc fun _ => s2.app1 rw2 rfl (x := o) (c := [.i .i64 (if o.cut = true then 0 else (o.pos : Int)), .i .i64 (if o.cut = true then (o.pos : Int) else -1), r]) ⟨r, rfl, ro.mono fg⟩ (by omega) fun a8 h3 q3 s3 r3 => onO.mk rfl ?_
  refine onO.mk rfl (onO.mk (natLt_nat hm) (rf_put (B := B) (a := updA a (3 * m + 1) a6) s3 (by rw [updQ_ne (by omega)]; exact updQ_same) d.plo hm (by omega) r3.sc fun h4 s4 => k _ (updA (updA a (3 * m + 1) a6) (3 * m + 2) a8) _ h4 fg s4 ?_ ?_))
  · refine d.file (n := m) fg hf updQ_same (fun j j1 j2 j3 => ?_) (fun j j1 j2 j3 => ?_) ?_ ?_ ?_ ?_
    · rw [updQ_ne (by omega), updQ_ne (by omega), updQ_ne (by omega)]
    · rw [updA_ne j3, updA_ne j2]
    · exact ⟨ok.1, runs_snoc ok.2 hp hl⟩
    · rw [updA_ne (by omega), updA_ne (by omega)]; exact (d.kept m _ hf).mono fg
    · rw [updA_ne (by omega), updA_same, seen_snoc]; exact ws1
    · rw [updQ_ne (by omega), updQ_same, updA_same]; exact r3
  · exact ((Upd.refl.put0 (by omega)).put (by omega)).put0 (by omega)
theorem c23 {n k' : Int} (s : Sep lo F Q h) (d : RfA lo F Q B p a D) (hb : Few D 31000000)
    (k : ∀ F' a' Q' h', F.le F' → Sep lo F' Q' h' → RfA lo F' Q' B p a' (cutR D n k').2 → Upd B 4 Q Q' → Post (.i .i64 (cutR D n k').1) h') : wpC Try.prog 23 [.p p 0, .i .i64 n, .i .i64 k'] Post h := by
  refine call_sound (args := [.vv (.p p 0), .ii .i64 n, .ii .i64 k']) (cuts := []) ⟨rfl, trivial, trivial, trivial⟩ ?_
  rw [vc23]
  unfold cutR askR at k
  refine c42 s d fun Q1 h0 s1 d1 u1 => onRet.b (onB.mk (fun e => ?_) fun e => ?_)
  · rw [e] at k; exact k F a Q1 h0 (Hp.le_refl _) s1 d1 u1
  rw [e] at k
  refine onB.dec (fun c => ?_) fun c => onB.dec (fun lc2 => ?_) fun lc2 => ?_
  · simp [c] at k; exact k F a Q1 h0 (Hp.le_refl _) s1 d1 u1
  · have lc3 : 3 ≤ n := by omega
    simp [c, lc3] at k; exact k F a Q1 h0 (Hp.le_refl _) s1 d1 u1
  have lc3 : ¬ 3 ≤ n := by omega
  simp only [Bool.false_eq_true, if_false, if_neg c, if_neg lc3, if_true] at k
  obtain ⟨m, rfl⟩ := Int.eq_ofNat_of_zero_le (a := n) (by omega)
  have hm : m < 3 := by omega
  have hf := d1.fileD hm
  have row := (d1.seen m _ hf).mono s1.fle
  have ok := (d1.ok m _ hf).seen
  refine onB.dec (fun lc1 => by rw [if_pos (.inl lc1)] at k; exact k F a Q1 h0 (Hp.le_refl _) s1 d1 u1) fun lc1 => ?_
  refine onO.mk rfl (onO.mk (natLt_nat hm) (onO.mk (rf_cell s1 d1.box hm (by omega)) (onL.r1 row.sc (onO.mk row.len ?_))))
  refine onB.dec (fun lc2 => by rw [if_pos (.inr lc2)] at k; exact k F a Q1 h0 (Hp.le_refl _) s1 d1 u1) fun lc2 => fun _ => ?_
  rw [if_neg (by omega)] at k
  obtain ⟨x, rfl⟩ := Int.eq_ofNat_of_zero_le (a := k') (by omega)
  exact rf_does (o := ⟨true, x, []⟩) s1 d1 hm (callD_few hb) (by show x ≤ _; omega) (by rw [doF_cut rfl, List.length_take]; show min x _ ≤ _; omega) ns_row fun F3 a3 Q3 h3 f3 s3 d3 u3 => k F3 a3 Q3 h3 f3 s3 d3 (u1.trans u3)
theorem c32 {n at' : Int} {l : List Nat} (s : Sep lo F Q h) (d : RfA lo F Q B p a D) (rb : Kn.byte.Row F b l) (hb : Few D 31000000) (h1 : -9223372036854775808 ≤ at') (h2 : at' < 9223372036854775808)
    (k : ∀ F' a' Q' h', F.le F' → Sep lo F' Q' h' → RfA lo F' Q' B p a' (writeR D n at' l).2 → Upd B 4 Q Q' → Post (.i .i64 (writeR D n at' l).1) h') :
    wpC Try.prog 32 [.p p 0, .i .i64 n, .i .i64 at', b] Post h := by
  refine call_sound (args := [.vv (.p p 0), .ii .i64 n, .ii .i64 at', .vv b]) (cuts := []) ⟨rfl, trivial, trivial, rb.sc, trivial⟩ ?_
  rw [vc32]
  unfold writeR askR at k
  refine c42 s d fun Q1 h0 s1 d1 u1 => onRet.b (onB.mk (fun e => ?_) fun e => ?_)
  · rw [e] at k; exact k F a Q1 h0 (Hp.le_refl _) s1 d1 u1
  rw [e] at k
  refine onB.dec (fun c => ?_) fun c => onB.dec (fun lc2 => ?_) fun lc2 => ?_
  · simp [c] at k; exact k F a Q1 h0 (Hp.le_refl _) s1 d1 u1
  · have lc3 : 3 ≤ n := by omega
    simp [c, lc3] at k; exact k F a Q1 h0 (Hp.le_refl _) s1 d1 u1
  have lc3 : ¬ 3 ≤ n := by omega
  simp only [Bool.false_eq_true, if_false, if_neg c, if_neg lc3, if_true] at k
  obtain ⟨m, rfl⟩ := Int.eq_ofNat_of_zero_le (a := n) (by omega)
  have hm : m < 3 := by omega
  have hf := d1.fileD hm
  have row := (d1.seen m _ hf).mono s1.fle
  have ok := (d1.ok m _ hf).seen
  refine onB.dec (fun lc1 => by rw [if_pos (.inl lc1)] at k; exact k F a Q1 h0 (Hp.le_refl _) s1 d1 u1) fun lc1 => ?_
  refine onO.mk rfl (onO.mk (natLt_nat hm) (onO.mk (rf_cell s1 d1.box hm (by omega)) (onL.r1 row.sc (onO.mk row.len ?_))))
  refine onB.dec (fun lc2 => by rw [if_pos (.inr (.inl lc2))] at k; exact k F a Q1 h0 (Hp.le_refl _) s1 d1 u1) fun lc2 => ?_
  have rb1 := rb.mono s1.fle
  refine onO.mk rb1.len (onO.mk (sub64 (by omega) (by omega)) ?_)
  refine onB.dec (fun lc3 => by rw [if_pos (.inr (.inr lc3))] at k; exact k F a Q1 h0 (Hp.le_refl _) s1 d1 u1) fun lc3 => ?_
  rw [if_neg (by omega)] at k
  obtain ⟨x, rfl⟩ := Int.eq_ofNat_of_zero_le (a := at') (by omega)
  refine c31 rb1 (by omega) fun r2 h2 o2 => onRet.r o2.sc fun _ => ?_
  have fg := s1.fgrow o2.le
  have hp : (⟨false, x, l⟩ : DOp).pos ≤ (fileD (callD D) m).seen.length := by show x ≤ _; omega
  have hl := doF_len (o := ⟨false, x, l⟩) rfl hp
  exact rf_does (o := ⟨false, x, l⟩) (s1.frz o2.le o2.lo) (d1.fmono fg) hm (callD_few hb) hp (by rw [hl]; show max _ (x + l.length) ≤ _; omega) (o2.frozen byte_flat) fun F3 a3 Q3 h3 f3 s3 d3 u3 => k F3 a3 Q3 h3 (Hp.le_trans fg f3) s3 d3 (u1.trans u3)
theorem c24 {n : Int} (s : Sep lo F Q h) (d : RfA lo F Q B p a D) (hb : Few D 31000000)
    (k : ∀ F' a' Q' h', F.le F' → Sep lo F' Q' h' → RfA lo F' Q' B p a' (syncR D n).2 → Upd B 4 Q Q' → Post (.i .i64 (syncR D n).1) h') : wpC Try.prog 24 [.p p 0, .i .i64 n] Post h := by
  refine call_sound (args := [.vv (.p p 0), .ii .i64 n]) (cuts := []) ⟨rfl, trivial, trivial⟩ ?_
  rw [vc24]
  unfold syncR askR at k
  refine c42 s d fun Q1 h0 s1 d1 u1 => onRet.b (onB.mk (fun e => ?_) fun e => ?_)
  · rw [e] at k; exact k F a Q1 h0 (Hp.le_refl _) s1 d1 u1
  rw [e] at k
  refine onB.dec (fun c => ?_) fun c => onB.dec (fun lc2 => ?_) fun lc2 => ?_
  · simp [c] at k; exact k F a Q1 h0 (Hp.le_refl _) s1 d1 u1
  · have lc3 : 3 ≤ n := by omega
    simp [c, lc3] at k; exact k F a Q1 h0 (Hp.le_refl _) s1 d1 u1
  have lc3 : ¬ 3 ≤ n := by omega
  simp only [Bool.false_eq_true, if_false, if_neg c, if_neg lc3, if_true] at k
  obtain ⟨m, rfl⟩ := Int.eq_ofNat_of_zero_le (a := n) (by omega)
  have hm : m < 3 := by omega
  have hf := d1.fileD hm
  have ws := d1.seen m _ hf
  have ok := d1.ok m _ hf
  refine onO.mk rfl (onO.mk (natLt_nat hm) (onO.mk (rf_cell s1 d1.box hm (by omega)) (onL.r1 ws.sc ?_)))
  refine c31 (ws.mono s1.fle) (by have := ok.seen; omega) fun r2 h2 o2 => onRet.r o2.sc ?_
  have fg := s1.fgrow o2.le
  have s2 := s1.frz o2.le o2.lo
  refine onO.mk rfl (onO.mk (natLt_nat hm) (rf_put s2 d1.box d.plo hm (by omega) o2.sc fun h3 s3 => ?_))
  refine onO.mk rfl (onO.mk (natLt_nat hm) (rf_put s3 updQ_same d.plo hm (by omega) rfl fun h4 s4 => ?_))
  have s5 := s4.drop (B + (m + 1))
  have dd := d1.file (n := m) (f' := ⟨(fileD (callD D) m).seen, []⟩) (a' := updA (updA a (3 * m + 0) r2) (3 * m + 2) .ns) (Q' := updQ (updQ (updQ Q1 B (Hp.one p (rfC (updA a (3 * m + 0) r2) (callD D)) lo)) B (Hp.one p (rfC (updA (updA a (3 * m + 0) r2) (3 * m + 2) .ns) (callD D)) lo)) (B + (m + 1)) (Hp.none lo)) fg hf (by rw [updQ_ne (by omega)]; exact updQ_same) (fun j j1 j2 j3 => by rw [updQ_ne (by omega), updQ_ne (by omega), updQ_ne (by omega)]) (fun j j1 j2 j3 => by rw [updA_ne j3, updA_ne (by omega)]) ⟨ok.seen, trivial⟩
    (by rw [updA_ne (by omega), show 3 * m + 0 = 3 * m from rfl, updA_same]; exact o2.frozen byte_flat) (by rw [updA_ne (by omega), updA_ne (by omega)]; exact ws.mono fg) (by rw [updQ_same, updA_same]; exact RowP.nil)
  rw [callD_file, callD_f] at dd
  exact k _ _ _ h4 fg s5 dd (((u1.put0 (by omega)).put0 (by omega)).put (by omega))
end
section
variable {lo B p : Nat} {F F' g h h' : Hp} {Q Q' : Nat → Hp} {a a' : Nat → AV} {D D' : Dk} {Post : AV → Hp → Prop} {b r : AV} {l : List (List Nat)} {f f' : List Nat}
theorem onL.chg {m n : Int} {r : AV} (hr : r.sc = true) {K : Int → Int → AV → Prop} (k : K m n r) : onL [Kd.int .i64, Kd.int .i64, Kd.ref] [.i .i64 m, .i .i64 n, r] K := onRef.mk hr k
theorem nextP_drop {ps : List Int} {K n : Nat} (hn : 0 < n) : (nextP (ps.drop K) n).2 = ps.drop (K + 1) ∧ (∀ x, ps[K]? = some x → ((nextP (ps.drop K) n).1 : Int) = x % (n : Int)) ∧ (ps.length ≤ K → (nextP (ps.drop K) n).1 = 0) := by
  cases hd : ps.drop K with
  | nil =>
    have hl : ps.length ≤ K := by
      have := congrArg List.length hd
      simp at this; omega
    refine ⟨?_, fun x hx => ?_, fun _ => rfl⟩
    · rw [List.drop_of_length_le (by omega)]; rfl
    · rw [List.getElem?_eq_none (by omega)] at hx; cases hx
  | cons y t =>
    have hlt : K < ps.length := by
      have := congrArg List.length hd
      simp at this; omega
    have h1 := drop_of (List.getElem?_eq_getElem hlt)
    rw [hd] at h1
    injection h1 with h2 h3
    refine ⟨h3, fun x hx => ?_, fun h => absurd h (by omega)⟩
    rw [List.getElem?_eq_getElem hlt] at hx
    injection hx with hx
    rw [h2, hx]
    exact Int.toNat_of_nonneg (Int.emod_nonneg x (by omega))
theorem c28 {C : Nat} {ps : List Int} (s : Sep lo F Q h) (d : RfA lo F Q B p a D) (hC : C < B ∨ B + 4 ≤ C) (row : Kn.int.Row F b ps) (hb : Few D 31000000)
    (k : ∀ r F' Q' h', F.le F' → Sep lo F' Q' h' → RfA lo F' Q' B p a { D with off := true } → RowP kBs F' lo (Q' C) r (crashL D.f ps) → (∀ i, i ≠ B → i ≠ C → Q' i = Q i) → Post r h') : wpC Try.prog 28 [.p p 0, b] Post h := by
  refine call_sound (args := [.vv (.p p 0), .vv b]) (cuts := [22000009, 35000071, 42000012]) ⟨rfl, row.sc, trivial⟩ ?_
  rw [vc28]
  refine onO.mk rfl (wpE.w (s.box d.box) (by rw [s.hlo]; exact d.plo) (new := [.b true]) rfl (by show _ + 1 ≤ 12; omega) rfl ?_)
  rw [show splice (rfC a D) (0 + 9) [.b true] = rfC a { D with off := true } from rfl]
  have s1 := (s.put d.box (rfC a { D with off := true })).drop C
  have d1 : RfA lo F (updQ (updQ Q B (Hp.one p (rfC a { D with off := true }) lo)) C (Hp.none lo)) B p a { D with off := true } :=
    (d.put (D' := { D with off := true }) rfl fun _ h => (by cases h)).same fun j h1 h2 => updQ_ne (by omega)
  have same : ∀ {F1 : Hp} {Q1 : Nat → Hp}, F.le F1 → (∀ i, i ≠ C → Q1 i = updQ (updQ Q B (Hp.one p (rfC a { D with off := true }) lo)) C (Hp.none lo) i) → RfA lo F1 Q1 B p a { D with off := true } := fun fl e => (d1.fmono fl).same fun j h1 h2 => e j (by omega)
  refine ⟨fun m n0 a0 n1 h' => ∃ (j K : Nat) (F1 : Hp) (Q1 : Nat → Hp), n1 = j ∧ j ≤ 3 ∧ m = 3 - j ∧ n0 = K ∧ K ≤ 2 * j ∧ F.le F1 ∧ Sep lo F1 Q1 h' ∧ (∀ i, i ≠ C → Q1 i = updQ (updQ Q B (Hp.one p (rfC a { D with off := true }) lo)) C (Hp.none lo) i) ∧ crashS (D.f.take j) ps = ps.drop K ∧ RowP kBs F1 lo (Q1 C) a0 (crashL (D.f.take j) ps),
    ⟨3, 0, 0, F, _, rfl, by omega, rfl, rfl, by omega, Hp.le_refl _, s1, fun _ _ => rfl, rfl, by rw [updQ_same]; exact RowP.nil⟩, ?_⟩
  rintro m h1 _ a0 ha0 _ ⟨j, K, F1, Q1, rfl, hj, rfl, rfl, hK, fl, s1, u1, hcr, rp⟩
  have d1 := same fl u1
  refine onB.dec (fun e => ?_) fun e => ?_
  · have hj3 : j < 3 := by omega
    obtain ⟨f, hf⟩ := d1.get hj3
    have hf : D.f[j]? = some f := hf
    have ok := d1.ok j f hf
    have few := hb.get hf
    have ro := d1.ops j f hf
    have kr := d1.kept j f hf
    obtain ⟨np1, np2, np3⟩ := nextP_drop (ps := ps) (K := K) (n := f.ops.length + 1) (by omega)
    generalize hP : nextP (ps.drop K) (f.ops.length + 1) = P at *
    have hPlt : P.1 < f.ops.length + 1 := by rw [← hP]; exact nextP_lt (by omega)
    have hcrash : crashF f (crashS (D.f.take j) ps) = tornF f P.1 (ps.drop (K + 1)) := by unfold crashF; rw [hcr, hP, np1]
    have rowh : Kn.int.Row h1 b ps := row.mono (Hp.le_trans fl s1.fle)
    refine onO.mk rfl (onO.mk (natLt_nat hj3) (onO.mk (rf_cell s1 d1.box hj3 (by omega)) (onL.r1 ro.sc (onO.mk rowh.len ⟨fun n h' => n = (P.1 : Int) ∧ h' = h1, onB.dec (fun e => ?_) (fun e => ?_), ?_⟩))))
    · obtain ⟨x, hx⟩ := get_lt (l := ps) (k := K) (by omega)
      refine int0 rowh hx (onO.mk (s1.rows ro).len (onO.mk (a := ((f.ops.length + 1 : Nat) : Int)) (inc64 (by omega)) (c44 (by omega) (by omega) (onRet.i ⟨(np2 x hx).symm, rfl⟩))))
    · exact ⟨by rw [np3 (by omega)]; rfl, rfl⟩
    rintro h3 _ ⟨rfl, rfl⟩
    refine onO.mk (inc64 (by omega)) (onO.mk rfl (onO.mk (natLt_nat hj3) (onO.mk (rf_cell s1 d1.box hj3 (by omega)) (onL.r1 kr.sc ?_))))
    refine c31 (kr.mono s1.fle) (by have := ok.1; omega) fun a5 h4 o4 => onRet.r o4.sc ?_
    have s2 := s1.frz o4.le o4.lo
    have fg2 := s1.fgrow o4.le
    have b2 := o4.frozen byte_flat (F := F1)
    refine ⟨fun m a6 n7 h5 => ∃ (i : Nat) (F3 : Hp), n7 = i ∧ i ≤ P.1 ∧ m = P.1 - i ∧ F1.le F3 ∧ Sep lo F3 Q1 h5 ∧ Kn.byte.Row F3 a6 ((f.ops.take i).foldl doF f.kept), ⟨P.1, 0, _, rfl, by omega, rfl, fg2, s2, b2⟩, ?_⟩
    rintro m5 h5 a6 ha6 _ ⟨i, F3, rfl, hi, rfl, fl3, s3, b3⟩
    have hlen3 : ((f.ops.take i).foldl doF f.kept).length ≤ 4194304 := runs_len (runs_take i ok.2) ok.1
    have ro3 := ro.mono fl3
    refine onB.dec (fun e => ?_) fun e => ?_
    · obtain ⟨o, ho⟩ := get_lt (l := f.ops) (k := i) (by omega)
      obtain ⟨bb, oo, c, g1, g2, r', rfl, rb⟩ := s3.idx ro3 (sz := 3) rfl ho
      obtain ⟨w1, w2⟩ := runs_at ok.2 ho
      refine onO.mk g1 (onO.mk g2 (onL.chg rb.sc ?_))
      refine c43 (o := o) (b3.mono s3.fle) (rb.mono s3.fle) w1 w2 hlen3 fun a9 h6 o6 => onRet.r o6.sc (onO.mk (inc64 (by omega)) ⟨_, by show P.1 - (i + 1) < P.1 - i; omega, i + 1, _, rfl, by omega, rfl, Hp.le_trans fl3 (s3.fgrow o6.le), s3.frz o6.le o6.lo, ?_⟩)
      rw [take_succ_fold ho]; exact o6.frozen byte_flat
    have hiP : i = P.1 := by omega
    subst hiP
    -- the result, one more file behind
    have done : ∀ {F5 : Hp} {h6 : Hp} {x : List Nat} {bx : AV} {K' : Nat}, F1.le F5 → Sep lo F5 Q1 h6 → Kn.byte.Row F5 bx x → K' ≤ 2 * (j + 1) → crashF f (crashS (D.f.take j) ps) = (x, ps.drop K') →
        wpE (Eff.app a0 1 (Src.lit [bx]) 1) (fun x0 h7 => onO x0 fun a16 => onO (intO BinOp.add IntKind.i64 (j : Int) 1) fun n9 => ∃ p15, ltN p15 (3 - j) ∧ ∃ (j : Nat) (K : Nat) (F1 : Hp) (Q1 : Nat → Hp), n9 = j ∧ j ≤ 3 ∧ p15 = 3 - j ∧ ((K' : Nat) : Int) = K ∧ K ≤ 2 * j ∧ F.le F1 ∧ Sep lo F1 Q1 h7 ∧ (∀ i, i ≠ C → Q1 i = updQ (updQ Q B (Hp.one p (rfC a { D with off := true }) lo)) C (Hp.none lo) i) ∧ crashS (D.f.take j) ps = ps.drop K ∧ RowP kBs F1 lo (Q1 C) a16 (crashL (D.f.take j) ps)) h6 := by
      intro F5 h6 x bx K' fl5 s5 b5 hk hx
      have cs := crash_snoc (f := f) (l := D.f.take j) (ps := ps)
      rw [← take_succ' hf, hx] at cs
      have hxl : x.length ≤ 4194304 := by have := crashF_len ok (ps := crashS (D.f.take j) ps); rw [hx] at this; exact this
      refine s5.app1 (rp.mono fl5) (sz := 1) rfl (x := x) (c := [bx]) ⟨bx, rfl, b5, by omega⟩ (by rw [crashL_len]; simp; omega) fun a' h7 q7 s7 r7 => onO.mk rfl (onO.mk (inc64 (by omega)) ⟨_, by show 3 - (j + 1) < 3 - j; omega, j + 1, K', F5, _, rfl, by omega, rfl, rfl, hk, Hp.le_trans fl fl5, s7, fun i hi => ?_, cs.2, ?_⟩)
      · rw [updQ_ne hi]; exact u1 i hi
      · rw [updQ_same, cs.1]; exact r7
    refine ⟨fun c h' => c = (match f.ops[P.1]? with | some o => !o.cut | none => false) ∧ h' = h5, onO.mk (s3.rows ro3).len (onB.dec (fun e2 => ?_) fun e2 => ?_), ?_⟩
    · obtain ⟨o, ho⟩ := get_lt (l := f.ops) (k := P.1) (by omega)
      obtain ⟨bb, oo, c, g1, g2, r', rfl, rb⟩ := s3.idx ro3 (sz := 3) rfl ho
      refine onO.mk g1 (onO.mk (rdH_sub g2 (o' := 1) (n' := 1) rfl) (onL.i1 ⟨?_, rfl⟩))
      rw [ho]
      show decide ((if o.cut = true then (o.pos : Int) else -1) < 0) = !o.cut
      cases o.cut with
      | true => rw [if_pos rfl]; exact decide_eq_false (by omega)
      | false => rfl
    · rw [List.getElem?_eq_none (by omega)]; exact ⟨rfl, rfl⟩
    rintro h7 _ ⟨rfl, rfl⟩
    cases ho : f.ops[P.1]? with
    | none =>
      refine onB.neg rfl fun _ => done fl3 s3 b3 (by omega) ?_
      rw [hcrash]; unfold tornF; rw [ho]
    | some o =>
      cases hc : o.cut with
      | true =>
        refine onB.neg (by show (!o.cut) = false; rw [hc]; rfl) fun _ => done fl3 s3 b3 (by omega) ?_
        rw [hcrash]; unfold tornF; rw [ho]; simp only [hc, if_true]
      | false =>
        refine onB.pos (by show (!o.cut) = true; rw [hc]; rfl) ?_
        obtain ⟨bb, oo, c, g1, g2, r', rfl, rb⟩ := s3.idx ro3 (sz := 3) rfl ho
        obtain ⟨w1, w2⟩ := runs_at ok.2 ho
        have hw := w2
        rw [doF_len hc w1] at hw
        obtain ⟨mp1, mp2, mp3⟩ := nextP_drop (ps := ps) (K := K + 1) (n := o.b.length + 1) (by omega)
        generalize hM : nextP (ps.drop (K + 1)) (o.b.length + 1) = M at *
        have hMlt : M.1 < o.b.length + 1 := by rw [← hM]; exact nextP_lt (by omega)
        have rowh : Kn.int.Row h7 b ps := row.mono (Hp.le_trans (Hp.le_trans fl fl3) s3.fle)
        refine onO.mk rowh.len ⟨fun n h' => n = (M.1 : Int) ∧ h' = h7, onB.dec (fun e => ?_) (fun e => ?_), ?_⟩
        · obtain ⟨x, hx⟩ := get_lt (l := ps) (k := K + 1) (by omega)
          refine int0 rowh hx (onO.mk g1 (onO.mk (rdH_sub g2 (o' := 2) (n' := 1) rfl) (onL.r1 rb.sc (onO.mk (rb.mono s3.fle).len (onO.mk (a := ((o.b.length + 1 : Nat) : Int)) (inc64 (by omega)) (c44 (by omega) (by omega) (onRet.i ⟨(mp2 x hx).symm, rfl⟩)))))))
        · exact ⟨by rw [mp3 (by omega)]; rfl, rfl⟩
        rintro h8 _ ⟨rfl, rfl⟩
        obtain ⟨a13, g3, rb3⟩ := rb.sl rfl (sz := 1) (i := 0) (j := M.1) (lo := none) (hi := some ((M.1 : Nat) : Int)) (by omega) (by omega) rfl rfl
        have rb3 : Kn.byte.Row F3 a13 (o.b.take M.1) := by simpa using rb3
        have hl2 : (doF ((f.ops.take P.1).foldl doF f.kept) ⟨false, o.pos, o.b.take M.1⟩).length ≤ 4194304 := by
          rw [doF_len (o := ⟨false, o.pos, o.b.take M.1⟩) rfl w1]; simp only [List.length_take]; omega
        have g2' : rdH h8 bb oo 3 = some [.i .i64 (o.pos : Int), .i .i64 (-1), r'] := by rw [g2, hc]; rfl
        refine onO.mk (inc64 (by omega)) (onO.mk g1 (onO.mk (rdH_sub g2' (o' := 0) (n' := 1) rfl) (onL.i1 (onO.mk g1 (onO.mk (rdH_sub g2' (o' := 2) (n' := 1) rfl) (onL.r1 rb.sc (onO.mk g3 ?_)))))))
        refine c43 (o := ⟨false, o.pos, o.b.take M.1⟩) (b3.mono s3.fle) (rb3.mono s3.fle) w1 hl2 hlen3 fun a15 h9 o9 => onRet.r o9.sc fun _ => ?_
        refine done (K' := K + 1 + 1) (Hp.le_trans fl3 (s3.fgrow o9.le)) (s3.frz o9.le o9.lo) (o9.frozen byte_flat) (by omega) ?_
        rw [hcrash]; unfold tornF; rw [ho]
        simp only [hc, Bool.false_eq_true, if_false, hM, mp1]
  · have hj3 : j = 3 := by omega
    subst hj3
    rw [show D.f.take 3 = D.f from List.take_of_length_le (by rw [d.len]; exact Nat.le_refl _)] at rp
    exact k a0 F1 Q1 h1 fl s1 d1 rp fun i h1 h2 => by rw [u1 i h2, updQ_ne h2, updQ_ne h1]
/-! ### a new one -/
structure NewR (lo B : Nat) (F0 F : Hp) (Q : Nat → Hp) (l : List (List Nat)) (j : Nat) (A : Nat → AV) (h : Hp) : Prop where
  fle : F0.le F
  s : Sep lo F Q h
  one : ∀ m, m < j → Kn.byte.Row F (A (3 * m)) (l.getD m []) ∧ Kn.byte.Row F (A (3 * m + 1)) (l.getD m []) ∧ A (3 * m + 2) = .ns
  two : ∀ m, j ≤ m → m < 3 → A (3 * m) = .ns ∧ A (3 * m + 1) = .ns ∧ A (3 * m + 2) = .ns
theorem NewR.step {j : Nat} {A : Nat → AV} {F0 h1 h2 : Hp} {r1 r2 : AV} {x : List Nat} (n : NewR lo B F0 F Q l j A h) (hj : j < 3) (hx : l[j]? = some x) (o1 : Kn.byte.Own h h1 r1 x) (o2 : Kn.byte.Own h1 h2 r2 x) :
    NewR lo B F0 (moreH h1 h2 (moreH h h1 F)) Q l (j + 1) (updA (updA (updA A (3 * j) r1) (3 * j + 1) r2) (3 * j + 2) .ns) h2 := by
  have f1 := n.s.fgrow o1.le
  have s1 := n.s.frz o1.le o1.lo
  have f2 := s1.fgrow o2.le
  have hg : l.getD j [] = x := by rw [List.getD_eq_getElem?_getD, hx]; rfl
  refine ⟨Hp.le_trans n.fle (Hp.le_trans f1 f2), s1.frz o2.le o2.lo, fun m hm => ?_, fun m h1 h2 => ?_⟩
  · by_cases e : m = j
    · subst e
      rw [updA_ne (by omega), updA_ne (by omega), updA_same, updA_ne (by omega), updA_same, updA_same, hg]
      exact ⟨(o1.frozen byte_flat).mono f2, o2.frozen byte_flat, rfl⟩
    · rw [updA_ne (by omega), updA_ne (by omega), updA_ne (by omega), updA_ne (by omega), updA_ne (by omega), updA_ne (by omega), updA_ne (by omega), updA_ne (by omega), updA_ne (by omega)]
      obtain ⟨w1, w2, w3⟩ := n.one m (by omega)
      exact ⟨w1.mono (Hp.le_trans f1 f2), w2.mono (Hp.le_trans f1 f2), w3⟩
  · rw [updA_ne (by omega), updA_ne (by omega), updA_ne (by omega), updA_ne (by omega), updA_ne (by omega), updA_ne (by omega), updA_ne (by omega), updA_ne (by omega), updA_ne (by omega)]
    exact n.two m (by omega) h2
theorem NewR.done {j : Nat} {A : Nat → AV} {F0 : Hp} (n : NewR lo B F0 F Q l j A h) (hl : ∀ x ∈ l, x.length ≤ 4194304) (hj : ∀ m, j ≤ m → m < 3 → l.getD m [] = []) {p : Nat} (hp : h.g p = none) (hlo : h.lo ≤ p) :
    ∃ Q2, Sep lo F Q2 (h.put p (rfC A (dkOf l))) ∧ RfA lo F Q2 B p A (dkOf l) ∧ Upd B 4 Q Q2 := by
  have row : ∀ m, m < 3 → Kn.byte.Row F (A (3 * m)) (l.getD m []) ∧ Kn.byte.Row F (A (3 * m + 1)) (l.getD m []) ∧ A (3 * m + 2) = .ns := fun m hm => by
    by_cases e : m < j
    · exact n.one m e
    · obtain ⟨e1, e2, e3⟩ := n.two m (by omega) hm
      rw [e1, e2, e3, hj m (by omega) hm]
      exact ⟨ns_row, ns_row, rfl⟩
  have hlen : ∀ m, (l.getD m []).length ≤ 4194304 := fun m => by
    rw [List.getD_eq_getElem?_getD]
    cases hm : l[m]? with
    | none => simp
    | some x => exact hl x (List.mem_of_getElem? hm)
  have s1 := ((n.s.clear fun i => B ≤ i ∧ i < B + 4).alloc B hp (rfC A (dkOf l)))
  refine ⟨_, s1, ⟨updQ_same, by rw [← n.s.hlo]; exact hlo, rfl, fun m f hf => ?_, fun m f hf => ?_, fun m f hf => ?_, fun m f hf => ?_, fun e _ => by cases e⟩, fun i hi => ?_⟩
  · obtain ⟨h1, rfl⟩ := dkOf_get hf
    exact ⟨hlen m, trivial⟩
  · obtain ⟨h1, rfl⟩ := dkOf_get hf
    exact (row m h1).1
  · obtain ⟨h1, rfl⟩ := dkOf_get hf
    exact (row m h1).2.1
  · obtain ⟨h1, rfl⟩ := dkOf_get hf
    rw [(row m h1).2.2, updQ_ne (by omega), if_pos (by omega)]; exact RowP.nil
  · rw [updQ_ne (by omega), if_neg (by omega)]
theorem newOk_len (e : newOk l = true) : (l.length = 0 ∨ l.length = 3) ∧ ∀ x ∈ l, x.length ≤ 4194304 := by
  unfold newOk at e
  rw [Bool.and_eq_true, Bool.or_eq_true, List.all_eq_true] at e
  exact ⟨e.1.imp of_decide_eq_true of_decide_eq_true, fun x hx => of_decide_eq_true (e.2 x hx)⟩
theorem c16 (s : Sep lo F Q h) (ra : kBs.Row h b l) (ok : newOk l = true)
    (k : ∀ p a F' Q' h', F.le F' → Sep lo F' Q' h' → RfA lo F' Q' B p a (dkOf l) → Upd B 4 Q Q' → Post (.p p 0) h') : wpC Try.prog 16 [b] Post h := by
  refine call_sound (args := [.vv b]) (cuts := []) ⟨ra.sc, trivial⟩ ?_
  rw [vc16]
  intro p0
  obtain ⟨hl, hx⟩ := newOk_len ok
  refine ⟨fun m n0 x1 x2 x3 x4 x5 x6 x7 x8 x9 lc0 n1 lc1 h' => ∃ (j : Nat) (A : Nat → AV) (F1 : Hp), n0 = j ∧ j ≤ l.length ∧ m = l.length - j ∧ x1 = A 0 ∧ x2 = A 1 ∧ x3 = A 2 ∧ x4 = A 3 ∧ x5 = A 4 ∧ x6 = A 5 ∧ x7 = A 6 ∧ x8 = A 7 ∧ x9 = A 8 ∧ lc0 = false ∧ n1 = 0 ∧ lc1 = false ∧ h.le h' ∧ NewR lo B F F1 Q l j A h',
    ⟨_, 0, fun _ => .ns, F, rfl, by omega, rfl, rfl, rfl, rfl, rfl, rfl, rfl, rfl, rfl, rfl, rfl, rfl, rfl, Hp.le_refl _, Hp.le_refl _, s, fun m hm => absurd hm (by omega), fun m _ _ => ⟨rfl, rfl, rfl⟩⟩, ?_⟩
  rintro m h0 _ a0 _ a1 _ a2 _ a3 _ a4 _ a5 _ a6 _ a7 _ a8 _ lc0 n1 lc1 ⟨j, A, F1, rfl, hj, rfl, rfl, rfl, rfl, rfl, rfl, rfl, rfl, rfl, rfl, rfl, rfl, rfl, hle, ni⟩
  have ra0 := ra.mono hle
  refine onO.mk ra0.len (onB.dec (fun e => ?_) fun e => fun hp hlo => ?_)
  · have hj3 : j < 3 := by omega
    obtain ⟨x, hxj⟩ := get_lt (l := l) (k := j) (by omega)
    have hxl := hx x (List.mem_of_getElem? hxj)
    obtain ⟨bb, oo, cc, e1, e2, r, rfl, e3, e4⟩ := ra0.idx (i := (j : Int)) (x := x) (Int.natCast_nonneg j) (by simpa using hxj)
    refine onO.mk e1 (onO.mk e2 (onL.r1 e3.sc (c31 e3 (by omega) fun r1 h1 o1 => onRet.r o1.sc (onO.mk e1 (onO.mk (rdH_le o1.le e2) (onL.r1 e3.sc ⟨onO.mk e2 (rdH_le o1.le e2), ?_⟩))))))
    refine c31 (e3.mono o1.le) (by omega) fun r2 h2 o2 => onRet.r o2.sc (onO.mk (natLt_nat hj3) ?_)
    have ni2 := ni.step hj3 hxj o1 o2
    have fin : ∀ (A' : Nat → AV), A' = updA (updA (updA A (3 * j) r1) (3 * j + 1) r2) (3 * j + 2) .ns → onO (intO BinOp.add IntKind.i64 (j : Int) 1) fun n3 => ∃ p9, ltN p9 (l.length - j) ∧ ∃ (j : Nat) (B' : Nat → AV) (F1 : Hp), n3 = j ∧ j ≤ l.length ∧ p9 = l.length - j ∧ A' 0 = B' 0 ∧ A' 1 = B' 1 ∧ A' 2 = B' 2 ∧ A' 3 = B' 3 ∧ A' 4 = B' 4 ∧ A' 5 = B' 5 ∧ A' 6 = B' 6 ∧ A' 7 = B' 7 ∧ A' 8 = B' 8 ∧ false = false ∧ (0 : Int) = 0 ∧ false = false ∧ h.le h2 ∧ NewR lo B F F1 Q l j B' h2 := fun A' e =>
      onO.mk (inc64 (by omega)) ⟨_, by show l.length - (j + 1) < l.length - j; omega, j + 1, A', moreH h1 h2 (moreH h0 h1 F1), rfl, by omega, rfl, rfl, rfl, rfl, rfl, rfl, rfl, rfl, rfl, rfl, rfl, rfl, rfl, Hp.le_trans hle (Hp.le_trans o1.le o2.le), by rw [e]; exact ni2⟩
    refine ⟨⟨⟨trivial, fun e0 => ?_⟩, fun e0 => ?_⟩, fun e0 => ?_⟩
    · subst e0; exact fin _ rfl
    · subst e0; exact fin _ rfl
    · subst e0; exact fin _ rfl
  · obtain ⟨Q2, s2, d2, u2⟩ := ni.done hx (fun m h1 h2 => by rw [List.getD_eq_getElem?_getD, List.getElem?_eq_none (by omega)]; rfl) hp hlo
    exact k _ A F1 Q2 _ ni.fle s2 d2 u2
end
theorem wpE.m {b : Nat} {v : AV} {Post : Option AV → Hp → Prop} {h : Hp} {c : List AV} (hb : h.g b = some c) (hlo : h.lo ≤ b) (k : Post (some v) h) : wpE (.m b v) Post h := fun H F =>
  ⟨some v, H, h, by
    show (cond (Nat.ble H.low b) ((H.get b).map fun _ => (some v, H)) none) = _
    rw [F.lo, Nat.ble_eq_true_of_le hlo, (F.get b c hb).1]; rfl, ⟨F, Nat.le_refl _, fun _ _ _ => rfl, fun _ e => .inl e, rfl⟩, k⟩
section
variable {lo B p : Nat} {F F' g h h' : Hp} {Q Q' : Nat → Hp} {a a' : Nat → AV} {D D' : Dk} {Post : AV → Hp → Prop} {b r : AV} {l : List (List Nat)} {f f' : List Nat}
/-- all of it frozen -/
theorem Sep.start (h : Hp) : Sep h.lo h (fun _ => Hp.none h.lo) h := ⟨rfl, Hp.le_refl _, rfl, fun _ => none_le _ _, fun _ => rfl, fun _ => none_disj, fun _ _ _ => none_disj⟩
theorem c7 {x : Int} (k : Post (.i .i64 x) h) : wpC Try.prog 7 [.i .i64 x] Post h := by
  refine call_sound (args := [.ii .i64 x]) (cuts := []) ⟨trivial, trivial⟩ ?_
  rw [vc7]; exact k
theorem ns_rows : kBs.Row h .ns [] := ⟨[], ⟨fun _ h => (by cases h), rfl⟩, .nil⟩
theorem ns_ints : Kn.int.Row h .ns [] := ⟨[], ⟨fun _ h => (by cases h), rfl⟩, .nil⟩
theorem few0 {N : Nat} : Few (dkOf l) N := by
  unfold Few dkOf
  intro f hf
  simp at hf
  rcases hf with rfl | rfl | rfl <;> simp
theorem few_put {N : Nat} {n : Nat} {f : DFile} (w : Few D N) (hf : f.ops.length ≤ N) : Few { D with f := D.f.set n f } N := fun g hg => by
  rcases List.mem_or_eq_of_mem_set hg with h | h
  · exact w g h
  · rw [h]; exact hf
theorem fileD_few {N : Nat} {n : Int} (w : Few D N) : (fileD D n).ops.length ≤ N := by
  unfold fileD
  cases e : D.f[n.toNat]? with
  | none => simp
  | some f => exact w f (List.mem_of_getElem? e)
theorem Few.mono {N M : Nat} (w : Few D N) (h : N ≤ M) : Few D M := fun f hf => Nat.le_trans (w f hf) h
theorem putD_few {N : Nat} {n : Int} {o : DOp} (w : Few D N) : Few (putD D n o) (N + 1) :=
  few_put (w.mono (by omega)) (by have := fileD_few (n := n) w; simp; omega)
theorem writeR_few {N : Nat} {n x : Int} {y : List Nat} (w : Few D N) : Few (writeR D n x y).2 (N + 1) := by
  unfold writeR
  split
  · split
    · exact (callD_few w).mono (by omega)
    · exact putD_few (callD_few w)
  · exact (callD_few w).mono (by omega)
theorem cutR_few {N : Nat} {n x : Int} (w : Few D N) : Few (cutR D n x).2 (N + 1) := by
  unfold cutR
  split
  · split
    · exact (callD_few w).mono (by omega)
    · exact putD_few (callD_few w)
  · exact (callD_few w).mono (by omega)
theorem syncR_few {N : Nat} {n : Int} (w : Few D N) : Few (syncR D n).2 N := by
  unfold syncR
  split
  · have := few_put (n := n.toNat) (f := ⟨(fileD D n).seen, []⟩) (callD_few w) (by simp)
    rw [callD_f] at this; exact this
  · exact callD_few w
/-- synced it is kept -/
theorem c13 (k : ∀ h', Post (.b true) h') : wpC Try.prog 13 [] Post h := by
  refine call_sound (args := []) (cuts := []) trivial ?_
  rw [vc13]
  have s := Sep.start h
  refine c6 (B := 0) s Vw.frz ns_rows (by simp) (fun e => by cases e) fun _ p a Q1 h1 s1 d1 u1 => onTup.ri rfl (c7 (onRet.i (onB.neg rfl (onO.mk (a := false) rfl (onB.neg rfl fun p0 hp0 hlo => ?_)))))
  have own : Kn.byte.Own h1 (h1.put p0 [.i .u8 97, .i .u8 98]) (.sl p0 0 2 2 true 1) [97, 98] :=
    ⟨h1, [[.i .u8 97], [.i .u8 98]], Hp.le_refl _, rfl, Fresh.put (Hp.le_refl _) rfl hp0 hlo (css := [[.i .u8 97], [.i .u8 98]]) (sz := 1) (len := 2) true (fun c hc => by simp at hc; rcases hc with rfl | rfl <;> rfl) rfl (cs := [.i .u8 97, .i .u8 98]) rfl, .cons ⟨rfl, by omega⟩ (.cons ⟨rfl, by omega⟩ .nil)⟩
  refine wpE.m (Hp.put_same _ _ _) hlo ?_
  have s2 := s1.frz own.le own.lo
  have d2 := d1.fmono (s1.fgrow own.le)
  refine c9 (n := 0) (at' := 0) s2 d2 Vw.frz (own.frozen byte_flat) few0 (by omega) (by omega) fun F3 a3 Q3 h3 f3 s3 d3 u3 => onRet.i ?_
  refine c10 (n := 0) s3 d3 ((writeR_few (N := 0) few0).mono (by omega)) fun a4 Q4 h4 s4 d4 u4 => onRet.i ?_
  refine c11 (C := 20) (ps := []) s4 d4 (by omega) ns_ints ((syncR_few (writeR_few (N := 0) few0)).mono (by omega)) fun r Q5 h5 s5 d5 cl u5 => onRet.r cl.sc ?_
  have hr : crashL (syncR (writeR (dkOf []) 0 0 [97, 98]).2 0).2.f [] = [[97, 98], [], []] := by decide
  rw [hr] at cl
  have e1 : (writeR (dkOf []) 0 0 [97, 98]).1 = 0 := by decide
  have e2 : (syncR (writeR (dkOf []) 0 0 [97, 98]).2 0).1 = 0 := by decide
  rw [e1, e2]
  have view := cl.view (s5.le _)
  refine c7 (onRet.i (onB.pos rfl (c7 (onRet.i (onB.pos rfl (onO.mk view.len (onB.pos rfl ?_)))))))
  refine cells0 (j := 0) view rfl fun r1 w1 _ => ?_
  obtain ⟨x1, x2, x3, x4⟩ := strAt_row w1
  refine onO.mk x4 ?_
  exact k h5
end
section
variable {h : Hp} {Post : AV → Hp → Prop} {b : AV} {l : List (List Nat)}
/-! ### heavy -/
theorem c33 (ra : kBs.Row h b l) (hl : l.length ≤ 140737488351232) (k : ∀ n : Int, 0 ≤ n → n ≤ 281474978000000 → (n ≤ 8000 → l.length ≤ 8000 ∧ ∀ x ∈ l, x.length ≤ 8000) → Post (.i .i64 n) h) : wpC Try.prog 33 [b] Post h := by
  refine call_sound (args := [.vv b]) (cuts := []) ⟨ra.sc, trivial⟩ ?_
  rw [vc33]
  refine onO.mk ra.len ⟨fun m n0 n1 h' => ∃ j : Nat, n1 = j ∧ j ≤ l.length ∧ m = l.length - j ∧ h' = h ∧ (l.length : Int) ≤ n0 ∧ n0 ≤ 281474978000000 ∧ ∀ x ∈ l.take j, (x.length : Int) ≤ n0, ⟨_, 0, rfl, by omega, rfl, rfl, by omega, by omega, fun x hx => by simp at hx⟩, ?_⟩
  rintro m h0 n0 _ ⟨j, rfl, hj, rfl, rfl, hn, hn2, hx0⟩
  refine onO.mk ra.len (onB.dec (fun e => onB.dec (fun e2 => ?_) fun e2 => ?_) fun e => ?_)
  · obtain ⟨x, hx⟩ := get_lt (l := l) (k := j) (by omega)
    refine cells0 ra hx fun r w1 w2 => onO.mk w1.len (onO.mk (add64 (by omega) (by omega)) (onO.mk (inc64 (by omega)) ⟨_, by show l.length - (j + 1) < l.length - j; omega, j + 1, rfl, by omega, rfl, rfl, by omega, by omega, fun y hy => ?_⟩))
    rw [take_succ' hx] at hy
    rcases List.mem_append.1 hy with hy | hy
    · have := hx0 y hy; omega
    · simp at hy; subst hy; omega
  · exact k n0 (by omega) hn2 fun h => absurd h (by omega)
  · refine k n0 (by omega) hn2 fun h => ⟨by omega, fun x hx => ?_⟩
    have : l.take j = l := List.take_of_length_le (by omega)
    have := hx0 x (by rw [this]; exact hx)
    omega
theorem inc64b {k : Nat} (h : k < 4611686018427387904) : intO .add .i64 (k : Int) 1 = some ((k + 1 : Nat) : Int) := add64 (by omega) (by omega)
theorem act_cells {acts : List D.DiskDo} {x : D.DiskDo} (r : D.kDiskDo.Row h b acts) {j : Nat} (hx : acts[j]? = some x) :
    ∃ bb oo r1 r2, idxV b (j : Int) 6 = some (bb, oo) ∧ rdH h bb oo 6 = some [.i .i64 x.act, .i .i64 x.n, .i .i64 x.pos, .i .i64 x.k, r1, r2] ∧ Kn.byte.Row h r1 x.b ∧ x.b.length ≤ 140737488351232 ∧ Kn.int.Row h r2 x.picks ∧ x.picks.length ≤ 140737488351232 ∧ In64 x.n ∧ In64 x.pos ∧ In64 x.k := by
  obtain ⟨bb, oo, cc, e1, e2, e3⟩ := r.idx (i := (j : Int)) (x := x) (Int.natCast_nonneg j) (by simpa using hx)
  obtain ⟨a0, a1, rfl, f0, f1, f2, f3, ⟨f4, f5⟩, f6, f7⟩ := D.kDiskDo_open e3
  exact ⟨bb, oo, a0, a1, e1, e2, f4, by omega, f6, by omega, f1, f2, f3⟩
theorem c5 {acts : List D.DiskDo} {c : AV} (ra : kBs.Row h b l) (hl : l.length ≤ 140737488351232) (rc : D.kDiskDo.Row h c acts) (hc : acts.length ≤ 140737488351232)
    (k1 : Post (.b true) h) (k2 : (∀ x ∈ l, x.length ≤ 8000) → l.length ≤ 8000 → (∀ x ∈ acts, x.b.length ≤ 8000 ∧ x.picks.length ≤ 8000) → acts.length ≤ 200 → Post (.b false) h) : wpC Try.prog 5 [.agg [b, c]] Post h := by
  refine call_sound (args := [.ag [.vv b, .vv c]]) (cuts := []) ⟨⟨ra.sc, rc.sc, trivial⟩, trivial⟩ ?_
  rw [vc5]
  intro _
  refine c33 ra hl fun n0 h0 h1 h2 => onRet.i ?_
  refine ⟨fun m n1 n2 h' => ∃ j : Nat, n2 = j ∧ j ≤ acts.length ∧ m = acts.length - j ∧ h' = h ∧ n0 ≤ n1 ∧ n1 ≤ 562949956000000 ∧ ∀ x ∈ acts.take j, (x.b.length : Int) ≤ n1 ∧ (x.picks.length : Int) ≤ n1, ⟨_, 0, rfl, by omega, rfl, rfl, by omega, by omega, fun x hx => by simp at hx⟩, ?_⟩
  rintro m hh n1 _ ⟨j, rfl, hj, rfl, rfl, hn, hn2, hx0⟩
  have fin : ¬ ((j : Int) < (acts.length : Nat)) ∨ ¬ n1 < 1048576 → onB (decide (8000 < n1)) (Post (AV.b true) hh) (onO (lenV c) fun p7 => Post (AV.b (decide ((200 : Int) < ↑p7))) hh) := fun e => by
    refine onB.dec (fun _ => k1) fun e2 => onO.mk rc.len ?_
    by_cases e3 : (200 : Int) < (acts.length : Nat)
    · rw [decide_eq_true e3]; exact k1
    · rw [decide_eq_false e3]
      obtain ⟨w1, w2⟩ := h2 (by omega)
      refine k2 w2 w1 (fun x hx => ?_) (by omega)
      have : acts.take j = acts := List.take_of_length_le (by omega)
      have := hx0 x (by rw [this]; exact hx)
      omega
  refine onO.mk rc.len (onB.dec (fun e => onB.dec (fun e2 => ?_) fun e2 => fin (.inr e2)) fun e => fin (.inl e))
  obtain ⟨x, hx⟩ := get_lt (l := acts) (k := j) (by omega)
  obtain ⟨bb, oo, r1, r2, e3, e4, w1, w2, w3, w4, _⟩ := act_cells rc hx
  refine onO.mk e3 (onO.mk (rdH_sub e4 (o' := 4) (n' := 1) rfl) (onL.r1 w1.sc (onO.mk w1.len (onO.mk (add64 (by omega) (by omega)) ?_))))
  refine onO.mk e3 (onO.mk (rdH_sub e4 (o' := 5) (n' := 1) rfl) (onL.r1 w3.sc (onO.mk w3.len (onO.mk (add64 (by omega) (by omega)) (onO.mk (inc64b (by omega)) ⟨_, by show acts.length - (j + 1) < acts.length - j; omega, j + 1, rfl, by omega, rfl, rfl, by omega, by omega, fun y hy => ?_⟩)))))
  rw [take_succ' hx] at hy
  rcases List.mem_append.1 hy with hy | hy
  · have := hx0 y hy; omega
  · simp at hy; subst hy; omega
end
/-- both disks, alike -/
structure TwoD (lo : Nat) (F0 F : Hp) (Q : Nat → Hp) (h : Hp) (x y : AV) (E : Dk) (N : Nat) : Prop where
  fle : F0.le F
  s : Sep lo F Q h
  d : ∃ p a, x = .p p 0 ∧ DkA lo F Q 0 p a E
  r : ∃ p a, y = .p p 0 ∧ RfA lo F Q 10 p a E
  few : Few E N
section
variable {lo : Nat} {F0 F h : Hp} {Q : Nat → Hp} {x y : AV} {E : Dk} {N : Nat} {Post : AV → Hp → Prop}
theorem newOk_crash {ps : List Int} (len : E.f.length = 3) (ok : ∀ (n : Nat) f, E.f[n]? = some f → f.ok) : newOk (crashL E.f ps) = true := by
  unfold newOk
  rw [crashL_len, len]
  show (true && _) = true
  rw [Bool.true_and, List.all_eq_true]
  have : ∀ (fs : List DFile) (ps : List Int), (∀ f ∈ fs, f.ok) → ∀ x ∈ crashL fs ps, x.length ≤ 4194304 := by
    intro fs
    induction fs with
    | nil => intro ps _ x hx; cases hx
    | cons f fs ih =>
      intro ps hf x hx
      rcases List.mem_cons.1 hx with rfl | hx
      · exact crashF_len (hf f (by simp))
      · exact ih _ (fun g hg => hf g (by simp [hg])) x hx
  intro x hx
  refine decide_eq_true (this E.f ps (fun f hf => ?_) x hx)
  obtain ⟨n, hn⟩ := List.getElem?_of_mem hf
  exact ok n f hn
theorem crash_lens {ps : List Int} (len : E.f.length = 3) (ok : ∀ (n : Nat) f, E.f[n]? = some f → f.ok) : ∀ x ∈ crashL E.f ps, x.length < 31000000 := fun x hx => by
  have := (newOk_len (newOk_crash (ps := ps) len ok)).2 x hx
  omega
theorem fileD_len {n : Int} (ok : ∀ (n : Nat) f, E.f[n]? = some f → f.ok) : (fileD E n).seen.length ≤ 4194304 := by
  unfold fileD
  cases e : E.f[n.toNat]? with
  | none => show ([] : List Nat).length ≤ _; simp
  | some f => exact (ok _ f e).seen
theorem readR_len {n i k : Int} (ok : ∀ (n : Nat) f, E.f[n]? = some f → f.ok) : (readR' E n i k).1.length ≤ 4194304 := by
  have := fileD_len (n := n) ok
  unfold readR'
  split
  · split
    · simp
    · split
      · simp
      · simp only [List.length_take, List.length_drop]; omega
  · simp
theorem onL.act {m n i k : Int} {r1 r2 : AV} (h1 : r1.sc = true) (h2 : r2.sc = true) {K : Int → Int → Int → Int → AV → AV → Prop} (q : K m n i k r1 r2) : onL [Kd.int .i64, Kd.int .i64, Kd.int .i64, Kd.int .i64, Kd.ref, Kd.ref] [.i .i64 m, .i .i64 n, .i .i64 i, .i .i64 k, r1, r2] K :=
  onRef.mk (K := fun x => onL [Kd.ref] [r2] (K m n i k x)) h1 (onRef.mk (K := K m n i k r1) h2 q)
theorem D.lawDiskExact {h : Hp} {X : D.DiskA} {c : List AV} (kx : D.kDiskA.K h X c) : wpC Try.prog 4 [.agg c] (fun v _ => v = .b true) h := by
  obtain ⟨a0, a1, rfl, ⟨rf, lf⟩, rl, ll⟩ := D.kDiskA_open kx
  have rf : kBs.Row h a0 X.f := rf
  refine call_sound (args := [.ag [.vv a0, .vv a1]]) (cuts := [9000055, 21000070, 42000003, 42000005, 42000008, 42000009, 54000122, 74000169, 112000021]) ⟨⟨rf.sc, rl.sc, trivial⟩, trivial⟩ ?_
  rw [vc4]
  intro _
  refine c5 rf (by omega) rl (by omega) (onRet.b (onB.pos rfl rfl)) fun w1 w2 w3 w4 => onRet.b (onB.neg rfl ?_)
  have s0 := Sep.start h
  refine c14 (C := 30) s0 (V := h) (fun _ h' s _ => s.fle) rf (by omega) (fun x hx => by have := w1 x hx; omega) fun r1 Q1 h1 s1 cl1 u1 => onRet.r cl1.sc ?_
  refine c6 (B := 0) s1 (V := Q1 30) (Vw.part (by omega)) (cl1.view (Hp.le_refl _)) (by omega) (fun ok Q2 h2 s2 u2 => onTup.ri rfl ⟨fun c h' => c = false, ?_, ?_⟩) fun ok p a Q2 h2 s2 d2 u2 => onTup.ri rfl ⟨fun c h' => c = false ∧ h' = h2, ?_, ?_⟩
  · refine c15 (rf.mono s2.fle) (by omega) (onRet.b (c7 (onRet.i ?_)))
    rw [ok]
    exact onB.neg rfl (c7 (onRet.i (onB.pos rfl (c7 (onRet.i (onB.neg rfl (onO.mk rfl (c7 (onRet.i rfl)))))))))
  · rintro h9 _ rfl
    exact onB.neg rfl (onO.mk rfl (onB.pos rfl (c13 fun h' => onRet.b rfl)))
  · refine c15 (rf.mono s2.fle) (by omega) (onRet.b (c7 (onRet.i ?_)))
    rw [ok]
    exact onB.neg rfl (c7 (onRet.i (onB.neg rfl (onO.mk rfl (c7 (onRet.i ⟨rfl, rfl⟩))))))
  rintro h9 _ ⟨rfl, rfl⟩
  refine onB.neg rfl (onO.mk rfl (onB.neg rfl ?_))
  refine c16 (B := 10) s2 (rf.mono s2.fle) ok fun p' a' F3 Q3 h3 f3 s3 r3 u3 => onRet.r rfl ?_
  refine ⟨fun m x y c n h' => ∃ (j : Nat) (F : Hp) (Q : Nat → Hp) (E : Dk), n = j ∧ j ≤ X.l.length ∧ m = X.l.length - j ∧ c = false ∧ j ≤ 40 ∧ TwoD h.lo h F Q h' x y E j,
    ⟨_, 0, F3, Q3, dkOf X.f, rfl, by omega, rfl, rfl, by omega, f3, s3, ⟨p, a, rfl, (d2.fmono f3).same fun j _ _ => u3 j (by omega)⟩, ⟨p', a', rfl, r3⟩, few0⟩, ?_⟩
  clear r3 u3 s3 f3 d2 s2
  rintro m h12 x hx y hy _ _ ⟨j, F, Q, E, rfl, hj, rfl, rfl, hj40, t⟩
  have s := t.s
  have rlF := rl.mono t.fle
  refine ⟨fun c h' => (c = true ↔ j < X.l.length ∧ j < 40) ∧ h' = h12, onO.mk (rlF.mono s.fle).len (onB.dec (fun e => ⟨by rw [decide_eq_true_iff]; omega, rfl⟩) fun e => ⟨by simp; omega, rfl⟩), ?_⟩
  rintro h13 lc8 ⟨hc, rfl⟩
  obtain ⟨p, A, rfl, d⟩ := t.d
  obtain ⟨p', A', rfl, r⟩ := t.r
  have few := t.few
  have fewb : Few E 31000000 := few.mono (by omega)
  refine onB.mk (fun e => ?_) fun e => ?_
  · obtain ⟨e1, e2⟩ := hc.1 e
    obtain ⟨z, hz⟩ := get_lt (l := X.l) (k := j) e1
    obtain ⟨bb, oo, b1, b2, e3, e4, wb, wb2, wp, wp2, hn, hpos, hk⟩ := act_cells rlF hz
    obtain ⟨wl1, wl2⟩ := w3 z (List.mem_of_getElem? hz)
    refine onO.mk e3 (onO.mk (rdH_le s.fle e4) (onL.act wb.sc wp.sc fun p4 => c8 (by omega) (by omega) fun n0 g1 g2 => onRet.i ?_))
    refine ⟨fun x y c n m h' => ∃ (F : Hp) (Q : Nat → Hp) (E : Dk), c = false ∧ n = m ∧ TwoD h.lo h F Q h' x y E (j + 1), ?_, ?_⟩
    · refine onB.dec (fun _ => ?_) fun _ => ⟨fun c h' => h' = h13, onB.mk (fun _ => rfl) (fun _ => rfl), ?_⟩
      · exact c12 s d (onTup.ii (c17 s r (onTup.ii (onB.neg (by simp) ⟨F, Q, E, rfl, rfl, t.fle, s, ⟨p, A, rfl, d⟩, ⟨p', A', rfl, r⟩, few.mono (by omega)⟩))))
      rintro h17 lc9 rfl
      refine onB.mk (fun _ => ?_) fun _ => onB.dec (fun _ => ?_) fun _ => ⟨fun c h' => h' = h17, onB.mk (fun _ => rfl) (fun _ => rfl), ?_⟩
      · refine c18 s d fun r1 h18 o1 => onTup.ri o1.sc ?_
        obtain ⟨q, s1, p1⟩ := s.fresh 20 byte_flat o1
        have d1 : DkA h.lo F (updQ Q 20 q) 0 p A E := d.same fun j _ _ => updQ_ne (by omega)
        have r1' : RfA h.lo F (updQ Q 20 q) 10 p' A' E := r.same fun j _ _ => updQ_ne (by omega)
        refine c19 s1 r1' fun r2 h19 o2 => onTup.ri o2.sc ?_
        have s2 := s1.frz o2.le o2.lo
        have f2 := s1.fgrow o2.le
        have p20 : PK Kn.byte h.lo (updQ Q 20 q 20) r1 (readR' E z.n z.pos z.k).1 := by rw [updQ_same]; exact p1
        have hl := readR_len (n := z.n) (i := z.pos) (k := z.k) d.ok
        refine c20 (s2.row p20) o2.row (by omega) (onRet.b (onB.neg (by simp) ?_))
        refine c109p (i := 20) s2 p20 (by omega) fun h21 s3 => onTup.z ⟨_, _, E, rfl, rfl, Hp.le_trans t.fle f2, s3, ⟨p, A, rfl, (d1.fmono f2).same fun j _ _ => updQ_ne (by omega)⟩, ⟨p', A', rfl, (r1'.fmono f2).same fun j _ _ => updQ_ne (by omega)⟩, few.mono (by omega)⟩
      · exact c22 s d fewb fun a1 Q1 h1 s1 d1 u1 => onRet.i (c23 s1 (r.same fun j _ _ => u1 j (by omega)) fewb fun F2 a2 Q2 h2 f2 s2 r2 u2 => onRet.i
          ⟨F2, Q2, _, rfl, rfl, Hp.le_trans t.fle f2, s2, ⟨p, a1, rfl, (d1.fmono f2).same fun j _ _ => u2 j (by omega)⟩, ⟨p', a2, rfl, r2⟩, cutR_few few⟩)
      rintro h24 lc11 rfl
      refine onB.mk (fun _ => ?_) fun _ => onB.dec (fun _ => ?_) fun _ => onB.dec (fun _ => ?_) fun _ => ?_
      · exact c10 s d fewb fun a1 Q1 h1 s1 d1 u1 => onRet.i (c24 s1 (r.same fun j _ _ => u1 j (by omega)) fewb fun F2 a2 Q2 h2 f2 s2 r2 u2 => onRet.i
          ⟨F2, Q2, _, rfl, rfl, Hp.le_trans t.fle f2, s2, ⟨p, a1, rfl, (d1.fmono f2).same fun j _ _ => u2 j (by omega)⟩, ⟨p', a2, rfl, r2⟩, (syncR_few few).mono (by omega)⟩)
      · exact c25 s d hn.2 fun Q1 h1 s1 d1 u1 => onTup.z (c26 s1 (r.same fun j _ _ => u1 j (by omega)) hn.2 fun Q2 h2 s2 r2 u2 => onTup.z
          ⟨F, Q2, offD E z.n, rfl, rfl, t.fle, s2, ⟨p, A, rfl, d1.same fun j _ _ => u2 j (by omega)⟩, ⟨p', A', rfl, r2⟩, few.mono (by omega)⟩)
      · refine c27 (wp.mono s.fle) (by omega) fun r1 h1 o1 => onRet.r o1.sc ?_
        have int_flat : Kn.int.Flat := fun _ _ _ _ k => k
        have s1 := s.frz o1.le o1.lo
        have f1 := s.fgrow o1.le
        refine c11 (C := 20) s1 (d.fmono f1) (by omega) (o1.frozen int_flat) fewb fun r3 Q3 h3 s3 d3 cl3 u3 => onRet.r cl3.sc ?_
        refine c28 (C := 23) s3 ((r.fmono f1).same fun j _ _ => u3 j (by omega) (by omega)) (by omega) (wp.mono f1) fewb fun r4 F4 Q4 h4 f4 s4 r4' rp4 u4 => onRet.r rp4.sc ?_
        have cl4 : CellsP h.lo (Q4 21) r3 (crashL E.f z.picks) := by rw [u4 21 (by omega) (by omega)]; exact cl3
        have okc := newOk_crash (E := E) (ps := z.picks) d.len d.ok
        have len3 : (crashL E.f z.picks).length = 3 := by rw [crashL_len, d.len]
        refine c29 (cl4.view (s4.le _)) (s4.rows rp4) (crash_lens d.len d.ok) (by omega) (onRet.b (onB.neg (by simp) ?_))
        refine c6 (B := 0) s4 (V := Q4 21) (Vw.part (by omega)) (cl4.view (Hp.le_refl _)) (by omega) (fun e => by rw [okc] at e; cases e) fun _ p5 a5 Q5 h5 s5 d5 u5 => onTup.ri rfl ?_
        refine c30 (i := 21) s5 (by rw [u5 21 (by omega)]; exact cl4) (by omega) fun h6 s6 => onTup.z ?_
        refine c16 (B := 10) s6 (s6.rows (i := 23) (d := kBs) (l := crashL E.f z.picks) (by rw [updQ_ne (by omega), u5 23 (by omega)]; exact rp4)) okc fun p7 a7 F7 Q7 h7 f7 s7 r7 u7 => onRet.r rfl (onO.mk rfl (onB.neg rfl
          ⟨F7, Q7, dkOf (crashL E.f z.picks), rfl, rfl, Hp.le_trans t.fle (Hp.le_trans f1 (Hp.le_trans f4 f7)), s7, ⟨p5, a5, rfl, (d5.fmono f7).same fun j h1 h2 => by rw [u7 j (by omega), updQ_ne (by omega)]⟩, ⟨p7, a7, rfl, r7⟩, few0⟩))
      · refine c31 (wb.mono s.fle) (by omega) fun r1 h1 o1 => onRet.r o1.sc ?_
        obtain ⟨q, s1, p1⟩ := s.fresh 20 byte_flat o1
        have d1 : DkA h.lo F (updQ Q 20 q) 0 p A E := d.same fun j _ _ => updQ_ne (by omega)
        have p20 : PK Kn.byte h.lo (updQ Q 20 q 20) r1 z.b := by rw [updQ_same]; exact p1
        refine c9 (V := updQ Q 20 q 20) s1 d1 (Vw.part (by omega)) (p20.row (Hp.le_refl _)) fewb hpos.1 hpos.2 fun F2 a2 Q2 h2 f2 s2 d2 u2 => onRet.i ?_
        refine c109p (i := 20) s2 (by rw [u2 20 (by omega)]; exact p20) (by omega) fun h3 s3 => onTup.z ?_
        refine c32 s3 ((r.fmono f2).same fun j h1 h2 => by rw [updQ_ne (by omega), u2 j (by omega), updQ_ne (by omega)]) (wb.mono f2) fewb hpos.1 hpos.2 fun F4 a4 Q4 h4 f4 s4 r4 u4 => onRet.i
          ⟨F4, Q4, _, rfl, rfl, Hp.le_trans t.fle (Hp.le_trans f2 f4), s4, ⟨p, a2, rfl, (d2.fmono f4).same fun j h1 h2 => by rw [u4 j (by omega), updQ_ne (by omega)]⟩, ⟨p', a4, rfl, r4⟩, writeR_few few⟩
    · rintro h40 x hx y hy _ n _ ⟨F', Q', E', rfl, rfl, t'⟩
      exact c7 (onRet.i (onB.neg (by simp) (onO.mk (inc64 (by omega)) ⟨_, by show X.l.length - (j + 1) < X.l.length - j; omega, j + 1, F', Q', E', rfl, by omega, rfl, rfl, by omega, t'⟩)))
  · refine onO.mk (rlF.mono s.fle).len ⟨fun b h' => h' = h13 ∧ ∃ ps, Kn.int.Row F b ps, onB.dec (fun e => ?_) (fun _ => ⟨rfl, [], ns_ints⟩), ?_⟩
    · obtain ⟨z, hz⟩ := get_lt (l := X.l) (k := 0) (by omega)
      obtain ⟨bb, oo, b1, b2, e3, e4, wb, wb2, wp, wp2, hn, hpos, hk⟩ := act_cells rlF hz
      exact onO.mk e3 (onO.mk (rdH_sub (rdH_le s.fle e4) (o' := 5) (n' := 1) rfl) (onL.r1 wp.sc ⟨rfl, _, wp⟩))
    rintro h42 b hb ⟨rfl, ps, row⟩
    refine c11 (C := 20) s d (by omega) row fewb fun r3 Q3 h3 s3 d3 cl3 u3 => onRet.r cl3.sc ?_
    refine c28 (C := 23) s3 (r.same fun j _ _ => u3 j (by omega) (by omega)) (by omega) row fewb fun r4 F4 Q4 h4 f4 s4 r4' rp4 u4 => onRet.r rp4.sc ?_
    have cl4 : CellsP h.lo (Q4 21) r3 (crashL E.f ps) := by rw [u4 21 (by omega) (by omega)]; exact cl3
    have len3 : (crashL E.f ps).length = 3 := by rw [crashL_len, d.len]
    exact c29 (cl4.view (s4.le _)) (s4.rows rp4) (crash_lens d.len d.ok) (by omega) (onRet.b (onB.pos (by simp) (c13 fun h' => onRet.b rfl)))
end
end Go.Proofs.YtnblmjmahcgdaaaAn
